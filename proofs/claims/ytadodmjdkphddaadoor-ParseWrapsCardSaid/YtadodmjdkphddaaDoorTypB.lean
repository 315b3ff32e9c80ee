/- The functions' typed texts. No condition. -/
import Derived.Test.YtadodmjdkphddaaDoorTypA

section
set_option linter.unusedSimpArgs false
set_option linter.unusedVariables false
namespace Go.Proofs.YtadodmjdkphddaaDoor.N2
open Go Go.Abs
set_option linter.unusedVariables false
set_option maxRecDepth 100000
noncomputable def Z2J  : Option (Bool) :=
 some (true)
theorem Z5n  : Sim (Z1A) (Z2J) (Zdg 0  []) := by
 unfold Z2J
 refine zf (ZgQ ..) ?_
 refine ze ?_
 exact zr ((bv true), []) ⟨_, rfl⟩
noncomputable def Z3c (b0 : ZC) (b1 : ZC) : Option (Bool) :=
 if ((b1.Groups == b0.Groups)) = true then
 (if ((!b1.Fold)) = true then
 ((Z2a b0.Root b1.Root).bind fun r1 =>
 some (r1))
 else
 (some (false)))
 else
 (some (false))
theorem Z7n (b0 : ZC) (b1 : ZC) (zH : Own) (zG : Own) (z67 : Own) (z5E : Own) : Sim (Z1A) (Z3c b0 b1) (Zej 0 (.ptr 0 0) (.ptr 1 0) [(Zv b0 zH zG), (Zv b1 z67 z5E)]) := by
 unfold Z3c
 refine zf (Zfr ..) ?_
 refine ze ?_
 refine zo (.ptr 1 7) ?_
 refine zo (iv b1.Groups) ?_
 refine zo (.ptr 0 7) ?_
 refine zo (iv b0.Groups) ?_
 refine zo (bv (b1.Groups == b0.Groups)) ?_
 refine za ((b1.Groups == b0.Groups)) ?_ ?_
 ·refine zo (.ptr 1 8) ?_
  refine zo (bv b1.Fold) ?_
  refine zo (bv (!b1.Fold)) ?_
  refine za ((!b1.Fold)) ?_ ?_
  ·refine zo (.ptr 0 0) ?_
   refine zo (.p (.agg (ZD b0.Root (shrO zH) (shrO zG)))) ?_
   refine zo (.ptr 1 0) ?_
   refine zo (.p (.agg (ZD b1.Root (shrO z67) (shrO z5E)))) ?_
   refine zi fun r1 hr1 => ?_
   obtain ⟨qr1, er1, exr1, rfl⟩ := Z6o (b0.Root) (b1.Root) .sh .sh .sh .sh r1 hr1
   refine zc [] (bv r1) [(Zv b0 zH zG), (Zv b1 z67 z5E)] er1 ?_
   exact zr ((bv r1), [(Zv b0 zH zG), (Zv b1 z67 z5E)]) ⟨_, rfl⟩
  ·exact zr ((bv false), [(Zv b0 zH zG), (Zv b1 z67 z5E)]) ⟨_, rfl⟩
 ·exact zr ((bv false), [(Zv b0 zH zG), (Zv b1 z67 z5E)]) ⟨_, rfl⟩
noncomputable def Z3r (x0 : ByteArray) (b0 : ZC) : Option (Bool) :=
 (sadd (ByteArray.mk #[40, 63, 58]) x0).bind fun a1 =>
 (sadd a1 (ByteArray.mk #[41])).bind fun a2 =>
 (Z3T a2).bind fun r3 =>
 if ((r3.2.Code != 0)) = true then
 (if ((r3.2.Code == 12)) = true then
 (if ((decide (252 < (x0.size : Int)))) = true then
 (some (true))
 else
 (some ((r3.2.Code == 25))))
 else
 (some ((r3.2.Code == 25))))
 else
 (Z3c b0 r3.1)
theorem Z7s (x0 : ByteArray) (b0 : ZC) (zH : Own) (zG : Own) : Sim (Z1A) (Z3r x0 b0) (Zfj 0 (.p (.v (.string x0))) (.ptr 0 0) [(Zv b0 zH zG)]) := by
 unfold Z3r
 refine zf (ZgP ..) ?_
 refine ze ?_
 refine zi fun a1 ha1 => ?_
 refine zo (.p (.v (.string a1))) ?_ (Eq.trans (by kernel_rfl) (xsadd_of (P := PP) (t := 9) ha1))
 refine zi fun a2 ha2 => ?_
 refine zo (.p (.v (.string a2))) ?_ (Eq.trans (by kernel_rfl) (xsadd_of (P := PP) (t := 9) ha2))
 refine zi fun r3 hr3 => ?_
 obtain ⟨qr3, er3, exr3, rfl⟩ := Z4L (a2) r3 hr3
 refine zc [] (.p (.tup [(.agg (Z1l r3.1 .sh .sh)), (.agg (Z12 r3.2))])) [(Zv b0 zH zG)] er3 ?_
 refine zo (.p (.agg (Z1l r3.1 .sh .sh))) ?_
 refine zo (.p (.agg (Z12 r3.2))) ?_
 refine zz (.ptr 1 0) [(Zv b0 zH zG), (Zv (ZC.mk (Z3.mk 0 0 0 0 0 ([] : List Z7) ([] : List Z3)) 0 false) .nl .nl)] ?_
 refine zz (.ptr 2 0) [(Zv b0 zH zG), (Zv (ZC.mk (Z3.mk 0 0 0 0 0 ([] : List Z7) ([] : List Z3)) 0 false) .nl .nl), (ZE (Zj.mk 0 0))] ?_
 refine zt [(Zv b0 zH zG), (Zv r3.1 .sh .sh), (ZE (Zj.mk 0 0))] ?_
 refine zt [(Zv b0 zH zG), (Zv r3.1 .sh .sh), (ZE r3.2)] ?_
 refine ze ?_
 refine zo (.ptr 2 0) ?_
 refine zo (iv r3.2.Code) ?_
 refine zo (bv (r3.2.Code != 0)) ?_
 refine za ((r3.2.Code != 0)) ?_ ?_
 ·refine ze ?_
  refine zo (.ptr 2 0) ?_
  refine zo (iv r3.2.Code) ?_
  refine zo (bv (r3.2.Code == 12)) ?_
  refine za ((r3.2.Code == 12)) ?_ ?_
  ·refine zo (iv (x0.size : Int)) ?_
   refine zo (bv (decide (252 < (x0.size : Int)))) ?_
   refine za ((decide (252 < (x0.size : Int)))) ?_ ?_
   ·exact zr ((bv true), [(Zv b0 zH zG), (Zv r3.1 .sh .sh), (ZE r3.2)]) ⟨_, rfl⟩
   ·refine zo (.ptr 2 0) ?_
    refine zo (iv r3.2.Code) ?_
    refine zo (bv (r3.2.Code == 25)) ?_
    exact zr ((bv (r3.2.Code == 25)), [(Zv b0 zH zG), (Zv r3.1 .sh .sh), (ZE r3.2)]) ⟨_, rfl⟩
  ·refine zo (.ptr 2 0) ?_
   refine zo (iv r3.2.Code) ?_
   refine zo (bv (r3.2.Code == 25)) ?_
   exact zr ((bv (r3.2.Code == 25)), [(Zv b0 zH zG), (Zv r3.1 .sh .sh), (ZE r3.2)]) ⟨_, rfl⟩
 ·exact zk (Z7n (b0) (r3.1) zH zG .sh .sh)
noncomputable def Z3n (x0 : ByteArray) : Option (Bool) :=
 (Z3T x0).bind fun r1 =>
 if ((r1.2.Code != 0)) = true then
 (Z2J)
 else
 (if (r1.1.Fold) = true then
 (Z2J)
 else
 (Z3r x0 r1.1))
theorem Z7w (x0 : ByteArray) : Sim (Z1A) (Z3n x0) (Zfl 0 (.p (.v (.string x0))) []) := by
 unfold Z3n
 refine zf (ZgS ..) ?_
 refine ze ?_
 refine zi fun r1 hr1 => ?_
 obtain ⟨qr1, er1, exr1, rfl⟩ := Z4L (x0) r1 hr1
 refine zc [] (.p (.tup [(.agg (Z1l r1.1 .sh .sh)), (.agg (Z12 r1.2))])) [] er1 ?_
 refine zo (.p (.agg (Z1l r1.1 .sh .sh))) ?_
 refine zo (.p (.agg (Z12 r1.2))) ?_
 refine zz (.ptr 0 0) [(Zv (ZC.mk (Z3.mk 0 0 0 0 0 ([] : List Z7) ([] : List Z3)) 0 false) .nl .nl)] ?_
 refine zz (.ptr 1 0) [(Zv (ZC.mk (Z3.mk 0 0 0 0 0 ([] : List Z7) ([] : List Z3)) 0 false) .nl .nl), (ZE (Zj.mk 0 0))] ?_
 refine zt [(Zv r1.1 .sh .sh), (ZE (Zj.mk 0 0))] ?_
 refine zt [(Zv r1.1 .sh .sh), (ZE r1.2)] ?_
 refine ze ?_
 refine zo (.ptr 1 0) ?_
 refine zo (iv r1.2.Code) ?_
 refine zo (bv (r1.2.Code != 0)) ?_
 refine za ((r1.2.Code != 0)) ?_ ?_
 ·exact zk (Z5n )
 ·refine zo (.ptr 0 8) ?_
  refine zo (bv r1.1.Fold) ?_
  refine za (r1.1.Fold) ?_ ?_
  ·exact zk (Z5n )
  ·exact zk (Z7s (x0) (r1.1) .sh .sh)
noncomputable def Z3q (x0 : ByteArray) : Option (Bool) :=
 if ((decide (400 < (x0.size : Int)))) = true then
 (some (true))
 else
 (Z3n x0)
theorem Z7z (x0 : ByteArray) : Sim (Z1A) (Z3q x0) (ZeY 0 (.p (.v (.string x0))) []) := by
 unfold Z3q
 refine zf (ZgR ..) ?_
 refine ze ?_
 refine zo (iv (x0.size : Int)) ?_
 refine zo (bv (decide (400 < (x0.size : Int)))) ?_
 refine za ((decide (400 < (x0.size : Int)))) ?_ ?_
 ·refine ze ?_
  exact zr ((bv true), []) ⟨_, rfl⟩
 ·exact zk (Z7w (x0))
noncomputable def Z3V (x0 : ByteArray) : Option (Bool) :=
 (Z4V).bind fun r1 =>
 if ((!r1)) = true then
 (some (false))
 else
 (Z3q x0)
theorem Z8k (x0 : ByteArray) : Sim (Z1A) (Z3V x0) (EE 3 [(.p (.v (.string x0)))] []) := by
 unfold Z3V
 refine zf (ZiF ..) ?_
 refine ze ?_
 refine ze ?_
 refine zi fun r1 hr1 => ?_
 obtain ⟨qr1, er1, exr1, rfl⟩ := Z9z  r1 hr1
 refine zc [] (bv r1) [] er1 ?_
 refine zo (bv (!r1)) ?_
 refine za ((!r1)) ?_ ?_
 ·refine ze ?_
  exact zr ((bv false), []) ⟨_, rfl⟩
 ·exact zk (Z7z (x0))
theorem Z8r (x0 : ByteArray) {r} (h : Z3V x0 = some r) : Z5a x0 = some r :=
 pick_of (fun _ _ ha hb => RRun.uniq (Z8P) (ha ) (hb )) (Z8k x0 r h)
noncomputable def Z2f  : Option (Bool) :=
 some (false)
theorem Z2I  : Sim (Z2G) (Z2f) (Z9V 0  []) := by
 unfold Z2f
 refine zf (ZgO ..) ?_
 refine ze ?_
 exact zr ((bv false), []) ⟨_, rfl⟩
noncomputable def Z5k (b3 : Zj) (b5 : Zj) (b7 : Zj) : Option (Bool) :=
 if (((b3.Code == 23) && ((b3.At == 2) && true))) = true then
 (if (((b5.Code == 20) && ((b5.At == 0) && true))) = true then
 (some (((b7.Code == 26) && ((b7.At == 0) && true))))
 else
 (some (false)))
 else
 (some (false))
theorem Z8t (b0 : ZC) (b1 : Zj) (b2 : ZC) (b3 : Zj) (b4 : ZC) (b5 : Zj) (b6 : ZC) (b7 : Zj) (zH : Own) (zG : Own) (z8j : Own) (z7J : Own) (z8f : Own) (z7F : Own) (z8e : Own) (z7M : Own) : Sim (Z2G) (Z5k b3 b5 b7) (Zdr 0 (.ptr 3 0) (.ptr 5 0) (.ptr 7 0) [(Zv b0 zH zG), (ZE b1), (Zv b2 z8j z7J), (ZE b3), (Zv b4 z8f z7F), (ZE b5), (Zv b6 z8e z7M), (ZE b7)]) := by
 unfold Z5k
 refine zf (ZgL ..) ?_
 refine ze ?_
 refine zo (.p (.agg (Z12 b3))) ?_
 refine zo (.p (.agg (Z12 (Zj.mk 23 2)))) ?_
 refine zo (bv ((b3.Code == 23) && ((b3.At == 2) && true))) ?_ (Eq.trans (b := xbin PP .eql 32 (.p (.agg (Z12 b3))) (.p (.agg (Z12 (Zj.mk 23 2))))) (by kernel_rfl) (xeq_eql (by kernel_rfl) (by kernel_rfl) (by kernel_rfl) (by kernel_rfl) (by kernel_rfl)))
 refine za (((b3.Code == 23) && ((b3.At == 2) && true))) ?_ ?_
 ·refine zo (.p (.agg (Z12 b5))) ?_
  refine zo (.p (.agg (Z12 (Zj.mk 20 0)))) ?_
  refine zo (bv ((b5.Code == 20) && ((b5.At == 0) && true))) ?_ (Eq.trans (b := xbin PP .eql 32 (.p (.agg (Z12 b5))) (.p (.agg (Z12 (Zj.mk 20 0))))) (by kernel_rfl) (xeq_eql (by kernel_rfl) (by kernel_rfl) (by kernel_rfl) (by kernel_rfl) (by kernel_rfl)))
  refine za (((b5.Code == 20) && ((b5.At == 0) && true))) ?_ ?_
  ·refine zo (.p (.agg (Z12 b7))) ?_
   refine zo (.p (.agg (Z12 (Zj.mk 26 0)))) ?_
   refine zo (bv ((b7.Code == 26) && ((b7.At == 0) && true))) ?_ (Eq.trans (b := xbin PP .eql 32 (.p (.agg (Z12 b7))) (.p (.agg (Z12 (Zj.mk 26 0))))) (by kernel_rfl) (xeq_eql (by kernel_rfl) (by kernel_rfl) (by kernel_rfl) (by kernel_rfl) (by kernel_rfl)))
   exact zr ((bv ((b7.Code == 26) && ((b7.At == 0) && true))), [(Zv b0 zH zG), (ZE b1), (Zv b2 z8j z7J), (ZE b3), (Zv b4 z8f z7F), (ZE b5), (Zv b6 z8e z7M), (ZE b7)]) ⟨_, rfl⟩
  ·exact zr ((bv false), [(Zv b0 zH zG), (ZE b1), (Zv b2 z8j z7J), (ZE b3), (Zv b4 z8f z7F), (ZE b5), (Zv b6 z8e z7M), (ZE b7)]) ⟨_, rfl⟩
 ·exact zr ((bv false), [(Zv b0 zH zG), (ZE b1), (Zv b2 z8j z7J), (ZE b3), (Zv b4 z8f z7F), (ZE b5), (Zv b6 z8e z7M), (ZE b7)]) ⟨_, rfl⟩
noncomputable def Z4P  : Option (Bool) :=
 (Z3T ((ByteArray.mk #[97, 124, 98, 42, 63]))).bind fun r1 =>
 (Z3T ((ByteArray.mk #[97, 42, 42]))).bind fun r2 =>
 (Z3T ((ByteArray.mk #[40, 97]))).bind fun r3 =>
 (Z3T ((ByteArray.mk #[92, 49]))).bind fun r4 =>
 if ((r1.2.Code != 0)) = true then
 (Z2f)
 else
 (if ((r1.1.Root.Kind != 3)) = true then
 (Z2f)
 else
 (if (((r1.1.Root.Kids.length : Int) != 2)) = true then
 (Z2f)
 else
 ((lget r1.1.Root.Kids 1).bind fun a5 =>
 if ((a5.Kind != 4)) = true then
 (Z2f)
 else
 ((lget r1.1.Root.Kids 1).bind fun a6 =>
 if ((a6.Mode != 1)) = true then
 (Z2f)
 else
 (Z5k r2.2 r3.2 r4.2)))))
theorem Z9j  : Sim (Z2G) (Z4P) (EE 15 [] []) := by
 unfold Z4P
 refine zf (Zio ..) ?_
 refine ze ?_
 refine ze ?_
 refine zi fun r1 hr1 => ?_
 obtain ⟨qr1, er1, exr1, rfl⟩ := Z4L ((ByteArray.mk #[97, 124, 98, 42, 63])) r1 hr1
 refine zc [] (.p (.tup [(.agg (Z1l r1.1 .sh .sh)), (.agg (Z12 r1.2))])) [] er1 ?_
 refine zo (.p (.agg (Z1l r1.1 .sh .sh))) ?_
 refine zo (.p (.agg (Z12 r1.2))) ?_
 refine zz (.ptr 0 0) [(Zv (ZC.mk (Z3.mk 0 0 0 0 0 ([] : List Z7) ([] : List Z3)) 0 false) .nl .nl)] ?_
 refine zz (.ptr 1 0) [(Zv (ZC.mk (Z3.mk 0 0 0 0 0 ([] : List Z7) ([] : List Z3)) 0 false) .nl .nl), (ZE (Zj.mk 0 0))] ?_
 refine zt [(Zv r1.1 .sh .sh), (ZE (Zj.mk 0 0))] ?_
 refine zt [(Zv r1.1 .sh .sh), (ZE r1.2)] ?_
 refine ze ?_
 refine zi fun r2 hr2 => ?_
 obtain ⟨qr2, er2, exr2, rfl⟩ := Z4L ((ByteArray.mk #[97, 42, 42])) r2 hr2
 refine zc [] (.p (.tup [(.agg (Z1l r2.1 .sh .sh)), (.agg (Z12 r2.2))])) [(Zv r1.1 .sh .sh), (ZE r1.2)] er2 ?_
 refine zo (.p (.agg (Z1l r2.1 .sh .sh))) ?_
 refine zo (.p (.agg (Z12 r2.2))) ?_
 refine zz (.ptr 2 0) [(Zv r1.1 .sh .sh), (ZE r1.2), (Zv (ZC.mk (Z3.mk 0 0 0 0 0 ([] : List Z7) ([] : List Z3)) 0 false) .nl .nl)] ?_
 refine zz (.ptr 3 0) [(Zv r1.1 .sh .sh), (ZE r1.2), (Zv (ZC.mk (Z3.mk 0 0 0 0 0 ([] : List Z7) ([] : List Z3)) 0 false) .nl .nl), (ZE (Zj.mk 0 0))] ?_
 refine zt [(Zv r1.1 .sh .sh), (ZE r1.2), (Zv r2.1 .sh .sh), (ZE (Zj.mk 0 0))] ?_
 refine zt [(Zv r1.1 .sh .sh), (ZE r1.2), (Zv r2.1 .sh .sh), (ZE r2.2)] ?_
 refine ze ?_
 refine zi fun r3 hr3 => ?_
 obtain ⟨qr3, er3, exr3, rfl⟩ := Z4L ((ByteArray.mk #[40, 97])) r3 hr3
 refine zc [] (.p (.tup [(.agg (Z1l r3.1 .sh .sh)), (.agg (Z12 r3.2))])) [(Zv r1.1 .sh .sh), (ZE r1.2), (Zv r2.1 .sh .sh), (ZE r2.2)] er3 ?_
 refine zo (.p (.agg (Z1l r3.1 .sh .sh))) ?_
 refine zo (.p (.agg (Z12 r3.2))) ?_
 refine zz (.ptr 4 0) [(Zv r1.1 .sh .sh), (ZE r1.2), (Zv r2.1 .sh .sh), (ZE r2.2), (Zv (ZC.mk (Z3.mk 0 0 0 0 0 ([] : List Z7) ([] : List Z3)) 0 false) .nl .nl)] ?_
 refine zz (.ptr 5 0) [(Zv r1.1 .sh .sh), (ZE r1.2), (Zv r2.1 .sh .sh), (ZE r2.2), (Zv (ZC.mk (Z3.mk 0 0 0 0 0 ([] : List Z7) ([] : List Z3)) 0 false) .nl .nl), (ZE (Zj.mk 0 0))] ?_
 refine zt [(Zv r1.1 .sh .sh), (ZE r1.2), (Zv r2.1 .sh .sh), (ZE r2.2), (Zv r3.1 .sh .sh), (ZE (Zj.mk 0 0))] ?_
 refine zt [(Zv r1.1 .sh .sh), (ZE r1.2), (Zv r2.1 .sh .sh), (ZE r2.2), (Zv r3.1 .sh .sh), (ZE r3.2)] ?_
 refine ze ?_
 refine zi fun r4 hr4 => ?_
 obtain ⟨qr4, er4, exr4, rfl⟩ := Z4L ((ByteArray.mk #[92, 49])) r4 hr4
 refine zc [] (.p (.tup [(.agg (Z1l r4.1 .sh .sh)), (.agg (Z12 r4.2))])) [(Zv r1.1 .sh .sh), (ZE r1.2), (Zv r2.1 .sh .sh), (ZE r2.2), (Zv r3.1 .sh .sh), (ZE r3.2)] er4 ?_
 refine zo (.p (.agg (Z1l r4.1 .sh .sh))) ?_
 refine zo (.p (.agg (Z12 r4.2))) ?_
 refine zz (.ptr 6 0) [(Zv r1.1 .sh .sh), (ZE r1.2), (Zv r2.1 .sh .sh), (ZE r2.2), (Zv r3.1 .sh .sh), (ZE r3.2), (Zv (ZC.mk (Z3.mk 0 0 0 0 0 ([] : List Z7) ([] : List Z3)) 0 false) .nl .nl)] ?_
 refine zz (.ptr 7 0) [(Zv r1.1 .sh .sh), (ZE r1.2), (Zv r2.1 .sh .sh), (ZE r2.2), (Zv r3.1 .sh .sh), (ZE r3.2), (Zv (ZC.mk (Z3.mk 0 0 0 0 0 ([] : List Z7) ([] : List Z3)) 0 false) .nl .nl), (ZE (Zj.mk 0 0))] ?_
 refine zt [(Zv r1.1 .sh .sh), (ZE r1.2), (Zv r2.1 .sh .sh), (ZE r2.2), (Zv r3.1 .sh .sh), (ZE r3.2), (Zv r4.1 .sh .sh), (ZE (Zj.mk 0 0))] ?_
 refine zt [(Zv r1.1 .sh .sh), (ZE r1.2), (Zv r2.1 .sh .sh), (ZE r2.2), (Zv r3.1 .sh .sh), (ZE r3.2), (Zv r4.1 .sh .sh), (ZE r4.2)] ?_
 refine ze ?_
 refine zo (.ptr 1 0) ?_
 refine zo (iv r1.2.Code) ?_
 refine zo (bv (r1.2.Code != 0)) ?_
 refine za ((r1.2.Code != 0)) ?_ ?_
 ·exact zk (Z2I )
 ·refine zo (.ptr 0 0) ?_
  refine zo (.ptr 0 0) ?_
  refine zo (iv r1.1.Root.Kind) ?_
  refine zo (bv (r1.1.Root.Kind != 3)) ?_
  refine za ((r1.1.Root.Kind != 3)) ?_ ?_
  ·exact zk (Z2I )
  ·refine zo (.ptr 0 0) ?_
   refine zo (.ptr 0 6) ?_
   refine zo (.p (.lst .sh (r1.1.Root.Kids.map ZK))) ?_
   refine zo (iv (r1.1.Root.Kids.length : Int)) ?_ (Eq.trans (by kernel_rfl) (xlen_of (P := PP) (t := 25) (d := 27) (by kernel_rfl) ZK .sh r1.1.Root.Kids))
   refine zo (bv ((r1.1.Root.Kids.length : Int) != 2)) ?_
   refine za (((r1.1.Root.Kids.length : Int) != 2)) ?_ ?_
   ·exact zk (Z2I )
   ·refine zo (.ptr 0 0) ?_
    refine zo (.ptr 0 6) ?_
    refine zo (.p (.lst .sh (r1.1.Root.Kids.map ZK))) ?_
    refine zi fun a5 ha5 => ?_
    refine zo (.cptr (ZD a5 .sh .sh)) ?_ (Eq.trans (by kernel_rfl) (xidx_of (o := .sh) (k := .i64) (n := 7) (e := ZK) (cs := Z2m) Z5Z (fun _ => rfl) (by decide) ha5))
    refine zo (.cptr [(.v (.int .i64 a5.Kind)), (.v (.int .i64 a5.Lo)), (.v (.int .i64 a5.Hi)), (.v (.int .i64 a5.Mode)), (.v (.int .i64 a5.Ref)), (.lst .sh (a5.Set.map Zs)), (.lst .sh (a5.Kids.map ZK))]) ?_
    refine zo (iv a5.Kind) ?_
    refine zo (bv (a5.Kind != 4)) ?_
    refine za ((a5.Kind != 4)) ?_ ?_
    ·exact zk (Z2I )
    ·refine zo (.ptr 0 0) ?_
     refine zo (.ptr 0 6) ?_
     refine zo (.p (.lst .sh (r1.1.Root.Kids.map ZK))) ?_
     refine zi fun a6 ha6 => ?_
     refine zo (.cptr (ZD a6 .sh .sh)) ?_ (Eq.trans (by kernel_rfl) (xidx_of (o := .sh) (k := .i64) (n := 7) (e := ZK) (cs := Z2m) Z5Z (fun _ => rfl) (by decide) ha6))
     refine zo (.cptr [(.v (.int .i64 a6.Mode)), (.v (.int .i64 a6.Ref)), (.lst .sh (a6.Set.map Zs)), (.lst .sh (a6.Kids.map ZK))]) ?_
     refine zo (iv a6.Mode) ?_
     refine zo (bv (a6.Mode != 1)) ?_
     refine za ((a6.Mode != 1)) ?_ ?_
     ·exact zk (Z2I )
     ·exact zk (Z8t (r1.1) (r1.2) (r2.1) (r2.2) (r3.1) (r3.2) (r4.1) (r4.2) .sh .sh .sh .sh .sh .sh .sh .sh)
theorem Z9E  {r} (h : Z4P = some r) : Z4V = some r :=
 pick_of (fun _ _ ha hb => RRun.uniq (Za0) (ha ) (hb )) (Z9j  r h)
noncomputable def Z2Y (z1O : List Int) (zR : Int) (z1b : List Zr) (zI : Int) (zS : Int) (zM : Int) (zU : Int) (zV : Int) (zL : Int) (zO : Int) (zP : List Z7) (zN : List Z3) (z11 : Bool) : Option (ZC × Zj) :=
 Z4H z1b ((z1b.length : Int)) 0 z1O zR zI zS zM zU zV zL zO zP zN z11
theorem Z6i (b0 : ZC) (b1 : Zj) (z1O : List Int) (z1I : Int) (zR : Int) (z1w : Int) (z1b : List Zr) (zI : Int) (zS : Int) (zM : Int) (zU : Int) (zV : Int) (zL : Int) (zO : Int) (zP : List Z7) (zN : List Z3) (z1n : Int) (z11 : Bool) (zH : Own) (zG : Own) (z26 : Own) (z15 : Own) (zZ : Own) (zX : Own) (z1s : okApp zH = true) (z1j : okApp zG = true) (z2h : okApp z15 = true) : Sim (Z29) (Z2Y z1O zR z1b zI zS zM zU zV zL zO zP zN z11) (ZbD 0 (.ptr 0 0) (.ptr 1 0) (.ptr 2 0) (.ptr 3 0) [(Zv b0 zH zG), (ZE b1), (Zi (Zk.mk z1O z1I zR z1w z1b (Zj.mk zI zS)) z26 z15), (Zv (ZC.mk (Z3.mk zM zU zV zL zO zP zN) z1n z11) zZ zX)]) := by
 unfold Z2Y
 refine zf (Zgb ..) ?_
 refine ze ?_
 refine zo (.ptr 2 0) ?_
 refine zo (.ptr 2 4) ?_
 refine zo (.p (.lst (shrO z15) (z1b.map Z1y))) ?_
 refine zo (iv (z1b.length : Int)) ?_ (Eq.trans (by kernel_rfl) (xlen_of (P := PP) (t := 56) (d := 62) (by kernel_rfl) Z1y (shrO z15) z1b))
 exact zk (Z8B (z1b) ((z1b.length : Int)) (0) (b0) (b1) (z1O) (z1I) (zR) (z1w) (z1b) (zI) (zS) (zM) (zU) (zV) (zL) (zO) (zP) (zN) (z1n) (z11) (shrO z15) zH zG z26 z15 zZ zX z1s z1j z2h)
noncomputable def Z5s (z1O : List Int) (z1I : Int) (zR : Int) (z1b : List Zr) (zI : Int) (zS : Int) (zM : Int) (zU : Int) (zV : Int) (zL : Int) (zO : Int) (zP : List Z7) (zN : List Z3) (z11 : Bool) : Option (ZC × Zj) :=
 (ZT 20 z1I z1O zI zS).bind fun r1 =>
 Z2Y z1O zR z1b r1.2.1 r1.2.2 zM zU zV zL zO zP zN z11
theorem Zbs (b0 : ZC) (b1 : Zj) (z1O : List Int) (z1I : Int) (zR : Int) (z1w : Int) (z1b : List Zr) (zI : Int) (zS : Int) (zM : Int) (zU : Int) (zV : Int) (zL : Int) (zO : Int) (zP : List Z7) (zN : List Z3) (z1n : Int) (z11 : Bool) (zH : Own) (zG : Own) (z26 : Own) (z15 : Own) (zZ : Own) (zX : Own) (z1s : okApp zH = true) (z1j : okApp zG = true) (z2h : okApp z15 = true) : Sim (Z29) (Z5s z1O z1I zR z1b zI zS zM zU zV zL zO zP zN z11) (Zes 0 (.ptr 0 0) (.ptr 1 0) (.ptr 2 0) (.ptr 3 0) [(Zv b0 zH zG), (ZE b1), (Zi (Zk.mk z1O z1I zR z1w z1b (Zj.mk zI zS)) z26 z15), (Zv (ZC.mk (Z3.mk zM zU zV zL zO zP zN) z1n z11) zZ zX)]) := by
 unfold Z5s
 refine zf (ZfK ..) ?_
 refine ze ?_
 refine zo (.ptr 2 0) ?_
 refine zo (.ptr 2 1) ?_
 refine zo (iv z1I) ?_
 refine zi fun r1 hr1 => ?_
 obtain ⟨qr1, er1, exr1, rfl⟩ := ZW (20) (z1I) (z1O) (z1I) (zR) (z1w) (z1b) (zI) (zS) z26 z15 z2h r1 hr1
 refine zc [2] (.p (.tup [])) [(Zv b0 zH zG), (ZE b1), (Zi (Zk.mk z1O r1.1 zR z1w z1b (Zj.mk r1.2.1 r1.2.2)) z26 z15), (Zv (ZC.mk (Z3.mk zM zU zV zL zO zP zN) z1n z11) zZ zX)] er1 ?_
 exact zk (Z6i (b0) (b1) (z1O) (r1.1) (zR) (z1w) (z1b) (r1.2.1) (r1.2.2) (zM) (zU) (zV) (zL) (zO) (zP) (zN) (z1n) (z11) zH zG z26 z15 zZ zX z1s z1j z2h)
noncomputable def Z6g (x0 : ByteArray) : Option (ZC × Zj) :=
 (Z13 ((ByteArray.mk #[40, 63, 105, 41])) ((bytesI x0)) 0).bind fun r1 =>
 (Z2F ((bytesI x0)) r1.2 0 0 (([] : List Zr)) 0 0).bind fun r2 =>
 if ((r2.2.2.2.2.2.1 == 0)) = true then
 (if ((decide (r2.2.1 < ((bytesI x0).length : Int)))) = true then
 (Z5s ((bytesI x0)) r2.2.1 r2.2.2.1 r2.2.2.2.2.1 r2.2.2.2.2.2.1 r2.2.2.2.2.2.2 r2.1.Kind r2.1.Lo r2.1.Hi r2.1.Mode r2.1.Ref r2.1.Set r2.1.Kids r1.1)
 else
 (Z2Y ((bytesI x0)) r2.2.2.1 r2.2.2.2.2.1 r2.2.2.2.2.2.1 r2.2.2.2.2.2.2 r2.1.Kind r2.1.Lo r2.1.Hi r2.1.Mode r2.1.Ref r2.1.Set r2.1.Kids r1.1))
 else
 (Z2Y ((bytesI x0)) r2.2.2.1 r2.2.2.2.2.1 r2.2.2.2.2.2.1 r2.2.2.2.2.2.2 r2.1.Kind r2.1.Lo r2.1.Hi r2.1.Mode r2.1.Ref r2.1.Set r2.1.Kids r1.1)
theorem Zbm (x0 : ByteArray) (b0 : ZC) (b1 : Zj) (zH : Own) (zG : Own) (z1s : okApp zH = true) (z1j : okApp zG = true) : Sim (Z29) (Z6g x0) (ZdY 0 (.p (.v (.string x0))) (.ptr 0 0) (.ptr 1 0) [(Zv b0 zH zG), (ZE b1)]) := by
 unfold Z6g
 refine zf (Zgc ..) ?_
 refine ze ?_
 refine zo (.p (.lst .sh ((bytesI x0).map (eI .u8)))) ?_ (Eq.trans (by kernel_rfl) (xcnv_byt (P := PP) (s := 9) (d := 40) (by kernel_rfl) (by kernel_rfl) x0))
 refine zo (.p (.agg (Zcn (Zk.mk (bytesI x0) 0 0 0 ([] : List Zr) (Zj.mk 0 0)) .sh .nl))) ?_
 refine zx (.ptr 2 0) [(Zv b0 zH zG), (ZE b1), (Zi (Zk.mk (bytesI x0) 0 0 0 ([] : List Zr) (Zj.mk 0 0)) .sh .nl)] ?_
 refine ze ?_
 refine zi fun r1 hr1 => ?_
 obtain ⟨qr1, er1, exr1, rfl⟩ := Z18 ((ByteArray.mk #[40, 63, 105, 41])) ((bytesI x0)) (0) (0) (0) (([] : List Zr)) (0) (0) .sh .nl rfl r1 hr1
 refine zc [2] (bv r1.1) [(Zv b0 zH zG), (ZE b1), (Zi (Zk.mk (bytesI x0) r1.2 0 0 ([] : List Zr) (Zj.mk 0 0)) .sh .nl)] er1 ?_
 refine zo (.p (.agg (Z1l (ZC.mk (Z3.mk 0 0 0 0 0 ([] : List Z7) ([] : List Z3)) 0 r1.1) .nl .nl))) ?_
 refine zz (.ptr 3 0) [(Zv b0 zH zG), (ZE b1), (Zi (Zk.mk (bytesI x0) r1.2 0 0 ([] : List Zr) (Zj.mk 0 0)) .sh .nl), (Zv (ZC.mk (Z3.mk 0 0 0 0 0 ([] : List Z7) ([] : List Z3)) 0 false) .nl .nl)] ?_
 refine zt [(Zv b0 zH zG), (ZE b1), (Zi (Zk.mk (bytesI x0) r1.2 0 0 ([] : List Zr) (Zj.mk 0 0)) .sh .nl), (Zv (ZC.mk (Z3.mk 0 0 0 0 0 ([] : List Z7) ([] : List Z3)) 0 r1.1) .nl .nl)] ?_
 refine ze ?_
 refine zi fun r2 hr2 => ?_
 obtain ⟨qr2, er2, or2_0_4, exr2, hor2_0_4, rfl⟩ := Z7W ((bytesI x0)) (r1.2) (0) (0) (([] : List Zr)) (0) (0) .sh .nl rfl r2 hr2
 refine zc [2] (.p (.agg (ZD r2.1 .sh .sh))) [(Zv b0 zH zG), (ZE b1), (Zi (Zk.mk (bytesI x0) r2.2.1 r2.2.2.1 r2.2.2.2.1 r2.2.2.2.2.1 (Zj.mk r2.2.2.2.2.2.1 r2.2.2.2.2.2.2)) .sh or2_0_4), (Zv (ZC.mk (Z3.mk 0 0 0 0 0 ([] : List Z7) ([] : List Z3)) 0 r1.1) .nl .nl)] er2 ?_
 refine zo (.ptr 3 0) ?_
 refine zt [(Zv b0 zH zG), (ZE b1), (Zi (Zk.mk (bytesI x0) r2.2.1 r2.2.2.1 r2.2.2.2.1 r2.2.2.2.2.1 (Zj.mk r2.2.2.2.2.2.1 r2.2.2.2.2.2.2)) .sh or2_0_4), (Zv (ZC.mk (Z3.mk r2.1.Kind r2.1.Lo r2.1.Hi r2.1.Mode r2.1.Ref r2.1.Set r2.1.Kids) 0 r1.1) .sh .sh)] ?_
 refine ze ?_
 refine zo (.ptr 2 0) ?_
 refine zo (.ptr 2 5) ?_
 refine zo (.ptr 2 5) ?_
 refine zo (iv r2.2.2.2.2.2.1) ?_
 refine zo (bv (r2.2.2.2.2.2.1 == 0)) ?_
 refine za ((r2.2.2.2.2.2.1 == 0)) ?_ ?_
 ·refine zo (.ptr 2 0) ?_
  refine zo (.ptr 2 1) ?_
  refine zo (iv r2.2.1) ?_
  refine zo (.ptr 2 0) ?_
  refine zo (.ptr 2 0) ?_
  refine zo (.p (.lst .sh ((bytesI x0).map (eI .u8)))) ?_
  refine zo (iv ((bytesI x0).length : Int)) ?_ (Eq.trans (by kernel_rfl) (xlen_of (P := PP) (t := 40) (d := 5) (by kernel_rfl) (eI .u8) .sh (bytesI x0)))
  refine zo (bv (decide (r2.2.1 < ((bytesI x0).length : Int)))) ?_
  refine za ((decide (r2.2.1 < ((bytesI x0).length : Int)))) ?_ ?_
  ·exact zk (Zbs (b0) (b1) ((bytesI x0)) (r2.2.1) (r2.2.2.1) (r2.2.2.2.1) (r2.2.2.2.2.1) (r2.2.2.2.2.2.1) (r2.2.2.2.2.2.2) (r2.1.Kind) (r2.1.Lo) (r2.1.Hi) (r2.1.Mode) (r2.1.Ref) (r2.1.Set) (r2.1.Kids) (0) (r1.1) zH zG .sh or2_0_4 .sh .sh z1s z1j hor2_0_4)
  ·exact zk (Z6i (b0) (b1) ((bytesI x0)) (r2.2.1) (r2.2.2.1) (r2.2.2.2.1) (r2.2.2.2.2.1) (r2.2.2.2.2.2.1) (r2.2.2.2.2.2.2) (r2.1.Kind) (r2.1.Lo) (r2.1.Hi) (r2.1.Mode) (r2.1.Ref) (r2.1.Set) (r2.1.Kids) (0) (r1.1) zH zG .sh or2_0_4 .sh .sh z1s z1j hor2_0_4)
 ·exact zk (Z6i (b0) (b1) ((bytesI x0)) (r2.2.1) (r2.2.2.1) (r2.2.2.2.1) (r2.2.2.2.2.1) (r2.2.2.2.2.2.1) (r2.2.2.2.2.2.2) (r2.1.Kind) (r2.1.Lo) (r2.1.Hi) (r2.1.Mode) (r2.1.Ref) (r2.1.Set) (r2.1.Kids) (0) (r1.1) zH zG .sh or2_0_4 .sh .sh z1s z1j hor2_0_4)
noncomputable def Z7G (x0 : ByteArray) : Option (ZC × Zj) :=
 if ((decide (256 < (x0.size : Int)))) = true then
 (some ((ZC.mk (Z3.mk 0 0 0 0 0 ([] : List Z7) ([] : List Z3)) 0 false), (Zj.mk 12 0)))
 else
 (Z6g x0)
theorem Zc3 (x0 : ByteArray) : Sim (Z29) (Z7G x0) (EE 16 [(.p (.v (.string x0)))] []) := by
 unfold Z7G
 refine zf (Zhn ..) ?_
 refine ze ?_
 refine zz (.ptr 0 0) [(Zv (ZC.mk (Z3.mk 0 0 0 0 0 ([] : List Z7) ([] : List Z3)) 0 false) .nl .nl)] ?_
 refine zz (.ptr 1 0) [(Zv (ZC.mk (Z3.mk 0 0 0 0 0 ([] : List Z7) ([] : List Z3)) 0 false) .nl .nl), (ZE (Zj.mk 0 0))] ?_
 refine ze ?_
 refine zo (iv (x0.size : Int)) ?_
 refine zo (bv (decide (256 < (x0.size : Int)))) ?_
 refine za ((decide (256 < (x0.size : Int)))) ?_ ?_
 ·refine ze ?_
  refine zo (.p (.agg (Z1l (ZC.mk (Z3.mk 0 0 0 0 0 ([] : List Z7) ([] : List Z3)) 0 false) .nl .nl))) ?_
  refine zo (.p (.agg (Z12 (Zj.mk 12 0)))) ?_
  refine zt [(Zv (ZC.mk (Z3.mk 0 0 0 0 0 ([] : List Z7) ([] : List Z3)) 0 false) .nl .nl), (ZE (Zj.mk 0 0))] ?_
  refine zt [(Zv (ZC.mk (Z3.mk 0 0 0 0 0 ([] : List Z7) ([] : List Z3)) 0 false) .nl .nl), (ZE (Zj.mk 12 0))] ?_
  exact zr ((.p (.tup [(.agg (Z1l (ZC.mk (Z3.mk 0 0 0 0 0 ([] : List Z7) ([] : List Z3)) 0 false) .sh .sh)), (.agg (Z12 (Zj.mk 12 0)))])), [(Zv (ZC.mk (Z3.mk 0 0 0 0 0 ([] : List Z7) ([] : List Z3)) 0 false) .nl .nl), (ZE (Zj.mk 12 0))]) ⟨_, rfl⟩
 ·exact zk (Zbm (x0) ((ZC.mk (Z3.mk 0 0 0 0 0 ([] : List Z7) ([] : List Z3)) 0 false)) ((Zj.mk 0 0)) .nl .nl rfl rfl)
theorem Zcf (x0 : ByteArray) {r} (h : Z7G x0 = some r) : Z3T x0 = some r :=
 pick_of (fun _ _ ha hb => RRun.uniq (Zak) (ha ) (hb )) (Zc3 x0 r h)
noncomputable def Z39 (x50 : List Zr) (x51 : Int) (x52 : Int) (z1O : List Int) (zR : Int) (zI : Int) (zS : Int) (zM : Int) (zU : Int) (zV : Int) (zL : Int) (zO : Int) (zP : List Z7) (zN : List Z3) (z11 : Bool) : Option (ZC × Zj) :=
 Z4H x50 x51 ((IntKind.i64.wrap (x52 + 1))) z1O zR zI zS zM zU zV zL zO zP zN z11
theorem Z7Y (x50 : List Zr) (x51 : Int) (x52 : Int) (b0 : ZC) (b1 : Zj) (z1O : List Int) (z1I : Int) (zR : Int) (z1w : Int) (z1b : List Zr) (zI : Int) (zS : Int) (zM : Int) (zU : Int) (zV : Int) (zL : Int) (zO : Int) (zP : List Z7) (zN : List Z3) (z1n : Int) (z11 : Bool) (ox50 : Own) (zH : Own) (zG : Own) (z26 : Own) (z15 : Own) (zZ : Own) (zX : Own) (z1s : okApp zH = true) (z1j : okApp zG = true) (z2h : okApp z15 = true) : Sim (Z29) (Z39 x50 x51 x52 z1O zR zI zS zM zU zV zL zO zP zN z11) (ZbU 0 (.ptr 0 0) (.ptr 1 0) (.ptr 2 0) (.ptr 3 0) (.p (.lst ox50 (x50.map Z1y))) (iv x51) (iv x52) [(Zv b0 zH zG), (ZE b1), (Zi (Zk.mk z1O z1I zR z1w z1b (Zj.mk zI zS)) z26 z15), (Zv (ZC.mk (Z3.mk zM zU zV zL zO zP zN) z1n z11) zZ zX)]) := by
 unfold Z39
 refine zf (Zfc ..) ?_
 refine ze ?_
 refine zo (iv (IntKind.i64.wrap (x52 + 1))) ?_
 exact zk (Z8B (x50) (x51) ((IntKind.i64.wrap (x52 + 1))) (b0) (b1) (z1O) (z1I) (zR) (z1w) (z1b) (zI) (zS) (zM) (zU) (zV) (zL) (zO) (zP) (zN) (z1n) (z11) ox50 zH zG z26 z15 zZ zX z1s z1j z2h)
noncomputable def Z5e (x50 : List Zr) (x51 : Int) (x52 : Int) (z1O : List Int) (zR : Int) (zI : Int) (zS : Int) (zM : Int) (zU : Int) (zV : Int) (zL : Int) (zO : Int) (zP : List Z7) (zN : List Z3) (z11 : Bool) : Option (ZC × Zj) :=
 (lget x50 x52).bind fun a1 =>
 if ((decide (zR < a1.group))) = true then
 ((ZT 26 a1.at_ z1O zI zS).bind fun r2 =>
 Z39 x50 x51 x52 z1O zR r2.2.1 r2.2.2 zM zU zV zL zO zP zN z11)
 else
 (Z39 x50 x51 x52 z1O zR zI zS zM zU zV zL zO zP zN z11)
theorem Zba (x50 : List Zr) (x51 : Int) (x52 : Int) (b0 : ZC) (b1 : Zj) (z1O : List Int) (z1I : Int) (zR : Int) (z1w : Int) (z1b : List Zr) (zI : Int) (zS : Int) (zM : Int) (zU : Int) (zV : Int) (zL : Int) (zO : Int) (zP : List Z7) (zN : List Z3) (z1n : Int) (z11 : Bool) (ox50 : Own) (zH : Own) (zG : Own) (z26 : Own) (z15 : Own) (zZ : Own) (zX : Own) (z1s : okApp zH = true) (z1j : okApp zG = true) (z2h : okApp z15 = true) : Sim (Z29) (Z5e x50 x51 x52 z1O zR zI zS zM zU zV zL zO zP zN z11) (Zda 0 (.ptr 0 0) (.ptr 1 0) (.ptr 2 0) (.ptr 3 0) (.p (.lst ox50 (x50.map Z1y))) (iv x51) (iv x52) [(Zv b0 zH zG), (ZE b1), (Zi (Zk.mk z1O z1I zR z1w z1b (Zj.mk zI zS)) z26 z15), (Zv (ZC.mk (Z3.mk zM zU zV zL zO zP zN) z1n z11) zZ zX)]) := by
 unfold Z5e
 refine zf (ZeR ..) ?_
 refine ze ?_
 refine zi fun a1 ha1 => ?_
 refine zo (.cptr (Z7R a1)) ?_ (Eq.trans (by kernel_rfl) (xidx_of (o := ox50) (k := .i64) (n := 2) (e := Z1y) (cs := Z6f) (fun _ => rfl) (fun _ => rfl) (by decide) ha1))
 refine zo (.p (.agg (Z7R a1))) ?_
 refine zz (.ptr 4 0) [(Zv b0 zH zG), (ZE b1), (Zi (Zk.mk z1O z1I zR z1w z1b (Zj.mk zI zS)) z26 z15), (Zv (ZC.mk (Z3.mk zM zU zV zL zO zP zN) z1n z11) zZ zX), (Z7P (Zr.mk 0 0))] ?_
 refine zt [(Zv b0 zH zG), (ZE b1), (Zi (Zk.mk z1O z1I zR z1w z1b (Zj.mk zI zS)) z26 z15), (Zv (ZC.mk (Z3.mk zM zU zV zL zO zP zN) z1n z11) zZ zX), (Z7P a1)] ?_
 refine ze ?_
 refine zo (.ptr 4 0) ?_
 refine zo (iv a1.group) ?_
 refine zo (.ptr 2 0) ?_
 refine zo (.ptr 2 2) ?_
 refine zo (iv zR) ?_
 refine zo (bv (decide (zR < a1.group))) ?_
 refine za ((decide (zR < a1.group))) ?_ ?_
 ·refine ze ?_
  refine zo (.ptr 4 1) ?_
  refine zo (iv a1.at_) ?_
  refine zi fun r2 hr2 => ?_
  obtain ⟨qr2, er2, exr2, rfl⟩ := ZW (26) (a1.at_) (z1O) (z1I) (zR) (z1w) (z1b) (zI) (zS) z26 z15 z2h r2 hr2
  refine zc [2] (.p (.tup [])) [(Zv b0 zH zG), (ZE b1), (Zi (Zk.mk z1O r2.1 zR z1w z1b (Zj.mk r2.2.1 r2.2.2)) z26 z15), (Zv (ZC.mk (Z3.mk zM zU zV zL zO zP zN) z1n z11) zZ zX), (Z7P a1)] er2 ?_
  exact zk (Z7Y (x50) (x51) (x52) (b0) (b1) (z1O) (r2.1) (zR) (z1w) (z1b) (r2.2.1) (r2.2.2) (zM) (zU) (zV) (zL) (zO) (zP) (zN) (z1n) (z11) ox50 zH zG z26 z15 zZ zX z1s z1j z2h)
 ·exact zk (Z7Y (x50) (x51) (x52) (b0) (b1) (z1O) (z1I) (zR) (z1w) (z1b) (zI) (zS) (zM) (zU) (zV) (zL) (zO) (zP) (zN) (z1n) (z11) ox50 zH zG z26 z15 zZ zX z1s z1j z2h)
noncomputable def Z7r (zR : Int) (zM : Int) (zU : Int) (zV : Int) (zL : Int) (zO : Int) (zP : List Z7) (zN : List Z3) (z11 : Bool) : Option (ZC × Zj) :=
 some ((ZC.mk (Z3.mk zM zU zV zL zO zP zN) zR z11), (Zj.mk 0 0))
theorem ZaQ (b0 : ZC) (b1 : Zj) (z1O : List Int) (z1I : Int) (zR : Int) (z1w : Int) (z1b : List Zr) (zI : Int) (zS : Int) (zM : Int) (zU : Int) (zV : Int) (zL : Int) (zO : Int) (zP : List Z7) (zN : List Z3) (z1n : Int) (z11 : Bool) (zH : Own) (zG : Own) (z26 : Own) (z15 : Own) (zZ : Own) (zX : Own) (z1s : okApp zH = true) (z1j : okApp zG = true) (z2h : okApp z15 = true) : Sim (Z29) (Z7r zR zM zU zV zL zO zP zN z11) (Zd6 0 (.ptr 0 0) (.ptr 1 0) (.ptr 2 0) (.ptr 3 0) [(Zv b0 zH zG), (ZE b1), (Zi (Zk.mk z1O z1I zR z1w z1b (Zj.mk zI zS)) z26 z15), (Zv (ZC.mk (Z3.mk zM zU zV zL zO zP zN) z1n z11) zZ zX)]) := by
 unfold Z7r
 refine zf (ZeQ ..) ?_
 refine ze ?_
 refine zo (.ptr 2 0) ?_
 refine zo (.ptr 2 2) ?_
 refine zo (iv zR) ?_
 refine zo (.ptr 3 7) ?_
 refine zt [(Zv b0 zH zG), (ZE b1), (Zi (Zk.mk z1O z1I zR z1w z1b (Zj.mk zI zS)) z26 z15), (Zv (ZC.mk (Z3.mk zM zU zV zL zO zP zN) zR z11) zZ zX)] ?_
 refine ze ?_
 refine zo (.p (.agg (Z1l (ZC.mk (Z3.mk zM zU zV zL zO zP zN) zR z11) (shrO zZ) (shrO zX)))) ?_
 refine zo (.p (.agg (Z12 (Zj.mk 0 0)))) ?_
 refine zt [(Zv (ZC.mk (Z3.mk zM zU zV zL zO zP zN) zR z11) (shrO zZ) (shrO zX)), (ZE b1), (Zi (Zk.mk z1O z1I zR z1w z1b (Zj.mk zI zS)) z26 z15), (Zv (ZC.mk (Z3.mk zM zU zV zL zO zP zN) zR z11) zZ zX)] ?_
 refine zt [(Zv (ZC.mk (Z3.mk zM zU zV zL zO zP zN) zR z11) (shrO zZ) (shrO zX)), (ZE (Zj.mk 0 0)), (Zi (Zk.mk z1O z1I zR z1w z1b (Zj.mk zI zS)) z26 z15), (Zv (ZC.mk (Z3.mk zM zU zV zL zO zP zN) zR z11) zZ zX)] ?_
 exact zr ((.p (.tup [(.agg (Z1l (ZC.mk (Z3.mk zM zU zV zL zO zP zN) zR z11) .sh .sh)), (.agg (Z12 (Zj.mk 0 0)))])), [(Zv (ZC.mk (Z3.mk zM zU zV zL zO zP zN) zR z11) (shrO zZ) (shrO zX)), (ZE (Zj.mk 0 0)), (Zi (Zk.mk z1O z1I zR z1w z1b (Zj.mk zI zS)) z26 z15), (Zv (ZC.mk (Z3.mk zM zU zV zL zO zP zN) zR z11) zZ zX)]) ⟨_, rfl⟩
noncomputable def Z5f (zR : Int) (zI : Int) (zS : Int) (zM : Int) (zU : Int) (zV : Int) (zL : Int) (zO : Int) (zP : List Z7) (zN : List Z3) (z11 : Bool) : Option (ZC × Zj) :=
 if ((zI != 0)) = true then
 (some ((ZC.mk (Z3.mk 0 0 0 0 0 ([] : List Z7) ([] : List Z3)) 0 false), (Zj.mk zI zS)))
 else
 (Z7r zR zM zU zV zL zO zP zN z11)
theorem ZaL (b0 : ZC) (b1 : Zj) (z1O : List Int) (z1I : Int) (zR : Int) (z1w : Int) (z1b : List Zr) (zI : Int) (zS : Int) (zM : Int) (zU : Int) (zV : Int) (zL : Int) (zO : Int) (zP : List Z7) (zN : List Z3) (z1n : Int) (z11 : Bool) (zH : Own) (zG : Own) (z26 : Own) (z15 : Own) (zZ : Own) (zX : Own) (z1s : okApp zH = true) (z1j : okApp zG = true) (z2h : okApp z15 = true) : Sim (Z29) (Z5f zR zI zS zM zU zV zL zO zP zN z11) (Zd9 0 (.ptr 0 0) (.ptr 1 0) (.ptr 2 0) (.ptr 3 0) [(Zv b0 zH zG), (ZE b1), (Zi (Zk.mk z1O z1I zR z1w z1b (Zj.mk zI zS)) z26 z15), (Zv (ZC.mk (Z3.mk zM zU zV zL zO zP zN) z1n z11) zZ zX)]) := by
 unfold Z5f
 refine zf (Zf0 ..) ?_
 refine ze ?_
 refine zo (.ptr 2 0) ?_
 refine zo (.ptr 2 5) ?_
 refine zo (.ptr 2 5) ?_
 refine zo (iv zI) ?_
 refine zo (bv (zI != 0)) ?_
 refine za ((zI != 0)) ?_ ?_
 ·refine ze ?_
  refine zo (.p (.agg (Z1l (ZC.mk (Z3.mk 0 0 0 0 0 ([] : List Z7) ([] : List Z3)) 0 false) .nl .nl))) ?_
  refine zo (.ptr 2 0) ?_
  refine zo (.ptr 2 5) ?_
  refine zo (.p (.agg (Z12 (Zj.mk zI zS)))) ?_
  refine zt [(Zv (ZC.mk (Z3.mk 0 0 0 0 0 ([] : List Z7) ([] : List Z3)) 0 false) .nl .nl), (ZE b1), (Zi (Zk.mk z1O z1I zR z1w z1b (Zj.mk zI zS)) z26 z15), (Zv (ZC.mk (Z3.mk zM zU zV zL zO zP zN) z1n z11) zZ zX)] ?_
  refine zt [(Zv (ZC.mk (Z3.mk 0 0 0 0 0 ([] : List Z7) ([] : List Z3)) 0 false) .nl .nl), (ZE (Zj.mk zI zS)), (Zi (Zk.mk z1O z1I zR z1w z1b (Zj.mk zI zS)) z26 z15), (Zv (ZC.mk (Z3.mk zM zU zV zL zO zP zN) z1n z11) zZ zX)] ?_
  refine zg ?_
  exact zr ((.p (.tup [(.agg (Z1l (ZC.mk (Z3.mk 0 0 0 0 0 ([] : List Z7) ([] : List Z3)) 0 false) .sh .sh)), (.agg (Z12 (Zj.mk zI zS)))])), [(Zv (ZC.mk (Z3.mk 0 0 0 0 0 ([] : List Z7) ([] : List Z3)) 0 false) .nl .nl), (ZE (Zj.mk zI zS)), (Zi (Zk.mk z1O z1I zR z1w z1b (Zj.mk zI zS)) z26 z15), (Zv (ZC.mk (Z3.mk zM zU zV zL zO zP zN) z1n z11) zZ zX)]) ⟨_, rfl⟩
 ·exact zk (ZaQ (b0) (b1) (z1O) (z1I) (zR) (z1w) (z1b) (zI) (zS) (zM) (zU) (zV) (zL) (zO) (zP) (zN) (z1n) (z11) zH zG z26 z15 zZ zX z1s z1j z2h)
noncomputable def Z3Y (x50 : List Zr) (x51 : Int) (x52 : Int) (z1O : List Int) (zR : Int) (zI : Int) (zS : Int) (zM : Int) (zU : Int) (zV : Int) (zL : Int) (zO : Int) (zP : List Z7) (zN : List Z3) (z11 : Bool) : Option (ZC × Zj) :=
 if ((decide (x52 < x51))) = true then
 (Z5e x50 x51 x52 z1O zR zI zS zM zU zV zL zO zP zN z11)
 else
 (Z5f zR zI zS zM zU zV zL zO zP zN z11)
theorem Zbl (x50 : List Zr) (x51 : Int) (x52 : Int) (b0 : ZC) (b1 : Zj) (z1O : List Int) (z1I : Int) (zR : Int) (z1w : Int) (z1b : List Zr) (zI : Int) (zS : Int) (zM : Int) (zU : Int) (zV : Int) (zL : Int) (zO : Int) (zP : List Z7) (zN : List Z3) (z1n : Int) (z11 : Bool) (ox50 : Own) (zH : Own) (zG : Own) (z26 : Own) (z15 : Own) (zZ : Own) (zX : Own) (z1s : okApp zH = true) (z1j : okApp zG = true) (z2h : okApp z15 = true) : Sim (Z29) (Z3Y x50 x51 x52 z1O zR zI zS zM zU zV zL zO zP zN z11) (ZaI 0 (.ptr 0 0) (.ptr 1 0) (.ptr 2 0) (.ptr 3 0) (.p (.lst ox50 (x50.map Z1y))) (iv x51) (iv x52) [(Zv b0 zH zG), (ZE b1), (Zi (Zk.mk z1O z1I zR z1w z1b (Zj.mk zI zS)) z26 z15), (Zv (ZC.mk (Z3.mk zM zU zV zL zO zP zN) z1n z11) zZ zX)]) := by
 unfold Z3Y
 refine zf (ZgJ ..) ?_
 refine ze ?_
 refine zo (bv (decide (x52 < x51))) ?_
 refine za ((decide (x52 < x51))) ?_ ?_
 ·exact zk (Zba (x50) (x51) (x52) (b0) (b1) (z1O) (z1I) (zR) (z1w) (z1b) (zI) (zS) (zM) (zU) (zV) (zL) (zO) (zP) (zN) (z1n) (z11) ox50 zH zG z26 z15 zZ zX z1s z1j z2h)
 ·exact zk (ZaL (b0) (b1) (z1O) (z1I) (zR) (z1w) (z1b) (zI) (zS) (zM) (zU) (zV) (zL) (zO) (zP) (zN) (z1n) (z11) zH zG z26 z15 zZ zX z1s z1j z2h)
theorem Z5A (x50 : List Zr) (x51 : Int) (x52 : Int) (z1O : List Int) (zR : Int) (zI : Int) (zS : Int) (zM : Int) (zU : Int) (zV : Int) (zL : Int) (zO : Int) (zP : List Z7) (zN : List Z3) (z11 : Bool) {r} (h : Z3Y x50 x51 x52 z1O zR zI zS zM zU zV zL zO zP zN z11 = some r) : Z4H x50 x51 x52 z1O zR zI zS zM zU zV zL zO zP zN z11 = some r :=
 pick_of (fun _ _ ha hb => RRun.uniq (Zak) (ha default default default default default default .ex .ex .ex .ex .ex .ex .ex rfl rfl rfl) (hb default default default default default default .ex .ex .ex .ex .ex .ex .ex rfl rfl rfl)) (fun b0 b1 z1I z1w z1b z1n ox50 zH zG z26 z15 zZ zX z1s z1j z2h => Zbl x50 x51 x52 b0 b1 z1O z1I zR z1w z1b zI zS zM zU zV zL zO zP zN z1n z11 ox50 zH zG z26 z15 zZ zX z1s z1j z2h r h)
noncomputable def Z4Q (zp : Int) : Option (Bool × Int) :=
 some (false, zp)
theorem Z6m (zl : List Int) (zp : Int) (z6 : Int) (zd : Int) (zh : List Zr) (z1 : Int) (z2 : Int) (zn : Own) (zb : Own) (zu : okApp zb = true) : Sim (Z3a zl z6 zd zh z1 z2 zn zb) (Z4Q zp) (Zcr 1  [(Zi (Zk.mk zl zp z6 zd zh (Zj.mk z1 z2)) zn zb)]) := by
 unfold Z4Q
 refine zf (Zgu ..) ?_
 refine ze ?_
 exact zr ((bv false), [(Zi (Zk.mk zl zp z6 zd zh (Zj.mk z1 z2)) zn zb)]) ⟨_, rfl⟩
noncomputable def Z4N (x1 : ByteArray) (zp : Int) : Option (Bool × Int) :=
 some (true, (IntKind.i64.wrap (zp + (x1.size : Int))))
theorem Z9i (x1 : ByteArray) (zl : List Int) (zp : Int) (z6 : Int) (zd : Int) (zh : List Zr) (z1 : Int) (z2 : Int) (zn : Own) (zb : Own) (zu : okApp zb = true) : Sim (Z3a zl z6 zd zh z1 z2 zn zb) (Z4N x1 zp) (Zdo 1 (.ptr 0 0) (.p (.v (.string x1))) [(Zi (Zk.mk zl zp z6 zd zh (Zj.mk z1 z2)) zn zb)]) := by
 unfold Z4N
 refine zf (Zfz ..) ?_
 refine ze ?_
 refine zo (.ptr 0 0) ?_
 refine zo (.ptr 0 1) ?_
 refine zo (iv zp) ?_
 refine zo (iv (x1.size : Int)) ?_
 refine zo (iv (IntKind.i64.wrap (zp + (x1.size : Int)))) ?_
 refine zo (.ptr 0 0) ?_
 refine zo (.ptr 0 1) ?_
 refine zt [(Zi (Zk.mk zl (IntKind.i64.wrap (zp + (x1.size : Int))) z6 zd zh (Zj.mk z1 z2)) zn zb)] ?_
 refine ze ?_
 exact zr ((bv true), [(Zi (Zk.mk zl (IntKind.i64.wrap (zp + (x1.size : Int))) z6 zd zh (Zj.mk z1 z2)) zn zb)]) ⟨_, rfl⟩
noncomputable def Z5v (x1 : ByteArray) (zl : List Int) (zp : Int) : Option (Bool × Int) :=
 if ((decide ((IntKind.i64.wrap ((zl.length : Int) - zp)) < (x1.size : Int)))) = true then
 (Z4Q zp)
 else
 ((lsl zl zp (IntKind.i64.wrap (zp + (x1.size : Int)))).bind fun a1 =>
 if ((!(seq (strI a1) x1))) = true then
 (Z4Q zp)
 else
 (Z4N x1 zp))
theorem Za6 (x1 : ByteArray) (zl : List Int) (zp : Int) (z6 : Int) (zd : Int) (zh : List Zr) (z1 : Int) (z2 : Int) (zn : Own) (zb : Own) (zu : okApp zb = true) : Sim (Z3a zl z6 zd zh z1 z2 zn zb) (Z5v x1 zl zp) (EE 27 [(.ptr 0 0), (.p (.v (.string x1)))] [(Zi (Zk.mk zl zp z6 zd zh (Zj.mk z1 z2)) zn zb)]) := by
 unfold Z5v
 refine zf (ZhV ..) ?_
 refine ze ?_
 refine ze ?_
 refine zo (.ptr 0 0) ?_
 refine zo (.ptr 0 0) ?_
 refine zo (.p (.lst (shrO zn) (zl.map (eI .u8)))) ?_
 refine zo (iv (zl.length : Int)) ?_ (Eq.trans (by kernel_rfl) (xlen_of (P := PP) (t := 40) (d := 5) (by kernel_rfl) (eI .u8) (shrO zn) zl))
 refine zo (.ptr 0 0) ?_
 refine zo (.ptr 0 1) ?_
 refine zo (iv zp) ?_
 refine zo (iv (IntKind.i64.wrap ((zl.length : Int) - zp))) ?_
 refine zo (iv (x1.size : Int)) ?_
 refine zo (bv (decide ((IntKind.i64.wrap ((zl.length : Int) - zp)) < (x1.size : Int)))) ?_
 refine za ((decide ((IntKind.i64.wrap ((zl.length : Int) - zp)) < (x1.size : Int)))) ?_ ?_
 ·exact zk (Z6m (zl) (zp) (z6) (zd) (zh) (z1) (z2) zn zb zu)
 ·refine zo (.ptr 0 0) ?_
  refine zo (.ptr 0 0) ?_
  refine zo (.p (.lst (shrO zn) (zl.map (eI .u8)))) ?_
  refine zo (.ptr 0 0) ?_
  refine zo (.ptr 0 1) ?_
  refine zo (iv zp) ?_
  refine zo (.ptr 0 0) ?_
  refine zo (.ptr 0 1) ?_
  refine zo (iv zp) ?_
  refine zo (iv (x1.size : Int)) ?_
  refine zo (iv (IntKind.i64.wrap (zp + (x1.size : Int)))) ?_
  refine zi fun a1 ha1 => ?_
  refine zo (.p (.lst (slO (shrO zn)) (a1.map (eI .u8)))) ?_ (Eq.trans (by kernel_rfl) <| xsl_of (n := 1) (o := (shrO zn)) (lo := (some (iv zp))) (hi := (some (iv (IntKind.i64.wrap (zp + (x1.size : Int)))))) (e := (eI .u8)) (fun _ => rfl) (by decide) (by kernel_rfl) (by kernel_rfl) ha1)
  refine zo (.p (.v (.string (strI a1)))) ?_ (Eq.trans (by kernel_rfl) (xcnv_str (P := PP) (s := 40) (d := 9) (by kernel_rfl) (slO (shrO zn)) a1))
  refine zo (bv (!(seq (strI a1) x1))) ?_
  refine za ((!(seq (strI a1) x1))) ?_ ?_
  ·exact zk (Z6m (zl) (zp) (z6) (zd) (zh) (z1) (z2) zn zb zu)
  ·exact zk (Z9i (x1) (zl) (zp) (z6) (zd) (zh) (z1) (z2) zn zb zu)
theorem Zas (x1 : ByteArray) (zl : List Int) (zp : Int) {r} (h : Z5v x1 zl zp = some r) : Z13 x1 zl zp = some r :=
 pick_of (fun _ _ ha hb => RRun.uniq (Zb5 _ _ _ _ _ _ _ _) (ha default default default default default .ex .ex rfl) (hb default default default default default .ex .ex rfl)) (fun z6 zd zh z1 z2 zn zb zu => Za6 x1 zl zp z6 zd zh z1 z2 zn zb zu r h)
noncomputable def Z46 (zl : List Int) (zp : Int) (z6 : Int) (zd : Int) (zh : List Zr) (z1 : Int) (z2 : Int) : Option (Z3 × Int × Int × Int × (List Zr) × Int × Int) :=
 (Z48 zl zp z6 zd zh z1 z2).bind fun r1 =>
 Z3k (([r1.1] : List Z3)) zl r1.2.1 r1.2.2.1 r1.2.2.2.1 r1.2.2.2.2.1 r1.2.2.2.2.2.1 r1.2.2.2.2.2.2
theorem Zaz (zl : List Int) (zp : Int) (z6 : Int) (zd : Int) (zh : List Zr) (z1 : Int) (z2 : Int) (zn : Own) (zb : Own) (zu : okApp zb = true) : Sim (Z2g zl zn) (Z46 zl zp z6 zd zh z1 z2) (EE 28 [(.ptr 0 0)] [(Zi (Zk.mk zl zp z6 zd zh (Zj.mk z1 z2)) zn zb)]) := by
 unfold Z46
 refine zf (Zi2 ..) ?_
 refine ze ?_
 refine zz (.ptr 1 0) [(Zi (Zk.mk zl zp z6 zd zh (Zj.mk z1 z2)) zn zb), (Zq (Z3.mk 0 0 0 0 0 ([] : List Z7) ([] : List Z3)) .nl .nl)] ?_
 refine ze ?_
 refine zi fun r1 hr1 => ?_
 obtain ⟨qr1, er1, or1_0_4, exr1, hor1_0_4, rfl⟩ := Z81 (zl) (zp) (z6) (zd) (zh) (z1) (z2) zn zb zu r1 hr1
 refine zc [0] (.p (.agg (ZD r1.1 .sh .sh))) [(Zi (Zk.mk zl r1.2.1 r1.2.2.1 r1.2.2.2.1 r1.2.2.2.2.1 (Zj.mk r1.2.2.2.2.2.1 r1.2.2.2.2.2.2)) zn or1_0_4), (Zq (Z3.mk 0 0 0 0 0 ([] : List Z7) ([] : List Z3)) .nl .nl)] er1 ?_
 refine zo (.p (.lst .ex (([r1.1] : List Z3).map ZK))) ?_ (Eq.trans (b := some (.p (.lst .ex [.agg (Z2m r1.1)]))) (by kernel_rfl) (by simp only [List.map_cons, List.map_nil, Z2V]))
 exact zk (Z6T (([r1.1] : List Z3)) (zl) (r1.2.1) (r1.2.2.1) (r1.2.2.2.1) (r1.2.2.2.2.1) (r1.2.2.2.2.2.1) (r1.2.2.2.2.2.2) ((Z3.mk 0 0 0 0 0 ([] : List Z7) ([] : List Z3))) .ex zn or1_0_4 .nl .nl rfl hor1_0_4 rfl rfl)
theorem Z7X (zl : List Int) (zp : Int) (z6 : Int) (zd : Int) (zh : List Zr) (z1 : Int) (z2 : Int) {r} (h : Z46 zl zp z6 zd zh z1 z2 = some r) : Z2F zl zp z6 zd zh z1 z2 = some r :=
 pick_of (fun _ _ ha hb => RRun.uniq (Z8n _ _) (ha .ex .ex rfl) (hb .ex .ex rfl)) (fun zn zb zu => Zaz zl zp z6 zd zh z1 z2 zn zb zu r h)
noncomputable def Z58 (x3 : List Z3) (zl : List Int) (zp : Int) (z6 : Int) (zd : Int) (zh : List Zr) (z1 : Int) (z2 : Int) : Option (Z3 × Int × Int × Int × (List Zr) × Int × Int) :=
 (Z48 zl zp z6 zd zh z1 z2).bind fun r1 =>
 (lapp x3 ([r1.1] : List Z3)).bind fun a2 =>
 Z3k a2 zl r1.2.1 r1.2.2.1 r1.2.2.2.1 r1.2.2.2.2.1 r1.2.2.2.2.2.1 r1.2.2.2.2.2.2
theorem Z9x (x3 : List Z3) (zl : List Int) (zp : Int) (z6 : Int) (zd : Int) (zh : List Zr) (z1 : Int) (z2 : Int) (b1 : Z3) (ox3 : Own) (zn : Own) (zb : Own) (zB : Own) (zy : Own) (hox3 : okApp ox3 = true) (zu : okApp zb = true) (zQ : okApp zB = true) (zJ : okApp zy = true) : Sim (Z2g zl zn) (Z58 x3 zl zp z6 zd zh z1 z2) (Zdq 1 (.ptr 0 0) (.ptr 1 0) (.p (.lst ox3 (x3.map ZK))) [(Zi (Zk.mk zl zp z6 zd zh (Zj.mk z1 z2)) zn zb), (Zq b1 zB zy)]) := by
 unfold Z58
 refine zf (Zgh ..) ?_
 refine ze ?_
 refine zi fun r1 hr1 => ?_
 obtain ⟨qr1, er1, or1_0_4, exr1, hor1_0_4, rfl⟩ := Z81 (zl) (zp) (z6) (zd) (zh) (z1) (z2) zn zb zu r1 hr1
 refine zc [0] (.p (.agg (ZD r1.1 .sh .sh))) [(Zi (Zk.mk zl r1.2.1 r1.2.2.1 r1.2.2.2.1 r1.2.2.2.2.1 (Zj.mk r1.2.2.2.2.2.1 r1.2.2.2.2.2.2)) zn or1_0_4), (Zq b1 zB zy)] er1 ?_
 refine zo (.p (.lst .ex (([r1.1] : List Z3).map ZK))) ?_ (Eq.trans (b := some (.p (.lst .ex [.agg (Z2m r1.1)]))) (by kernel_rfl) (by simp only [List.map_cons, List.map_nil, Z2V]))
 refine zi fun a2 ha2 => ?_
 refine zo (.p (.lst .un (a2.map ZK))) ?_ (Eq.trans (by kernel_rfl) <| xapp_of (n := 7) (o := ox3) (o' := .ex) (e := ZK) (ys := ([r1.1] : List Z3)) Zbd (by decide) hox3 ha2)
 exact zk (Z6T (a2) (zl) (r1.2.1) (r1.2.2.1) (r1.2.2.2.1) (r1.2.2.2.2.1) (r1.2.2.2.2.2.1) (r1.2.2.2.2.2.2) (b1) .un zn or1_0_4 zB zy rfl hor1_0_4 zQ zJ)
noncomputable def Z43 (x3 : List Z3) (zp : Int) (z6 : Int) (zd : Int) (zh : List Zr) (z1 : Int) (z2 : Int) : Option (Z3 × Int × Int × Int × (List Zr) × Int × Int) :=
 (Z65 3 x3).bind fun r1 =>
 some (r1, zp, z6, zd, zh, z1, z2)
theorem Z9s (x3 : List Z3) (zl : List Int) (zp : Int) (z6 : Int) (zd : Int) (zh : List Zr) (z1 : Int) (z2 : Int) (b1 : Z3) (ox3 : Own) (zn : Own) (zb : Own) (zB : Own) (zy : Own) (hox3 : okApp ox3 = true) (zu : okApp zb = true) (zQ : okApp zB = true) (zJ : okApp zy = true) : Sim (Z2g zl zn) (Z43 x3 zp z6 zd zh z1 z2) (Ze8 1 (.ptr 1 0) (.p (.lst ox3 (x3.map ZK))) [(Zi (Zk.mk zl zp z6 zd zh (Zj.mk z1 z2)) zn zb), (Zq b1 zB zy)]) := by
 unfold Z43
 refine zf (ZfX ..) ?_
 refine ze ?_
 refine zi fun r1 hr1 => ?_
 obtain ⟨qr1, er1, exr1, rfl⟩ := Z9l (3) (x3) .sh r1 hr1
 refine zc [] (.p (.agg (ZD r1 .sh .sh))) [(Zi (Zk.mk zl zp z6 zd zh (Zj.mk z1 z2)) zn zb), (Zq b1 zB zy)] er1 ?_
 refine zt [(Zi (Zk.mk zl zp z6 zd zh (Zj.mk z1 z2)) zn zb), (Zq r1 .sh .sh)] ?_
 exact zr ((.p (.agg (ZD r1 .sh .sh))), [(Zi (Zk.mk zl zp z6 zd zh (Zj.mk z1 z2)) zn zb), (Zq r1 .sh .sh)]) ⟨zb, _, zu, rfl⟩
noncomputable def Z3i (x3 : List Z3) (zl : List Int) (zp : Int) (z6 : Int) (zd : Int) (zh : List Zr) (z1 : Int) (z2 : Int) : Option (Z3 × Int × Int × Int × (List Zr) × Int × Int) :=
 (Z13 ((ByteArray.mk #[124])) zl zp).bind fun r1 =>
 if (r1.1) = true then
 (Z58 x3 zl r1.2 z6 zd zh z1 z2)
 else
 (Z43 x3 r1.2 z6 zd zh z1 z2)
theorem Z9v (x3 : List Z3) (zl : List Int) (zp : Int) (z6 : Int) (zd : Int) (zh : List Zr) (z1 : Int) (z2 : Int) (b1 : Z3) (ox3 : Own) (zn : Own) (zb : Own) (zB : Own) (zy : Own) (hox3 : okApp ox3 = true) (zu : okApp zb = true) (zQ : okApp zB = true) (zJ : okApp zy = true) : Sim (Z2g zl zn) (Z3i x3 zl zp z6 zd zh z1 z2) (Zb4 1 (.ptr 0 0) (.ptr 1 0) (.p (.lst ox3 (x3.map ZK))) [(Zi (Zk.mk zl zp z6 zd zh (Zj.mk z1 z2)) zn zb), (Zq b1 zB zy)]) := by
 unfold Z3i
 refine zf (ZfI ..) ?_
 refine ze ?_
 refine zi fun r1 hr1 => ?_
 obtain ⟨qr1, er1, exr1, rfl⟩ := Z18 ((ByteArray.mk #[124])) (zl) (zp) (z6) (zd) (zh) (z1) (z2) zn zb zu r1 hr1
 refine zc [0] (bv r1.1) [(Zi (Zk.mk zl r1.2 z6 zd zh (Zj.mk z1 z2)) zn zb), (Zq b1 zB zy)] er1 ?_
 refine za (r1.1) ?_ ?_
 ·exact zk (Z9x (x3) (zl) (r1.2) (z6) (zd) (zh) (z1) (z2) (b1) ox3 zn zb zB zy hox3 zu zQ zJ)
 ·exact zk (Z9s (x3) (zl) (r1.2) (z6) (zd) (zh) (z1) (z2) (b1) ox3 zn zb zB zy hox3 zu zQ zJ)
theorem Z6L (x3 : List Z3) (zl : List Int) (zp : Int) (z6 : Int) (zd : Int) (zh : List Zr) (z1 : Int) (z2 : Int) {r} (h : Z3i x3 zl zp z6 zd zh z1 z2 = some r) : Z3k x3 zl zp z6 zd zh z1 z2 = some r :=
 pick_of (fun _ _ ha hb => RRun.uniq (Z8n _ _) (ha default .ex .ex .ex .ex .ex rfl rfl rfl rfl) (hb default .ex .ex .ex .ex .ex rfl rfl rfl rfl)) (fun b1 ox3 zn zb zB zy hox3 zu zQ zJ => Z9v x3 zl zp z6 zd zh z1 z2 b1 ox3 zn zb zB zy hox3 zu zQ zJ r h)
noncomputable def Z4Z (zl : List Int) (zp : Int) (z6 : Int) (zd : Int) (zh : List Zr) (z1 : Int) (z2 : Int) : Option (Z3 × Int × Int × Int × (List Zr) × Int × Int) :=
 Z3m (([] : List Z3)) zl zp z6 zd zh z1 z2
theorem Zar (zl : List Int) (zp : Int) (z6 : Int) (zd : Int) (zh : List Zr) (z1 : Int) (z2 : Int) (zn : Own) (zb : Own) (zu : okApp zb = true) : Sim (Z24 zl zn) (Z4Z zl zp z6 zd zh z1 z2) (EE 35 [(.ptr 0 0)] [(Zi (Zk.mk zl zp z6 zd zh (Zj.mk z1 z2)) zn zb)]) := by
 unfold Z4Z
 refine zf (Zim ..) ?_
 refine ze ?_
 refine zz (.ptr 1 0) [(Zi (Zk.mk zl zp z6 zd zh (Zj.mk z1 z2)) zn zb), (Zq (Z3.mk 0 0 0 0 0 ([] : List Z7) ([] : List Z3)) .nl .nl)] ?_
 refine ze ?_
 exact zk (Z6Q (([] : List Z3)) (zl) (zp) (z6) (zd) (zh) (z1) (z2) ((Z3.mk 0 0 0 0 0 ([] : List Z7) ([] : List Z3))) .nl zn zb .nl .nl rfl zu rfl rfl)
theorem Z80 (zl : List Int) (zp : Int) (z6 : Int) (zd : Int) (zh : List Zr) (z1 : Int) (z2 : Int) {r} (h : Z4Z zl zp z6 zd zh z1 z2 = some r) : Z48 zl zp z6 zd zh z1 z2 = some r :=
 pick_of (fun _ _ ha hb => RRun.uniq (Z8o _ _) (ha .ex .ex rfl) (hb .ex .ex rfl)) (fun zn zb zu => Zar zl zp z6 zd zh z1 z2 zn zb zu r h)
noncomputable def Z28 (x3 : List Z3) (zp : Int) (z6 : Int) (zd : Int) (zh : List Zr) (z1 : Int) (z2 : Int) : Option (Z3 × Int × Int × Int × (List Zr) × Int × Int) :=
 (Z65 2 x3).bind fun r1 =>
 some (r1, zp, z6, zd, zh, z1, z2)
theorem Z4f (x3 : List Z3) (zl : List Int) (zp : Int) (z6 : Int) (zd : Int) (zh : List Zr) (z1 : Int) (z2 : Int) (b1 : Z3) (ox3 : Own) (zn : Own) (zb : Own) (zB : Own) (zy : Own) (hox3 : okApp ox3 = true) (zu : okApp zb = true) (zQ : okApp zB = true) (zJ : okApp zy = true) : Sim (Z24 zl zn) (Z28 x3 zp z6 zd zh z1 z2) (Zbf 1 (.ptr 1 0) (.p (.lst ox3 (x3.map ZK))) [(Zi (Zk.mk zl zp z6 zd zh (Zj.mk z1 z2)) zn zb), (Zq b1 zB zy)]) := by
 unfold Z28
 refine zf (Zg8 ..) ?_
 refine ze ?_
 refine zi fun r1 hr1 => ?_
 obtain ⟨qr1, er1, exr1, rfl⟩ := Z9l (2) (x3) .sh r1 hr1
 refine zc [] (.p (.agg (ZD r1 .sh .sh))) [(Zi (Zk.mk zl zp z6 zd zh (Zj.mk z1 z2)) zn zb), (Zq b1 zB zy)] er1 ?_
 refine zt [(Zi (Zk.mk zl zp z6 zd zh (Zj.mk z1 z2)) zn zb), (Zq r1 .sh .sh)] ?_
 exact zr ((.p (.agg (ZD r1 .sh .sh))), [(Zi (Zk.mk zl zp z6 zd zh (Zj.mk z1 z2)) zn zb), (Zq r1 .sh .sh)]) ⟨zb, _, zu, rfl⟩
noncomputable def Z2O (x3 : List Z3) (zl : List Int) (zp : Int) (z6 : Int) (zd : Int) (zh : List Zr) (z1 : Int) (z2 : Int) : Option (Z3 × Int × Int × Int × (List Zr) × Int × Int) :=
 (Z5w zl zp z6 zd zh z1 z2).bind fun r1 =>
 (Z40 r1.1 r1.2.1 zl r1.2.2.1 r1.2.2.2.1 r1.2.2.2.2.1 r1.2.2.2.2.2.1 r1.2.2.2.2.2.2.1 r1.2.2.2.2.2.2.2).bind fun r2 =>
 (lapp x3 ([r2.1] : List Z3)).bind fun a3 =>
 Z3m a3 zl r2.2.1 r1.2.2.2.1 r1.2.2.2.2.1 r1.2.2.2.2.2.1 r2.2.2.1 r2.2.2.2
theorem Z5h (x3 : List Z3) (zl : List Int) (zp : Int) (z6 : Int) (zd : Int) (zh : List Zr) (z1 : Int) (z2 : Int) (b1 : Z3) (ox3 : Own) (zn : Own) (zb : Own) (zB : Own) (zy : Own) (hox3 : okApp ox3 = true) (zu : okApp zb = true) (zQ : okApp zB = true) (zJ : okApp zy = true) : Sim (Z24 zl zn) (Z2O x3 zl zp z6 zd zh z1 z2) (ZbI 1 (.ptr 0 0) (.ptr 1 0) (.p (.lst ox3 (x3.map ZK))) [(Zi (Zk.mk zl zp z6 zd zh (Zj.mk z1 z2)) zn zb), (Zq b1 zB zy)]) := by
 unfold Z2O
 refine zf (Zgj ..) ?_
 refine ze ?_
 refine zi fun r1 hr1 => ?_
 obtain ⟨qr1, er1, or1_0_4, exr1, hor1_0_4, rfl⟩ := Zau (zl) (zp) (z6) (zd) (zh) (z1) (z2) zn zb zu r1 hr1
 refine zc [0] (.p (.tup [(.agg (ZD r1.1 .sh .sh)), (.v (.bool r1.2.1))])) [(Zi (Zk.mk zl r1.2.2.1 r1.2.2.2.1 r1.2.2.2.2.1 r1.2.2.2.2.2.1 (Zj.mk r1.2.2.2.2.2.2.1 r1.2.2.2.2.2.2.2)) zn or1_0_4), (Zq b1 zB zy)] er1 ?_
 refine zo (.p (.agg (ZD r1.1 .sh .sh))) ?_
 refine zo (bv r1.2.1) ?_
 refine zz (.ptr 2 0) [(Zi (Zk.mk zl r1.2.2.1 r1.2.2.2.1 r1.2.2.2.2.1 r1.2.2.2.2.2.1 (Zj.mk r1.2.2.2.2.2.2.1 r1.2.2.2.2.2.2.2)) zn or1_0_4), (Zq b1 zB zy), (Zq (Z3.mk 0 0 0 0 0 ([] : List Z7) ([] : List Z3)) .nl .nl)] ?_
 refine zt [(Zi (Zk.mk zl r1.2.2.1 r1.2.2.2.1 r1.2.2.2.2.1 r1.2.2.2.2.2.1 (Zj.mk r1.2.2.2.2.2.2.1 r1.2.2.2.2.2.2.2)) zn or1_0_4), (Zq b1 zB zy), (Zq r1.1 .sh .sh)] ?_
 refine ze ?_
 refine zo (.p (.agg (ZD r1.1 .sh .sh))) ?_
 refine zi fun r2 hr2 => ?_
 obtain ⟨qr2, er2, exr2, rfl⟩ := Z9Y (r1.1) (r1.2.1) (zl) (r1.2.2.1) (r1.2.2.2.1) (r1.2.2.2.2.1) (r1.2.2.2.2.2.1) (r1.2.2.2.2.2.2.1) (r1.2.2.2.2.2.2.2) .sh .sh zn or1_0_4 hor1_0_4 r2 hr2
 refine zc [0] (.p (.agg (ZD r2.1 .sh .sh))) [(Zi (Zk.mk zl r2.2.1 r1.2.2.2.1 r1.2.2.2.2.1 r1.2.2.2.2.2.1 (Zj.mk r2.2.2.1 r2.2.2.2)) zn or1_0_4), (Zq b1 zB zy), (Zq r1.1 .sh .sh)] er2 ?_
 refine zo (.p (.lst .ex (([r2.1] : List Z3).map ZK))) ?_ (Eq.trans (b := some (.p (.lst .ex [.agg (Z2m r2.1)]))) (by kernel_rfl) (by simp only [List.map_cons, List.map_nil, Z2V]))
 refine zi fun a3 ha3 => ?_
 refine zo (.p (.lst .un (a3.map ZK))) ?_ (Eq.trans (by kernel_rfl) <| xapp_of (n := 7) (o := ox3) (o' := .ex) (e := ZK) (ys := ([r2.1] : List Z3)) Zbd (by decide) hox3 ha3)
 exact zk (Z6Q (a3) (zl) (r2.2.1) (r1.2.2.2.1) (r1.2.2.2.2.1) (r1.2.2.2.2.2.1) (r2.2.2.1) (r2.2.2.2) (b1) .un zn or1_0_4 zB zy rfl hor1_0_4 zQ zJ)
noncomputable def Z49 (x3 : List Z3) (zl : List Int) (zp : Int) (z6 : Int) (zd : Int) (zh : List Zr) (z1 : Int) (z2 : Int) : Option (Z3 × Int × Int × Int × (List Zr) × Int × Int) :=
 (Z1B ((Zk.mk zl zp z6 zd zh (Zj.mk z1 z2)))).bind fun r1 =>
 if ((r1 == (-1))) = true then
 (if ((r1 == (-1))) = true then
 (Z28 x3 zp z6 zd zh z1 z2)
 else
 (Z2O x3 zl zp z6 zd zh z1 z2))
 else
 (if ((r1 == 124)) = true then
 (if ((r1 == 124)) = true then
 (Z28 x3 zp z6 zd zh z1 z2)
 else
 (Z2O x3 zl zp z6 zd zh z1 z2))
 else
 (if ((r1 == 41)) = true then
 (Z28 x3 zp z6 zd zh z1 z2)
 else
 (Z2O x3 zl zp z6 zd zh z1 z2)))
theorem Z9F (x3 : List Z3) (zl : List Int) (zp : Int) (z6 : Int) (zd : Int) (zh : List Zr) (z1 : Int) (z2 : Int) (b1 : Z3) (ox3 : Own) (zn : Own) (zb : Own) (zB : Own) (zy : Own) (hox3 : okApp ox3 = true) (zu : okApp zb = true) (zQ : okApp zB = true) (zJ : okApp zy = true) : Sim (Z24 zl zn) (Z49 x3 zl zp z6 zd zh z1 z2) (Zdu 1 (.ptr 0 0) (.ptr 1 0) (.p (.lst ox3 (x3.map ZK))) [(Zi (Zk.mk zl zp z6 zd zh (Zj.mk z1 z2)) zn zb), (Zq b1 zB zy)]) := by
 unfold Z49
 refine zf (Zgw ..) ?_
 refine ze ?_
 refine zi fun r1 hr1 => ?_
 obtain ⟨qr1, er1, exr1, rfl⟩ := Z1G ((Zk.mk zl zp z6 zd zh (Zj.mk z1 z2))) zn zb zu r1 hr1
 refine zc [0] (iv r1) [(Zi (Zk.mk zl zp z6 zd zh (Zj.mk z1 z2)) zn zb), (Zq b1 zB zy)] er1 ?_
 refine ze ?_
 refine zo (bv (r1 == (-1))) ?_
 refine za ((r1 == (-1))) ?_ ?_
 ·refine za ((r1 == (-1))) ?_ ?_
  ·exact zk (Z4f (x3) (zl) (zp) (z6) (zd) (zh) (z1) (z2) (b1) ox3 zn zb zB zy hox3 zu zQ zJ)
  ·exact zk (Z5h (x3) (zl) (zp) (z6) (zd) (zh) (z1) (z2) (b1) ox3 zn zb zB zy hox3 zu zQ zJ)
 ·refine ze ?_
  refine zo (bv (r1 == 124)) ?_
  refine za ((r1 == 124)) ?_ ?_
  ·refine za ((r1 == 124)) ?_ ?_
   ·exact zk (Z4f (x3) (zl) (zp) (z6) (zd) (zh) (z1) (z2) (b1) ox3 zn zb zB zy hox3 zu zQ zJ)
   ·exact zk (Z5h (x3) (zl) (zp) (z6) (zd) (zh) (z1) (z2) (b1) ox3 zn zb zB zy hox3 zu zQ zJ)
  ·refine ze ?_
   refine zo (bv (r1 == 41)) ?_
   refine za ((r1 == 41)) ?_ ?_
   ·exact zk (Z4f (x3) (zl) (zp) (z6) (zd) (zh) (z1) (z2) (b1) ox3 zn zb zB zy hox3 zu zQ zJ)
   ·exact zk (Z5h (x3) (zl) (zp) (z6) (zd) (zh) (z1) (z2) (b1) ox3 zn zb zB zy hox3 zu zQ zJ)
noncomputable def Z45 (x3 : List Z3) (zl : List Int) (zp : Int) (z6 : Int) (zd : Int) (zh : List Zr) (z1 : Int) (z2 : Int) : Option (Z3 × Int × Int × Int × (List Zr) × Int × Int) :=
 if ((z1 == 0)) = true then
 (Z49 x3 zl zp z6 zd zh z1 z2)
 else
 (Z28 x3 zp z6 zd zh z1 z2)
theorem Z9G (x3 : List Z3) (zl : List Int) (zp : Int) (z6 : Int) (zd : Int) (zh : List Zr) (z1 : Int) (z2 : Int) (b1 : Z3) (ox3 : Own) (zn : Own) (zb : Own) (zB : Own) (zy : Own) (hox3 : okApp ox3 = true) (zu : okApp zb = true) (zQ : okApp zB = true) (zJ : okApp zy = true) : Sim (Z24 zl zn) (Z45 x3 zl zp z6 zd zh z1 z2) (ZaZ 1 (.ptr 0 0) (.ptr 1 0) (.p (.lst ox3 (x3.map ZK))) [(Zi (Zk.mk zl zp z6 zd zh (Zj.mk z1 z2)) zn zb), (Zq b1 zB zy)]) := by
 unfold Z45
 refine zf (ZfU ..) ?_
 refine ze ?_
 refine zo (.ptr 0 0) ?_
 refine zo (.ptr 0 5) ?_
 refine zo (.ptr 0 5) ?_
 refine zo (iv z1) ?_
 refine zo (bv (z1 == 0)) ?_
 refine za ((z1 == 0)) ?_ ?_
 ·exact zk (Z9F (x3) (zl) (zp) (z6) (zd) (zh) (z1) (z2) (b1) ox3 zn zb zB zy hox3 zu zQ zJ)
 ·exact zk (Z4f (x3) (zl) (zp) (z6) (zd) (zh) (z1) (z2) (b1) ox3 zn zb zB zy hox3 zu zQ zJ)
theorem Z6P (x3 : List Z3) (zl : List Int) (zp : Int) (z6 : Int) (zd : Int) (zh : List Zr) (z1 : Int) (z2 : Int) {r} (h : Z45 x3 zl zp z6 zd zh z1 z2 = some r) : Z3m x3 zl zp z6 zd zh z1 z2 = some r :=
 pick_of (fun _ _ ha hb => RRun.uniq (Z8o _ _) (ha default .ex .ex .ex .ex .ex rfl rfl rfl rfl) (hb default .ex .ex .ex .ex .ex rfl rfl rfl rfl)) (fun b1 ox3 zn zb zB zy hox3 zu zQ zJ => Z9G x3 zl zp z6 zd zh z1 z2 b1 ox3 zn zb zB zy hox3 zu zQ zJ r h)
noncomputable def Z4O (b0 : Zk) : Option (Int) :=
 (Z7C b0.b b0.at_).bind fun r1 =>
 some (r1.1)
theorem Z9h (b0 : Zk) (zn : Own) (zb : Own) (zu : okApp zb = true) : Sim (Z3O b0 zn zb) (Z4O b0) (Zee 1 (.ptr 0 0) [(Zi b0 zn zb)]) := by
 unfold Z4O
 refine zf (Zfy ..) ?_
 refine ze ?_
 refine zo (.ptr 0 0) ?_
 refine zo (.ptr 0 0) ?_
 refine zo (.p (.lst (shrO zn) (b0.b.map (eI .u8)))) ?_
 refine zo (.ptr 0 0) ?_
 refine zo (.ptr 0 1) ?_
 refine zo (iv b0.at_) ?_
 refine zi fun r1 hr1 => ?_
 obtain ⟨qr1, er1, exr1, rfl⟩ := Zb0 (b0.b) (b0.at_) .sh r1 hr1
 refine zc [] (.p (.tup [(.v (.int .i64 r1.1)), (.v (.int .i64 r1.2))])) [(Zi b0 zn zb)] er1 ?_
 refine zo (iv r1.1) ?_
 refine zo (iv r1.2) ?_
 refine ze ?_
 exact zr ((iv r1.1), [(Zi b0 zn zb)]) ⟨_, rfl⟩
noncomputable def Z5z (b0 : Zk) : Option (Int) :=
 if ((decide ((b0.b.length : Int) ≤ b0.at_))) = true then
 (some ((-1)))
 else
 (Z4O b0)
theorem Za7 (b0 : Zk) (zn : Own) (zb : Own) (zu : okApp zb = true) : Sim (Z3O b0 zn zb) (Z5z b0) (EE 41 [(.ptr 0 0)] [(Zi b0 zn zb)]) := by
 unfold Z5z
 refine zf (ZhY ..) ?_
 refine ze ?_
 refine ze ?_
 refine zo (.ptr 0 0) ?_
 refine zo (.ptr 0 1) ?_
 refine zo (iv b0.at_) ?_
 refine zo (.ptr 0 0) ?_
 refine zo (.ptr 0 0) ?_
 refine zo (.p (.lst (shrO zn) (b0.b.map (eI .u8)))) ?_
 refine zo (iv (b0.b.length : Int)) ?_ (Eq.trans (by kernel_rfl) (xlen_of (P := PP) (t := 40) (d := 5) (by kernel_rfl) (eI .u8) (shrO zn) b0.b))
 refine zo (bv (decide ((b0.b.length : Int) ≤ b0.at_))) ?_
 refine za ((decide ((b0.b.length : Int) ≤ b0.at_))) ?_ ?_
 ·refine ze ?_
  exact zr ((iv (-1)), [(Zi b0 zn zb)]) ⟨_, rfl⟩
 ·exact zk (Z9h (b0) zn zb zu)
theorem ZaE (b0 : Zk) {r} (h : Z5z b0 = some r) : Z1B b0 = some r :=
 pick_of (fun _ _ ha hb => RRun.uniq (ZaR _ _ _) (ha .ex .ex rfl) (hb .ex .ex rfl)) (fun zn zb zu => Za7 b0 zn zb zu r h)
end Go.Proofs.YtadodmjdkphddaaDoor.N2
end
section
set_option linter.unusedSimpArgs false
set_option linter.unusedVariables false
namespace Go.Proofs.YtadodmjdkphddaaDoor.N2
open Go Go.Abs
set_option linter.unusedVariables false
set_option maxRecDepth 100000
noncomputable def Z7b  : Option (Int × Int) :=
 some (0, 0)
theorem Z93  : Sim (Z4W) (Z7b) (Zco 0  []) := by
 unfold Z7b
 refine zf (Zg9 ..) ?_
 refine ze ?_
 exact zr ((.p (.tup [(.v (.int .i64 0)), (.v (.int .i64 0))])), []) ⟨_, rfl⟩
noncomputable def Z7g (x0 : List Int) (x1 : Int) : Option (Int × Int) :=
 (lget x0 x1).bind fun a1 =>
 some ((IntKind.i64.wrap (1114112 + (IntKind.i64.wrap a1))), 1)
theorem ZbG (x0 : List Int) (x1 : Int) (ox0 : Own) : Sim (Z4W) (Z7g x0 x1) (Ze0 0 (.p (.lst ox0 (x0.map (eI .u8)))) (iv x1) []) := by
 unfold Z7g
 refine zf (Zfu ..) ?_
 refine ze ?_
 refine zi fun a1 ha1 => ?_
 refine zo (.cptr [(.v (.int .u8 a1))]) ?_ (Eq.trans (by kernel_rfl) (xidx_of (o := (shrO ox0)) (k := .i64) (n := 1) (e := (eI .u8)) (cs := (fun a => [(eI .u8) a])) (fun _ => rfl) (fun _ => rfl) (by decide) ha1))
 refine zo (.p (.v (.int .u8 a1))) ?_
 refine zo (iv (IntKind.i64.wrap a1)) ?_
 refine zo (iv (IntKind.i64.wrap (1114112 + (IntKind.i64.wrap a1)))) ?_
 exact zr ((.p (.tup [(.v (.int .i64 (IntKind.i64.wrap (1114112 + (IntKind.i64.wrap a1))))), (.v (.int .i64 1))])), []) ⟨_, rfl⟩
noncomputable def Z5p (x6 : Int) (x7 : Int) : Option (Int × Int) :=
 some ((IntKind.i64.wrap x6), x7)
theorem Z99 (x6 : Int) (x7 : Int) : Sim (Z4W) (Z5p x6 x7) (ZcK 0 (.p (.v (.int .i32 x6))) (iv x7) []) := by
 unfold Z5p
 refine zf (ZgA ..) ?_
 refine ze ?_
 refine zo (iv (IntKind.i64.wrap x6)) ?_
 exact zr ((.p (.tup [(.v (.int .i64 (IntKind.i64.wrap x6))), (.v (.int .i64 x7))])), []) ⟨_, rfl⟩
noncomputable def Z75 (x0 : List Int) (x1 : Int) : Option (Int × Int) :=
 (lsl x0 x1 (x0.length : Int)).bind fun a1 =>
 (Z5m a1).bind fun r2 =>
 if ((r2.1 == 65533)) = true then
 (if ((r2.2 == 1)) = true then
 (Z7g x0 x1)
 else
 (Z5p r2.1 r2.2))
 else
 (Z5p r2.1 r2.2)
theorem ZbO (x0 : List Int) (x1 : Int) (ox0 : Own) : Sim (Z4W) (Z75 x0 x1) (ZdF 0 (.p (.lst ox0 (x0.map (eI .u8)))) (iv x1) []) := by
 unfold Z75
 refine zf (ZfP ..) ?_
 refine ze ?_
 refine zi fun a1 ha1 => ?_
 refine zo (.p (.lst (slO (shrO ox0)) (a1.map (eI .u8)))) ?_ (Eq.trans (by kernel_rfl) <| xsl_of (n := 1) (o := (shrO ox0)) (lo := (some (iv x1))) (hi := none) (e := (eI .u8)) (fun _ => rfl) (by decide) (by kernel_rfl) (by kernel_rfl) ha1)
 refine zi fun r2 hr2 => ?_
 obtain ⟨qr2, er2, exr2, rfl⟩ := Z8N (a1) .sh r2 hr2
 refine zc [] (.p (.tup [(.v (.int .i32 r2.1)), (.v (.int .i64 r2.2))])) [] er2 ?_
 refine zo (.p (.v (.int .i32 r2.1))) ?_
 refine zo (iv r2.2) ?_
 refine ze ?_
 refine zo (bv (r2.1 == 65533)) ?_
 refine za ((r2.1 == 65533)) ?_ ?_
 ·refine zo (bv (r2.2 == 1)) ?_
  refine za ((r2.2 == 1)) ?_ ?_
  ·exact zk (ZbG (x0) (x1) ox0)
  ·exact zk (Z99 (r2.1) (r2.2))
 ·exact zk (Z99 (r2.1) (r2.2))
noncomputable def Z8W (x0 : List Int) (x1 : Int) : Option (Int × Int) :=
 if ((decide (x1 < 0))) = true then
 (Z7b)
 else
 (if ((decide ((x0.length : Int) ≤ x1))) = true then
 (Z7b)
 else
 (Z75 x0 x1))
theorem ZcH (x0 : List Int) (x1 : Int) (ox0 : Own) : Sim (Z4W) (Z8W x0 x1) (EE 45 [(.p (.lst ox0 (x0.map (eI .u8)))), (iv x1)] []) := by
 unfold Z8W
 refine zf (ZhO ..) ?_
 refine ze ?_
 refine ze ?_
 refine zo (bv (decide (x1 < 0))) ?_
 refine za ((decide (x1 < 0))) ?_ ?_
 ·exact zk (Z93 )
 ·refine zo (iv (x0.length : Int)) ?_ (Eq.trans (by kernel_rfl) (xlen_of (P := PP) (t := 40) (d := 5) (by kernel_rfl) (eI .u8) (shrO ox0) x0))
  refine zo (bv (decide ((x0.length : Int) ≤ x1))) ?_
  refine za ((decide ((x0.length : Int) ≤ x1))) ?_ ?_
  ·exact zk (Z93 )
  ·exact zk (ZbO (x0) (x1) ox0)
theorem ZcP (x0 : List Int) (x1 : Int) {r} (h : Z8W x0 x1 = some r) : Z7C x0 x1 = some r :=
 pick_of (fun _ _ ha hb => RRun.uniq (Zdc) (ha .ex) (hb .ex)) (fun ox0 => ZcH x0 x1 ox0 r h)
noncomputable def Z7q (x0 : Int) (x1 : List Z3) : Option (Z3) :=
 some ((Z3.mk x0 0 0 0 0 ([] : List Z7) x1))
theorem Zbh (x0 : Int) (x1 : List Z3) (b0 : Z3) (ox1 : Own) (z2d : Own) (z1J : Own) (zgT : okApp z2d = true) (zgd : okApp z1J = true) : Sim (Z5o) (Z7q x0 x1) (ZdU 0 (iv x0) (.p (.lst ox1 (x1.map ZK))) (.ptr 0 0) [(Zq b0 z2d z1J)]) := by
 unfold Z7q
 refine zf (ZgC ..) ?_
 refine ze ?_
 refine zo (.p (.agg (ZD (Z3.mk x0 0 0 0 0 ([] : List Z7) x1) .nl (shrO (shrO ox1))))) ?_
 refine zt [(Zq (Z3.mk x0 0 0 0 0 ([] : List Z7) x1) .nl (shrO (shrO ox1)))] ?_
 exact zr ((.p (.agg (ZD (Z3.mk x0 0 0 0 0 ([] : List Z7) x1) .sh .sh))), [(Zq (Z3.mk x0 0 0 0 0 ([] : List Z7) x1) .nl (shrO (shrO ox1)))]) ⟨_, rfl⟩
noncomputable def Z78 (x0 : Int) (x1 : List Z3) : Option (Z3) :=
 if (((x1.length : Int) == 0)) = true then
 (some ((Z3.mk 0 0 0 0 0 ([] : List Z7) ([] : List Z3))))
 else
 (if (((x1.length : Int) == 1)) = true then
 ((lget x1 0).bind fun a1 =>
 some (a1))
 else
 (Z7q x0 x1))
theorem ZbK (x0 : Int) (x1 : List Z3) (ox1 : Own) : Sim (Z5o) (Z78 x0 x1) (EE 36 [(iv x0), (.p (.lst ox1 (x1.map ZK)))] []) := by
 unfold Z78
 refine zf (Zii ..) ?_
 refine ze ?_
 refine zz (.ptr 0 0) [(Zq (Z3.mk 0 0 0 0 0 ([] : List Z7) ([] : List Z3)) .nl .nl)] ?_
 refine ze ?_
 refine zo (iv (x1.length : Int)) ?_ (Eq.trans (by kernel_rfl) (xlen_of (P := PP) (t := 25) (d := 27) (by kernel_rfl) ZK (shrO ox1) x1))
 refine ze ?_
 refine zo (bv ((x1.length : Int) == 0)) ?_
 refine za (((x1.length : Int) == 0)) ?_ ?_
 ·refine ze ?_
  refine zo (.p (.agg (ZD (Z3.mk 0 0 0 0 0 ([] : List Z7) ([] : List Z3)) .nl .nl))) ?_
  refine zt [(Zq (Z3.mk 0 0 0 0 0 ([] : List Z7) ([] : List Z3)) .nl .nl)] ?_
  exact zr ((.p (.agg (ZD (Z3.mk 0 0 0 0 0 ([] : List Z7) ([] : List Z3)) .sh .sh))), [(Zq (Z3.mk 0 0 0 0 0 ([] : List Z7) ([] : List Z3)) .nl .nl)]) ⟨_, rfl⟩
 ·refine ze ?_
  refine zo (bv ((x1.length : Int) == 1)) ?_
  refine za (((x1.length : Int) == 1)) ?_ ?_
  ·refine ze ?_
   refine zi fun a1 ha1 => ?_
   refine zo (.cptr (ZD a1 .sh .sh)) ?_ (Eq.trans (by kernel_rfl) (xidx_of (o := (shrO ox1)) (k := .i64) (n := 7) (e := ZK) (cs := Z2m) Z5Z (fun _ => rfl) (by decide) ha1))
   refine zo (.p (.agg (ZD a1 .sh .sh))) ?_
   refine zt [(Zq a1 .sh .sh)] ?_
   exact zr ((.p (.agg (ZD a1 .sh .sh))), [(Zq a1 .sh .sh)]) ⟨_, rfl⟩
  ·exact zk (Zbh (x0) (x1) ((Z3.mk 0 0 0 0 0 ([] : List Z7) ([] : List Z3))) ox1 .nl .nl rfl rfl)
theorem Zc9 (x0 : Int) (x1 : List Z3) {r} (h : Z78 x0 x1 = some r) : Z65 x0 x1 = some r :=
 pick_of (fun _ _ ha hb => RRun.uniq (Zci) (ha .ex) (hb .ex)) (fun ox1 => ZbK x0 x1 ox1 r h)
noncomputable def Z1d (zp : Int) (z6 : Int) (zd : Int) (zh : List Zr) (z1 : Int) (z2 : Int) : Option (Z3 × Bool × Int × Int × Int × (List Zr) × Int × Int) :=
 some ((Z3.mk 0 0 0 0 0 ([] : List Z7) ([] : List Z3)), true, zp, z6, zd, zh, z1, z2)
theorem Z1e (zl : List Int) (zp : Int) (z6 : Int) (zd : Int) (zh : List Zr) (z1 : Int) (z2 : Int) (b1 : Z3) (zn : Own) (zb : Own) (zB : Own) (zy : Own) (zu : okApp zb = true) (zQ : okApp zB = true) (zJ : okApp zy = true) : Sim (Z3N zl zn) (Z1d zp z6 zd zh z1 z2) (Z56 1 (.ptr 1 0) [(Zi (Zk.mk zl zp z6 zd zh (Zj.mk z1 z2)) zn zb), (Zq b1 zB zy)]) := by
 unfold Z1d
 refine zf (Zf6 ..) ?_
 refine ze ?_
 refine zo (.p (.agg (ZD (Z3.mk 0 0 0 0 0 ([] : List Z7) ([] : List Z3)) .nl .nl))) ?_
 refine zt [(Zi (Zk.mk zl zp z6 zd zh (Zj.mk z1 z2)) zn zb), (Zq (Z3.mk 0 0 0 0 0 ([] : List Z7) ([] : List Z3)) .nl .nl)] ?_
 exact zr ((.p (.tup [(.agg (ZD (Z3.mk 0 0 0 0 0 ([] : List Z7) ([] : List Z3)) .sh .sh)), (.v (.bool true))])), [(Zi (Zk.mk zl zp z6 zd zh (Zj.mk z1 z2)) zn zb), (Zq (Z3.mk 0 0 0 0 0 ([] : List Z7) ([] : List Z3)) .nl .nl)]) ⟨zb, _, zu, rfl⟩
noncomputable def Z4C (zl : List Int) (zp : Int) (z6 : Int) (zd : Int) (zh : List Zr) (z1 : Int) (z2 : Int) : Option (Z3 × Bool × Int × Int × Int × (List Zr) × Int × Int) :=
 (Z1X zl zp).bind fun r1 =>
 if ((r1.1 == 46)) = true then
 ((Z1v 10).bind fun r2 =>
 (Z2w true (([r2] : List Z7))).bind fun r3 =>
 some (r3, true, r1.2, z6, zd, zh, z1, z2))
 else
 (if ((r1.1 == 94)) = true then
 (some ((Z3.mk 9 0 0 0 0 ([] : List Z7) ([] : List Z3)), false, r1.2, z6, zd, zh, z1, z2))
 else
 (if ((r1.1 == 36)) = true then
 (some ((Z3.mk 9 0 0 0 1 ([] : List Z7) ([] : List Z3)), false, r1.2, z6, zd, zh, z1, z2))
 else
 (if ((r1.1 == 92)) = true then
 ((Z2R zp zl r1.2 z6 zd zh z1 z2).bind fun r4 =>
 some (r4.1, (r4.1.Kind != 9), r4.2.1, z6, zd, r4.2.2.1, r4.2.2.2.1, r4.2.2.2.2))
 else
 (if ((r1.1 == 91)) = true then
 ((Z5l zp zl r1.2 z6 zd zh z1 z2).bind fun r5 =>
 some (r5.1, true, r5.2.1, z6, zd, zh, r5.2.2.1, r5.2.2.2))
 else
 (if ((r1.1 == 40)) = true then
 ((Z2U zp zl r1.2 z6 zd zh z1 z2).bind fun r6 =>
 some (r6.1, r6.2.1, r6.2.2.1, r6.2.2.2.1, r6.2.2.2.2.1, r6.2.2.2.2.2.1, r6.2.2.2.2.2.2.1, r6.2.2.2.2.2.2.2))
 else
 (if ((r1.1 == 42)) = true then
 (if ((r1.1 == 42)) = true then
 ((ZT 23 zp zl z1 z2).bind fun r7 =>
 Z1d r7.1 z6 zd zh r7.2.1 r7.2.2)
 else
 (if ((r1.1 == 93)) = true then
 (if ((r1.1 == 93)) = true then
 ((ZT 20 zp zl z1 z2).bind fun r8 =>
 Z1d r8.1 z6 zd zh r8.2.1 r8.2.2)
 else
 ((Z1v r1.1).bind fun r9 =>
 (Z2w false (([r9] : List Z7))).bind fun r10 =>
 some (r10, true, r1.2, z6, zd, zh, z1, z2)))
 else
 (if ((r1.1 == 125)) = true then
 ((ZT 20 zp zl z1 z2).bind fun r11 =>
 Z1d r11.1 z6 zd zh r11.2.1 r11.2.2)
 else
 ((Z1v r1.1).bind fun r12 =>
 (Z2w false (([r12] : List Z7))).bind fun r13 =>
 some (r13, true, r1.2, z6, zd, zh, z1, z2)))))
 else
 (if ((r1.1 == 43)) = true then
 (if ((r1.1 == 43)) = true then
 ((ZT 23 zp zl z1 z2).bind fun r14 =>
 Z1d r14.1 z6 zd zh r14.2.1 r14.2.2)
 else
 (if ((r1.1 == 93)) = true then
 (if ((r1.1 == 93)) = true then
 ((ZT 20 zp zl z1 z2).bind fun r15 =>
 Z1d r15.1 z6 zd zh r15.2.1 r15.2.2)
 else
 ((Z1v r1.1).bind fun r16 =>
 (Z2w false (([r16] : List Z7))).bind fun r17 =>
 some (r17, true, r1.2, z6, zd, zh, z1, z2)))
 else
 (if ((r1.1 == 125)) = true then
 ((ZT 20 zp zl z1 z2).bind fun r18 =>
 Z1d r18.1 z6 zd zh r18.2.1 r18.2.2)
 else
 ((Z1v r1.1).bind fun r19 =>
 (Z2w false (([r19] : List Z7))).bind fun r20 =>
 some (r20, true, r1.2, z6, zd, zh, z1, z2)))))
 else
 (if ((r1.1 == 63)) = true then
 (if ((r1.1 == 63)) = true then
 ((ZT 23 zp zl z1 z2).bind fun r21 =>
 Z1d r21.1 z6 zd zh r21.2.1 r21.2.2)
 else
 (if ((r1.1 == 93)) = true then
 (if ((r1.1 == 93)) = true then
 ((ZT 20 zp zl z1 z2).bind fun r22 =>
 Z1d r22.1 z6 zd zh r22.2.1 r22.2.2)
 else
 ((Z1v r1.1).bind fun r23 =>
 (Z2w false (([r23] : List Z7))).bind fun r24 =>
 some (r24, true, r1.2, z6, zd, zh, z1, z2)))
 else
 (if ((r1.1 == 125)) = true then
 ((ZT 20 zp zl z1 z2).bind fun r25 =>
 Z1d r25.1 z6 zd zh r25.2.1 r25.2.2)
 else
 ((Z1v r1.1).bind fun r26 =>
 (Z2w false (([r26] : List Z7))).bind fun r27 =>
 some (r27, true, r1.2, z6, zd, zh, z1, z2)))))
 else
 (if ((r1.1 == 123)) = true then
 ((ZT 23 zp zl z1 z2).bind fun r28 =>
 Z1d r28.1 z6 zd zh r28.2.1 r28.2.2)
 else
 (if ((r1.1 == 93)) = true then
 (if ((r1.1 == 93)) = true then
 ((ZT 20 zp zl z1 z2).bind fun r29 =>
 Z1d r29.1 z6 zd zh r29.2.1 r29.2.2)
 else
 ((Z1v r1.1).bind fun r30 =>
 (Z2w false (([r30] : List Z7))).bind fun r31 =>
 some (r31, true, r1.2, z6, zd, zh, z1, z2)))
 else
 (if ((r1.1 == 125)) = true then
 ((ZT 20 zp zl z1 z2).bind fun r32 =>
 Z1d r32.1 z6 zd zh r32.2.1 r32.2.2)
 else
 ((Z1v r1.1).bind fun r33 =>
 (Z2w false (([r33] : List Z7))).bind fun r34 =>
 some (r34, true, r1.2, z6, zd, zh, z1, z2)))))))))))))
theorem Zaa (zl : List Int) (zp : Int) (z6 : Int) (zd : Int) (zh : List Zr) (z1 : Int) (z2 : Int) (zn : Own) (zb : Own) (zu : okApp zb = true) : Sim (Z3N zl zn) (Z4C zl zp z6 zd zh z1 z2) (EE 42 [(.ptr 0 0)] [(Zi (Zk.mk zl zp z6 zd zh (Zj.mk z1 z2)) zn zb)]) := by
 unfold Z4C
 refine zf (Zhs ..) ?_
 refine ze ?_
 refine zz (.ptr 1 0) [(Zi (Zk.mk zl zp z6 zd zh (Zj.mk z1 z2)) zn zb), (Zq (Z3.mk 0 0 0 0 0 ([] : List Z7) ([] : List Z3)) .nl .nl)] ?_
 refine ze ?_
 refine zo (.ptr 0 0) ?_
 refine zo (.ptr 0 1) ?_
 refine zo (iv zp) ?_
 refine ze ?_
 refine zi fun r1 hr1 => ?_
 obtain ⟨qr1, er1, exr1, rfl⟩ := Z2i (zl) (zp) (z6) (zd) (zh) (z1) (z2) zn zb zu r1 hr1
 refine zc [0] (iv r1.1) [(Zi (Zk.mk zl r1.2 z6 zd zh (Zj.mk z1 z2)) zn zb), (Zq (Z3.mk 0 0 0 0 0 ([] : List Z7) ([] : List Z3)) .nl .nl)] er1 ?_
 refine ze ?_
 refine ze ?_
 refine zo (bv (r1.1 == 46)) ?_
 refine za ((r1.1 == 46)) ?_ ?_
 ·refine ze ?_
  refine zi fun r2 hr2 => ?_
  obtain ⟨qr2, er2, exr2, rfl⟩ := Z1o (10) r2 hr2
  refine zc [] (.p (.agg (ZF r2))) [(Zi (Zk.mk zl r1.2 z6 zd zh (Zj.mk z1 z2)) zn zb), (Zq (Z3.mk 0 0 0 0 0 ([] : List Z7) ([] : List Z3)) .nl .nl)] er2 ?_
  refine zo (.p (.lst .ex (([r2] : List Z7).map Zs))) ?_
  refine zi fun r3 hr3 => ?_
  obtain ⟨qr3, er3, exr3, rfl⟩ := Z2E (true) (([r2] : List Z7)) .sh r3 hr3
  refine zc [] (.p (.agg (ZD r3 .sh .sh))) [(Zi (Zk.mk zl r1.2 z6 zd zh (Zj.mk z1 z2)) zn zb), (Zq (Z3.mk 0 0 0 0 0 ([] : List Z7) ([] : List Z3)) .nl .nl)] er3 ?_
  refine zt [(Zi (Zk.mk zl r1.2 z6 zd zh (Zj.mk z1 z2)) zn zb), (Zq r3 .sh .sh)] ?_
  exact zr ((.p (.tup [(.agg (ZD r3 .sh .sh)), (.v (.bool true))])), [(Zi (Zk.mk zl r1.2 z6 zd zh (Zj.mk z1 z2)) zn zb), (Zq r3 .sh .sh)]) ⟨zb, _, zu, rfl⟩
 ·refine ze ?_
  refine zo (bv (r1.1 == 94)) ?_
  refine za ((r1.1 == 94)) ?_ ?_
  ·refine ze ?_
   refine zo (.p (.agg (ZD (Z3.mk 9 0 0 0 0 ([] : List Z7) ([] : List Z3)) .nl .nl))) ?_
   refine zt [(Zi (Zk.mk zl r1.2 z6 zd zh (Zj.mk z1 z2)) zn zb), (Zq (Z3.mk 9 0 0 0 0 ([] : List Z7) ([] : List Z3)) .nl .nl)] ?_
   exact zr ((.p (.tup [(.agg (ZD (Z3.mk 9 0 0 0 0 ([] : List Z7) ([] : List Z3)) .sh .sh)), (.v (.bool false))])), [(Zi (Zk.mk zl r1.2 z6 zd zh (Zj.mk z1 z2)) zn zb), (Zq (Z3.mk 9 0 0 0 0 ([] : List Z7) ([] : List Z3)) .nl .nl)]) ⟨zb, _, zu, rfl⟩
  ·refine ze ?_
   refine zo (bv (r1.1 == 36)) ?_
   refine za ((r1.1 == 36)) ?_ ?_
   ·refine ze ?_
    refine zo (.p (.agg (ZD (Z3.mk 9 0 0 0 1 ([] : List Z7) ([] : List Z3)) .nl .nl))) ?_
    refine zt [(Zi (Zk.mk zl r1.2 z6 zd zh (Zj.mk z1 z2)) zn zb), (Zq (Z3.mk 9 0 0 0 1 ([] : List Z7) ([] : List Z3)) .nl .nl)] ?_
    exact zr ((.p (.tup [(.agg (ZD (Z3.mk 9 0 0 0 1 ([] : List Z7) ([] : List Z3)) .sh .sh)), (.v (.bool false))])), [(Zi (Zk.mk zl r1.2 z6 zd zh (Zj.mk z1 z2)) zn zb), (Zq (Z3.mk 9 0 0 0 1 ([] : List Z7) ([] : List Z3)) .nl .nl)]) ⟨zb, _, zu, rfl⟩
   ·refine ze ?_
    refine zo (bv (r1.1 == 92)) ?_
    refine za ((r1.1 == 92)) ?_ ?_
    ·refine ze ?_
     refine zi fun r4 hr4 => ?_
     obtain ⟨qr4, er4, or4_0_4, exr4, hor4_0_4, rfl⟩ := Z9R (zp) (zl) (r1.2) (z6) (zd) (zh) (z1) (z2) zn zb zu r4 hr4
     refine zc [0] (.p (.agg (ZD r4.1 .sh .sh))) [(Zi (Zk.mk zl r4.2.1 z6 zd r4.2.2.1 (Zj.mk r4.2.2.2.1 r4.2.2.2.2)) zn or4_0_4), (Zq (Z3.mk 0 0 0 0 0 ([] : List Z7) ([] : List Z3)) .nl .nl)] er4 ?_
     refine zz (.ptr 2 0) [(Zi (Zk.mk zl r4.2.1 z6 zd r4.2.2.1 (Zj.mk r4.2.2.2.1 r4.2.2.2.2)) zn or4_0_4), (Zq (Z3.mk 0 0 0 0 0 ([] : List Z7) ([] : List Z3)) .nl .nl), (Zq (Z3.mk 0 0 0 0 0 ([] : List Z7) ([] : List Z3)) .nl .nl)] ?_
     refine zt [(Zi (Zk.mk zl r4.2.1 z6 zd r4.2.2.1 (Zj.mk r4.2.2.2.1 r4.2.2.2.2)) zn or4_0_4), (Zq (Z3.mk 0 0 0 0 0 ([] : List Z7) ([] : List Z3)) .nl .nl), (Zq r4.1 .sh .sh)] ?_
     refine ze ?_
     refine zo (.p (.agg (ZD r4.1 .sh .sh))) ?_
     refine zo (.ptr 2 0) ?_
     refine zo (iv r4.1.Kind) ?_
     refine zo (bv (r4.1.Kind != 9)) ?_
     refine zt [(Zi (Zk.mk zl r4.2.1 z6 zd r4.2.2.1 (Zj.mk r4.2.2.2.1 r4.2.2.2.2)) zn or4_0_4), (Zq r4.1 .sh .sh), (Zq r4.1 .sh .sh)] ?_
     refine zg ?_
     exact zr ((.p (.tup [(.agg (ZD r4.1 .sh .sh)), (.v (.bool (r4.1.Kind != 9)))])), [(Zi (Zk.mk zl r4.2.1 z6 zd r4.2.2.1 (Zj.mk r4.2.2.2.1 r4.2.2.2.2)) zn or4_0_4), (Zq r4.1 .sh .sh), (Zq r4.1 .sh .sh)]) ⟨or4_0_4, _, hor4_0_4, rfl⟩
    ·refine ze ?_
     refine zo (bv (r1.1 == 91)) ?_
     refine za ((r1.1 == 91)) ?_ ?_
     ·refine ze ?_
      refine zi fun r5 hr5 => ?_
      obtain ⟨qr5, er5, exr5, rfl⟩ := Za5 (zp) (zl) (r1.2) (z6) (zd) (zh) (z1) (z2) zn zb zu r5 hr5
      refine zc [0] (.p (.agg (ZD r5.1 .sh .sh))) [(Zi (Zk.mk zl r5.2.1 z6 zd zh (Zj.mk r5.2.2.1 r5.2.2.2)) zn zb), (Zq (Z3.mk 0 0 0 0 0 ([] : List Z7) ([] : List Z3)) .nl .nl)] er5 ?_
      refine zt [(Zi (Zk.mk zl r5.2.1 z6 zd zh (Zj.mk r5.2.2.1 r5.2.2.2)) zn zb), (Zq r5.1 .sh .sh)] ?_
      exact zr ((.p (.tup [(.agg (ZD r5.1 .sh .sh)), (.v (.bool true))])), [(Zi (Zk.mk zl r5.2.1 z6 zd zh (Zj.mk r5.2.2.1 r5.2.2.2)) zn zb), (Zq r5.1 .sh .sh)]) ⟨zb, _, zu, rfl⟩
     ·refine ze ?_
      refine zo (bv (r1.1 == 40)) ?_
      refine za ((r1.1 == 40)) ?_ ?_
      ·refine ze ?_
       refine zi fun r6 hr6 => ?_
       obtain ⟨qr6, er6, or6_0_4, exr6, hor6_0_4, rfl⟩ := Zaf (zp) (zl) (r1.2) (z6) (zd) (zh) (z1) (z2) zn zb zu r6 hr6
       refine zc [0] (.p (.tup [(.agg (ZD r6.1 .sh .sh)), (.v (.bool r6.2.1))])) [(Zi (Zk.mk zl r6.2.2.1 r6.2.2.2.1 r6.2.2.2.2.1 r6.2.2.2.2.2.1 (Zj.mk r6.2.2.2.2.2.2.1 r6.2.2.2.2.2.2.2)) zn or6_0_4), (Zq (Z3.mk 0 0 0 0 0 ([] : List Z7) ([] : List Z3)) .nl .nl)] er6 ?_
       refine zo (.p (.agg (ZD r6.1 .sh .sh))) ?_
       refine zo (bv r6.2.1) ?_
       refine zt [(Zi (Zk.mk zl r6.2.2.1 r6.2.2.2.1 r6.2.2.2.2.1 r6.2.2.2.2.2.1 (Zj.mk r6.2.2.2.2.2.2.1 r6.2.2.2.2.2.2.2)) zn or6_0_4), (Zq r6.1 .sh .sh)] ?_
       exact zr ((.p (.tup [(.agg (ZD r6.1 .sh .sh)), (.v (.bool r6.2.1))])), [(Zi (Zk.mk zl r6.2.2.1 r6.2.2.2.1 r6.2.2.2.2.1 r6.2.2.2.2.2.1 (Zj.mk r6.2.2.2.2.2.2.1 r6.2.2.2.2.2.2.2)) zn or6_0_4), (Zq r6.1 .sh .sh)]) ⟨or6_0_4, _, hor6_0_4, rfl⟩
      ·refine ze ?_
       refine zo (bv (r1.1 == 42)) ?_
       refine za ((r1.1 == 42)) ?_ ?_
       ·refine za ((r1.1 == 42)) ?_ ?_
        ·refine ze ?_
         refine zi fun r7 hr7 => ?_
         obtain ⟨qr7, er7, exr7, rfl⟩ := ZW (23) (zp) (zl) (r1.2) (z6) (zd) (zh) (z1) (z2) zn zb zu r7 hr7
         refine zc [0] (.p (.tup [])) [(Zi (Zk.mk zl r7.1 z6 zd zh (Zj.mk r7.2.1 r7.2.2)) zn zb), (Zq (Z3.mk 0 0 0 0 0 ([] : List Z7) ([] : List Z3)) .nl .nl)] er7 ?_
         exact zk (Z1e (zl) (r7.1) (z6) (zd) (zh) (r7.2.1) (r7.2.2) ((Z3.mk 0 0 0 0 0 ([] : List Z7) ([] : List Z3))) zn zb .nl .nl zu rfl rfl)
        ·refine ze ?_
         refine zo (bv (r1.1 == 93)) ?_
         refine za ((r1.1 == 93)) ?_ ?_
         ·refine za ((r1.1 == 93)) ?_ ?_
          ·refine ze ?_
           refine zi fun r8 hr8 => ?_
           obtain ⟨qr8, er8, exr8, rfl⟩ := ZW (20) (zp) (zl) (r1.2) (z6) (zd) (zh) (z1) (z2) zn zb zu r8 hr8
           refine zc [0] (.p (.tup [])) [(Zi (Zk.mk zl r8.1 z6 zd zh (Zj.mk r8.2.1 r8.2.2)) zn zb), (Zq (Z3.mk 0 0 0 0 0 ([] : List Z7) ([] : List Z3)) .nl .nl)] er8 ?_
           exact zk (Z1e (zl) (r8.1) (z6) (zd) (zh) (r8.2.1) (r8.2.2) ((Z3.mk 0 0 0 0 0 ([] : List Z7) ([] : List Z3))) zn zb .nl .nl zu rfl rfl)
          ·refine ze ?_
           refine zi fun r9 hr9 => ?_
           obtain ⟨qr9, er9, exr9, rfl⟩ := Z1o (r1.1) r9 hr9
           refine zc [] (.p (.agg (ZF r9))) [(Zi (Zk.mk zl r1.2 z6 zd zh (Zj.mk z1 z2)) zn zb), (Zq (Z3.mk 0 0 0 0 0 ([] : List Z7) ([] : List Z3)) .nl .nl)] er9 ?_
           refine zo (.p (.lst .ex (([r9] : List Z7).map Zs))) ?_
           refine zi fun r10 hr10 => ?_
           obtain ⟨qr10, er10, exr10, rfl⟩ := Z2E (false) (([r9] : List Z7)) .sh r10 hr10
           refine zc [] (.p (.agg (ZD r10 .sh .sh))) [(Zi (Zk.mk zl r1.2 z6 zd zh (Zj.mk z1 z2)) zn zb), (Zq (Z3.mk 0 0 0 0 0 ([] : List Z7) ([] : List Z3)) .nl .nl)] er10 ?_
           refine zt [(Zi (Zk.mk zl r1.2 z6 zd zh (Zj.mk z1 z2)) zn zb), (Zq r10 .sh .sh)] ?_
           exact zr ((.p (.tup [(.agg (ZD r10 .sh .sh)), (.v (.bool true))])), [(Zi (Zk.mk zl r1.2 z6 zd zh (Zj.mk z1 z2)) zn zb), (Zq r10 .sh .sh)]) ⟨zb, _, zu, rfl⟩
         ·refine ze ?_
          refine zo (bv (r1.1 == 125)) ?_
          refine za ((r1.1 == 125)) ?_ ?_
          ·refine ze ?_
           refine zi fun r11 hr11 => ?_
           obtain ⟨qr11, er11, exr11, rfl⟩ := ZW (20) (zp) (zl) (r1.2) (z6) (zd) (zh) (z1) (z2) zn zb zu r11 hr11
           refine zc [0] (.p (.tup [])) [(Zi (Zk.mk zl r11.1 z6 zd zh (Zj.mk r11.2.1 r11.2.2)) zn zb), (Zq (Z3.mk 0 0 0 0 0 ([] : List Z7) ([] : List Z3)) .nl .nl)] er11 ?_
           exact zk (Z1e (zl) (r11.1) (z6) (zd) (zh) (r11.2.1) (r11.2.2) ((Z3.mk 0 0 0 0 0 ([] : List Z7) ([] : List Z3))) zn zb .nl .nl zu rfl rfl)
          ·refine ze ?_
           refine zi fun r12 hr12 => ?_
           obtain ⟨qr12, er12, exr12, rfl⟩ := Z1o (r1.1) r12 hr12
           refine zc [] (.p (.agg (ZF r12))) [(Zi (Zk.mk zl r1.2 z6 zd zh (Zj.mk z1 z2)) zn zb), (Zq (Z3.mk 0 0 0 0 0 ([] : List Z7) ([] : List Z3)) .nl .nl)] er12 ?_
           refine zo (.p (.lst .ex (([r12] : List Z7).map Zs))) ?_
           refine zi fun r13 hr13 => ?_
           obtain ⟨qr13, er13, exr13, rfl⟩ := Z2E (false) (([r12] : List Z7)) .sh r13 hr13
           refine zc [] (.p (.agg (ZD r13 .sh .sh))) [(Zi (Zk.mk zl r1.2 z6 zd zh (Zj.mk z1 z2)) zn zb), (Zq (Z3.mk 0 0 0 0 0 ([] : List Z7) ([] : List Z3)) .nl .nl)] er13 ?_
           refine zt [(Zi (Zk.mk zl r1.2 z6 zd zh (Zj.mk z1 z2)) zn zb), (Zq r13 .sh .sh)] ?_
           exact zr ((.p (.tup [(.agg (ZD r13 .sh .sh)), (.v (.bool true))])), [(Zi (Zk.mk zl r1.2 z6 zd zh (Zj.mk z1 z2)) zn zb), (Zq r13 .sh .sh)]) ⟨zb, _, zu, rfl⟩
       ·refine ze ?_
        refine zo (bv (r1.1 == 43)) ?_
        refine za ((r1.1 == 43)) ?_ ?_
        ·refine za ((r1.1 == 43)) ?_ ?_
         ·refine ze ?_
          refine zi fun r14 hr14 => ?_
          obtain ⟨qr14, er14, exr14, rfl⟩ := ZW (23) (zp) (zl) (r1.2) (z6) (zd) (zh) (z1) (z2) zn zb zu r14 hr14
          refine zc [0] (.p (.tup [])) [(Zi (Zk.mk zl r14.1 z6 zd zh (Zj.mk r14.2.1 r14.2.2)) zn zb), (Zq (Z3.mk 0 0 0 0 0 ([] : List Z7) ([] : List Z3)) .nl .nl)] er14 ?_
          exact zk (Z1e (zl) (r14.1) (z6) (zd) (zh) (r14.2.1) (r14.2.2) ((Z3.mk 0 0 0 0 0 ([] : List Z7) ([] : List Z3))) zn zb .nl .nl zu rfl rfl)
         ·refine ze ?_
          refine zo (bv (r1.1 == 93)) ?_
          refine za ((r1.1 == 93)) ?_ ?_
          ·refine za ((r1.1 == 93)) ?_ ?_
           ·refine ze ?_
            refine zi fun r15 hr15 => ?_
            obtain ⟨qr15, er15, exr15, rfl⟩ := ZW (20) (zp) (zl) (r1.2) (z6) (zd) (zh) (z1) (z2) zn zb zu r15 hr15
            refine zc [0] (.p (.tup [])) [(Zi (Zk.mk zl r15.1 z6 zd zh (Zj.mk r15.2.1 r15.2.2)) zn zb), (Zq (Z3.mk 0 0 0 0 0 ([] : List Z7) ([] : List Z3)) .nl .nl)] er15 ?_
            exact zk (Z1e (zl) (r15.1) (z6) (zd) (zh) (r15.2.1) (r15.2.2) ((Z3.mk 0 0 0 0 0 ([] : List Z7) ([] : List Z3))) zn zb .nl .nl zu rfl rfl)
           ·refine ze ?_
            refine zi fun r16 hr16 => ?_
            obtain ⟨qr16, er16, exr16, rfl⟩ := Z1o (r1.1) r16 hr16
            refine zc [] (.p (.agg (ZF r16))) [(Zi (Zk.mk zl r1.2 z6 zd zh (Zj.mk z1 z2)) zn zb), (Zq (Z3.mk 0 0 0 0 0 ([] : List Z7) ([] : List Z3)) .nl .nl)] er16 ?_
            refine zo (.p (.lst .ex (([r16] : List Z7).map Zs))) ?_
            refine zi fun r17 hr17 => ?_
            obtain ⟨qr17, er17, exr17, rfl⟩ := Z2E (false) (([r16] : List Z7)) .sh r17 hr17
            refine zc [] (.p (.agg (ZD r17 .sh .sh))) [(Zi (Zk.mk zl r1.2 z6 zd zh (Zj.mk z1 z2)) zn zb), (Zq (Z3.mk 0 0 0 0 0 ([] : List Z7) ([] : List Z3)) .nl .nl)] er17 ?_
            refine zt [(Zi (Zk.mk zl r1.2 z6 zd zh (Zj.mk z1 z2)) zn zb), (Zq r17 .sh .sh)] ?_
            exact zr ((.p (.tup [(.agg (ZD r17 .sh .sh)), (.v (.bool true))])), [(Zi (Zk.mk zl r1.2 z6 zd zh (Zj.mk z1 z2)) zn zb), (Zq r17 .sh .sh)]) ⟨zb, _, zu, rfl⟩
          ·refine ze ?_
           refine zo (bv (r1.1 == 125)) ?_
           refine za ((r1.1 == 125)) ?_ ?_
           ·refine ze ?_
            refine zi fun r18 hr18 => ?_
            obtain ⟨qr18, er18, exr18, rfl⟩ := ZW (20) (zp) (zl) (r1.2) (z6) (zd) (zh) (z1) (z2) zn zb zu r18 hr18
            refine zc [0] (.p (.tup [])) [(Zi (Zk.mk zl r18.1 z6 zd zh (Zj.mk r18.2.1 r18.2.2)) zn zb), (Zq (Z3.mk 0 0 0 0 0 ([] : List Z7) ([] : List Z3)) .nl .nl)] er18 ?_
            exact zk (Z1e (zl) (r18.1) (z6) (zd) (zh) (r18.2.1) (r18.2.2) ((Z3.mk 0 0 0 0 0 ([] : List Z7) ([] : List Z3))) zn zb .nl .nl zu rfl rfl)
           ·refine ze ?_
            refine zi fun r19 hr19 => ?_
            obtain ⟨qr19, er19, exr19, rfl⟩ := Z1o (r1.1) r19 hr19
            refine zc [] (.p (.agg (ZF r19))) [(Zi (Zk.mk zl r1.2 z6 zd zh (Zj.mk z1 z2)) zn zb), (Zq (Z3.mk 0 0 0 0 0 ([] : List Z7) ([] : List Z3)) .nl .nl)] er19 ?_
            refine zo (.p (.lst .ex (([r19] : List Z7).map Zs))) ?_
            refine zi fun r20 hr20 => ?_
            obtain ⟨qr20, er20, exr20, rfl⟩ := Z2E (false) (([r19] : List Z7)) .sh r20 hr20
            refine zc [] (.p (.agg (ZD r20 .sh .sh))) [(Zi (Zk.mk zl r1.2 z6 zd zh (Zj.mk z1 z2)) zn zb), (Zq (Z3.mk 0 0 0 0 0 ([] : List Z7) ([] : List Z3)) .nl .nl)] er20 ?_
            refine zt [(Zi (Zk.mk zl r1.2 z6 zd zh (Zj.mk z1 z2)) zn zb), (Zq r20 .sh .sh)] ?_
            exact zr ((.p (.tup [(.agg (ZD r20 .sh .sh)), (.v (.bool true))])), [(Zi (Zk.mk zl r1.2 z6 zd zh (Zj.mk z1 z2)) zn zb), (Zq r20 .sh .sh)]) ⟨zb, _, zu, rfl⟩
        ·refine ze ?_
         refine zo (bv (r1.1 == 63)) ?_
         refine za ((r1.1 == 63)) ?_ ?_
         ·refine za ((r1.1 == 63)) ?_ ?_
          ·refine ze ?_
           refine zi fun r21 hr21 => ?_
           obtain ⟨qr21, er21, exr21, rfl⟩ := ZW (23) (zp) (zl) (r1.2) (z6) (zd) (zh) (z1) (z2) zn zb zu r21 hr21
           refine zc [0] (.p (.tup [])) [(Zi (Zk.mk zl r21.1 z6 zd zh (Zj.mk r21.2.1 r21.2.2)) zn zb), (Zq (Z3.mk 0 0 0 0 0 ([] : List Z7) ([] : List Z3)) .nl .nl)] er21 ?_
           exact zk (Z1e (zl) (r21.1) (z6) (zd) (zh) (r21.2.1) (r21.2.2) ((Z3.mk 0 0 0 0 0 ([] : List Z7) ([] : List Z3))) zn zb .nl .nl zu rfl rfl)
          ·refine ze ?_
           refine zo (bv (r1.1 == 93)) ?_
           refine za ((r1.1 == 93)) ?_ ?_
           ·refine za ((r1.1 == 93)) ?_ ?_
            ·refine ze ?_
             refine zi fun r22 hr22 => ?_
             obtain ⟨qr22, er22, exr22, rfl⟩ := ZW (20) (zp) (zl) (r1.2) (z6) (zd) (zh) (z1) (z2) zn zb zu r22 hr22
             refine zc [0] (.p (.tup [])) [(Zi (Zk.mk zl r22.1 z6 zd zh (Zj.mk r22.2.1 r22.2.2)) zn zb), (Zq (Z3.mk 0 0 0 0 0 ([] : List Z7) ([] : List Z3)) .nl .nl)] er22 ?_
             exact zk (Z1e (zl) (r22.1) (z6) (zd) (zh) (r22.2.1) (r22.2.2) ((Z3.mk 0 0 0 0 0 ([] : List Z7) ([] : List Z3))) zn zb .nl .nl zu rfl rfl)
            ·refine ze ?_
             refine zi fun r23 hr23 => ?_
             obtain ⟨qr23, er23, exr23, rfl⟩ := Z1o (r1.1) r23 hr23
             refine zc [] (.p (.agg (ZF r23))) [(Zi (Zk.mk zl r1.2 z6 zd zh (Zj.mk z1 z2)) zn zb), (Zq (Z3.mk 0 0 0 0 0 ([] : List Z7) ([] : List Z3)) .nl .nl)] er23 ?_
             refine zo (.p (.lst .ex (([r23] : List Z7).map Zs))) ?_
             refine zi fun r24 hr24 => ?_
             obtain ⟨qr24, er24, exr24, rfl⟩ := Z2E (false) (([r23] : List Z7)) .sh r24 hr24
             refine zc [] (.p (.agg (ZD r24 .sh .sh))) [(Zi (Zk.mk zl r1.2 z6 zd zh (Zj.mk z1 z2)) zn zb), (Zq (Z3.mk 0 0 0 0 0 ([] : List Z7) ([] : List Z3)) .nl .nl)] er24 ?_
             refine zt [(Zi (Zk.mk zl r1.2 z6 zd zh (Zj.mk z1 z2)) zn zb), (Zq r24 .sh .sh)] ?_
             exact zr ((.p (.tup [(.agg (ZD r24 .sh .sh)), (.v (.bool true))])), [(Zi (Zk.mk zl r1.2 z6 zd zh (Zj.mk z1 z2)) zn zb), (Zq r24 .sh .sh)]) ⟨zb, _, zu, rfl⟩
           ·refine ze ?_
            refine zo (bv (r1.1 == 125)) ?_
            refine za ((r1.1 == 125)) ?_ ?_
            ·refine ze ?_
             refine zi fun r25 hr25 => ?_
             obtain ⟨qr25, er25, exr25, rfl⟩ := ZW (20) (zp) (zl) (r1.2) (z6) (zd) (zh) (z1) (z2) zn zb zu r25 hr25
             refine zc [0] (.p (.tup [])) [(Zi (Zk.mk zl r25.1 z6 zd zh (Zj.mk r25.2.1 r25.2.2)) zn zb), (Zq (Z3.mk 0 0 0 0 0 ([] : List Z7) ([] : List Z3)) .nl .nl)] er25 ?_
             exact zk (Z1e (zl) (r25.1) (z6) (zd) (zh) (r25.2.1) (r25.2.2) ((Z3.mk 0 0 0 0 0 ([] : List Z7) ([] : List Z3))) zn zb .nl .nl zu rfl rfl)
            ·refine ze ?_
             refine zi fun r26 hr26 => ?_
             obtain ⟨qr26, er26, exr26, rfl⟩ := Z1o (r1.1) r26 hr26
             refine zc [] (.p (.agg (ZF r26))) [(Zi (Zk.mk zl r1.2 z6 zd zh (Zj.mk z1 z2)) zn zb), (Zq (Z3.mk 0 0 0 0 0 ([] : List Z7) ([] : List Z3)) .nl .nl)] er26 ?_
             refine zo (.p (.lst .ex (([r26] : List Z7).map Zs))) ?_
             refine zi fun r27 hr27 => ?_
             obtain ⟨qr27, er27, exr27, rfl⟩ := Z2E (false) (([r26] : List Z7)) .sh r27 hr27
             refine zc [] (.p (.agg (ZD r27 .sh .sh))) [(Zi (Zk.mk zl r1.2 z6 zd zh (Zj.mk z1 z2)) zn zb), (Zq (Z3.mk 0 0 0 0 0 ([] : List Z7) ([] : List Z3)) .nl .nl)] er27 ?_
             refine zt [(Zi (Zk.mk zl r1.2 z6 zd zh (Zj.mk z1 z2)) zn zb), (Zq r27 .sh .sh)] ?_
             exact zr ((.p (.tup [(.agg (ZD r27 .sh .sh)), (.v (.bool true))])), [(Zi (Zk.mk zl r1.2 z6 zd zh (Zj.mk z1 z2)) zn zb), (Zq r27 .sh .sh)]) ⟨zb, _, zu, rfl⟩
         ·refine ze ?_
          refine zo (bv (r1.1 == 123)) ?_
          refine za ((r1.1 == 123)) ?_ ?_
          ·refine ze ?_
           refine zi fun r28 hr28 => ?_
           obtain ⟨qr28, er28, exr28, rfl⟩ := ZW (23) (zp) (zl) (r1.2) (z6) (zd) (zh) (z1) (z2) zn zb zu r28 hr28
           refine zc [0] (.p (.tup [])) [(Zi (Zk.mk zl r28.1 z6 zd zh (Zj.mk r28.2.1 r28.2.2)) zn zb), (Zq (Z3.mk 0 0 0 0 0 ([] : List Z7) ([] : List Z3)) .nl .nl)] er28 ?_
           exact zk (Z1e (zl) (r28.1) (z6) (zd) (zh) (r28.2.1) (r28.2.2) ((Z3.mk 0 0 0 0 0 ([] : List Z7) ([] : List Z3))) zn zb .nl .nl zu rfl rfl)
          ·refine ze ?_
           refine zo (bv (r1.1 == 93)) ?_
           refine za ((r1.1 == 93)) ?_ ?_
           ·refine za ((r1.1 == 93)) ?_ ?_
            ·refine ze ?_
             refine zi fun r29 hr29 => ?_
             obtain ⟨qr29, er29, exr29, rfl⟩ := ZW (20) (zp) (zl) (r1.2) (z6) (zd) (zh) (z1) (z2) zn zb zu r29 hr29
             refine zc [0] (.p (.tup [])) [(Zi (Zk.mk zl r29.1 z6 zd zh (Zj.mk r29.2.1 r29.2.2)) zn zb), (Zq (Z3.mk 0 0 0 0 0 ([] : List Z7) ([] : List Z3)) .nl .nl)] er29 ?_
             exact zk (Z1e (zl) (r29.1) (z6) (zd) (zh) (r29.2.1) (r29.2.2) ((Z3.mk 0 0 0 0 0 ([] : List Z7) ([] : List Z3))) zn zb .nl .nl zu rfl rfl)
            ·refine ze ?_
             refine zi fun r30 hr30 => ?_
             obtain ⟨qr30, er30, exr30, rfl⟩ := Z1o (r1.1) r30 hr30
             refine zc [] (.p (.agg (ZF r30))) [(Zi (Zk.mk zl r1.2 z6 zd zh (Zj.mk z1 z2)) zn zb), (Zq (Z3.mk 0 0 0 0 0 ([] : List Z7) ([] : List Z3)) .nl .nl)] er30 ?_
             refine zo (.p (.lst .ex (([r30] : List Z7).map Zs))) ?_
             refine zi fun r31 hr31 => ?_
             obtain ⟨qr31, er31, exr31, rfl⟩ := Z2E (false) (([r30] : List Z7)) .sh r31 hr31
             refine zc [] (.p (.agg (ZD r31 .sh .sh))) [(Zi (Zk.mk zl r1.2 z6 zd zh (Zj.mk z1 z2)) zn zb), (Zq (Z3.mk 0 0 0 0 0 ([] : List Z7) ([] : List Z3)) .nl .nl)] er31 ?_
             refine zt [(Zi (Zk.mk zl r1.2 z6 zd zh (Zj.mk z1 z2)) zn zb), (Zq r31 .sh .sh)] ?_
             exact zr ((.p (.tup [(.agg (ZD r31 .sh .sh)), (.v (.bool true))])), [(Zi (Zk.mk zl r1.2 z6 zd zh (Zj.mk z1 z2)) zn zb), (Zq r31 .sh .sh)]) ⟨zb, _, zu, rfl⟩
           ·refine ze ?_
            refine zo (bv (r1.1 == 125)) ?_
            refine za ((r1.1 == 125)) ?_ ?_
            ·refine ze ?_
             refine zi fun r32 hr32 => ?_
             obtain ⟨qr32, er32, exr32, rfl⟩ := ZW (20) (zp) (zl) (r1.2) (z6) (zd) (zh) (z1) (z2) zn zb zu r32 hr32
             refine zc [0] (.p (.tup [])) [(Zi (Zk.mk zl r32.1 z6 zd zh (Zj.mk r32.2.1 r32.2.2)) zn zb), (Zq (Z3.mk 0 0 0 0 0 ([] : List Z7) ([] : List Z3)) .nl .nl)] er32 ?_
             exact zk (Z1e (zl) (r32.1) (z6) (zd) (zh) (r32.2.1) (r32.2.2) ((Z3.mk 0 0 0 0 0 ([] : List Z7) ([] : List Z3))) zn zb .nl .nl zu rfl rfl)
            ·refine ze ?_
             refine zi fun r33 hr33 => ?_
             obtain ⟨qr33, er33, exr33, rfl⟩ := Z1o (r1.1) r33 hr33
             refine zc [] (.p (.agg (ZF r33))) [(Zi (Zk.mk zl r1.2 z6 zd zh (Zj.mk z1 z2)) zn zb), (Zq (Z3.mk 0 0 0 0 0 ([] : List Z7) ([] : List Z3)) .nl .nl)] er33 ?_
             refine zo (.p (.lst .ex (([r33] : List Z7).map Zs))) ?_
             refine zi fun r34 hr34 => ?_
             obtain ⟨qr34, er34, exr34, rfl⟩ := Z2E (false) (([r33] : List Z7)) .sh r34 hr34
             refine zc [] (.p (.agg (ZD r34 .sh .sh))) [(Zi (Zk.mk zl r1.2 z6 zd zh (Zj.mk z1 z2)) zn zb), (Zq (Z3.mk 0 0 0 0 0 ([] : List Z7) ([] : List Z3)) .nl .nl)] er34 ?_
             refine zt [(Zi (Zk.mk zl r1.2 z6 zd zh (Zj.mk z1 z2)) zn zb), (Zq r34 .sh .sh)] ?_
             exact zr ((.p (.tup [(.agg (ZD r34 .sh .sh)), (.v (.bool true))])), [(Zi (Zk.mk zl r1.2 z6 zd zh (Zj.mk z1 z2)) zn zb), (Zq r34 .sh .sh)]) ⟨zb, _, zu, rfl⟩
theorem Zaw (zl : List Int) (zp : Int) (z6 : Int) (zd : Int) (zh : List Zr) (z1 : Int) (z2 : Int) {r} (h : Z4C zl zp z6 zd zh z1 z2 = some r) : Z5w zl zp z6 zd zh z1 z2 = some r :=
 pick_of (fun _ _ ha hb => RRun.uniq (Zb3 _ _) (ha .ex .ex rfl) (hb .ex .ex rfl)) (fun zn zb zu => Zaa zl zp z6 zd zh z1 z2 zn zb zu r h)
noncomputable def Z5y (zl : List Int) (zp : Int) : Option (Int × Int) :=
 (Z7C zl zp).bind fun r1 =>
 some (r1.1, (IntKind.i64.wrap (zp + r1.2)))
theorem Za9 (zl : List Int) (zp : Int) (z6 : Int) (zd : Int) (zh : List Zr) (z1 : Int) (z2 : Int) (zn : Own) (zb : Own) (zu : okApp zb = true) : Sim (Z4E zl z6 zd zh z1 z2 zn zb) (Z5y zl zp) (EE 46 [(.ptr 0 0)] [(Zi (Zk.mk zl zp z6 zd zh (Zj.mk z1 z2)) zn zb)]) := by
 unfold Z5y
 refine zf (Zhc ..) ?_
 refine ze ?_
 refine ze ?_
 refine zo (.ptr 0 0) ?_
 refine zo (.ptr 0 0) ?_
 refine zo (.p (.lst (shrO zn) (zl.map (eI .u8)))) ?_
 refine zo (.ptr 0 0) ?_
 refine zo (.ptr 0 1) ?_
 refine zo (iv zp) ?_
 refine zi fun r1 hr1 => ?_
 obtain ⟨qr1, er1, exr1, rfl⟩ := Zb0 (zl) (zp) .sh r1 hr1
 refine zc [] (.p (.tup [(.v (.int .i64 r1.1)), (.v (.int .i64 r1.2))])) [(Zi (Zk.mk zl zp z6 zd zh (Zj.mk z1 z2)) zn zb)] er1 ?_
 refine zo (iv r1.1) ?_
 refine zo (iv r1.2) ?_
 refine ze ?_
 refine zo (.ptr 0 0) ?_
 refine zo (.ptr 0 1) ?_
 refine zo (iv zp) ?_
 refine zo (iv (IntKind.i64.wrap (zp + r1.2))) ?_
 refine zo (.ptr 0 0) ?_
 refine zo (.ptr 0 1) ?_
 refine zt [(Zi (Zk.mk zl (IntKind.i64.wrap (zp + r1.2)) z6 zd zh (Zj.mk z1 z2)) zn zb)] ?_
 refine ze ?_
 exact zr ((iv r1.1), [(Zi (Zk.mk zl (IntKind.i64.wrap (zp + r1.2)) z6 zd zh (Zj.mk z1 z2)) zn zb)]) ⟨_, rfl⟩
theorem Zat (zl : List Int) (zp : Int) {r} (h : Z5y zl zp = some r) : Z1X zl zp = some r :=
 pick_of (fun _ _ ha hb => RRun.uniq (Zb1 _ _ _ _ _ _ _ _) (ha default default default default default .ex .ex rfl) (hb default default default default default .ex .ex rfl)) (fun z6 zd zh z1 z2 zn zb zu => Za9 zl zp z6 zd zh z1 z2 zn zb zu r h)
noncomputable def Zax (x0 : Int) : Option (Z7) :=
 some ((Z7.mk x0 x0))
theorem ZcA (x0 : Int) : Sim (Z7x) (Zax x0) (EE 48 [(iv x0)] []) := by
 unfold Zax
 refine zf (Zhe ..) ?_
 refine ze ?_
 refine zz (.ptr 0 0) [(Z1m (Z7.mk 0 0))] ?_
 refine ze ?_
 refine zo (.p (.agg (ZF (Z7.mk x0 x0)))) ?_
 refine zt [(Z1m (Z7.mk x0 x0))] ?_
 exact zr ((.p (.agg (ZF (Z7.mk x0 x0)))), [(Z1m (Z7.mk x0 x0))]) ⟨_, rfl⟩
theorem ZcL (x0 : Int) {r} (h : Zax x0 = some r) : Z1v x0 = some r :=
 pick_of (fun _ _ ha hb => RRun.uniq (Zdd) (ha ) (hb )) (ZcA x0 r h)
noncomputable def Z70 (x5 : List Z7) : Option (Z3) :=
 some ((Z3.mk 1 0 0 0 0 x5 ([] : List Z3)))
theorem Z97 (x5 : List Z7) (b0 : Z3) (ox5 : Own) (z2d : Own) (z1J : Own) (zgT : okApp z2d = true) (zgd : okApp z1J = true) : Sim (Z6q) (Z70 x5) (Zcz 0 (.ptr 0 0) (.p (.lst ox5 (x5.map Zs))) [(Zq b0 z2d z1J)]) := by
 unfold Z70
 refine zf (Zgt ..) ?_
 refine ze ?_
 refine zo (.p (.agg (ZD (Z3.mk 1 0 0 0 0 x5 ([] : List Z3)) (shrO (shrO ox5)) .nl))) ?_
 refine zt [(Zq (Z3.mk 1 0 0 0 0 x5 ([] : List Z3)) (shrO (shrO ox5)) .nl)] ?_
 exact zr ((.p (.agg (ZD (Z3.mk 1 0 0 0 0 x5 ([] : List Z3)) .sh .sh))), [(Zq (Z3.mk 1 0 0 0 0 x5 ([] : List Z3)) (shrO (shrO ox5)) .nl)]) ⟨_, rfl⟩
noncomputable def Z8U (x0 : Bool) (x1 : List Z7) : Option (Z3) :=
 (Z8h x1).bind fun r1 =>
 if (x0) = true then
 ((Z5L r1.1).bind fun r2 =>
 Z70 r2.1)
 else
 (Z70 r1.1)
theorem Zck (x0 : Bool) (x1 : List Z7) (ox1 : Own) : Sim (Z6q) (Z8U x0 x1) (EE 47 [(bv x0), (.p (.lst ox1 (x1.map Zs)))] []) := by
 unfold Z8U
 refine zf (Zij ..) ?_
 refine ze ?_
 refine zz (.ptr 0 0) [(Zq (Z3.mk 0 0 0 0 0 ([] : List Z7) ([] : List Z3)) .nl .nl)] ?_
 refine ze ?_
 refine zi fun r1 hr1 => ?_
 obtain ⟨qr1, er1, exr1, rfl⟩ := Zcp (x1) .sh r1 hr1
 refine zc [] (.p (.tup [(.lst .sh (r1.1.map Zs)), (.v (.int .i64 r1.2))])) [(Zq (Z3.mk 0 0 0 0 0 ([] : List Z7) ([] : List Z3)) .nl .nl)] er1 ?_
 refine zo (.p (.lst .sh (r1.1.map Zs))) ?_
 refine zo (iv r1.2) ?_
 refine ze ?_
 refine za (x0) ?_ ?_
 ·refine ze ?_
  refine zi fun r2 hr2 => ?_
  obtain ⟨qr2, er2, exr2, rfl⟩ := Z95 (r1.1) .sh r2 hr2
  refine zc [] (.p (.tup [(.lst .sh (r2.1.map Zs)), (.v (.int .i64 r2.2))])) [(Zq (Z3.mk 0 0 0 0 0 ([] : List Z7) ([] : List Z3)) .nl .nl)] er2 ?_
  refine zo (.p (.lst .sh (r2.1.map Zs))) ?_
  refine zo (iv r2.2) ?_
  exact zk (Z97 (r2.1) ((Z3.mk 0 0 0 0 0 ([] : List Z7) ([] : List Z3))) .sh .nl .nl rfl rfl)
 ·exact zk (Z97 (r1.1) ((Z3.mk 0 0 0 0 0 ([] : List Z7) ([] : List Z3))) .sh .nl .nl rfl rfl)
theorem ZcY (x0 : Bool) (x1 : List Z7) {r} (h : Z8U x0 x1 = some r) : Z2w x0 x1 = some r :=
 pick_of (fun _ _ ha hb => RRun.uniq (Zde) (ha .ex) (hb .ex)) (fun ox1 => Zck x0 x1 ox1 r h)
noncomputable def Z6x (x0 : List Z7) : Option ((List Z7) × Int) :=
 (Z72 x0).bind fun r1 =>
 some (r1, 0)
theorem Zbt (x0 : List Z7) (ox0 : Own) : Sim (Z63) (Z6x x0) (ZdJ 0 (.p (.lst ox0 (x0.map Zs))) []) := by
 unfold Z6x
 refine zf (Zfv ..) ?_
 refine ze ?_
 refine zi fun r1 hr1 => ?_
 obtain ⟨qr1, er1, exr1, rfl⟩ := Z9o (x0) .sh r1 hr1
 refine zc [] (.p (.lst .sh (r1.map Zs))) [] er1 ?_
 exact zr ((.p (.tup [(.lst .sh (r1.map Zs)), (.v (.int .i64 0))])), []) ⟨_, rfl⟩
noncomputable def Z8g (x0 : List Z7) : Option ((List Z7) × Int) :=
 (Z36 x0).bind fun r1 =>
 if (r1) = true then
 (some (([] : List Z7), 13))
 else
 (Z6x x0)
theorem Zce (x0 : List Z7) (ox0 : Own) : Sim (Z63) (Z8g x0) (EE 54 [(.p (.lst ox0 (x0.map Zs)))] []) := by
 unfold Z8g
 refine zf (Zi4 ..) ?_
 refine ze ?_
 refine ze ?_
 refine zi fun r1 hr1 => ?_
 obtain ⟨qr1, er1, exr1, rfl⟩ := Z7m (x0) .sh r1 hr1
 refine zc [] (bv r1) [] er1 ?_
 refine za (r1) ?_ ?_
 ·refine ze ?_
  exact zr ((.p (.tup [(.lst .sh []), (.v (.int .i64 13))])), []) ⟨_, rfl⟩
 ·exact zk (Zbt (x0) ox0)
theorem Zcx (x0 : List Z7) {r} (h : Z8g x0 = some r) : Z8h x0 = some r :=
 pick_of (fun _ _ ha hb => RRun.uniq (Zd0) (ha .ex) (hb .ex)) (fun ox0 => Zce x0 ox0 r h)
noncomputable def Z31 (x0 : List Z7) : Option (Bool) :=
 (Z3D x0).bind fun r1 =>
 some ((decide (0 ≤ r1)))
theorem Z6V (x0 : List Z7) (ox0 : Own) : Sim (Z2B) (Z31 x0) (EE 65 [(.p (.lst ox0 (x0.map Zs))), (.clo 66 [] [])] []) := by
 unfold Z31
 refine zf (Zhy ..) ?_
 refine ze ?_
 refine ze ?_
 refine zi fun r1 hr1 => ?_
 obtain ⟨qr1, er1, exr1, rfl⟩ := Z88 (x0) .sh r1 hr1
 refine zc [] (iv r1) [] er1 ?_
 refine zo (bv (decide (0 ≤ r1))) ?_
 exact zr ((bv (decide (0 ≤ r1))), []) ⟨_, rfl⟩
theorem Z7o (x0 : List Z7) {r} (h : Z31 x0 = some r) : Z36 x0 = some r :=
 pick_of (fun _ _ ha hb => RRun.uniq (Z7u) (ha .ex) (hb .ex)) (fun ox0 => Z6V x0 ox0 r h)
noncomputable def Z3F (x0 : List Z7) : Option (Int) :=
 Z2A x0 ((x0.length : Int)) 0
theorem Z7O (x0 : List Z7) (ox0 : Own) : Sim (Z1k) (Z3F x0) (EE 73 [(.p (.lst ox0 (x0.map Zs))), (.clo 66 [] [])] []) := by
 unfold Z3F
 refine zf (ZhD ..) ?_
 refine ze ?_
 refine ze ?_
 refine zo (iv (x0.length : Int)) ?_ (Eq.trans (by kernel_rfl) (xlen_of (P := PP) (t := 23) (d := 39) (by kernel_rfl) Zs (shrO ox0) x0))
 exact zk (Z5b (x0) ((x0.length : Int)) (0) ox0)
theorem Z86 (x0 : List Z7) {r} (h : Z3F x0 = some r) : Z3D x0 = some r :=
 pick_of (fun _ _ ha hb => RRun.uniq (Z5G) (ha .ex) (hb .ex)) (fun ox0 => Z7O x0 ox0 r h)
noncomputable def Z33 (x0 : List Z7) (x7 : Int) (x8 : Int) : Option (Int) :=
 Z2A x0 x7 ((IntKind.i64.wrap (x8 + 1)))
theorem Z6X (x0 : List Z7) (x7 : Int) (x8 : Int) (ox0 : Own) : Sim (Z1k) (Z33 x0 x7 x8) (Zep 0 (.p (.lst ox0 (x0.map Zs))) (.clo 66 [] []) (iv x7) (iv x8) []) := by
 unfold Z33
 refine zf (ZfD ..) ?_
 refine ze ?_
 refine zo (iv (IntKind.i64.wrap (x8 + 1))) ?_
 exact zk (Z5b (x0) (x7) ((IntKind.i64.wrap (x8 + 1))) ox0)
noncomputable def Z32 (x0 : List Z7) (x7 : Int) (x8 : Int) : Option (Int) :=
 (lget x0 x8).bind fun a1 =>
 (Z74 a1).bind fun r2 =>
 if (r2) = true then
 (some (x8))
 else
 (Z33 x0 x7 x8)
theorem Z7c (x0 : List Z7) (x7 : Int) (x8 : Int) (ox0 : Own) : Sim (Z1k) (Z32 x0 x7 x8) (ZdH 0 (.p (.lst ox0 (x0.map Zs))) (.clo 66 [] []) (iv x7) (iv x8) []) := by
 unfold Z32
 refine zf (Zgs ..) ?_
 refine ze ?_
 refine ze ?_
 refine zi fun a1 ha1 => ?_
 refine zo (.cptr (ZF a1)) ?_ (Eq.trans (by kernel_rfl) (xidx_of (o := (shrO ox0)) (k := .i64) (n := 2) (e := Zs) (cs := Z3J) (fun _ => rfl) (fun _ => rfl) (by decide) ha1))
 refine zo (.p (.agg (ZF a1))) ?_
 refine zi fun r2 hr2 => ?_
 obtain ⟨qr2, er2, exr2, rfl⟩ := Zc1 (a1) r2 hr2
 refine zv [] (bv r2) [] er2 ?_
 refine za (r2) ?_ ?_
 ·refine ze ?_
  exact zr ((iv x8), []) ⟨_, rfl⟩
 ·exact zk (Z6X (x0) (x7) (x8) ox0)
noncomputable def Z4l  : Option (Int) :=
 some ((-1))
theorem Z76  : Sim (Z1k) (Z4l) (Zdv 0  []) := by
 unfold Z4l
 refine zf (Zgk ..) ?_
 refine ze ?_
 exact zr ((iv (-1)), []) ⟨_, rfl⟩
noncomputable def Z2z (x0 : List Z7) (x7 : Int) (x8 : Int) : Option (Int) :=
 if ((decide (x8 < x7))) = true then
 (Z32 x0 x7 x8)
 else
 (Z4l)
theorem Z6W (x0 : List Z7) (x7 : Int) (x8 : Int) (ox0 : Own) : Sim (Z1k) (Z2z x0 x7 x8) (ZaO 0 (.p (.lst ox0 (x0.map Zs))) (.clo 66 [] []) (iv x7) (iv x8) []) := by
 unfold Z2z
 refine zf (ZgM ..) ?_
 refine ze ?_
 refine zo (bv (decide (x8 < x7))) ?_
 refine za ((decide (x8 < x7))) ?_ ?_
 ·exact zk (Z7c (x0) (x7) (x8) ox0)
 ·exact zk (Z76 )
theorem Z5g (x0 : List Z7) (x7 : Int) (x8 : Int) {r} (h : Z2z x0 x7 x8 = some r) : Z2A x0 x7 x8 = some r :=
 pick_of (fun _ _ ha hb => RRun.uniq (Z5G) (ha .ex) (hb .ex)) (fun ox0 => Z6W x0 x7 x8 ox0 r h)
noncomputable def Z6Y (x0 : Z7) : Option (Bool) :=
 (Z4D x0).bind fun r1 =>
 some ((!r1))
theorem ZbL (x0 : Z7) : Sim (Z5Y) (Z6Y x0) (EE 66 [(.p (.agg (ZF x0)))] []) := by
 unfold Z6Y
 refine zf (ZhK ..) ?_
 refine ze ?_
 refine zx (.ptr 0 0) [(Z1m x0)] ?_
 refine ze ?_
 refine zo (.p (.agg (ZF x0))) ?_
 refine zi fun r1 hr1 => ?_
 obtain ⟨qr1, er1, exr1, rfl⟩ := Z7v (x0) r1 hr1
 refine zc [] (bv r1) [(Z1m x0)] er1 ?_
 refine zo (bv (!r1)) ?_
 exact zr ((bv (!r1)), [(Z1m x0)]) ⟨_, rfl⟩
theorem Zc7 (x0 : Z7) {r} (h : Z6Y x0 = some r) : Z74 x0 = some r :=
 pick_of (fun _ _ ha hb => RRun.uniq (Zch) (ha ) (hb )) (ZbL x0 r h)
noncomputable def Z5B (x0 : Z7) : Option (Bool) :=
 if ((decide (0 ≤ x0.Lo))) = true then
 (if ((decide (x0.Lo ≤ x0.Hi))) = true then
 (some ((decide (x0.Hi ≤ 1114367))))
 else
 (some (false)))
 else
 (some (false))
theorem Zaj (x0 : Z7) : Sim (Z4F) (Z5B x0) (EE 67 [(.p (.agg (ZF x0)))] []) := by
 unfold Z5B
 refine zf (Zil ..) ?_
 refine ze ?_
 refine zx (.ptr 0 0) [(Z1m x0)] ?_
 refine ze ?_
 refine zo (.ptr 0 0) ?_
 refine zo (iv x0.Lo) ?_
 refine zo (bv (decide (0 ≤ x0.Lo))) ?_
 refine za ((decide (0 ≤ x0.Lo))) ?_ ?_
 ·refine zo (.ptr 0 0) ?_
  refine zo (iv x0.Lo) ?_
  refine zo (.ptr 0 1) ?_
  refine zo (iv x0.Hi) ?_
  refine zo (bv (decide (x0.Lo ≤ x0.Hi))) ?_
  refine za ((decide (x0.Lo ≤ x0.Hi))) ?_ ?_
  ·refine zo (.ptr 0 1) ?_
   refine zo (iv x0.Hi) ?_
   refine zo (bv (decide (x0.Hi ≤ 1114367))) ?_
   exact zr ((bv (decide (x0.Hi ≤ 1114367))), [(Z1m x0)]) ⟨_, rfl⟩
  ·exact zr ((bv false), [(Z1m x0)]) ⟨_, rfl⟩
 ·exact zr ((bv false), [(Z1m x0)]) ⟨_, rfl⟩
theorem ZaB (x0 : Z7) {r} (h : Z5B x0 = some r) : Z4D x0 = some r :=
 pick_of (fun _ _ ha hb => RRun.uniq (ZaV) (ha ) (hb )) (Zaj x0 r h)
noncomputable def Z5M (x0 : List Z7) : Option ((List Z7) × Int) :=
 (Z6y x0).bind fun r1 =>
 some (r1, 0)
theorem ZaG (x0 : List Z7) (ox0 : Own) : Sim (Z51) (Z5M x0) (Zey 0 (.p (.lst ox0 (x0.map Zs))) []) := by
 unfold Z5M
 refine zf (Zg4 ..) ?_
 refine ze ?_
 refine zi fun r1 hr1 => ?_
 obtain ⟨qr1, er1, exr1, rfl⟩ := ZbN (x0) .sh r1 hr1
 refine zc [] (.p (.lst .sh (r1.map Zs))) [] er1 ?_
 exact zr ((.p (.tup [(.lst .sh (r1.map Zs)), (.v (.int .i64 0))])), []) ⟨_, rfl⟩
noncomputable def Z6v (x0 : List Z7) : Option ((List Z7) × Int) :=
 (Z44 x0).bind fun r1 =>
 if ((!r1)) = true then
 (some (([] : List Z7), 10))
 else
 (Z5M x0)
theorem Zbw (x0 : List Z7) (ox0 : Own) : Sim (Z51) (Z6v x0) (EE 55 [(.p (.lst ox0 (x0.map Zs)))] []) := by
 unfold Z6v
 refine zf (Zi3 ..) ?_
 refine ze ?_
 refine ze ?_
 refine zi fun r1 hr1 => ?_
 obtain ⟨qr1, er1, exr1, rfl⟩ := Z68 (x0) .sh r1 hr1
 refine zc [] (bv r1) [] er1 ?_
 refine zo (bv (!r1)) ?_
 refine za ((!r1)) ?_ ?_
 ·refine ze ?_
  exact zr ((.p (.tup [(.lst .sh []), (.v (.int .i64 10))])), []) ⟨_, rfl⟩
 ·exact zk (ZaG (x0) ox0)
theorem ZbF (x0 : List Z7) {r} (h : Z6v x0 = some r) : Z5L x0 = some r :=
 pick_of (fun _ _ ha hb => RRun.uniq (Zc5) (ha .ex) (hb .ex)) (fun ox0 => Zbw x0 ox0 r h)
noncomputable def Z5N (x0 : List Z7) : Option (Bool) :=
 Z4b ((-2)) x0 ((x0.length : Int)) 0
theorem Zay (x0 : List Z7) (ox0 : Own) : Sim (Z1L) (Z5N x0) (EE 69 [(.p (.lst ox0 (x0.map Zs)))] []) := by
 unfold Z5N
 refine zf (Zir ..) ?_
 refine ze ?_
 refine ze ?_
 refine ze ?_
 refine zo (iv (x0.length : Int)) ?_ (Eq.trans (by kernel_rfl) (xlen_of (P := PP) (t := 24) (d := 39) (by kernel_rfl) Zs (shrO ox0) x0))
 exact zk (Z6N ((-2)) (x0) ((x0.length : Int)) (0) (shrO ox0))
theorem Zbi (x0 : List Z7) {r} (h : Z5N x0 = some r) : Z44 x0 = some r :=
 pick_of (fun _ _ ha hb => RRun.uniq (Z8l) (ha .ex) (hb .ex)) (fun ox0 => Zay x0 ox0 r h)
noncomputable def Z50  : Option (Bool) :=
 some (false)
theorem Z6u  : Sim (Z1L) (Z50) (Zcj 0  []) := by
 unfold Z50
 refine zf (Zga ..) ?_
 refine ze ?_
 exact zr ((bv false), []) ⟨_, rfl⟩
noncomputable def Z54 (x3 : Int) (x6 : List Z7) (x7 : Int) (x8 : Int) : Option (Bool) :=
 Z4b x3 x6 x7 ((IntKind.i64.wrap (x8 + 1)))
theorem Z9I (x3 : Int) (x6 : List Z7) (x7 : Int) (x8 : Int) (ox6 : Own) : Sim (Z1L) (Z54 x3 x6 x7 x8) (ZdW 0 (iv x3) (.p (.lst ox6 (x6.map Zs))) (iv x7) (iv x8) []) := by
 unfold Z54
 refine zf (ZfE ..) ?_
 refine ze ?_
 refine zo (iv (IntKind.i64.wrap (x8 + 1))) ?_
 exact zk (Z6N (x3) (x6) (x7) ((IntKind.i64.wrap (x8 + 1))) ox6)
noncomputable def Z53 (x6 : List Z7) (x7 : Int) (x8 : Int) (b0 : Z7) : Option (Bool) :=
 Z54 b0.Hi x6 x7 x8
theorem Z9w (x6 : List Z7) (x7 : Int) (x8 : Int) (b0 : Z7) (ox6 : Own) : Sim (Z1L) (Z53 x6 x7 x8 b0) (ZdG 0 (.ptr 0 0) (.p (.lst ox6 (x6.map Zs))) (iv x7) (iv x8) [(Z1m b0)]) := by
 unfold Z53
 refine zf (ZgB ..) ?_
 refine ze ?_
 refine zo (.ptr 0 1) ?_
 refine zo (iv b0.Hi) ?_
 exact zk (Z9I (b0.Hi) (x6) (x7) (x8) ox6)
noncomputable def Z52 (x3 : Int) (x6 : List Z7) (x7 : Int) (x8 : Int) : Option (Bool) :=
 (lget x6 x8).bind fun a1 =>
 (Z4D a1).bind fun r2 =>
 if ((!r2)) = true then
 (Z50)
 else
 (if ((decide (a1.Lo < (IntKind.i64.wrap (x3 + 2))))) = true then
 (Z50)
 else
 (Z53 x6 x7 x8 a1))
theorem Z9B (x3 : Int) (x6 : List Z7) (x7 : Int) (x8 : Int) (ox6 : Own) : Sim (Z1L) (Z52 x3 x6 x7 x8) (Ze3 0 (iv x3) (.p (.lst ox6 (x6.map Zs))) (iv x7) (iv x8) []) := by
 unfold Z52
 refine zf (ZgK ..) ?_
 refine ze ?_
 refine zi fun a1 ha1 => ?_
 refine zo (.cptr (ZF a1)) ?_ (Eq.trans (by kernel_rfl) (xidx_of (o := ox6) (k := .i64) (n := 2) (e := Zs) (cs := Z3J) (fun _ => rfl) (fun _ => rfl) (by decide) ha1))
 refine zo (.p (.agg (ZF a1))) ?_
 refine zz (.ptr 0 0) [(Z1m (Z7.mk 0 0))] ?_
 refine zt [(Z1m a1)] ?_
 refine ze ?_
 refine zo (.p (.agg (ZF a1))) ?_
 refine zi fun r2 hr2 => ?_
 obtain ⟨qr2, er2, exr2, rfl⟩ := Z7v (a1) r2 hr2
 refine zc [] (bv r2) [(Z1m a1)] er2 ?_
 refine zo (bv (!r2)) ?_
 refine za ((!r2)) ?_ ?_
 ·exact zk (Z6u )
 ·refine zo (.ptr 0 0) ?_
  refine zo (iv a1.Lo) ?_
  refine zo (iv (IntKind.i64.wrap (x3 + 2))) ?_
  refine zo (bv (decide (a1.Lo < (IntKind.i64.wrap (x3 + 2))))) ?_
  refine za ((decide (a1.Lo < (IntKind.i64.wrap (x3 + 2))))) ?_ ?_
  ·exact zk (Z6u )
  ·exact zk (Z9w (x6) (x7) (x8) (a1) ox6)
noncomputable def Z6a  : Option (Bool) :=
 some (true)
theorem Z9t  : Sim (Z1L) (Z6a) (Zdp 0  []) := by
 unfold Z6a
 refine zf (ZfC ..) ?_
 refine ze ?_
 exact zr ((bv true), []) ⟨_, rfl⟩
noncomputable def Z47 (x3 : Int) (x6 : List Z7) (x7 : Int) (x8 : Int) : Option (Bool) :=
 if ((decide (x8 < x7))) = true then
 (Z52 x3 x6 x7 x8)
 else
 (Z6a)
theorem Z9C (x3 : Int) (x6 : List Z7) (x7 : Int) (x8 : Int) (ox6 : Own) : Sim (Z1L) (Z47 x3 x6 x7 x8) (Zbc 0 (iv x3) (.p (.lst ox6 (x6.map Zs))) (iv x7) (iv x8) []) := by
 unfold Z47
 refine zf (ZfG ..) ?_
 refine ze ?_
 refine zo (bv (decide (x8 < x7))) ?_
 refine za ((decide (x8 < x7))) ?_ ?_
 ·exact zk (Z9B (x3) (x6) (x7) (x8) ox6)
 ·exact zk (Z9t )
theorem Z6E (x3 : Int) (x6 : List Z7) (x7 : Int) (x8 : Int) {r} (h : Z47 x3 x6 x7 x8 = some r) : Z4b x3 x6 x7 x8 = some r :=
 pick_of (fun _ _ ha hb => RRun.uniq (Z8l) (ha .ex) (hb .ex)) (fun ox6 => Z9C x3 x6 x7 x8 ox6 r h)
noncomputable def Z6z (x0 : List Z7) : Option ((List Z7)) :=
 Z4Y (([] : List Z7)) 0 x0 ((x0.length : Int)) 0
theorem Zby (x0 : List Z7) (ox0 : Own) : Sim (Z27) (Z6z x0) (EE 70 [(.p (.lst ox0 (x0.map Zs)))] []) := by
 unfold Z6z
 refine zf (Zhh ..) ?_
 refine ze ?_
 refine ze ?_
 refine ze ?_
 refine ze ?_
 refine zo (iv (x0.length : Int)) ?_ (Eq.trans (by kernel_rfl) (xlen_of (P := PP) (t := 24) (d := 39) (by kernel_rfl) Zs (shrO ox0) x0))
 exact zk (Z82 (([] : List Z7)) (0) (x0) ((x0.length : Int)) (0) .nl (shrO ox0) rfl)
theorem ZbM (x0 : List Z7) {r} (h : Z6z x0 = some r) : Z6y x0 = some r :=
 pick_of (fun _ _ ha hb => RRun.uniq (Z9k) (ha .ex) (hb .ex)) (fun ox0 => Zby x0 ox0 r h)
noncomputable def Z5I (x3 : List Z7) (x4 : Int) (x7 : List Z7) (x8 : Int) (x9 : Int) : Option ((List Z7)) :=
 Z4Y x3 x4 x7 x8 ((IntKind.i64.wrap (x9 + 1)))
theorem ZaD (x3 : List Z7) (x4 : Int) (x7 : List Z7) (x8 : Int) (x9 : Int) (ox3 : Own) (ox7 : Own) (hox3 : okApp ox3 = true) : Sim (Z27) (Z5I x3 x4 x7 x8 x9) (Ze7 0 (.p (.lst ox3 (x3.map Zs))) (iv x4) (.p (.lst ox7 (x7.map Zs))) (iv x8) (iv x9) []) := by
 unfold Z5I
 refine zf (Zgz ..) ?_
 refine ze ?_
 refine zo (iv (IntKind.i64.wrap (x9 + 1))) ?_
 exact zk (Z82 (x3) (x4) (x7) (x8) ((IntKind.i64.wrap (x9 + 1))) ox3 ox7 hox3)
noncomputable def Z4a (x3 : List Z7) (x7 : List Z7) (x8 : Int) (x9 : Int) (b0 : Z7) : Option ((List Z7)) :=
 Z5I x3 ((IntKind.i64.wrap (b0.Hi + 1))) x7 x8 x9
theorem Z7t (x3 : List Z7) (x7 : List Z7) (x8 : Int) (x9 : Int) (b0 : Z7) (ox3 : Own) (ox7 : Own) (hox3 : okApp ox3 = true) : Sim (Z27) (Z4a x3 x7 x8 x9 b0) (Zcy 0 (.p (.lst ox3 (x3.map Zs))) (.ptr 0 0) (.p (.lst ox7 (x7.map Zs))) (iv x8) (iv x9) [(Z1m b0)]) := by
 unfold Z4a
 refine zf (Zgo ..) ?_
 refine ze ?_
 refine zo (.ptr 0 1) ?_
 refine zo (iv b0.Hi) ?_
 refine zo (iv (IntKind.i64.wrap (b0.Hi + 1))) ?_
 exact zk (ZaD (x3) ((IntKind.i64.wrap (b0.Hi + 1))) (x7) (x8) (x9) ox3 ox7 hox3)
noncomputable def Z5H (x3 : List Z7) (x4 : Int) (x7 : List Z7) (x8 : Int) (x9 : Int) : Option ((List Z7)) :=
 (lget x7 x9).bind fun a1 =>
 if ((decide (x4 < a1.Lo))) = true then
 ((lapp x3 ([(Z7.mk x4 (IntKind.i64.wrap (a1.Lo - 1)))] : List Z7)).bind fun a2 =>
 Z4a a2 x7 x8 x9 a1)
 else
 (Z4a x3 x7 x8 x9 a1)
theorem ZaA (x3 : List Z7) (x4 : Int) (x7 : List Z7) (x8 : Int) (x9 : Int) (ox3 : Own) (ox7 : Own) (hox3 : okApp ox3 = true) : Sim (Z27) (Z5H x3 x4 x7 x8 x9) (Zdl 0 (.p (.lst ox3 (x3.map Zs))) (iv x4) (.p (.lst ox7 (x7.map Zs))) (iv x8) (iv x9) []) := by
 unfold Z5H
 refine zf (Zfp ..) ?_
 refine ze ?_
 refine zi fun a1 ha1 => ?_
 refine zo (.cptr (ZF a1)) ?_ (Eq.trans (by kernel_rfl) (xidx_of (o := ox7) (k := .i64) (n := 2) (e := Zs) (cs := Z3J) (fun _ => rfl) (fun _ => rfl) (by decide) ha1))
 refine zo (.p (.agg (ZF a1))) ?_
 refine zz (.ptr 0 0) [(Z1m (Z7.mk 0 0))] ?_
 refine zt [(Z1m a1)] ?_
 refine ze ?_
 refine zo (.ptr 0 0) ?_
 refine zo (iv a1.Lo) ?_
 refine zo (bv (decide (x4 < a1.Lo))) ?_
 refine za ((decide (x4 < a1.Lo))) ?_ ?_
 ·refine ze ?_
  refine zo (.ptr 0 0) ?_
  refine zo (iv a1.Lo) ?_
  refine zo (iv (IntKind.i64.wrap (a1.Lo - 1))) ?_
  refine zo (.p (.agg (ZF (Z7.mk x4 (IntKind.i64.wrap (a1.Lo - 1)))))) ?_
  refine zo (.p (.lst .ex (([(Z7.mk x4 (IntKind.i64.wrap (a1.Lo - 1)))] : List Z7).map Zs))) ?_
  refine zi fun a2 ha2 => ?_
  refine zo (.p (.lst .un (a2.map Zs))) ?_ (Eq.trans (by kernel_rfl) <| xapp_of (n := 2) (o := ox3) (o' := .ex) (e := Zs) (ys := ([(Z7.mk x4 (IntKind.i64.wrap (a1.Lo - 1)))] : List Z7)) (fun _ => rfl) (by decide) hox3 ha2)
  exact zk (Z7t (a2) (x7) (x8) (x9) (a1) .un ox7 rfl)
 ·exact zk (Z7t (x3) (x7) (x8) (x9) (a1) ox3 ox7 hox3)
noncomputable def Z3Q (x3 : List Z7) : Option ((List Z7)) :=
 some (x3)
theorem Z7k (x3 : List Z7) (ox3 : Own) (hox3 : okApp ox3 = true) : Sim (Z27) (Z3Q x3) (Zc0 0 (.p (.lst ox3 (x3.map Zs))) []) := by
 unfold Z3Q
 refine zf (ZeV ..) ?_
 refine ze ?_
 exact zr ((.p (.lst .sh (x3.map Zs))), []) ⟨_, rfl⟩
noncomputable def Z5x (x3 : List Z7) (x4 : Int) : Option ((List Z7)) :=
 if ((decide (x4 ≤ 1114367))) = true then
 ((lapp x3 ([(Z7.mk x4 1114367)] : List Z7)).bind fun a1 =>
 Z3Q a1)
 else
 (Z3Q x3)
theorem Zab (x3 : List Z7) (x4 : Int) (ox3 : Own) (hox3 : okApp ox3 = true) : Sim (Z27) (Z5x x3 x4) (ZcO 0 (.p (.lst ox3 (x3.map Zs))) (iv x4) []) := by
 unfold Z5x
 refine zf (Zfh ..) ?_
 refine ze ?_
 refine zo (bv (decide (x4 ≤ 1114367))) ?_
 refine za ((decide (x4 ≤ 1114367))) ?_ ?_
 ·refine ze ?_
  refine zo (.p (.agg (ZF (Z7.mk x4 1114367)))) ?_
  refine zo (.p (.lst .ex (([(Z7.mk x4 1114367)] : List Z7).map Zs))) ?_
  refine zi fun a1 ha1 => ?_
  refine zo (.p (.lst .un (a1.map Zs))) ?_ (Eq.trans (by kernel_rfl) <| xapp_of (n := 2) (o := ox3) (o' := .ex) (e := Zs) (ys := ([(Z7.mk x4 1114367)] : List Z7)) (fun _ => rfl) (by decide) hox3 ha1)
  exact zk (Z7k (a1) .un rfl)
 ·exact zk (Z7k (x3) ox3 hox3)
noncomputable def Z4X (x3 : List Z7) (x4 : Int) (x7 : List Z7) (x8 : Int) (x9 : Int) : Option ((List Z7)) :=
 if ((decide (x9 < x8))) = true then
 (Z5H x3 x4 x7 x8 x9)
 else
 (Z5x x3 x4)
theorem Zav (x3 : List Z7) (x4 : Int) (x7 : List Z7) (x8 : Int) (x9 : Int) (ox3 : Own) (ox7 : Own) (hox3 : okApp ox3 = true) : Sim (Z27) (Z4X x3 x4 x7 x8 x9) (ZaU 0 (.p (.lst ox3 (x3.map Zs))) (iv x4) (.p (.lst ox7 (x7.map Zs))) (iv x8) (iv x9) []) := by
 unfold Z4X
 refine zf (ZfN ..) ?_
 refine ze ?_
 refine zo (bv (decide (x9 < x8))) ?_
 refine za ((decide (x9 < x8))) ?_ ?_
 ·exact zk (ZaA (x3) (x4) (x7) (x8) (x9) ox3 ox7 hox3)
 ·exact zk (Zab (x3) (x4) ox3 hox3)
theorem Z84 (x3 : List Z7) (x4 : Int) (x7 : List Z7) (x8 : Int) (x9 : Int) {r} (h : Z4X x3 x4 x7 x8 x9 = some r) : Z4Y x3 x4 x7 x8 x9 = some r :=
 pick_of (fun _ _ ha hb => RRun.uniq (Z9k) (ha .ex .ex rfl) (hb .ex .ex rfl)) (fun ox3 ox7 hox3 => Zav x3 x4 x7 x8 x9 ox3 ox7 hox3 r h)
noncomputable def Z3e (x1 : Int) (x5 : Int) (zp : Int) (zh : List Zr) (z1 : Int) (z2 : Int) : Option (Z3 × Int × (List Zr) × Int × Int) :=
 (lapp zh ([(Zr.mk (IntKind.i64.wrap (x5 - 48)) x1)] : List Zr)).bind fun a1 =>
 some ((Z3.mk 6 0 0 0 (IntKind.i64.wrap (x5 - 48)) ([] : List Z7) ([] : List Z3)), zp, a1, z1, z2)
theorem Z8y (x1 : Int) (x5 : Int) (zl : List Int) (zp : Int) (z6 : Int) (zd : Int) (zh : List Zr) (z1 : Int) (z2 : Int) (b1 : Z3) (zn : Own) (zb : Own) (zB : Own) (zy : Own) (zu : okApp zb = true) (zQ : okApp zB = true) (zJ : okApp zy = true) : Sim (Z2r zl z6 zd zn) (Z3e x1 x5 zp zh z1 z2) (Zd5 1 (.ptr 0 0) (iv x1) (.ptr 1 0) (iv x5) [(Zi (Zk.mk zl zp z6 zd zh (Zj.mk z1 z2)) zn zb), (Zq b1 zB zy)]) := by
 unfold Z3e
 refine zf (Zf8 ..) ?_
 refine ze ?_
 refine zo (.ptr 0 0) ?_
 refine zo (.ptr 0 4) ?_
 refine zw (.p (.lst zb (zh.map Z1y))) [(Zi (Zk.mk zl zp z6 zd zh (Zj.mk z1 z2)) zn (shrO zb)), (Zq b1 zB zy)] ?_
 refine zo (iv (IntKind.i64.wrap (x5 - 48))) ?_
 refine zo (.p (.agg (Z7R (Zr.mk (IntKind.i64.wrap (x5 - 48)) x1)))) ?_
 refine zo (.p (.lst .ex (([(Zr.mk (IntKind.i64.wrap (x5 - 48)) x1)] : List Zr).map Z1y))) ?_
 refine zi fun a1 ha1 => ?_
 refine zo (.p (.lst .un (a1.map Z1y))) ?_ (Eq.trans (by kernel_rfl) <| xapp_of (n := 2) (o := zb) (o' := .ex) (e := Z1y) (ys := ([(Zr.mk (IntKind.i64.wrap (x5 - 48)) x1)] : List Zr)) (fun _ => rfl) (by decide) zu ha1)
 refine zo (.ptr 0 0) ?_
 refine zo (.ptr 0 4) ?_
 refine zt [(Zi (Zk.mk zl zp z6 zd a1 (Zj.mk z1 z2)) zn .un), (Zq b1 zB zy)] ?_
 refine ze ?_
 refine zo (iv (IntKind.i64.wrap (x5 - 48))) ?_
 refine zo (.p (.agg (ZD (Z3.mk 6 0 0 0 (IntKind.i64.wrap (x5 - 48)) ([] : List Z7) ([] : List Z3)) .nl .nl))) ?_
 refine zt [(Zi (Zk.mk zl zp z6 zd a1 (Zj.mk z1 z2)) zn .un), (Zq (Z3.mk 6 0 0 0 (IntKind.i64.wrap (x5 - 48)) ([] : List Z7) ([] : List Z3)) .nl .nl)] ?_
 exact zr ((.p (.agg (ZD (Z3.mk 6 0 0 0 (IntKind.i64.wrap (x5 - 48)) ([] : List Z7) ([] : List Z3)) .sh .sh))), [(Zi (Zk.mk zl zp z6 zd a1 (Zj.mk z1 z2)) zn .un), (Zq (Z3.mk 6 0 0 0 (IntKind.i64.wrap (x5 - 48)) ([] : List Z7) ([] : List Z3)) .nl .nl)]) ⟨.un, _, rfl, rfl⟩
noncomputable def Z20 (x1 : Int) (x5 : Int) (zl : List Int) (zp : Int) (z6 : Int) (zd : Int) (zh : List Zr) (z1 : Int) (z2 : Int) : Option (Z3 × Int × (List Zr) × Int × Int) :=
 (Z4n x5 x1 zl zp z6 zd zh z1 z2).bind fun r1 =>
 (Z1v r1.1).bind fun r2 =>
 (Z2w false (([r2] : List Z7))).bind fun r3 =>
 some (r3, r1.2.1, zh, r1.2.2.1, r1.2.2.2)
theorem Z5Q (x1 : Int) (x5 : Int) (zl : List Int) (zp : Int) (z6 : Int) (zd : Int) (zh : List Zr) (z1 : Int) (z2 : Int) (b1 : Z3) (zn : Own) (zb : Own) (zB : Own) (zy : Own) (zu : okApp zb = true) (zQ : okApp zB = true) (zJ : okApp zy = true) : Sim (Z2r zl z6 zd zn) (Z20 x1 x5 zl zp z6 zd zh z1 z2) (ZbV 1 (.ptr 0 0) (iv x1) (.ptr 1 0) (iv x5) [(Zi (Zk.mk zl zp z6 zd zh (Zj.mk z1 z2)) zn zb), (Zq b1 zB zy)]) := by
 unfold Z20
 refine zf (Zfa ..) ?_
 refine ze ?_
 refine zi fun r1 hr1 => ?_
 obtain ⟨qr1, er1, exr1, rfl⟩ := Z7i (x5) (x1) (zl) (zp) (z6) (zd) (zh) (z1) (z2) zn zb zu r1 hr1
 refine zc [0] (iv r1.1) [(Zi (Zk.mk zl r1.2.1 z6 zd zh (Zj.mk r1.2.2.1 r1.2.2.2)) zn zb), (Zq b1 zB zy)] er1 ?_
 refine zi fun r2 hr2 => ?_
 obtain ⟨qr2, er2, exr2, rfl⟩ := Z1o (r1.1) r2 hr2
 refine zc [] (.p (.agg (ZF r2))) [(Zi (Zk.mk zl r1.2.1 z6 zd zh (Zj.mk r1.2.2.1 r1.2.2.2)) zn zb), (Zq b1 zB zy)] er2 ?_
 refine zo (.p (.lst .ex (([r2] : List Z7).map Zs))) ?_
 refine zi fun r3 hr3 => ?_
 obtain ⟨qr3, er3, exr3, rfl⟩ := Z2E (false) (([r2] : List Z7)) .sh r3 hr3
 refine zc [] (.p (.agg (ZD r3 .sh .sh))) [(Zi (Zk.mk zl r1.2.1 z6 zd zh (Zj.mk r1.2.2.1 r1.2.2.2)) zn zb), (Zq b1 zB zy)] er3 ?_
 refine zt [(Zi (Zk.mk zl r1.2.1 z6 zd zh (Zj.mk r1.2.2.1 r1.2.2.2)) zn zb), (Zq r3 .sh .sh)] ?_
 exact zr ((.p (.agg (ZD r3 .sh .sh))), [(Zi (Zk.mk zl r1.2.1 z6 zd zh (Zj.mk r1.2.2.1 r1.2.2.2)) zn zb), (Zq r3 .sh .sh)]) ⟨zb, _, zu, rfl⟩
noncomputable def Z25 (x1 : Int) (x5 : Int) (zl : List Int) (zp : Int) (z6 : Int) (zd : Int) (zh : List Zr) (z1 : Int) (z2 : Int) : Option (Z3 × Int × (List Zr) × Int × Int) :=
 (Z1X zl zp).bind fun r1 =>
 (Z4y x5).bind fun r2 =>
 (nilO r2.1 r2.2).bind fun a3 =>
 if ((!a3)) = true then
 ((Z4y x5).bind fun r4 =>
 (Z2w ((decide (x5 < 97))) r4.2).bind fun r5 =>
 some (r5, r1.2, zh, z1, z2))
 else
 (if ((x5 == 98)) = true then
 (some ((Z3.mk 9 0 0 0 2 ([] : List Z7) ([] : List Z3)), r1.2, zh, z1, z2))
 else
 (if ((x5 == 66)) = true then
 (some ((Z3.mk 9 0 0 0 3 ([] : List Z7) ([] : List Z3)), r1.2, zh, z1, z2))
 else
 (if ((decide (49 ≤ x5))) = true then
 (if ((decide (x5 ≤ 57))) = true then
 (Z3e x1 x5 r1.2 zh z1 z2)
 else
 (Z20 x1 x5 zl r1.2 z6 zd zh z1 z2))
 else
 (Z20 x1 x5 zl r1.2 z6 zd zh z1 z2))))
theorem Z8R (x1 : Int) (x5 : Int) (zl : List Int) (zp : Int) (z6 : Int) (zd : Int) (zh : List Zr) (z1 : Int) (z2 : Int) (b1 : Z3) (zn : Own) (zb : Own) (zB : Own) (zy : Own) (zu : okApp zb = true) (zQ : okApp zB = true) (zJ : okApp zy = true) : Sim (Z2r zl z6 zd zn) (Z25 x1 x5 zl zp z6 zd zh z1 z2) (Zdw 1 (.ptr 0 0) (iv x1) (.ptr 1 0) (iv x5) [(Zi (Zk.mk zl zp z6 zd zh (Zj.mk z1 z2)) zn zb), (Zq b1 zB zy)]) := by
 unfold Z25
 refine zf (Zfx ..) ?_
 refine ze ?_
 refine zi fun r1 hr1 => ?_
 obtain ⟨qr1, er1, exr1, rfl⟩ := Z2i (zl) (zp) (z6) (zd) (zh) (z1) (z2) zn zb zu r1 hr1
 refine zc [0] (iv r1.1) [(Zi (Zk.mk zl r1.2 z6 zd zh (Zj.mk z1 z2)) zn zb), (Zq b1 zB zy)] er1 ?_
 refine ze ?_
 refine zi fun r2 hr2 => ?_
 obtain ⟨qr2, er2, exr2, rfl⟩ := Z6h (x5) r2 hr2
 refine zc [] (.p (.lst r2.1 (r2.2.map Zs))) [(Zi (Zk.mk zl r1.2 z6 zd zh (Zj.mk z1 z2)) zn zb), (Zq b1 zB zy)] er2 ?_
 refine zi fun a3 ha3 => ?_
 refine zo (bv (!a3)) ?_ (Eq.trans (by kernel_rfl) (xnil_neq (P := PP) (t := 23) (c := .slice none 0 0) (e := Zs) (by kernel_rfl) ha3))
 refine za ((!a3)) ?_ ?_
 ·refine ze ?_
  refine zo (bv (decide (x5 < 97))) ?_
  refine zi fun r4 hr4 => ?_
  obtain ⟨qr4, er4, exr4, rfl⟩ := Z6h (x5) r4 hr4
  refine zc [] (.p (.lst r4.1 (r4.2.map Zs))) [(Zi (Zk.mk zl r1.2 z6 zd zh (Zj.mk z1 z2)) zn zb), (Zq b1 zB zy)] er4 ?_
  refine zi fun r5 hr5 => ?_
  obtain ⟨qr5, er5, exr5, rfl⟩ := Z2E ((decide (x5 < 97))) (r4.2) .sh r5 hr5
  refine zc [] (.p (.agg (ZD r5 .sh .sh))) [(Zi (Zk.mk zl r1.2 z6 zd zh (Zj.mk z1 z2)) zn zb), (Zq b1 zB zy)] er5 ?_
  refine zt [(Zi (Zk.mk zl r1.2 z6 zd zh (Zj.mk z1 z2)) zn zb), (Zq r5 .sh .sh)] ?_
  exact zr ((.p (.agg (ZD r5 .sh .sh))), [(Zi (Zk.mk zl r1.2 z6 zd zh (Zj.mk z1 z2)) zn zb), (Zq r5 .sh .sh)]) ⟨zb, _, zu, rfl⟩
 ·refine ze ?_
  refine zo (bv (x5 == 98)) ?_
  refine za ((x5 == 98)) ?_ ?_
  ·refine ze ?_
   refine zo (.p (.agg (ZD (Z3.mk 9 0 0 0 2 ([] : List Z7) ([] : List Z3)) .nl .nl))) ?_
   refine zt [(Zi (Zk.mk zl r1.2 z6 zd zh (Zj.mk z1 z2)) zn zb), (Zq (Z3.mk 9 0 0 0 2 ([] : List Z7) ([] : List Z3)) .nl .nl)] ?_
   exact zr ((.p (.agg (ZD (Z3.mk 9 0 0 0 2 ([] : List Z7) ([] : List Z3)) .sh .sh))), [(Zi (Zk.mk zl r1.2 z6 zd zh (Zj.mk z1 z2)) zn zb), (Zq (Z3.mk 9 0 0 0 2 ([] : List Z7) ([] : List Z3)) .nl .nl)]) ⟨zb, _, zu, rfl⟩
  ·refine ze ?_
   refine zo (bv (x5 == 66)) ?_
   refine za ((x5 == 66)) ?_ ?_
   ·refine ze ?_
    refine zo (.p (.agg (ZD (Z3.mk 9 0 0 0 3 ([] : List Z7) ([] : List Z3)) .nl .nl))) ?_
    refine zt [(Zi (Zk.mk zl r1.2 z6 zd zh (Zj.mk z1 z2)) zn zb), (Zq (Z3.mk 9 0 0 0 3 ([] : List Z7) ([] : List Z3)) .nl .nl)] ?_
    exact zr ((.p (.agg (ZD (Z3.mk 9 0 0 0 3 ([] : List Z7) ([] : List Z3)) .sh .sh))), [(Zi (Zk.mk zl r1.2 z6 zd zh (Zj.mk z1 z2)) zn zb), (Zq (Z3.mk 9 0 0 0 3 ([] : List Z7) ([] : List Z3)) .nl .nl)]) ⟨zb, _, zu, rfl⟩
   ·refine ze ?_
    refine zo (bv (decide (49 ≤ x5))) ?_
    refine za ((decide (49 ≤ x5))) ?_ ?_
    ·refine zo (bv (decide (x5 ≤ 57))) ?_
     refine za ((decide (x5 ≤ 57))) ?_ ?_
     ·exact zk (Z8y (x1) (x5) (zl) (r1.2) (z6) (zd) (zh) (z1) (z2) (b1) zn zb zB zy zu zQ zJ)
     ·exact zk (Z5Q (x1) (x5) (zl) (r1.2) (z6) (zd) (zh) (z1) (z2) (b1) zn zb zB zy zu zQ zJ)
    ·exact zk (Z5Q (x1) (x5) (zl) (r1.2) (z6) (zd) (zh) (z1) (z2) (b1) zn zb zB zy zu zQ zJ)
noncomputable def Z3j (x1 : Int) (zl : List Int) (zp : Int) (z6 : Int) (zd : Int) (zh : List Zr) (z1 : Int) (z2 : Int) : Option (Z3 × Int × (List Zr) × Int × Int) :=
 (Z1B ((Zk.mk zl zp z6 zd zh (Zj.mk z1 z2)))).bind fun r1 =>
 if ((decide (r1 < 0))) = true then
 ((ZT 21 x1 zl z1 z2).bind fun r2 =>
 some ((Z3.mk 0 0 0 0 0 ([] : List Z7) ([] : List Z3)), r2.1, zh, r2.2.1, r2.2.2))
 else
 (Z25 x1 r1 zl zp z6 zd zh z1 z2)
theorem Z9p (x1 : Int) (zl : List Int) (zp : Int) (z6 : Int) (zd : Int) (zh : List Zr) (z1 : Int) (z2 : Int) (zn : Own) (zb : Own) (zu : okApp zb = true) : Sim (Z2r zl z6 zd zn) (Z3j x1 zl zp z6 zd zh z1 z2) (EE 49 [(.ptr 0 0), (iv x1)] [(Zi (Zk.mk zl zp z6 zd zh (Zj.mk z1 z2)) zn zb)]) := by
 unfold Z3j
 refine zf (Zi0 ..) ?_
 refine ze ?_
 refine zz (.ptr 1 0) [(Zi (Zk.mk zl zp z6 zd zh (Zj.mk z1 z2)) zn zb), (Zq (Z3.mk 0 0 0 0 0 ([] : List Z7) ([] : List Z3)) .nl .nl)] ?_
 refine ze ?_
 refine zi fun r1 hr1 => ?_
 obtain ⟨qr1, er1, exr1, rfl⟩ := Z1G ((Zk.mk zl zp z6 zd zh (Zj.mk z1 z2))) zn zb zu r1 hr1
 refine zc [0] (iv r1) [(Zi (Zk.mk zl zp z6 zd zh (Zj.mk z1 z2)) zn zb), (Zq (Z3.mk 0 0 0 0 0 ([] : List Z7) ([] : List Z3)) .nl .nl)] er1 ?_
 refine ze ?_
 refine zo (bv (decide (r1 < 0))) ?_
 refine za ((decide (r1 < 0))) ?_ ?_
 ·refine ze ?_
  refine zi fun r2 hr2 => ?_
  obtain ⟨qr2, er2, exr2, rfl⟩ := ZW (21) (x1) (zl) (zp) (z6) (zd) (zh) (z1) (z2) zn zb zu r2 hr2
  refine zc [0] (.p (.tup [])) [(Zi (Zk.mk zl r2.1 z6 zd zh (Zj.mk r2.2.1 r2.2.2)) zn zb), (Zq (Z3.mk 0 0 0 0 0 ([] : List Z7) ([] : List Z3)) .nl .nl)] er2 ?_
  refine ze ?_
  refine zo (.p (.agg (ZD (Z3.mk 0 0 0 0 0 ([] : List Z7) ([] : List Z3)) .nl .nl))) ?_
  refine zt [(Zi (Zk.mk zl r2.1 z6 zd zh (Zj.mk r2.2.1 r2.2.2)) zn zb), (Zq (Z3.mk 0 0 0 0 0 ([] : List Z7) ([] : List Z3)) .nl .nl)] ?_
  exact zr ((.p (.agg (ZD (Z3.mk 0 0 0 0 0 ([] : List Z7) ([] : List Z3)) .sh .sh))), [(Zi (Zk.mk zl r2.1 z6 zd zh (Zj.mk r2.2.1 r2.2.2)) zn zb), (Zq (Z3.mk 0 0 0 0 0 ([] : List Z7) ([] : List Z3)) .nl .nl)]) ⟨zb, _, zu, rfl⟩
 ·exact zk (Z8R (x1) (r1) (zl) (zp) (z6) (zd) (zh) (z1) (z2) ((Z3.mk 0 0 0 0 0 ([] : List Z7) ([] : List Z3))) zn zb .nl .nl zu rfl rfl)
theorem Z9U (x1 : Int) (zl : List Int) (zp : Int) (z6 : Int) (zd : Int) (zh : List Zr) (z1 : Int) (z2 : Int) {r} (h : Z3j x1 zl zp z6 zd zh z1 z2 = some r) : Z2R x1 zl zp z6 zd zh z1 z2 = some r :=
 pick_of (fun _ _ ha hb => RRun.uniq (Zae _ _ _ _) (ha .ex .ex rfl) (hb .ex .ex rfl)) (fun zn zb zu => Z9p x1 zl zp z6 zd zh z1 z2 zn zb zu r h)
end Go.Proofs.YtadodmjdkphddaaDoor.N2
end
section
set_option linter.unusedSimpArgs false
set_option linter.unusedVariables false
namespace Go.Proofs.YtadodmjdkphddaaDoor.N2
open Go Go.Abs
set_option linter.unusedVariables false
set_option maxRecDepth 100000
noncomputable def Z38 (zl : List Int) (z1 : Int) (z2 : Int) : Option (Int × Int × Int) :=
 some ((zl.length : Int), z1, z2)
theorem Z6j (zl : List Int) (zp : Int) (z6 : Int) (zd : Int) (zh : List Zr) (z1 : Int) (z2 : Int) (zn : Own) (zb : Own) (zu : okApp zb = true) : Sim (Z3P zl z6 zd zh zn zb) (Z38 zl z1 z2) (ZcI 1 (.ptr 0 0) [(Zi (Zk.mk zl zp z6 zd zh (Zj.mk z1 z2)) zn zb)]) := by
 unfold Z38
 refine zf (Zg5 ..) ?_
 refine ze ?_
 refine zo (.ptr 0 0) ?_
 refine zo (.ptr 0 0) ?_
 refine zo (.p (.lst (shrO zn) (zl.map (eI .u8)))) ?_
 refine zo (iv (zl.length : Int)) ?_ (Eq.trans (by kernel_rfl) (xlen_of (P := PP) (t := 40) (d := 5) (by kernel_rfl) (eI .u8) (shrO zn) zl))
 refine zo (.ptr 0 0) ?_
 refine zo (.ptr 0 1) ?_
 refine zt [(Zi (Zk.mk zl (zl.length : Int) z6 zd zh (Zj.mk z1 z2)) zn zb)] ?_
 exact zr ((.p (.tup [])), [(Zi (Zk.mk zl (zl.length : Int) z6 zd zh (Zj.mk z1 z2)) zn zb)]) ⟨_, rfl⟩
noncomputable def Z4B (x1 : Int) (x2 : Int) (zl : List Int) (z1 : Int) (z2 : Int) : Option (Int × Int × Int) :=
 if ((z1 == 0)) = true then
 (Z38 zl x1 x2)
 else
 (Z38 zl z1 z2)
theorem Za4 (x1 : Int) (x2 : Int) (zl : List Int) (zp : Int) (z6 : Int) (zd : Int) (zh : List Zr) (z1 : Int) (z2 : Int) (zn : Own) (zb : Own) (zu : okApp zb = true) : Sim (Z3P zl z6 zd zh zn zb) (Z4B x1 x2 zl z1 z2) (EE 29 [(.ptr 0 0), (iv x1), (iv x2)] [(Zi (Zk.mk zl zp z6 zd zh (Zj.mk z1 z2)) zn zb)]) := by
 unfold Z4B
 refine zf (ZhS ..) ?_
 refine ze ?_
 refine zo (.ptr 0 0) ?_
 refine zo (.ptr 0 5) ?_
 refine zo (.ptr 0 5) ?_
 refine zo (iv z1) ?_
 refine zo (bv (z1 == 0)) ?_
 refine za ((z1 == 0)) ?_ ?_
 ·refine ze ?_
  refine zo (.p (.agg (Z12 (Zj.mk x1 x2)))) ?_
  refine zo (.ptr 0 0) ?_
  refine zo (.ptr 0 5) ?_
  refine zt [(Zi (Zk.mk zl zp z6 zd zh (Zj.mk x1 x2)) zn zb)] ?_
  exact zk (Z6j (zl) (zp) (z6) (zd) (zh) (x1) (x2) zn zb zu)
 ·exact zk (Z6j (zl) (zp) (z6) (zd) (zh) (z1) (z2) zn zb zu)
theorem Z7y (x1 : Int) (x2 : Int) (zl : List Int) (z1 : Int) (z2 : Int) {r} (h : Z4B x1 x2 zl z1 z2 = some r) : ZT x1 x2 zl z1 z2 = some r :=
 pick_of (fun _ _ ha hb => RRun.uniq (ZaN _ _ _ _ _ _) (ha default default default default .ex .ex rfl) (hb default default default default .ex .ex rfl)) (fun zp z6 zd zh zn zb zu => Za4 x1 x2 zl zp z6 zd zh z1 z2 zn zb zu r h)
noncomputable def Z1M  : Option ((Own × (List Z7))) :=
 some ((.nl, ([] : List Z7)))
theorem Z1Z  : Sim (Z4x) (Z1M) (Z6p 0  []) := by
 unfold Z1M
 refine zf (ZeS ..) ?_
 refine ze ?_
 exact zr ((.p (.lst .nl [])), []) ⟨_, rfl⟩
noncomputable def Z2u (x0 : Int) : Option ((Own × (List Z7))) :=
 if ((x0 == 100)) = true then
 (if ((x0 == 100)) = true then
 (some ((.ex, ([(Z7.mk 48 57)] : List Z7))))
 else
 (if ((x0 == 119)) = true then
 (if ((x0 == 119)) = true then
 ((Z1v 95).bind fun r1 =>
 some ((.ex, ([(Z7.mk 48 57), (Z7.mk 65 90), r1, (Z7.mk 97 122)] : List Z7))))
 else
 (if ((x0 == 115)) = true then
 (if ((x0 == 115)) = true then
 ((Z1v 32).bind fun r2 =>
 some ((.ex, ([(Z7.mk 9 13), r2] : List Z7))))
 else
 (Z1M))
 else
 (if ((x0 == 83)) = true then
 ((Z1v 32).bind fun r3 =>
 some ((.ex, ([(Z7.mk 9 13), r3] : List Z7))))
 else
 (Z1M))))
 else
 (if ((x0 == 87)) = true then
 ((Z1v 95).bind fun r4 =>
 some ((.ex, ([(Z7.mk 48 57), (Z7.mk 65 90), r4, (Z7.mk 97 122)] : List Z7))))
 else
 (if ((x0 == 115)) = true then
 (if ((x0 == 115)) = true then
 ((Z1v 32).bind fun r5 =>
 some ((.ex, ([(Z7.mk 9 13), r5] : List Z7))))
 else
 (Z1M))
 else
 (if ((x0 == 83)) = true then
 ((Z1v 32).bind fun r6 =>
 some ((.ex, ([(Z7.mk 9 13), r6] : List Z7))))
 else
 (Z1M))))))
 else
 (if ((x0 == 68)) = true then
 (some ((.ex, ([(Z7.mk 48 57)] : List Z7))))
 else
 (if ((x0 == 119)) = true then
 (if ((x0 == 119)) = true then
 ((Z1v 95).bind fun r7 =>
 some ((.ex, ([(Z7.mk 48 57), (Z7.mk 65 90), r7, (Z7.mk 97 122)] : List Z7))))
 else
 (if ((x0 == 115)) = true then
 (if ((x0 == 115)) = true then
 ((Z1v 32).bind fun r8 =>
 some ((.ex, ([(Z7.mk 9 13), r8] : List Z7))))
 else
 (Z1M))
 else
 (if ((x0 == 83)) = true then
 ((Z1v 32).bind fun r9 =>
 some ((.ex, ([(Z7.mk 9 13), r9] : List Z7))))
 else
 (Z1M))))
 else
 (if ((x0 == 87)) = true then
 ((Z1v 95).bind fun r10 =>
 some ((.ex, ([(Z7.mk 48 57), (Z7.mk 65 90), r10, (Z7.mk 97 122)] : List Z7))))
 else
 (if ((x0 == 115)) = true then
 (if ((x0 == 115)) = true then
 ((Z1v 32).bind fun r11 =>
 some ((.ex, ([(Z7.mk 9 13), r11] : List Z7))))
 else
 (Z1M))
 else
 (if ((x0 == 83)) = true then
 ((Z1v 32).bind fun r12 =>
 some ((.ex, ([(Z7.mk 9 13), r12] : List Z7))))
 else
 (Z1M))))))
theorem ZaP (x0 : Int) : Sim (Z4x) (Z2u x0) (EE 56 [(iv x0)] []) := by
 unfold Z2u
 refine zf (Zhk ..) ?_
 refine ze ?_
 refine ze ?_
 refine ze ?_
 refine zo (bv (x0 == 100)) ?_
 refine za ((x0 == 100)) ?_ ?_
 ·refine za ((x0 == 100)) ?_ ?_
  ·refine ze ?_
   refine zo (.p (.agg (ZF (Z7.mk 48 57)))) ?_
   refine zo (.p (.lst .ex (([(Z7.mk 48 57)] : List Z7).map Zs))) ?_
   exact zr ((.p (.lst .ex (([(Z7.mk 48 57)] : List Z7).map Zs))), []) ⟨_, rfl⟩
  ·refine ze ?_
   refine zo (bv (x0 == 119)) ?_
   refine za ((x0 == 119)) ?_ ?_
   ·refine za ((x0 == 119)) ?_ ?_
    ·refine ze ?_
     refine zo (.p (.agg (ZF (Z7.mk 48 57)))) ?_
     refine zo (.p (.agg (ZF (Z7.mk 65 90)))) ?_
     refine zi fun r1 hr1 => ?_
     obtain ⟨qr1, er1, exr1, rfl⟩ := Z1o (95) r1 hr1
     refine zc [] (.p (.agg (ZF r1))) [] er1 ?_
     refine zo (.p (.agg (ZF (Z7.mk 97 122)))) ?_
     refine zo (.p (.lst .ex (([(Z7.mk 48 57), (Z7.mk 65 90), r1, (Z7.mk 97 122)] : List Z7).map Zs))) ?_
     exact zr ((.p (.lst .ex (([(Z7.mk 48 57), (Z7.mk 65 90), r1, (Z7.mk 97 122)] : List Z7).map Zs))), []) ⟨_, rfl⟩
    ·refine ze ?_
     refine zo (bv (x0 == 115)) ?_
     refine za ((x0 == 115)) ?_ ?_
     ·refine za ((x0 == 115)) ?_ ?_
      ·refine ze ?_
       refine zo (.p (.agg (ZF (Z7.mk 9 13)))) ?_
       refine zi fun r2 hr2 => ?_
       obtain ⟨qr2, er2, exr2, rfl⟩ := Z1o (32) r2 hr2
       refine zc [] (.p (.agg (ZF r2))) [] er2 ?_
       refine zo (.p (.lst .ex (([(Z7.mk 9 13), r2] : List Z7).map Zs))) ?_
       exact zr ((.p (.lst .ex (([(Z7.mk 9 13), r2] : List Z7).map Zs))), []) ⟨_, rfl⟩
      ·exact zk (Z1Z )
     ·refine ze ?_
      refine zo (bv (x0 == 83)) ?_
      refine za ((x0 == 83)) ?_ ?_
      ·refine ze ?_
       refine zo (.p (.agg (ZF (Z7.mk 9 13)))) ?_
       refine zi fun r3 hr3 => ?_
       obtain ⟨qr3, er3, exr3, rfl⟩ := Z1o (32) r3 hr3
       refine zc [] (.p (.agg (ZF r3))) [] er3 ?_
       refine zo (.p (.lst .ex (([(Z7.mk 9 13), r3] : List Z7).map Zs))) ?_
       exact zr ((.p (.lst .ex (([(Z7.mk 9 13), r3] : List Z7).map Zs))), []) ⟨_, rfl⟩
      ·exact zk (Z1Z )
   ·refine ze ?_
    refine zo (bv (x0 == 87)) ?_
    refine za ((x0 == 87)) ?_ ?_
    ·refine ze ?_
     refine zo (.p (.agg (ZF (Z7.mk 48 57)))) ?_
     refine zo (.p (.agg (ZF (Z7.mk 65 90)))) ?_
     refine zi fun r4 hr4 => ?_
     obtain ⟨qr4, er4, exr4, rfl⟩ := Z1o (95) r4 hr4
     refine zc [] (.p (.agg (ZF r4))) [] er4 ?_
     refine zo (.p (.agg (ZF (Z7.mk 97 122)))) ?_
     refine zo (.p (.lst .ex (([(Z7.mk 48 57), (Z7.mk 65 90), r4, (Z7.mk 97 122)] : List Z7).map Zs))) ?_
     exact zr ((.p (.lst .ex (([(Z7.mk 48 57), (Z7.mk 65 90), r4, (Z7.mk 97 122)] : List Z7).map Zs))), []) ⟨_, rfl⟩
    ·refine ze ?_
     refine zo (bv (x0 == 115)) ?_
     refine za ((x0 == 115)) ?_ ?_
     ·refine za ((x0 == 115)) ?_ ?_
      ·refine ze ?_
       refine zo (.p (.agg (ZF (Z7.mk 9 13)))) ?_
       refine zi fun r5 hr5 => ?_
       obtain ⟨qr5, er5, exr5, rfl⟩ := Z1o (32) r5 hr5
       refine zc [] (.p (.agg (ZF r5))) [] er5 ?_
       refine zo (.p (.lst .ex (([(Z7.mk 9 13), r5] : List Z7).map Zs))) ?_
       exact zr ((.p (.lst .ex (([(Z7.mk 9 13), r5] : List Z7).map Zs))), []) ⟨_, rfl⟩
      ·exact zk (Z1Z )
     ·refine ze ?_
      refine zo (bv (x0 == 83)) ?_
      refine za ((x0 == 83)) ?_ ?_
      ·refine ze ?_
       refine zo (.p (.agg (ZF (Z7.mk 9 13)))) ?_
       refine zi fun r6 hr6 => ?_
       obtain ⟨qr6, er6, exr6, rfl⟩ := Z1o (32) r6 hr6
       refine zc [] (.p (.agg (ZF r6))) [] er6 ?_
       refine zo (.p (.lst .ex (([(Z7.mk 9 13), r6] : List Z7).map Zs))) ?_
       exact zr ((.p (.lst .ex (([(Z7.mk 9 13), r6] : List Z7).map Zs))), []) ⟨_, rfl⟩
      ·exact zk (Z1Z )
 ·refine ze ?_
  refine zo (bv (x0 == 68)) ?_
  refine za ((x0 == 68)) ?_ ?_
  ·refine ze ?_
   refine zo (.p (.agg (ZF (Z7.mk 48 57)))) ?_
   refine zo (.p (.lst .ex (([(Z7.mk 48 57)] : List Z7).map Zs))) ?_
   exact zr ((.p (.lst .ex (([(Z7.mk 48 57)] : List Z7).map Zs))), []) ⟨_, rfl⟩
  ·refine ze ?_
   refine zo (bv (x0 == 119)) ?_
   refine za ((x0 == 119)) ?_ ?_
   ·refine za ((x0 == 119)) ?_ ?_
    ·refine ze ?_
     refine zo (.p (.agg (ZF (Z7.mk 48 57)))) ?_
     refine zo (.p (.agg (ZF (Z7.mk 65 90)))) ?_
     refine zi fun r7 hr7 => ?_
     obtain ⟨qr7, er7, exr7, rfl⟩ := Z1o (95) r7 hr7
     refine zc [] (.p (.agg (ZF r7))) [] er7 ?_
     refine zo (.p (.agg (ZF (Z7.mk 97 122)))) ?_
     refine zo (.p (.lst .ex (([(Z7.mk 48 57), (Z7.mk 65 90), r7, (Z7.mk 97 122)] : List Z7).map Zs))) ?_
     exact zr ((.p (.lst .ex (([(Z7.mk 48 57), (Z7.mk 65 90), r7, (Z7.mk 97 122)] : List Z7).map Zs))), []) ⟨_, rfl⟩
    ·refine ze ?_
     refine zo (bv (x0 == 115)) ?_
     refine za ((x0 == 115)) ?_ ?_
     ·refine za ((x0 == 115)) ?_ ?_
      ·refine ze ?_
       refine zo (.p (.agg (ZF (Z7.mk 9 13)))) ?_
       refine zi fun r8 hr8 => ?_
       obtain ⟨qr8, er8, exr8, rfl⟩ := Z1o (32) r8 hr8
       refine zc [] (.p (.agg (ZF r8))) [] er8 ?_
       refine zo (.p (.lst .ex (([(Z7.mk 9 13), r8] : List Z7).map Zs))) ?_
       exact zr ((.p (.lst .ex (([(Z7.mk 9 13), r8] : List Z7).map Zs))), []) ⟨_, rfl⟩
      ·exact zk (Z1Z )
     ·refine ze ?_
      refine zo (bv (x0 == 83)) ?_
      refine za ((x0 == 83)) ?_ ?_
      ·refine ze ?_
       refine zo (.p (.agg (ZF (Z7.mk 9 13)))) ?_
       refine zi fun r9 hr9 => ?_
       obtain ⟨qr9, er9, exr9, rfl⟩ := Z1o (32) r9 hr9
       refine zc [] (.p (.agg (ZF r9))) [] er9 ?_
       refine zo (.p (.lst .ex (([(Z7.mk 9 13), r9] : List Z7).map Zs))) ?_
       exact zr ((.p (.lst .ex (([(Z7.mk 9 13), r9] : List Z7).map Zs))), []) ⟨_, rfl⟩
      ·exact zk (Z1Z )
   ·refine ze ?_
    refine zo (bv (x0 == 87)) ?_
    refine za ((x0 == 87)) ?_ ?_
    ·refine ze ?_
     refine zo (.p (.agg (ZF (Z7.mk 48 57)))) ?_
     refine zo (.p (.agg (ZF (Z7.mk 65 90)))) ?_
     refine zi fun r10 hr10 => ?_
     obtain ⟨qr10, er10, exr10, rfl⟩ := Z1o (95) r10 hr10
     refine zc [] (.p (.agg (ZF r10))) [] er10 ?_
     refine zo (.p (.agg (ZF (Z7.mk 97 122)))) ?_
     refine zo (.p (.lst .ex (([(Z7.mk 48 57), (Z7.mk 65 90), r10, (Z7.mk 97 122)] : List Z7).map Zs))) ?_
     exact zr ((.p (.lst .ex (([(Z7.mk 48 57), (Z7.mk 65 90), r10, (Z7.mk 97 122)] : List Z7).map Zs))), []) ⟨_, rfl⟩
    ·refine ze ?_
     refine zo (bv (x0 == 115)) ?_
     refine za ((x0 == 115)) ?_ ?_
     ·refine za ((x0 == 115)) ?_ ?_
      ·refine ze ?_
       refine zo (.p (.agg (ZF (Z7.mk 9 13)))) ?_
       refine zi fun r11 hr11 => ?_
       obtain ⟨qr11, er11, exr11, rfl⟩ := Z1o (32) r11 hr11
       refine zc [] (.p (.agg (ZF r11))) [] er11 ?_
       refine zo (.p (.lst .ex (([(Z7.mk 9 13), r11] : List Z7).map Zs))) ?_
       exact zr ((.p (.lst .ex (([(Z7.mk 9 13), r11] : List Z7).map Zs))), []) ⟨_, rfl⟩
      ·exact zk (Z1Z )
     ·refine ze ?_
      refine zo (bv (x0 == 83)) ?_
      refine za ((x0 == 83)) ?_ ?_
      ·refine ze ?_
       refine zo (.p (.agg (ZF (Z7.mk 9 13)))) ?_
       refine zi fun r12 hr12 => ?_
       obtain ⟨qr12, er12, exr12, rfl⟩ := Z1o (32) r12 hr12
       refine zc [] (.p (.agg (ZF r12))) [] er12 ?_
       refine zo (.p (.lst .ex (([(Z7.mk 9 13), r12] : List Z7).map Zs))) ?_
       exact zr ((.p (.lst .ex (([(Z7.mk 9 13), r12] : List Z7).map Zs))), []) ⟨_, rfl⟩
      ·exact zk (Z1Z )
theorem Zbn (x0 : Int) {r} (h : Z2u x0 = some r) : Z4y x0 = some r :=
 pick_of (fun _ _ ha hb => RRun.uniq (Zbu) (ha ) (hb )) (ZaP x0 r h)
noncomputable def Z1S (x2 : Int) (zl : List Int) (z1 : Int) (z2 : Int) : Option (Int × Int × Int × Int) :=
 (ZT 21 x2 zl z1 z2).bind fun r1 =>
 some (0, r1.1, r1.2.1, r1.2.2)
theorem Z2S (x2 : Int) (zl : List Int) (zp : Int) (z6 : Int) (zd : Int) (zh : List Zr) (z1 : Int) (z2 : Int) (zn : Own) (zb : Own) (zu : okApp zb = true) : Sim (Z2X zl z6 zd zh zn zb) (Z1S x2 zl z1 z2) (Z8M 1 (.ptr 0 0) (iv x2) [(Zi (Zk.mk zl zp z6 zd zh (Zj.mk z1 z2)) zn zb)]) := by
 unfold Z1S
 refine zf (Zf9 ..) ?_
 refine ze ?_
 refine zi fun r1 hr1 => ?_
 obtain ⟨qr1, er1, exr1, rfl⟩ := ZW (21) (x2) (zl) (zp) (z6) (zd) (zh) (z1) (z2) zn zb zu r1 hr1
 refine zc [0] (.p (.tup [])) [(Zi (Zk.mk zl r1.1 z6 zd zh (Zj.mk r1.2.1 r1.2.2)) zn zb)] er1 ?_
 refine ze ?_
 exact zr ((iv 0), [(Zi (Zk.mk zl r1.1 z6 zd zh (Zj.mk r1.2.1 r1.2.2)) zn zb)]) ⟨_, rfl⟩
noncomputable def Z5u (x1 : Int) (zp : Int) (z1 : Int) (z2 : Int) : Option (Int × Int × Int × Int) :=
 some (x1, zp, z1, z2)
theorem Z8O (x1 : Int) (zl : List Int) (zp : Int) (z6 : Int) (zd : Int) (zh : List Zr) (z1 : Int) (z2 : Int) (zn : Own) (zb : Own) (zu : okApp zb = true) : Sim (Z2X zl z6 zd zh zn zb) (Z5u x1 zp z1 z2) (ZcW 1 (iv x1) [(Zi (Zk.mk zl zp z6 zd zh (Zj.mk z1 z2)) zn zb)]) := by
 unfold Z5u
 refine zf (Zfm ..) ?_
 refine ze ?_
 exact zr ((iv x1), [(Zi (Zk.mk zl zp z6 zd zh (Zj.mk z1 z2)) zn zb)]) ⟨_, rfl⟩
noncomputable def Z5j (x1 : Int) (x2 : Int) (zl : List Int) (zp : Int) (z6 : Int) (zd : Int) (zh : List Zr) (z1 : Int) (z2 : Int) : Option (Int × Int × Int × Int) :=
 if ((x1 == 110)) = true then
 (some (10, zp, z1, z2))
 else
 (if ((x1 == 116)) = true then
 (some (9, zp, z1, z2))
 else
 (if ((x1 == 114)) = true then
 (some (13, zp, z1, z2))
 else
 (if ((x1 == 120)) = true then
 ((Z1B ((Zk.mk zl zp z6 zd zh (Zj.mk z1 z2)))).bind fun r1 =>
 (Z7B r1).bind fun r2 =>
 if ((decide (0 ≤ r2))) = true then
 ((Z1X zl zp).bind fun r3 =>
 (Z1B ((Zk.mk zl r3.2 z6 zd zh (Zj.mk z1 z2)))).bind fun r4 =>
 (Z7B r4).bind fun r5 =>
 if ((decide (0 ≤ r5))) = true then
 ((Z1X zl r3.2).bind fun r6 =>
 some ((IntKind.i64.wrap ((IntKind.i64.wrap (16 * r2)) + r5)), r6.2, z1, z2))
 else
 (Z1S x2 zl z1 z2))
 else
 (Z1S x2 zl z1 z2))
 else
 (if ((decide (32 < x1))) = true then
 (if ((decide (x1 < 127))) = true then
 ((Z5K (([(Z7.mk 48 57), (Z7.mk 65 90), (Z7.mk 97 122)] : List Z7)) x1).bind fun r7 =>
 if ((!r7)) = true then
 (Z5u x1 zp z1 z2)
 else
 (Z1S x2 zl z1 z2))
 else
 (Z1S x2 zl z1 z2))
 else
 (Z1S x2 zl z1 z2)))))
theorem Za3 (x1 : Int) (x2 : Int) (zl : List Int) (zp : Int) (z6 : Int) (zd : Int) (zh : List Zr) (z1 : Int) (z2 : Int) (zn : Own) (zb : Own) (zu : okApp zb = true) : Sim (Z2X zl z6 zd zh zn zb) (Z5j x1 x2 zl zp z6 zd zh z1 z2) (EE 57 [(.ptr 0 0), (iv x1), (iv x2)] [(Zi (Zk.mk zl zp z6 zd zh (Zj.mk z1 z2)) zn zb)]) := by
 unfold Z5j
 refine zf (ZhQ ..) ?_
 refine ze ?_
 refine ze ?_
 refine zo (bv (x1 == 110)) ?_
 refine za ((x1 == 110)) ?_ ?_
 ·refine ze ?_
  exact zr ((iv 10), [(Zi (Zk.mk zl zp z6 zd zh (Zj.mk z1 z2)) zn zb)]) ⟨_, rfl⟩
 ·refine ze ?_
  refine zo (bv (x1 == 116)) ?_
  refine za ((x1 == 116)) ?_ ?_
  ·refine ze ?_
   exact zr ((iv 9), [(Zi (Zk.mk zl zp z6 zd zh (Zj.mk z1 z2)) zn zb)]) ⟨_, rfl⟩
  ·refine ze ?_
   refine zo (bv (x1 == 114)) ?_
   refine za ((x1 == 114)) ?_ ?_
   ·refine ze ?_
    exact zr ((iv 13), [(Zi (Zk.mk zl zp z6 zd zh (Zj.mk z1 z2)) zn zb)]) ⟨_, rfl⟩
   ·refine ze ?_
    refine zo (bv (x1 == 120)) ?_
    refine za ((x1 == 120)) ?_ ?_
    ·refine ze ?_
     refine zi fun r1 hr1 => ?_
     obtain ⟨qr1, er1, exr1, rfl⟩ := Z1G ((Zk.mk zl zp z6 zd zh (Zj.mk z1 z2))) zn zb zu r1 hr1
     refine zc [0] (iv r1) [(Zi (Zk.mk zl zp z6 zd zh (Zj.mk z1 z2)) zn zb)] er1 ?_
     refine zi fun r2 hr2 => ?_
     obtain ⟨qr2, er2, exr2, rfl⟩ := Zb2 (r1) r2 hr2
     refine zc [] (iv r2) [(Zi (Zk.mk zl zp z6 zd zh (Zj.mk z1 z2)) zn zb)] er2 ?_
     refine ze ?_
     refine zo (bv (decide (0 ≤ r2))) ?_
     refine za ((decide (0 ≤ r2))) ?_ ?_
     ·refine ze ?_
      refine zi fun r3 hr3 => ?_
      obtain ⟨qr3, er3, exr3, rfl⟩ := Z2i (zl) (zp) (z6) (zd) (zh) (z1) (z2) zn zb zu r3 hr3
      refine zc [0] (iv r3.1) [(Zi (Zk.mk zl r3.2 z6 zd zh (Zj.mk z1 z2)) zn zb)] er3 ?_
      refine ze ?_
      refine zi fun r4 hr4 => ?_
      obtain ⟨qr4, er4, exr4, rfl⟩ := Z1G ((Zk.mk zl r3.2 z6 zd zh (Zj.mk z1 z2))) zn zb zu r4 hr4
      refine zc [0] (iv r4) [(Zi (Zk.mk zl r3.2 z6 zd zh (Zj.mk z1 z2)) zn zb)] er4 ?_
      refine zi fun r5 hr5 => ?_
      obtain ⟨qr5, er5, exr5, rfl⟩ := Zb2 (r4) r5 hr5
      refine zc [] (iv r5) [(Zi (Zk.mk zl r3.2 z6 zd zh (Zj.mk z1 z2)) zn zb)] er5 ?_
      refine ze ?_
      refine zo (bv (decide (0 ≤ r5))) ?_
      refine za ((decide (0 ≤ r5))) ?_ ?_
      ·refine ze ?_
       refine zi fun r6 hr6 => ?_
       obtain ⟨qr6, er6, exr6, rfl⟩ := Z2i (zl) (r3.2) (z6) (zd) (zh) (z1) (z2) zn zb zu r6 hr6
       refine zc [0] (iv r6.1) [(Zi (Zk.mk zl r6.2 z6 zd zh (Zj.mk z1 z2)) zn zb)] er6 ?_
       refine ze ?_
       refine zo (iv (IntKind.i64.wrap (16 * r2))) ?_
       refine zo (iv (IntKind.i64.wrap ((IntKind.i64.wrap (16 * r2)) + r5))) ?_
       exact zr ((iv (IntKind.i64.wrap ((IntKind.i64.wrap (16 * r2)) + r5))), [(Zi (Zk.mk zl r6.2 z6 zd zh (Zj.mk z1 z2)) zn zb)]) ⟨_, rfl⟩
      ·exact zk (Z2S (x2) (zl) (r3.2) (z6) (zd) (zh) (z1) (z2) zn zb zu)
     ·exact zk (Z2S (x2) (zl) (zp) (z6) (zd) (zh) (z1) (z2) zn zb zu)
    ·refine ze ?_
     refine zo (bv (decide (32 < x1))) ?_
     refine za ((decide (32 < x1))) ?_ ?_
     ·refine zo (bv (decide (x1 < 127))) ?_
      refine za ((decide (x1 < 127))) ?_ ?_
      ·refine zo (.p (.agg (ZF (Z7.mk 48 57)))) ?_
       refine zo (.p (.agg (ZF (Z7.mk 65 90)))) ?_
       refine zo (.p (.agg (ZF (Z7.mk 97 122)))) ?_
       refine zo (.p (.lst .ex (([(Z7.mk 48 57), (Z7.mk 65 90), (Z7.mk 97 122)] : List Z7).map Zs))) ?_
       refine zi fun r7 hr7 => ?_
       obtain ⟨qr7, er7, exr7, rfl⟩ := ZbB (([(Z7.mk 48 57), (Z7.mk 65 90), (Z7.mk 97 122)] : List Z7)) (x1) .sh r7 hr7
       refine zc [] (bv r7) [(Zi (Zk.mk zl zp z6 zd zh (Zj.mk z1 z2)) zn zb)] er7 ?_
       refine zo (bv (!r7)) ?_
       refine za ((!r7)) ?_ ?_
       ·exact zk (Z8O (x1) (zl) (zp) (z6) (zd) (zh) (z1) (z2) zn zb zu)
       ·exact zk (Z2S (x2) (zl) (zp) (z6) (zd) (zh) (z1) (z2) zn zb zu)
      ·exact zk (Z2S (x2) (zl) (zp) (z6) (zd) (zh) (z1) (z2) zn zb zu)
     ·exact zk (Z2S (x2) (zl) (zp) (z6) (zd) (zh) (z1) (z2) zn zb zu)
theorem Zah (x1 : Int) (x2 : Int) (zl : List Int) (zp : Int) (z6 : Int) (zd : Int) (zh : List Zr) (z1 : Int) (z2 : Int) {r} (h : Z5j x1 x2 zl zp z6 zd zh z1 z2 = some r) : Z4n x1 x2 zl zp z6 zd zh z1 z2 = some r :=
 pick_of (fun _ _ ha hb => RRun.uniq (ZaF _ _ _ _ _ _) (ha .ex .ex rfl) (hb .ex .ex rfl)) (fun zn zb zu => Za3 x1 x2 zl zp z6 zd zh z1 z2 zn zb zu r h)
noncomputable def Z6Z (x0 : Int) : Option (Int) :=
 some ((IntKind.i64.wrap (x0 - 48)))
theorem ZbC (x0 : Int) : Sim (Z4T) (Z6Z x0) (Ze6 0 (iv x0) []) := by
 unfold Z6Z
 refine zf (Zft ..) ?_
 refine ze ?_
 refine zo (iv (IntKind.i64.wrap (x0 - 48))) ?_
 exact zr ((iv (IntKind.i64.wrap (x0 - 48))), []) ⟨_, rfl⟩
noncomputable def Z7a (x0 : Int) : Option (Int) :=
 some ((IntKind.i64.wrap ((IntKind.i64.wrap (x0 - 97)) + 10)))
theorem ZbH (x0 : Int) : Sim (Z4T) (Z7a x0) (Zea 0 (iv x0) []) := by
 unfold Z7a
 refine zf (Zgv ..) ?_
 refine ze ?_
 refine zo (iv (IntKind.i64.wrap (x0 - 97))) ?_
 refine zo (iv (IntKind.i64.wrap ((IntKind.i64.wrap (x0 - 97)) + 10))) ?_
 exact zr ((iv (IntKind.i64.wrap ((IntKind.i64.wrap (x0 - 97)) + 10))), []) ⟨_, rfl⟩
noncomputable def Z64  : Option (Int) :=
 some ((-1))
theorem Z94  : Sim (Z4T) (Z64) (Zcm 0  []) := by
 unfold Z64
 refine zf (Zfo ..) ?_
 refine ze ?_
 exact zr ((iv (-1)), []) ⟨_, rfl⟩
noncomputable def Z5X (x0 : Int) : Option (Int) :=
 if ((decide (97 ≤ x0))) = true then
 (if ((decide (x0 ≤ 102))) = true then
 (Z7a x0)
 else
 (Z64))
 else
 (Z64)
theorem Z90 (x0 : Int) : Sim (Z4T) (Z5X x0) (Zcv 0 (iv x0) []) := by
 unfold Z5X
 refine zf (ZfH ..) ?_
 refine ze ?_
 refine zo (bv (decide (97 ≤ x0))) ?_
 refine za ((decide (97 ≤ x0))) ?_ ?_
 ·refine zo (bv (decide (x0 ≤ 102))) ?_
  refine za ((decide (x0 ≤ 102))) ?_ ?_
  ·exact zk (ZbH (x0))
  ·exact zk (Z94 )
 ·exact zk (Z94 )
noncomputable def Z8V (x0 : Int) : Option (Int) :=
 if ((decide (48 ≤ x0))) = true then
 (if ((decide (x0 ≤ 57))) = true then
 (Z6Z x0)
 else
 (Z5X x0))
 else
 (Z5X x0)
theorem ZcB (x0 : Int) : Sim (Z4T) (Z8V x0) (EE 71 [(iv x0)] []) := by
 unfold Z8V
 refine zf (ZhM ..) ?_
 refine ze ?_
 refine ze ?_
 refine zo (bv (decide (48 ≤ x0))) ?_
 refine za ((decide (48 ≤ x0))) ?_ ?_
 ·refine zo (bv (decide (x0 ≤ 57))) ?_
  refine za ((decide (x0 ≤ 57))) ?_ ?_
  ·exact zk (ZbC (x0))
  ·exact zk (Z90 (x0))
 ·exact zk (Z90 (x0))
theorem ZcR (x0 : Int) {r} (h : Z8V x0 = some r) : Z7B x0 = some r :=
 pick_of (fun _ _ ha hb => RRun.uniq (Zdb) (ha ) (hb )) (ZcB x0 r h)
noncomputable def Z6w (x0 : List Z7) (x1 : Int) : Option (Bool) :=
 (Z35 x0 x1).bind fun r1 =>
 some (r1)
theorem Zbx (x0 : List Z7) (x1 : Int) (ox0 : Own) : Sim (Z5J) (Z6w x0 x1) (EE 19 [(.p (.lst ox0 (x0.map Zs))), (iv x1)] []) := by
 unfold Z6w
 refine zf (Zi9 ..) ?_
 refine ze ?_
 refine zx (.ptr 0 0) [[(iv x1)]] ?_
 refine ze ?_
 refine zi fun r1 hr1 => ?_
 obtain ⟨qr1, er1, exr1, rfl⟩ := Z7l (x0) (x1) .sh r1 hr1
 refine zc [0] (bv r1) [[(iv x1)]] er1 ?_
 exact zr ((bv r1), [[(iv x1)]]) ⟨_, rfl⟩
theorem ZbJ (x0 : List Z7) (x1 : Int) {r} (h : Z6w x0 x1 = some r) : Z5K x0 x1 = some r :=
 pick_of (fun _ _ ha hb => RRun.uniq (Zc4) (ha .ex) (hb .ex)) (fun ox0 => Zbx x0 x1 ox0 r h)
noncomputable def Z34 (x0 : List Z7) (zY : Int) : Option (Bool) :=
 (Z3B x0 zY).bind fun r1 =>
 some ((decide (0 ≤ r1)))
theorem Z7d (x0 : List Z7) (zY : Int) (ox0 : Own) : Sim (Z2y zY) (Z34 x0 zY) (EE 30 [(.p (.lst ox0 (x0.map Zs))), (.clo 31 [] [(.ptr 0 0)])] [[(iv zY)]]) := by
 unfold Z34
 refine zf (Zig ..) ?_
 refine ze ?_
 refine ze ?_
 refine zi fun r1 hr1 => ?_
 obtain ⟨qr1, er1, exr1, rfl⟩ := Z87 (x0) (zY) .sh r1 hr1
 refine zc [0] (iv r1) [[(iv zY)]] er1 ?_
 refine zo (bv (decide (0 ≤ r1))) ?_
 exact zr ((bv (decide (0 ≤ r1))), [[(iv zY)]]) ⟨_, rfl⟩
theorem Z7p (x0 : List Z7) (zY : Int) {r} (h : Z34 x0 zY = some r) : Z35 x0 zY = some r :=
 pick_of (fun _ _ ha hb => RRun.uniq (Z7D _) (ha .ex) (hb .ex)) (fun ox0 => Z7d x0 zY ox0 r h)
noncomputable def Z3G (x0 : List Z7) (zY : Int) : Option (Int) :=
 Z2C x0 ((x0.length : Int)) 0 zY
theorem Z7V (x0 : List Z7) (zY : Int) (ox0 : Own) : Sim (Z1i zY) (Z3G x0 zY) (EE 37 [(.p (.lst ox0 (x0.map Zs))), (.clo 31 [] [(.ptr 0 0)])] [[(iv zY)]]) := by
 unfold Z3G
 refine zf (Zi5 ..) ?_
 refine ze ?_
 refine ze ?_
 refine zo (iv (x0.length : Int)) ?_ (Eq.trans (by kernel_rfl) (xlen_of (P := PP) (t := 24) (d := 39) (by kernel_rfl) Zs (shrO ox0) x0))
 exact zk (Z5c (x0) ((x0.length : Int)) (0) (zY) ox0)
theorem Z85 (x0 : List Z7) (zY : Int) {r} (h : Z3G x0 zY = some r) : Z3B x0 zY = some r :=
 pick_of (fun _ _ ha hb => RRun.uniq (Z5F _) (ha .ex) (hb .ex)) (fun ox0 => Z7V x0 zY ox0 r h)
noncomputable def Z37 (x0 : List Z7) (x7 : Int) (x8 : Int) (zY : Int) : Option (Int) :=
 Z2C x0 x7 ((IntKind.i64.wrap (x8 + 1))) zY
theorem Z71 (x0 : List Z7) (x7 : Int) (x8 : Int) (zY : Int) (ox0 : Own) : Sim (Z1i zY) (Z37 x0 x7 x8 zY) (Zdz 1 (.p (.lst ox0 (x0.map Zs))) (.clo 31 [] [(.ptr 0 0)]) (iv x7) (iv x8) [[(iv zY)]]) := by
 unfold Z37
 refine zf (ZgF ..) ?_
 refine ze ?_
 refine zo (iv (IntKind.i64.wrap (x8 + 1))) ?_
 exact zk (Z5c (x0) (x7) ((IntKind.i64.wrap (x8 + 1))) (zY) ox0)
noncomputable def Z2x (x0 : List Z7) (x7 : Int) (x8 : Int) (zY : Int) : Option (Int) :=
 (lget x0 x8).bind fun a1 =>
 (Z5W a1 zY).bind fun r2 =>
 if (r2) = true then
 (some (x8))
 else
 (Z37 x0 x7 x8 zY)
theorem Z73 (x0 : List Z7) (x7 : Int) (x8 : Int) (zY : Int) (ox0 : Own) : Sim (Z1i zY) (Z2x x0 x7 x8 zY) (Zeo 1 (.p (.lst ox0 (x0.map Zs))) (.clo 31 [] [(.ptr 0 0)]) (iv x7) (iv x8) [[(iv zY)]]) := by
 unfold Z2x
 refine zf (ZfS ..) ?_
 refine ze ?_
 refine ze ?_
 refine zi fun a1 ha1 => ?_
 refine zo (.cptr (ZF a1)) ?_ (Eq.trans (by kernel_rfl) (xidx_of (o := (shrO ox0)) (k := .i64) (n := 2) (e := Zs) (cs := Z3J) (fun _ => rfl) (fun _ => rfl) (by decide) ha1))
 refine zo (.p (.agg (ZF a1))) ?_
 refine zi fun r2 hr2 => ?_
 obtain ⟨qr2, er2, exr2, rfl⟩ := Zbr (a1) (zY) r2 hr2
 refine zv [0] (bv r2) [[(iv zY)]] er2 ?_
 refine za (r2) ?_ ?_
 ·refine ze ?_
  exact zr ((iv x8), [[(iv zY)]]) ⟨_, rfl⟩
 ·exact zk (Z71 (x0) (x7) (x8) (zY) ox0)
noncomputable def Z4k  : Option (Int) :=
 some ((-1))
theorem Z7f (zY : Int) : Sim (Z1i zY) (Z4k) (Zeh 1  [[(iv zY)]]) := by
 unfold Z4k
 refine zf (ZfV ..) ?_
 refine ze ?_
 exact zr ((iv (-1)), [[(iv zY)]]) ⟨_, rfl⟩
noncomputable def Z23 (x0 : List Z7) (x7 : Int) (x8 : Int) (zY : Int) : Option (Int) :=
 if ((decide (x8 < x7))) = true then
 (Z2x x0 x7 x8 zY)
 else
 (Z4k)
theorem Z7h (x0 : List Z7) (x7 : Int) (x8 : Int) (zY : Int) (ox0 : Own) : Sim (Z1i zY) (Z23 x0 x7 x8 zY) (ZaK 1 (.p (.lst ox0 (x0.map Zs))) (.clo 31 [] [(.ptr 0 0)]) (iv x7) (iv x8) [[(iv zY)]]) := by
 unfold Z23
 refine zf (ZfA ..) ?_
 refine ze ?_
 refine zo (bv (decide (x8 < x7))) ?_
 refine za ((decide (x8 < x7))) ?_ ?_
 ·exact zk (Z73 (x0) (x7) (x8) (zY) ox0)
 ·exact zk (Z7f (zY))
theorem Z3M (x0 : List Z7) (x7 : Int) (x8 : Int) (zY : Int) {r} (h : Z23 x0 x7 x8 zY = some r) : Z2C x0 x7 x8 zY = some r :=
 pick_of (fun _ _ ha hb => RRun.uniq (Z5F _) (ha .ex) (hb .ex)) (fun ox0 => Z7h x0 x7 x8 zY ox0 r h)
noncomputable def Z5T (x0 : Z7) (zY : Int) : Option (Bool) :=
 if ((decide (x0.Lo ≤ zY))) = true then
 (some ((decide (zY ≤ x0.Hi))))
 else
 (some (false))
theorem Zb7 (x0 : Z7) (zY : Int) : Sim (Z5d zY) (Z5T x0 zY) (EE 31 [(.p (.agg (ZF x0))), (.ptr 0 0)] [[(iv zY)]]) := by
 unfold Z5T
 refine zf (ZhR ..) ?_
 refine ze ?_
 refine zx (.ptr 1 0) [[(iv zY)], (Z1m x0)] ?_
 refine ze ?_
 refine zo (.ptr 1 0) ?_
 refine zo (iv x0.Lo) ?_
 refine zo (iv zY) ?_
 refine zo (bv (decide (x0.Lo ≤ zY))) ?_
 refine za ((decide (x0.Lo ≤ zY))) ?_ ?_
 ·refine zo (iv zY) ?_
  refine zo (.ptr 1 1) ?_
  refine zo (iv x0.Hi) ?_
  refine zo (bv (decide (zY ≤ x0.Hi))) ?_
  exact zr ((bv (decide (zY ≤ x0.Hi))), [[(iv zY)], (Z1m x0)]) ⟨_, rfl⟩
 ·exact zr ((bv false), [[(iv zY)], (Z1m x0)]) ⟨_, rfl⟩
theorem Zbq (x0 : Z7) (zY : Int) {r} (h : Z5T x0 zY = some r) : Z5W x0 zY = some r :=
 pick_of (fun _ _ ha hb => RRun.uniq (Zbv _) (ha ) (hb )) (Zb7 x0 zY r h)
noncomputable def Z4m (x1 : Int) (zl : List Int) (zp : Int) (z6 : Int) (zd : Int) (zh : List Zr) (z1 : Int) (z2 : Int) : Option (Z3 × Int × Int × Int) :=
 (Z13 ((ByteArray.mk #[94])) zl zp).bind fun r1 =>
 Z2D x1 r1.1 0 zl r1.2 z6 zd zh z1 z2 (([] : List Z7))
theorem Z9X (x1 : Int) (zl : List Int) (zp : Int) (z6 : Int) (zd : Int) (zh : List Zr) (z1 : Int) (z2 : Int) (zn : Own) (zb : Own) (zu : okApp zb = true) : Sim (Z16 zl z6 zd zh zn zb) (Z4m x1 zl zp z6 zd zh z1 z2) (EE 50 [(.ptr 0 0), (iv x1)] [(Zi (Zk.mk zl zp z6 zd zh (Zj.mk z1 z2)) zn zb)]) := by
 unfold Z4m
 refine zf (Zh9 ..) ?_
 refine ze ?_
 refine zz (.ptr 1 0) [(Zi (Zk.mk zl zp z6 zd zh (Zj.mk z1 z2)) zn zb), (Zq (Z3.mk 0 0 0 0 0 ([] : List Z7) ([] : List Z3)) .nl .nl)] ?_
 refine ze ?_
 refine zi fun r1 hr1 => ?_
 obtain ⟨qr1, er1, exr1, rfl⟩ := Z18 ((ByteArray.mk #[94])) (zl) (zp) (z6) (zd) (zh) (z1) (z2) zn zb zu r1 hr1
 refine zc [0] (bv r1.1) [(Zi (Zk.mk zl r1.2 z6 zd zh (Zj.mk z1 z2)) zn zb), (Zq (Z3.mk 0 0 0 0 0 ([] : List Z7) ([] : List Z3)) .nl .nl)] er1 ?_
 refine ze ?_
 refine zz (.ptr 2 0) [(Zi (Zk.mk zl r1.2 z6 zd zh (Zj.mk z1 z2)) zn zb), (Zq (Z3.mk 0 0 0 0 0 ([] : List Z7) ([] : List Z3)) .nl .nl), [(.p (.lst .nl []))]] ?_
 refine ze ?_
 refine ze ?_
 exact zk (Z6l (x1) (r1.1) (0) (zl) (r1.2) (z6) (zd) (zh) (z1) (z2) ((Z3.mk 0 0 0 0 0 ([] : List Z7) ([] : List Z3))) (([] : List Z7)) zn zb .nl .nl .nl zu rfl rfl)
theorem Za8 (x1 : Int) (zl : List Int) (zp : Int) (z6 : Int) (zd : Int) (zh : List Zr) (z1 : Int) (z2 : Int) {r} (h : Z4m x1 zl zp z6 zd zh z1 z2 = some r) : Z5l x1 zl zp z6 zd zh z1 z2 = some r :=
 pick_of (fun _ _ ha hb => RRun.uniq (Z7A _ _ _ _ _ _) (ha .ex .ex rfl) (hb .ex .ex rfl)) (fun zn zb zu => Z9X x1 zl zp z6 zd zh z1 z2 zn zb zu r h)
noncomputable def Z19 (x1 : Int) (x5 : Bool) (x8 : Int) (zl : List Int) (zp : Int) (z6 : Int) (zd : Int) (zh : List Zr) (z1 : Int) (z2 : Int) (z10 : List Z7) : Option (Z3 × Int × Int × Int) :=
 Z2D x1 x5 ((IntKind.i64.wrap (x8 + 1))) zl zp z6 zd zh z1 z2 z10
theorem Z1E (x1 : Int) (x5 : Bool) (x8 : Int) (zl : List Int) (zp : Int) (z6 : Int) (zd : Int) (zh : List Zr) (z1 : Int) (z2 : Int) (b1 : Z3) (z10 : List Z7) (zn : Own) (zb : Own) (zB : Own) (zy : Own) (z1a : Own) (zu : okApp zb = true) (zQ : okApp zB = true) (zJ : okApp zy = true) : Sim (Z16 zl z6 zd zh zn zb) (Z19 x1 x5 x8 zl zp z6 zd zh z1 z2 z10) (Z6R 1 (.ptr 0 0) (iv x1) (.ptr 1 0) (bv x5) (.ptr 2 0) (.clo 58 [] [(.ptr 2 0)]) (iv x8) [(Zi (Zk.mk zl zp z6 zd zh (Zj.mk z1 z2)) zn zb), (Zq b1 zB zy), [(.p (.lst z1a (z10.map Zs)))]]) := by
 unfold Z19
 refine zf (ZfL ..) ?_
 refine ze ?_
 refine zo (iv (IntKind.i64.wrap (x8 + 1))) ?_
 exact zk (Z6l (x1) (x5) ((IntKind.i64.wrap (x8 + 1))) (zl) (zp) (z6) (zd) (zh) (z1) (z2) (b1) (z10) zn zb zB zy z1a zu zQ zJ)
noncomputable def Z3u (zp : Int) (z1 : Int) (z2 : Int) (z10 : List Z7) : Option (Z3 × Int × Int × Int) :=
 some ((Z3.mk 1 0 0 0 0 z10 ([] : List Z3)), zp, z1, z2)
theorem Z6c (zl : List Int) (zp : Int) (z6 : Int) (zd : Int) (zh : List Zr) (z1 : Int) (z2 : Int) (b1 : Z3) (z10 : List Z7) (zn : Own) (zb : Own) (zB : Own) (zy : Own) (z1a : Own) (zu : okApp zb = true) (zQ : okApp zB = true) (zJ : okApp zy = true) : Sim (Z16 zl z6 zd zh zn zb) (Z3u zp z1 z2 z10) (ZbX 1 (.ptr 1 0) (.ptr 2 0) [(Zi (Zk.mk zl zp z6 zd zh (Zj.mk z1 z2)) zn zb), (Zq b1 zB zy), [(.p (.lst z1a (z10.map Zs)))]]) := by
 unfold Z3u
 refine zf (Zf7 ..) ?_
 refine ze ?_
 refine zo (.p (.lst (shrO z1a) (z10.map Zs))) ?_
 refine zo (.p (.agg (ZD (Z3.mk 1 0 0 0 0 z10 ([] : List Z3)) (shrO (shrO z1a)) .nl))) ?_
 refine zt [(Zi (Zk.mk zl zp z6 zd zh (Zj.mk z1 z2)) zn zb), (Zq (Z3.mk 1 0 0 0 0 z10 ([] : List Z3)) (shrO (shrO z1a)) .nl), [(.p (.lst z1a (z10.map Zs)))]] ?_
 exact zr ((.p (.agg (ZD (Z3.mk 1 0 0 0 0 z10 ([] : List Z3)) .sh .sh))), [(Zi (Zk.mk zl zp z6 zd zh (Zj.mk z1 z2)) zn zb), (Zq (Z3.mk 1 0 0 0 0 z10 ([] : List Z3)) (shrO (shrO z1a)) .nl), [(.p (.lst z1a (z10.map Zs)))]]) ⟨_, rfl⟩
noncomputable def Z4q (x5 : Bool) (zl : List Int) (zp : Int) (z1 : Int) (z2 : Int) (z10 : List Z7) : Option (Z3 × Int × Int × Int) :=
 (Z1X zl zp).bind fun r1 =>
 if (x5) = true then
 ((Z5L z10).bind fun r2 =>
 Z3u r1.2 z1 z2 r2.1)
 else
 (Z3u r1.2 z1 z2 z10)
theorem Z8K (x5 : Bool) (zl : List Int) (zp : Int) (z6 : Int) (zd : Int) (zh : List Zr) (z1 : Int) (z2 : Int) (b1 : Z3) (z10 : List Z7) (zn : Own) (zb : Own) (zB : Own) (zy : Own) (z1a : Own) (zu : okApp zb = true) (zQ : okApp zB = true) (zJ : okApp zy = true) : Sim (Z16 zl z6 zd zh zn zb) (Z4q x5 zl zp z1 z2 z10) (ZcQ 1 (.ptr 0 0) (.ptr 1 0) (bv x5) (.ptr 2 0) [(Zi (Zk.mk zl zp z6 zd zh (Zj.mk z1 z2)) zn zb), (Zq b1 zB zy), [(.p (.lst z1a (z10.map Zs)))]]) := by
 unfold Z4q
 refine zf (Zfk ..) ?_
 refine ze ?_
 refine zi fun r1 hr1 => ?_
 obtain ⟨qr1, er1, exr1, rfl⟩ := Z2i (zl) (zp) (z6) (zd) (zh) (z1) (z2) zn zb zu r1 hr1
 refine zc [0] (iv r1.1) [(Zi (Zk.mk zl r1.2 z6 zd zh (Zj.mk z1 z2)) zn zb), (Zq b1 zB zy), [(.p (.lst z1a (z10.map Zs)))]] er1 ?_
 refine ze ?_
 refine za (x5) ?_ ?_
 ·refine ze ?_
  refine zo (.p (.lst (shrO z1a) (z10.map Zs))) ?_
  refine zi fun r2 hr2 => ?_
  obtain ⟨qr2, er2, exr2, rfl⟩ := Z95 (z10) .sh r2 hr2
  refine zc [] (.p (.tup [(.lst .sh (r2.1.map Zs)), (.v (.int .i64 r2.2))])) [(Zi (Zk.mk zl r1.2 z6 zd zh (Zj.mk z1 z2)) zn zb), (Zq b1 zB zy), [(.p (.lst z1a (z10.map Zs)))]] er2 ?_
  refine zo (.p (.lst .sh (r2.1.map Zs))) ?_
  refine zo (iv r2.2) ?_
  refine zt [(Zi (Zk.mk zl r1.2 z6 zd zh (Zj.mk z1 z2)) zn zb), (Zq b1 zB zy), [(.p (.lst .sh (r2.1.map Zs)))]] ?_
  exact zk (Z6c (zl) (r1.2) (z6) (zd) (zh) (z1) (z2) (b1) (r2.1) zn zb zB zy .sh zu zQ zJ)
 ·exact zk (Z6c (zl) (r1.2) (z6) (zd) (zh) (z1) (z2) (b1) (z10) zn zb zB zy z1a zu zQ zJ)
noncomputable def Z2p (x1 : Int) (x5 : Bool) (x8 : Int) (x9 : Int) (zl : List Int) (z6 : Int) (zd : Int) (zh : List Zr) (z1 : Int) (z2 : Int) (z10 : List Z7) : Option (Z3 × Int × Int × Int) :=
 (ZT 22 x9 zl z1 z2).bind fun r1 =>
 Z19 x1 x5 x8 zl r1.1 z6 zd zh r1.2.1 r1.2.2 z10
theorem Z3C (x1 : Int) (x5 : Bool) (x8 : Int) (x9 : Int) (zl : List Int) (zp : Int) (z6 : Int) (zd : Int) (zh : List Zr) (z1 : Int) (z2 : Int) (b1 : Z3) (z10 : List Z7) (zn : Own) (zb : Own) (zB : Own) (zy : Own) (z1a : Own) (zu : okApp zb = true) (zQ : okApp zB = true) (zJ : okApp zy = true) : Sim (Z16 zl z6 zd zh zn zb) (Z2p x1 x5 x8 x9 zl z6 zd zh z1 z2 z10) (Z9P 1 (.ptr 0 0) (iv x1) (.ptr 1 0) (bv x5) (.ptr 2 0) (.clo 58 [] [(.ptr 2 0)]) (iv x8) (iv x9) [(Zi (Zk.mk zl zp z6 zd zh (Zj.mk z1 z2)) zn zb), (Zq b1 zB zy), [(.p (.lst z1a (z10.map Zs)))]]) := by
 unfold Z2p
 refine zf (ZeU ..) ?_
 refine ze ?_
 refine zi fun r1 hr1 => ?_
 obtain ⟨qr1, er1, exr1, rfl⟩ := ZW (22) (x9) (zl) (zp) (z6) (zd) (zh) (z1) (z2) zn zb zu r1 hr1
 refine zc [0] (.p (.tup [])) [(Zi (Zk.mk zl r1.1 z6 zd zh (Zj.mk r1.2.1 r1.2.2)) zn zb), (Zq b1 zB zy), [(.p (.lst z1a (z10.map Zs)))]] er1 ?_
 exact zk (Z1E (x1) (x5) (x8) (zl) (r1.1) (z6) (zd) (zh) (r1.2.1) (r1.2.2) (b1) (z10) zn zb zB zy z1a zu zQ zJ)
noncomputable def Z1x (x1 : Int) (x5 : Bool) (x8 : Int) (x11 : Int) (x15 : Int) (zl : List Int) (zp : Int) (z6 : Int) (zd : Int) (zh : List Zr) (z1 : Int) (z2 : Int) (z10 : List Z7) : Option (Z3 × Int × Int × Int) :=
 if ((z1 == 0)) = true then
 ((Z3R (([(Z7.mk x11 x15)] : List Z7)) z10).bind fun r1 =>
 Z19 x1 x5 x8 zl zp z6 zd zh z1 z2 r1)
 else
 (Z19 x1 x5 x8 zl zp z6 zd zh z1 z2 z10)
theorem Z3I (x1 : Int) (x5 : Bool) (x8 : Int) (x11 : Int) (x15 : Int) (zl : List Int) (zp : Int) (z6 : Int) (zd : Int) (zh : List Zr) (z1 : Int) (z2 : Int) (b1 : Z3) (z10 : List Z7) (zn : Own) (zb : Own) (zB : Own) (zy : Own) (z1a : Own) (zu : okApp zb = true) (zQ : okApp zB = true) (zJ : okApp zy = true) : Sim (Z16 zl z6 zd zh zn zb) (Z1x x1 x5 x8 x11 x15 zl zp z6 zd zh z1 z2 z10) (Z9N 1 (.ptr 0 0) (iv x1) (.ptr 1 0) (bv x5) (.ptr 2 0) (.clo 58 [] [(.ptr 2 0)]) (iv x8) (iv x11) (iv x15) [(Zi (Zk.mk zl zp z6 zd zh (Zj.mk z1 z2)) zn zb), (Zq b1 zB zy), [(.p (.lst z1a (z10.map Zs)))]]) := by
 unfold Z1x
 refine zf (Zfi ..) ?_
 refine ze ?_
 refine zo (.ptr 0 0) ?_
 refine zo (.ptr 0 5) ?_
 refine zo (.ptr 0 5) ?_
 refine zo (iv z1) ?_
 refine zo (bv (z1 == 0)) ?_
 refine za ((z1 == 0)) ?_ ?_
 ·refine ze ?_
  refine zo (.p (.agg (ZF (Z7.mk x11 x15)))) ?_
  refine zo (.p (.lst .ex (([(Z7.mk x11 x15)] : List Z7).map Zs))) ?_
  refine zi fun r1 hr1 => ?_
  obtain ⟨qr1, er1, or1_0_0, exr1, rfl⟩ := Z6A (([(Z7.mk x11 x15)] : List Z7)) (z10) .sh z1a r1 hr1
  refine zv [2] (.p (.tup [])) [(Zi (Zk.mk zl zp z6 zd zh (Zj.mk z1 z2)) zn zb), (Zq b1 zB zy), [(.p (.lst or1_0_0 (r1.map Zs)))]] er1 ?_
  exact zk (Z1E (x1) (x5) (x8) (zl) (zp) (z6) (zd) (zh) (z1) (z2) (b1) (r1) zn zb zB zy or1_0_0 zu zQ zJ)
 ·exact zk (Z1E (x1) (x5) (x8) (zl) (zp) (z6) (zd) (zh) (z1) (z2) (b1) (z10) zn zb zB zy z1a zu zQ zJ)
noncomputable def Z2P (x1 : Int) (x5 : Bool) (x8 : Int) (x9 : Int) (x11 : Int) (x15 : Int) (zl : List Int) (z6 : Int) (zd : Int) (zh : List Zr) (z1 : Int) (z2 : Int) (z10 : List Z7) : Option (Z3 × Int × Int × Int) :=
 (ZT 22 x9 zl z1 z2).bind fun r1 =>
 Z1x x1 x5 x8 x11 x15 zl r1.1 z6 zd zh r1.2.1 r1.2.2 z10
theorem Z60 (x1 : Int) (x5 : Bool) (x8 : Int) (x9 : Int) (x11 : Int) (x15 : Int) (zl : List Int) (zp : Int) (z6 : Int) (zd : Int) (zh : List Zr) (z1 : Int) (z2 : Int) (b1 : Z3) (z10 : List Z7) (zn : Own) (zb : Own) (zB : Own) (zy : Own) (z1a : Own) (zu : okApp zb = true) (zQ : okApp zB = true) (zJ : okApp zy = true) : Sim (Z16 zl z6 zd zh zn zb) (Z2P x1 x5 x8 x9 x11 x15 zl z6 zd zh z1 z2 z10) (ZbS 1 (.ptr 0 0) (iv x1) (.ptr 1 0) (bv x5) (.ptr 2 0) (.clo 58 [] [(.ptr 2 0)]) (iv x8) (iv x9) (iv x11) (iv x15) [(Zi (Zk.mk zl zp z6 zd zh (Zj.mk z1 z2)) zn zb), (Zq b1 zB zy), [(.p (.lst z1a (z10.map Zs)))]]) := by
 unfold Z2P
 refine zf (ZeT ..) ?_
 refine ze ?_
 refine zi fun r1 hr1 => ?_
 obtain ⟨qr1, er1, exr1, rfl⟩ := ZW (22) (x9) (zl) (zp) (z6) (zd) (zh) (z1) (z2) zn zb zu r1 hr1
 refine zc [0] (.p (.tup [])) [(Zi (Zk.mk zl r1.1 z6 zd zh (Zj.mk r1.2.1 r1.2.2)) zn zb), (Zq b1 zB zy), [(.p (.lst z1a (z10.map Zs)))]] er1 ?_
 exact zk (Z3I (x1) (x5) (x8) (x11) (x15) (zl) (r1.1) (z6) (zd) (zh) (r1.2.1) (r1.2.2) (b1) (z10) zn zb zB zy z1a zu zQ zJ)
noncomputable def Z4v (x1 : Int) (x5 : Bool) (x8 : Int) (x9 : Int) (x11 : Int) (zl : List Int) (zp : Int) (z6 : Int) (zd : Int) (zh : List Zr) (z1 : Int) (z2 : Int) (z10 : List Z7) : Option (Z3 × Int × Int × Int) :=
 (Z3h zl zp z6 zd zh z1 z2).bind fun r1 =>
 if ((r1.2.2.2.2.1 == 0)) = true then
 ((nilO (shrO (shrO (shrO (shrO r1.2.1.1)))) r1.2.1.2).bind fun a2 =>
 if ((!a2)) = true then
 (Z2P x1 x5 x8 x9 x11 r1.1 zl z6 zd zh r1.2.2.2.2.1 r1.2.2.2.2.2 z10)
 else
 (if ((decide (r1.1 < x11))) = true then
 (Z2P x1 x5 x8 x9 x11 r1.1 zl z6 zd zh r1.2.2.2.2.1 r1.2.2.2.2.2 z10)
 else
 (Z1x x1 x5 x8 x11 r1.1 zl r1.2.2.2.1 z6 zd zh r1.2.2.2.2.1 r1.2.2.2.2.2 z10)))
 else
 (Z1x x1 x5 x8 x11 r1.1 zl r1.2.2.2.1 z6 zd zh r1.2.2.2.2.1 r1.2.2.2.2.2 z10)
theorem Z8T (x1 : Int) (x5 : Bool) (x8 : Int) (x9 : Int) (x11 : Int) (zl : List Int) (zp : Int) (z6 : Int) (zd : Int) (zh : List Zr) (z1 : Int) (z2 : Int) (b1 : Z3) (z10 : List Z7) (zn : Own) (zb : Own) (zB : Own) (zy : Own) (z1a : Own) (zu : okApp zb = true) (zQ : okApp zB = true) (zJ : okApp zy = true) : Sim (Z16 zl z6 zd zh zn zb) (Z4v x1 x5 x8 x9 x11 zl zp z6 zd zh z1 z2 z10) (Zd4 1 (.ptr 0 0) (iv x1) (.ptr 1 0) (bv x5) (.ptr 2 0) (.clo 58 [] [(.ptr 2 0)]) (iv x8) (iv x9) (iv x11) [(Zi (Zk.mk zl zp z6 zd zh (Zj.mk z1 z2)) zn zb), (Zq b1 zB zy), [(.p (.lst z1a (z10.map Zs)))]]) := by
 unfold Z4v
 refine zf (ZeN ..) ?_
 refine ze ?_
 refine zi fun r1 hr1 => ?_
 obtain ⟨qr1, er1, exr1, rfl⟩ := Z6J (zl) (zp) (z6) (zd) (zh) (z1) (z2) zn zb zu r1 hr1
 refine zc [0] (.p (.tup [(.v (.int .i64 r1.1)), (.lst r1.2.1.1 (r1.2.1.2.map Zs)), (.v (.bool r1.2.2.1))])) [(Zi (Zk.mk zl r1.2.2.2.1 z6 zd zh (Zj.mk r1.2.2.2.2.1 r1.2.2.2.2.2)) zn zb), (Zq b1 zB zy), [(.p (.lst z1a (z10.map Zs)))]] er1 ?_
 refine zo (iv r1.1) ?_
 refine zo (.p (.lst (shrO r1.2.1.1) (r1.2.1.2.map Zs))) ?_
 refine zo (bv r1.2.2.1) ?_
 refine ze ?_
 refine zo (.ptr 0 0) ?_
 refine zo (.ptr 0 5) ?_
 refine zo (.ptr 0 5) ?_
 refine zo (iv r1.2.2.2.2.1) ?_
 refine zo (bv (r1.2.2.2.2.1 == 0)) ?_
 refine za ((r1.2.2.2.2.1 == 0)) ?_ ?_
 ·refine zi fun a2 ha2 => ?_
  refine zo (bv (!a2)) ?_ (Eq.trans (by kernel_rfl) (xnil_neq (P := PP) (t := 23) (c := .slice none 0 0) (e := Zs) (by kernel_rfl) ha2))
  refine za ((!a2)) ?_ ?_
  ·exact zk (Z60 (x1) (x5) (x8) (x9) (x11) (r1.1) (zl) (r1.2.2.2.1) (z6) (zd) (zh) (r1.2.2.2.2.1) (r1.2.2.2.2.2) (b1) (z10) zn zb zB zy z1a zu zQ zJ)
  ·refine zo (bv (decide (r1.1 < x11))) ?_
   refine za ((decide (r1.1 < x11))) ?_ ?_
   ·exact zk (Z60 (x1) (x5) (x8) (x9) (x11) (r1.1) (zl) (r1.2.2.2.1) (z6) (zd) (zh) (r1.2.2.2.2.1) (r1.2.2.2.2.2) (b1) (z10) zn zb zB zy z1a zu zQ zJ)
   ·exact zk (Z3I (x1) (x5) (x8) (x11) (r1.1) (zl) (r1.2.2.2.1) (z6) (zd) (zh) (r1.2.2.2.2.1) (r1.2.2.2.2.2) (b1) (z10) zn zb zB zy z1a zu zQ zJ)
 ·exact zk (Z3I (x1) (x5) (x8) (x11) (r1.1) (zl) (r1.2.2.2.1) (z6) (zd) (zh) (r1.2.2.2.2.1) (r1.2.2.2.2.2) (b1) (z10) zn zb zB zy z1a zu zQ zJ)
noncomputable def Z3x (x1 : Int) (x5 : Bool) (x8 : Int) (x9 : Int) (x11 : Int) (zl : List Int) (zp : Int) (z6 : Int) (zd : Int) (zh : List Zr) (z1 : Int) (z2 : Int) (z10 : List Z7) : Option (Z3 × Int × Int × Int) :=
 (Z13 ((ByteArray.mk #[45])) zl zp).bind fun r1 =>
 if (r1.1) = true then
 ((Z1B ((Zk.mk zl r1.2 z6 zd zh (Zj.mk z1 z2)))).bind fun r2 =>
 if ((r2 == 93)) = true then
 (Z2p x1 x5 x8 x9 zl z6 zd zh z1 z2 z10)
 else
 (if ((r2 == 91)) = true then
 (Z2p x1 x5 x8 x9 zl z6 zd zh z1 z2 z10)
 else
 (if ((r2 == 45)) = true then
 (Z2p x1 x5 x8 x9 zl z6 zd zh z1 z2 z10)
 else
 (if ((decide (r2 < 0))) = true then
 (Z2p x1 x5 x8 x9 zl z6 zd zh z1 z2 z10)
 else
 (Z4v x1 x5 x8 x9 x11 zl r1.2 z6 zd zh z1 z2 z10)))))
 else
 (Z1x x1 x5 x8 x11 x11 zl r1.2 z6 zd zh z1 z2 z10)
theorem Z8J (x1 : Int) (x5 : Bool) (x8 : Int) (x9 : Int) (x11 : Int) (zl : List Int) (zp : Int) (z6 : Int) (zd : Int) (zh : List Zr) (z1 : Int) (z2 : Int) (b1 : Z3) (z10 : List Z7) (zn : Own) (zb : Own) (zB : Own) (zy : Own) (z1a : Own) (zu : okApp zb = true) (zQ : okApp zB = true) (zJ : okApp zy = true) : Sim (Z16 zl z6 zd zh zn zb) (Z3x x1 x5 x8 x9 x11 zl zp z6 zd zh z1 z2 z10) (Zd3 1 (.ptr 0 0) (iv x1) (.ptr 1 0) (bv x5) (.ptr 2 0) (.clo 58 [] [(.ptr 2 0)]) (iv x8) (iv x9) (iv x11) [(Zi (Zk.mk zl zp z6 zd zh (Zj.mk z1 z2)) zn zb), (Zq b1 zB zy), [(.p (.lst z1a (z10.map Zs)))]]) := by
 unfold Z3x
 refine zf (ZeM ..) ?_
 refine ze ?_
 refine ze ?_
 refine zi fun r1 hr1 => ?_
 obtain ⟨qr1, er1, exr1, rfl⟩ := Z18 ((ByteArray.mk #[45])) (zl) (zp) (z6) (zd) (zh) (z1) (z2) zn zb zu r1 hr1
 refine zc [0] (bv r1.1) [(Zi (Zk.mk zl r1.2 z6 zd zh (Zj.mk z1 z2)) zn zb), (Zq b1 zB zy), [(.p (.lst z1a (z10.map Zs)))]] er1 ?_
 refine za (r1.1) ?_ ?_
 ·refine ze ?_
  refine zi fun r2 hr2 => ?_
  obtain ⟨qr2, er2, exr2, rfl⟩ := Z1G ((Zk.mk zl r1.2 z6 zd zh (Zj.mk z1 z2))) zn zb zu r2 hr2
  refine zc [0] (iv r2) [(Zi (Zk.mk zl r1.2 z6 zd zh (Zj.mk z1 z2)) zn zb), (Zq b1 zB zy), [(.p (.lst z1a (z10.map Zs)))]] er2 ?_
  refine ze ?_
  refine zo (bv (r2 == 93)) ?_
  refine za ((r2 == 93)) ?_ ?_
  ·exact zk (Z3C (x1) (x5) (x8) (x9) (zl) (r1.2) (z6) (zd) (zh) (z1) (z2) (b1) (z10) zn zb zB zy z1a zu zQ zJ)
  ·refine zo (bv (r2 == 91)) ?_
   refine za ((r2 == 91)) ?_ ?_
   ·exact zk (Z3C (x1) (x5) (x8) (x9) (zl) (r1.2) (z6) (zd) (zh) (z1) (z2) (b1) (z10) zn zb zB zy z1a zu zQ zJ)
   ·refine zo (bv (r2 == 45)) ?_
    refine za ((r2 == 45)) ?_ ?_
    ·exact zk (Z3C (x1) (x5) (x8) (x9) (zl) (r1.2) (z6) (zd) (zh) (z1) (z2) (b1) (z10) zn zb zB zy z1a zu zQ zJ)
    ·refine zo (bv (decide (r2 < 0))) ?_
     refine za ((decide (r2 < 0))) ?_ ?_
     ·exact zk (Z3C (x1) (x5) (x8) (x9) (zl) (r1.2) (z6) (zd) (zh) (z1) (z2) (b1) (z10) zn zb zB zy z1a zu zQ zJ)
     ·exact zk (Z8T (x1) (x5) (x8) (x9) (x11) (zl) (r1.2) (z6) (zd) (zh) (z1) (z2) (b1) (z10) zn zb zB zy z1a zu zQ zJ)
 ·exact zk (Z3I (x1) (x5) (x8) (x11) (x11) (zl) (r1.2) (z6) (zd) (zh) (z1) (z2) (b1) (z10) zn zb zB zy z1a zu zQ zJ)
noncomputable def Z3v (x1 : Int) (x5 : Bool) (x8 : Int) (x9 : Int) (zl : List Int) (zp : Int) (z6 : Int) (zd : Int) (zh : List Zr) (z1 : Int) (z2 : Int) (z10 : List Z7) : Option (Z3 × Int × Int × Int) :=
 (Z3h zl zp z6 zd zh z1 z2).bind fun r1 =>
 (nilO (shrO (shrO (shrO (shrO r1.2.1.1)))) r1.2.1.2).bind fun a2 =>
 if ((!a2)) = true then
 ((Z2w r1.2.2.1 r1.2.1.2).bind fun r3 =>
 (Z3R r3.Set z10).bind fun r4 =>
 (Z1B ((Zk.mk zl r1.2.2.2.1 z6 zd zh (Zj.mk r1.2.2.2.2.1 r1.2.2.2.2.2)))).bind fun r5 =>
 if ((r5 == 45)) = true then
 ((ZT 22 r1.2.2.2.1 zl r1.2.2.2.2.1 r1.2.2.2.2.2).bind fun r6 =>
 Z19 x1 x5 x8 zl r6.1 z6 zd zh r6.2.1 r6.2.2 r4)
 else
 (Z19 x1 x5 x8 zl r1.2.2.2.1 z6 zd zh r1.2.2.2.2.1 r1.2.2.2.2.2 r4))
 else
 (Z3x x1 x5 x8 x9 r1.1 zl r1.2.2.2.1 z6 zd zh r1.2.2.2.2.1 r1.2.2.2.2.2 z10)
theorem Z69 (x1 : Int) (x5 : Bool) (x8 : Int) (x9 : Int) (zl : List Int) (zp : Int) (z6 : Int) (zd : Int) (zh : List Zr) (z1 : Int) (z2 : Int) (b1 : Z3) (z10 : List Z7) (zn : Own) (zb : Own) (zB : Own) (zy : Own) (z1a : Own) (zu : okApp zb = true) (zQ : okApp zB = true) (zJ : okApp zy = true) : Sim (Z16 zl z6 zd zh zn zb) (Z3v x1 x5 x8 x9 zl zp z6 zd zh z1 z2 z10) (ZbT 1 (.ptr 0 0) (iv x1) (.ptr 1 0) (bv x5) (.ptr 2 0) (.clo 58 [] [(.ptr 2 0)]) (iv x8) (iv x9) [(Zi (Zk.mk zl zp z6 zd zh (Zj.mk z1 z2)) zn zb), (Zq b1 zB zy), [(.p (.lst z1a (z10.map Zs)))]]) := by
 unfold Z3v
 refine zf (Zfg ..) ?_
 refine ze ?_
 refine zi fun r1 hr1 => ?_
 obtain ⟨qr1, er1, exr1, rfl⟩ := Z6J (zl) (zp) (z6) (zd) (zh) (z1) (z2) zn zb zu r1 hr1
 refine zc [0] (.p (.tup [(.v (.int .i64 r1.1)), (.lst r1.2.1.1 (r1.2.1.2.map Zs)), (.v (.bool r1.2.2.1))])) [(Zi (Zk.mk zl r1.2.2.2.1 z6 zd zh (Zj.mk r1.2.2.2.2.1 r1.2.2.2.2.2)) zn zb), (Zq b1 zB zy), [(.p (.lst z1a (z10.map Zs)))]] er1 ?_
 refine zo (iv r1.1) ?_
 refine zo (.p (.lst (shrO r1.2.1.1) (r1.2.1.2.map Zs))) ?_
 refine zo (bv r1.2.2.1) ?_
 refine ze ?_
 refine zi fun a2 ha2 => ?_
 refine zo (bv (!a2)) ?_ (Eq.trans (by kernel_rfl) (xnil_neq (P := PP) (t := 23) (c := .slice none 0 0) (e := Zs) (by kernel_rfl) ha2))
 refine za ((!a2)) ?_ ?_
 ·refine ze ?_
  refine zi fun r3 hr3 => ?_
  obtain ⟨qr3, er3, exr3, rfl⟩ := Z2E (r1.2.2.1) (r1.2.1.2) .sh r3 hr3
  refine zc [] (.p (.agg (ZD r3 .sh .sh))) [(Zi (Zk.mk zl r1.2.2.2.1 z6 zd zh (Zj.mk r1.2.2.2.2.1 r1.2.2.2.2.2)) zn zb), (Zq b1 zB zy), [(.p (.lst z1a (z10.map Zs)))]] er3 ?_
  refine zz (.ptr 3 0) [(Zi (Zk.mk zl r1.2.2.2.1 z6 zd zh (Zj.mk r1.2.2.2.2.1 r1.2.2.2.2.2)) zn zb), (Zq b1 zB zy), [(.p (.lst z1a (z10.map Zs)))], (Zq (Z3.mk 0 0 0 0 0 ([] : List Z7) ([] : List Z3)) .nl .nl)] ?_
  refine zt [(Zi (Zk.mk zl r1.2.2.2.1 z6 zd zh (Zj.mk r1.2.2.2.2.1 r1.2.2.2.2.2)) zn zb), (Zq b1 zB zy), [(.p (.lst z1a (z10.map Zs)))], (Zq r3 .sh .sh)] ?_
  refine ze ?_
  refine zo (.ptr 3 5) ?_
  refine zo (.p (.lst .sh (r3.Set.map Zs))) ?_
  refine zi fun r4 hr4 => ?_
  obtain ⟨qr4, er4, or4_0_0, exr4, rfl⟩ := Z6A (r3.Set) (z10) .sh z1a r4 hr4
  refine zv [2] (.p (.tup [])) [(Zi (Zk.mk zl r1.2.2.2.1 z6 zd zh (Zj.mk r1.2.2.2.2.1 r1.2.2.2.2.2)) zn zb), (Zq b1 zB zy), [(.p (.lst or4_0_0 (r4.map Zs)))], (Zq r3 .sh .sh)] er4 ?_
  refine ze ?_
  refine zi fun r5 hr5 => ?_
  obtain ⟨qr5, er5, exr5, rfl⟩ := Z1G ((Zk.mk zl r1.2.2.2.1 z6 zd zh (Zj.mk r1.2.2.2.2.1 r1.2.2.2.2.2))) zn zb zu r5 hr5
  refine zc [0] (iv r5) [(Zi (Zk.mk zl r1.2.2.2.1 z6 zd zh (Zj.mk r1.2.2.2.2.1 r1.2.2.2.2.2)) zn zb), (Zq b1 zB zy), [(.p (.lst or4_0_0 (r4.map Zs)))], (Zq r3 .sh .sh)] er5 ?_
  refine zo (bv (r5 == 45)) ?_
  refine za ((r5 == 45)) ?_ ?_
  ·refine ze ?_
   refine zo (.ptr 0 0) ?_
   refine zo (.ptr 0 1) ?_
   refine zo (iv r1.2.2.2.1) ?_
   refine zi fun r6 hr6 => ?_
   obtain ⟨qr6, er6, exr6, rfl⟩ := ZW (22) (r1.2.2.2.1) (zl) (r1.2.2.2.1) (z6) (zd) (zh) (r1.2.2.2.2.1) (r1.2.2.2.2.2) zn zb zu r6 hr6
   refine zc [0] (.p (.tup [])) [(Zi (Zk.mk zl r6.1 z6 zd zh (Zj.mk r6.2.1 r6.2.2)) zn zb), (Zq b1 zB zy), [(.p (.lst or4_0_0 (r4.map Zs)))], (Zq r3 .sh .sh)] er6 ?_
   exact zk (Z1E (x1) (x5) (x8) (zl) (r6.1) (z6) (zd) (zh) (r6.2.1) (r6.2.2) (b1) (r4) zn zb zB zy or4_0_0 zu zQ zJ)
  ·exact zk (Z1E (x1) (x5) (x8) (zl) (r1.2.2.2.1) (z6) (zd) (zh) (r1.2.2.2.2.1) (r1.2.2.2.2.2) (b1) (r4) zn zb zB zy or4_0_0 zu zQ zJ)
 ·exact zk (Z8J (x1) (x5) (x8) (x9) (r1.1) (zl) (r1.2.2.2.1) (z6) (zd) (zh) (r1.2.2.2.2.1) (r1.2.2.2.2.2) (b1) (z10) zn zb zB zy z1a zu zQ zJ)
noncomputable def Z2T (x1 : Int) (x5 : Bool) (x8 : Int) (zl : List Int) (zp : Int) (z6 : Int) (zd : Int) (zh : List Zr) (z1 : Int) (z2 : Int) (z10 : List Z7) : Option (Z3 × Int × Int × Int) :=
 (Z1B ((Zk.mk zl zp z6 zd zh (Zj.mk z1 z2)))).bind fun r1 =>
 if ((r1 == (-1))) = true then
 ((ZT 22 x1 zl z1 z2).bind fun r2 =>
 Z19 x1 x5 x8 zl r2.1 z6 zd zh r2.2.1 r2.2.2 z10)
 else
 (if ((r1 == 93)) = true then
 (if ((x8 == 0)) = true then
 ((ZT 22 x1 zl z1 z2).bind fun r3 =>
 Z19 x1 x5 x8 zl r3.1 z6 zd zh r3.2.1 r3.2.2 z10)
 else
 (Z4q x5 zl zp z1 z2 z10))
 else
 (if ((r1 == 91)) = true then
 (if ((r1 == 91)) = true then
 ((ZT 22 zp zl z1 z2).bind fun r4 =>
 Z19 x1 x5 x8 zl r4.1 z6 zd zh r4.2.1 r4.2.2 z10)
 else
 (Z3v x1 x5 x8 zp zl zp z6 zd zh z1 z2 z10))
 else
 (if ((r1 == 45)) = true then
 ((ZT 22 zp zl z1 z2).bind fun r5 =>
 Z19 x1 x5 x8 zl r5.1 z6 zd zh r5.2.1 r5.2.2 z10)
 else
 (Z3v x1 x5 x8 zp zl zp z6 zd zh z1 z2 z10))))
theorem Z92 (x1 : Int) (x5 : Bool) (x8 : Int) (zl : List Int) (zp : Int) (z6 : Int) (zd : Int) (zh : List Zr) (z1 : Int) (z2 : Int) (b1 : Z3) (z10 : List Z7) (zn : Own) (zb : Own) (zB : Own) (zy : Own) (z1a : Own) (zu : okApp zb = true) (zQ : okApp zB = true) (zJ : okApp zy = true) : Sim (Z16 zl z6 zd zh zn zb) (Z2T x1 x5 x8 zl zp z6 zd zh z1 z2 z10) (ZdD 1 (.ptr 0 0) (iv x1) (.ptr 1 0) (bv x5) (.ptr 2 0) (.clo 58 [] [(.ptr 2 0)]) (iv x8) [(Zi (Zk.mk zl zp z6 zd zh (Zj.mk z1 z2)) zn zb), (Zq b1 zB zy), [(.p (.lst z1a (z10.map Zs)))]]) := by
 unfold Z2T
 refine zf (ZfO ..) ?_
 refine ze ?_
 refine zo (.ptr 0 0) ?_
 refine zo (.ptr 0 1) ?_
 refine zo (iv zp) ?_
 refine ze ?_
 refine zi fun r1 hr1 => ?_
 obtain ⟨qr1, er1, exr1, rfl⟩ := Z1G ((Zk.mk zl zp z6 zd zh (Zj.mk z1 z2))) zn zb zu r1 hr1
 refine zc [0] (iv r1) [(Zi (Zk.mk zl zp z6 zd zh (Zj.mk z1 z2)) zn zb), (Zq b1 zB zy), [(.p (.lst z1a (z10.map Zs)))]] er1 ?_
 refine ze ?_
 refine ze ?_
 refine zo (bv (r1 == (-1))) ?_
 refine za ((r1 == (-1))) ?_ ?_
 ·refine ze ?_
  refine zi fun r2 hr2 => ?_
  obtain ⟨qr2, er2, exr2, rfl⟩ := ZW (22) (x1) (zl) (zp) (z6) (zd) (zh) (z1) (z2) zn zb zu r2 hr2
  refine zc [0] (.p (.tup [])) [(Zi (Zk.mk zl r2.1 z6 zd zh (Zj.mk r2.2.1 r2.2.2)) zn zb), (Zq b1 zB zy), [(.p (.lst z1a (z10.map Zs)))]] er2 ?_
  exact zk (Z1E (x1) (x5) (x8) (zl) (r2.1) (z6) (zd) (zh) (r2.2.1) (r2.2.2) (b1) (z10) zn zb zB zy z1a zu zQ zJ)
 ·refine ze ?_
  refine zo (bv (r1 == 93)) ?_
  refine za ((r1 == 93)) ?_ ?_
  ·refine ze ?_
   refine zo (bv (x8 == 0)) ?_
   refine za ((x8 == 0)) ?_ ?_
   ·refine ze ?_
    refine zi fun r3 hr3 => ?_
    obtain ⟨qr3, er3, exr3, rfl⟩ := ZW (22) (x1) (zl) (zp) (z6) (zd) (zh) (z1) (z2) zn zb zu r3 hr3
    refine zc [0] (.p (.tup [])) [(Zi (Zk.mk zl r3.1 z6 zd zh (Zj.mk r3.2.1 r3.2.2)) zn zb), (Zq b1 zB zy), [(.p (.lst z1a (z10.map Zs)))]] er3 ?_
    exact zk (Z1E (x1) (x5) (x8) (zl) (r3.1) (z6) (zd) (zh) (r3.2.1) (r3.2.2) (b1) (z10) zn zb zB zy z1a zu zQ zJ)
   ·exact zk (Z8K (x5) (zl) (zp) (z6) (zd) (zh) (z1) (z2) (b1) (z10) zn zb zB zy z1a zu zQ zJ)
  ·refine ze ?_
   refine zo (bv (r1 == 91)) ?_
   refine za ((r1 == 91)) ?_ ?_
   ·refine za ((r1 == 91)) ?_ ?_
    ·refine ze ?_
     refine zi fun r4 hr4 => ?_
     obtain ⟨qr4, er4, exr4, rfl⟩ := ZW (22) (zp) (zl) (zp) (z6) (zd) (zh) (z1) (z2) zn zb zu r4 hr4
     refine zc [0] (.p (.tup [])) [(Zi (Zk.mk zl r4.1 z6 zd zh (Zj.mk r4.2.1 r4.2.2)) zn zb), (Zq b1 zB zy), [(.p (.lst z1a (z10.map Zs)))]] er4 ?_
     exact zk (Z1E (x1) (x5) (x8) (zl) (r4.1) (z6) (zd) (zh) (r4.2.1) (r4.2.2) (b1) (z10) zn zb zB zy z1a zu zQ zJ)
    ·exact zk (Z69 (x1) (x5) (x8) (zp) (zl) (zp) (z6) (zd) (zh) (z1) (z2) (b1) (z10) zn zb zB zy z1a zu zQ zJ)
   ·refine ze ?_
    refine zo (bv (r1 == 45)) ?_
    refine za ((r1 == 45)) ?_ ?_
    ·refine ze ?_
     refine zi fun r5 hr5 => ?_
     obtain ⟨qr5, er5, exr5, rfl⟩ := ZW (22) (zp) (zl) (zp) (z6) (zd) (zh) (z1) (z2) zn zb zu r5 hr5
     refine zc [0] (.p (.tup [])) [(Zi (Zk.mk zl r5.1 z6 zd zh (Zj.mk r5.2.1 r5.2.2)) zn zb), (Zq b1 zB zy), [(.p (.lst z1a (z10.map Zs)))]] er5 ?_
     exact zk (Z1E (x1) (x5) (x8) (zl) (r5.1) (z6) (zd) (zh) (r5.2.1) (r5.2.2) (b1) (z10) zn zb zB zy z1a zu zQ zJ)
    ·exact zk (Z69 (x1) (x5) (x8) (zp) (zl) (zp) (z6) (zd) (zh) (z1) (z2) (b1) (z10) zn zb zB zy z1a zu zQ zJ)
noncomputable def Z5r (zp : Int) (z1 : Int) (z2 : Int) : Option (Z3 × Int × Int × Int) :=
 some ((Z3.mk 0 0 0 0 0 ([] : List Z7) ([] : List Z3)), zp, z1, z2)
theorem Z8F (zl : List Int) (zp : Int) (z6 : Int) (zd : Int) (zh : List Zr) (z1 : Int) (z2 : Int) (b1 : Z3) (zn : Own) (zb : Own) (zB : Own) (zy : Own) (zu : okApp zb = true) (zQ : okApp zB = true) (zJ : okApp zy = true) : Sim (Z16 zl z6 zd zh zn zb) (Z5r zp z1 z2) (Zd2 1 (.ptr 1 0) [(Zi (Zk.mk zl zp z6 zd zh (Zj.mk z1 z2)) zn zb), (Zq b1 zB zy)]) := by
 unfold Z5r
 refine zf (ZeX ..) ?_
 refine ze ?_
 refine zo (.p (.agg (ZD (Z3.mk 0 0 0 0 0 ([] : List Z7) ([] : List Z3)) .nl .nl))) ?_
 refine zt [(Zi (Zk.mk zl zp z6 zd zh (Zj.mk z1 z2)) zn zb), (Zq (Z3.mk 0 0 0 0 0 ([] : List Z7) ([] : List Z3)) .nl .nl)] ?_
 exact zr ((.p (.agg (ZD (Z3.mk 0 0 0 0 0 ([] : List Z7) ([] : List Z3)) .sh .sh))), [(Zi (Zk.mk zl zp z6 zd zh (Zj.mk z1 z2)) zn zb), (Zq (Z3.mk 0 0 0 0 0 ([] : List Z7) ([] : List Z3)) .nl .nl)]) ⟨_, rfl⟩
noncomputable def Z3K (x1 : Int) (x5 : Bool) (x8 : Int) (zl : List Int) (zp : Int) (z6 : Int) (zd : Int) (zh : List Zr) (z1 : Int) (z2 : Int) (z10 : List Z7) : Option (Z3 × Int × Int × Int) :=
 if ((z1 == 0)) = true then
 (Z2T x1 x5 x8 zl zp z6 zd zh z1 z2 z10)
 else
 (Z5r zp z1 z2)
theorem Z9c (x1 : Int) (x5 : Bool) (x8 : Int) (zl : List Int) (zp : Int) (z6 : Int) (zd : Int) (zh : List Zr) (z1 : Int) (z2 : Int) (b1 : Z3) (z10 : List Z7) (zn : Own) (zb : Own) (zB : Own) (zy : Own) (z1a : Own) (zu : okApp zb = true) (zQ : okApp zB = true) (zJ : okApp zy = true) : Sim (Z16 zl z6 zd zh zn zb) (Z3K x1 x5 x8 zl zp z6 zd zh z1 z2 z10) (ZaM 1 (.ptr 0 0) (iv x1) (.ptr 1 0) (bv x5) (.ptr 2 0) (.clo 58 [] [(.ptr 2 0)]) (iv x8) [(Zi (Zk.mk zl zp z6 zd zh (Zj.mk z1 z2)) zn zb), (Zq b1 zB zy), [(.p (.lst z1a (z10.map Zs)))]]) := by
 unfold Z3K
 refine zf (ZfZ ..) ?_
 refine ze ?_
 refine zo (.ptr 0 0) ?_
 refine zo (.ptr 0 5) ?_
 refine zo (.ptr 0 5) ?_
 refine zo (iv z1) ?_
 refine zo (bv (z1 == 0)) ?_
 refine za ((z1 == 0)) ?_ ?_
 ·exact zk (Z92 (x1) (x5) (x8) (zl) (zp) (z6) (zd) (zh) (z1) (z2) (b1) (z10) zn zb zB zy z1a zu zQ zJ)
 ·exact zk (Z8F (zl) (zp) (z6) (zd) (zh) (z1) (z2) (b1) zn zb zB zy zu zQ zJ)
theorem Z6k (x1 : Int) (x5 : Bool) (x8 : Int) (zl : List Int) (zp : Int) (z6 : Int) (zd : Int) (zh : List Zr) (z1 : Int) (z2 : Int) (z10 : List Z7) {r} (h : Z3K x1 x5 x8 zl zp z6 zd zh z1 z2 z10 = some r) : Z2D x1 x5 x8 zl zp z6 zd zh z1 z2 z10 = some r :=
 pick_of (fun _ _ ha hb => RRun.uniq (Z7A _ _ _ _ _ _) (ha default .ex .ex .ex .ex .ex rfl rfl rfl) (hb default .ex .ex .ex .ex .ex rfl rfl rfl)) (fun b1 zn zb zB zy z1a zu zQ zJ => Z9c x1 x5 x8 zl zp z6 zd zh z1 z2 b1 z10 zn zb zB zy z1a zu zQ zJ r h)
noncomputable def Z3d (x2 : Int) (x5 : Int) (zl : List Int) (zp : Int) (z6 : Int) (zd : Int) (zh : List Zr) (z1 : Int) (z2 : Int) : Option (Int × (Own × (List Z7)) × Bool × Int × Int × Int) :=
 (Z4n x2 x5 zl zp z6 zd zh z1 z2).bind fun r1 =>
 some (r1.1, (.nl, ([] : List Z7)), false, r1.2.1, r1.2.2.1, r1.2.2.2)
theorem Z8x (x2 : Int) (x5 : Int) (zl : List Int) (zp : Int) (z6 : Int) (zd : Int) (zh : List Zr) (z1 : Int) (z2 : Int) (zn : Own) (zb : Own) (zu : okApp zb = true) : Sim (Z2s zl z6 zd zh zn zb) (Z3d x2 x5 zl zp z6 zd zh z1 z2) (Zd8 1 (.ptr 0 0) (iv x2) (iv x5) [(Zi (Zk.mk zl zp z6 zd zh (Zj.mk z1 z2)) zn zb)]) := by
 unfold Z3d
 refine zf (ZeW ..) ?_
 refine ze ?_
 refine zi fun r1 hr1 => ?_
 obtain ⟨qr1, er1, exr1, rfl⟩ := Z7i (x2) (x5) (zl) (zp) (z6) (zd) (zh) (z1) (z2) zn zb zu r1 hr1
 refine zc [0] (iv r1.1) [(Zi (Zk.mk zl r1.2.1 z6 zd zh (Zj.mk r1.2.2.1 r1.2.2.2)) zn zb)] er1 ?_
 exact zr ((.p (.tup [(.v (.int .i64 r1.1)), (.lst .nl []), (.v (.bool false))])), [(Zi (Zk.mk zl r1.2.1 z6 zd zh (Zj.mk r1.2.2.1 r1.2.2.2)) zn zb)]) ⟨_, rfl⟩
noncomputable def Z4t (x2 : Int) (x5 : Int) (zl : List Int) (zp : Int) (z6 : Int) (zd : Int) (zh : List Zr) (z1 : Int) (z2 : Int) : Option (Int × (Own × (List Z7)) × Bool × Int × Int × Int) :=
 (Z1X zl zp).bind fun r1 =>
 (Z4y x2).bind fun r2 =>
 (nilO (shrO r2.1) r2.2).bind fun a3 =>
 if ((!a3)) = true then
 (some (0, ((shrO r2.1), r2.2), (decide (x2 < 97)), r1.2, z1, z2))
 else
 (Z3d x2 x5 zl r1.2 z6 zd zh z1 z2)
theorem Z8D (x2 : Int) (x5 : Int) (zl : List Int) (zp : Int) (z6 : Int) (zd : Int) (zh : List Zr) (z1 : Int) (z2 : Int) (zn : Own) (zb : Own) (zu : okApp zb = true) : Sim (Z2s zl z6 zd zh zn zb) (Z4t x2 x5 zl zp z6 zd zh z1 z2) (Zec 1 (.ptr 0 0) (iv x2) (iv x5) [(Zi (Zk.mk zl zp z6 zd zh (Zj.mk z1 z2)) zn zb)]) := by
 unfold Z4t
 refine zf (Zgy ..) ?_
 refine ze ?_
 refine zi fun r1 hr1 => ?_
 obtain ⟨qr1, er1, exr1, rfl⟩ := Z2i (zl) (zp) (z6) (zd) (zh) (z1) (z2) zn zb zu r1 hr1
 refine zc [0] (iv r1.1) [(Zi (Zk.mk zl r1.2 z6 zd zh (Zj.mk z1 z2)) zn zb)] er1 ?_
 refine ze ?_
 refine zi fun r2 hr2 => ?_
 obtain ⟨qr2, er2, exr2, rfl⟩ := Z6h (x2) r2 hr2
 refine zc [] (.p (.lst r2.1 (r2.2.map Zs))) [(Zi (Zk.mk zl r1.2 z6 zd zh (Zj.mk z1 z2)) zn zb)] er2 ?_
 refine ze ?_
 refine zi fun a3 ha3 => ?_
 refine zo (bv (!a3)) ?_ (Eq.trans (by kernel_rfl) (xnil_neq (P := PP) (t := 23) (c := .slice none 0 0) (e := Zs) (by kernel_rfl) ha3))
 refine za ((!a3)) ?_ ?_
 ·refine ze ?_
  refine zo (bv (decide (x2 < 97))) ?_
  exact zr ((.p (.tup [(.v (.int .i64 0)), (.lst (shrO r2.1) (r2.2.map Zs)), (.v (.bool (decide (x2 < 97))))])), [(Zi (Zk.mk zl r1.2 z6 zd zh (Zj.mk z1 z2)) zn zb)]) ⟨_, rfl⟩
 ·exact zk (Z8x (x2) (x5) (zl) (r1.2) (z6) (zd) (zh) (z1) (z2) zn zb zu)
noncomputable def Z4p (x5 : Int) (zl : List Int) (zp : Int) (z6 : Int) (zd : Int) (zh : List Zr) (z1 : Int) (z2 : Int) : Option (Int × (Own × (List Z7)) × Bool × Int × Int × Int) :=
 (Z1B ((Zk.mk zl zp z6 zd zh (Zj.mk z1 z2)))).bind fun r1 =>
 if ((decide (r1 < 0))) = true then
 ((ZT 21 x5 zl z1 z2).bind fun r2 =>
 some (0, (.nl, ([] : List Z7)), false, r2.1, r2.2.1, r2.2.2))
 else
 (Z4t r1 x5 zl zp z6 zd zh z1 z2)
theorem Z8C (x5 : Int) (zl : List Int) (zp : Int) (z6 : Int) (zd : Int) (zh : List Zr) (z1 : Int) (z2 : Int) (zn : Own) (zb : Own) (zu : okApp zb = true) : Sim (Z2s zl z6 zd zh zn zb) (Z4p x5 zl zp z6 zd zh z1 z2) (ZdO 1 (.ptr 0 0) (iv x5) [(Zi (Zk.mk zl zp z6 zd zh (Zj.mk z1 z2)) zn zb)]) := by
 unfold Z4p
 refine zf (Zg3 ..) ?_
 refine ze ?_
 refine zi fun r1 hr1 => ?_
 obtain ⟨qr1, er1, exr1, rfl⟩ := Z1G ((Zk.mk zl zp z6 zd zh (Zj.mk z1 z2))) zn zb zu r1 hr1
 refine zc [0] (iv r1) [(Zi (Zk.mk zl zp z6 zd zh (Zj.mk z1 z2)) zn zb)] er1 ?_
 refine ze ?_
 refine zo (bv (decide (r1 < 0))) ?_
 refine za ((decide (r1 < 0))) ?_ ?_
 ·refine ze ?_
  refine zi fun r2 hr2 => ?_
  obtain ⟨qr2, er2, exr2, rfl⟩ := ZW (21) (x5) (zl) (zp) (z6) (zd) (zh) (z1) (z2) zn zb zu r2 hr2
  refine zc [0] (.p (.tup [])) [(Zi (Zk.mk zl r2.1 z6 zd zh (Zj.mk r2.2.1 r2.2.2)) zn zb)] er2 ?_
  refine ze ?_
  exact zr ((.p (.tup [(.v (.int .i64 0)), (.lst .nl []), (.v (.bool false))])), [(Zi (Zk.mk zl r2.1 z6 zd zh (Zj.mk r2.2.1 r2.2.2)) zn zb)]) ⟨_, rfl⟩
 ·exact zk (Z8D (r1) (x5) (zl) (zp) (z6) (zd) (zh) (z1) (z2) zn zb zu)
noncomputable def Z4c (zl : List Int) (zp : Int) (z6 : Int) (zd : Int) (zh : List Zr) (z1 : Int) (z2 : Int) : Option (Int × (Own × (List Z7)) × Bool × Int × Int × Int) :=
 (Z1X zl zp).bind fun r1 =>
 if ((r1.1 != 92)) = true then
 (some (r1.1, (.nl, ([] : List Z7)), false, r1.2, z1, z2))
 else
 (Z4p zp zl r1.2 z6 zd zh z1 z2)
theorem Z9r (zl : List Int) (zp : Int) (z6 : Int) (zd : Int) (zh : List Zr) (z1 : Int) (z2 : Int) (zn : Own) (zb : Own) (zu : okApp zb = true) : Sim (Z2s zl z6 zd zh zn zb) (Z4c zl zp z6 zd zh z1 z2) (EE 60 [(.ptr 0 0)] [(Zi (Zk.mk zl zp z6 zd zh (Zj.mk z1 z2)) zn zb)]) := by
 unfold Z4c
 refine zf (Zik ..) ?_
 refine ze ?_
 refine ze ?_
 refine zo (.ptr 0 0) ?_
 refine zo (.ptr 0 1) ?_
 refine zo (iv zp) ?_
 refine ze ?_
 refine zi fun r1 hr1 => ?_
 obtain ⟨qr1, er1, exr1, rfl⟩ := Z2i (zl) (zp) (z6) (zd) (zh) (z1) (z2) zn zb zu r1 hr1
 refine zc [0] (iv r1.1) [(Zi (Zk.mk zl r1.2 z6 zd zh (Zj.mk z1 z2)) zn zb)] er1 ?_
 refine ze ?_
 refine zo (bv (r1.1 != 92)) ?_
 refine za ((r1.1 != 92)) ?_ ?_
 ·refine ze ?_
  exact zr ((.p (.tup [(.v (.int .i64 r1.1)), (.lst .nl []), (.v (.bool false))])), [(Zi (Zk.mk zl r1.2 z6 zd zh (Zj.mk z1 z2)) zn zb)]) ⟨_, rfl⟩
 ·exact zk (Z8C (zp) (zl) (r1.2) (z6) (zd) (zh) (z1) (z2) zn zb zu)
theorem Z6O (zl : List Int) (zp : Int) (z6 : Int) (zd : Int) (zh : List Zr) (z1 : Int) (z2 : Int) {r} (h : Z4c zl zp z6 zd zh z1 z2 = some r) : Z3h zl zp z6 zd zh z1 z2 = some r :=
 pick_of (fun _ _ ha hb => RRun.uniq (Zag _ _ _ _ _ _) (ha .ex .ex rfl) (hb .ex .ex rfl)) (fun zn zb zu => Z9r zl zp z6 zd zh z1 z2 zn zb zu r h)
end Go.Proofs.YtadodmjdkphddaaDoor.N2
end
