/- The functions' typed texts. No condition. -/
import Derived.Test.YtadodmjdkphddaaDoorTypA

section
set_option linter.unusedSimpArgs false
set_option linter.unusedVariables false
namespace Go.Proofs.YtadodmjdkphddaaDoor.N2
open Go Go.Abs
set_option linter.unusedVariables false
set_option maxRecDepth 100000
noncomputable def Z3f  : Option (Bool) :=
 some (true)
theorem Z65  : Sim (Z1u) (Z3f) (Zea 0  []) := by
 unfold Z3f
 refine zf (Zj5 ..) ?_
 refine ze ?_
 exact zr ((bv true), []) ⟨_, rfl⟩
noncomputable def Z1W  : Option (Bool) :=
 some (true)
theorem Z2H  : Sim (Z1u) (Z1W) (ZaV 0  []) := by
 unfold Z1W
 refine zf (Zj6 ..) ?_
 refine ze ?_
 exact zr ((bv true), []) ⟨_, rfl⟩
noncomputable def Z1S (x11 : Int) (x13 : Int) (x15 : Int) (x16 : Int) (x17 : Int) (b0 : ZE) (b2 : ZE) (b4 : ZE) : Option (Bool) :=
 if ((x15 == (min (IntKind.i64.wrap (x11 + x13)) 1048576))) = true then
 (if ((x16 == x17)) = true then
 ((Z28 b4.Root).bind fun r1 =>
 (Z28 b0.Root).bind fun r2 =>
 (Z28 b2.Root).bind fun r3 =>
 some ((r1 == (min (IntKind.i64.wrap (r2 + r3)) 1048576))))
 else
 (some (false)))
 else
 (some (false))
theorem Z3g (x11 : Int) (x13 : Int) (x15 : Int) (x16 : Int) (x17 : Int) (b0 : ZE) (b1 : Zl) (b2 : ZE) (b3 : Zl) (b4 : ZE) (zJ : Own) (zI : Own) (z1P : Own) (z1I : Own) (z1R : Own) (z1H : Own) : Sim (Z1u) (Z1S x11 x13 x15 x16 x17 b0 b2 b4) (ZaH 0 (.ptr 0 0) (.ptr 2 0) (.ptr 4 0) (iv x11) (iv x13) (iv x15) (iv x16) (iv x17) [(ZA b0 zJ zI), (ZF b1), (ZA b2 z1P z1I), (ZF b3), (ZA b4 z1R z1H)]) := by
 unfold Z1S
 refine zf (Zh0 ..) ?_
 refine ze ?_
 refine zo (iv (IntKind.i64.wrap (x11 + x13))) ?_
 refine zo (iv (min (IntKind.i64.wrap (x11 + x13)) 1048576)) ?_ (xminmax2_min _ _)
 refine zo (bv (x15 == (min (IntKind.i64.wrap (x11 + x13)) 1048576))) ?_
 refine za ((x15 == (min (IntKind.i64.wrap (x11 + x13)) 1048576))) ?_ ?_
 ·refine zo (bv (x16 == x17)) ?_
  refine za ((x16 == x17)) ?_ ?_
  ·refine zo (.ptr 4 0) ?_
   refine zo (.p (.agg (ZC b4.Root (shrO z1R) (shrO z1H)))) ?_
   refine zi fun r1 hr1 => ?_
   obtain ⟨qr1, er1, exr1, rfl⟩ := Z5z (b4.Root) .sh .sh r1 hr1
   refine zc [] (iv r1) [(ZA b0 zJ zI), (ZF b1), (ZA b2 z1P z1I), (ZF b3), (ZA b4 z1R z1H)] er1 ?_
   refine zo (.ptr 0 0) ?_
   refine zo (.p (.agg (ZC b0.Root (shrO zJ) (shrO zI)))) ?_
   refine zi fun r2 hr2 => ?_
   obtain ⟨qr2, er2, exr2, rfl⟩ := Z5z (b0.Root) .sh .sh r2 hr2
   refine zc [] (iv r2) [(ZA b0 zJ zI), (ZF b1), (ZA b2 z1P z1I), (ZF b3), (ZA b4 z1R z1H)] er2 ?_
   refine zo (.ptr 2 0) ?_
   refine zo (.p (.agg (ZC b2.Root (shrO z1P) (shrO z1I)))) ?_
   refine zi fun r3 hr3 => ?_
   obtain ⟨qr3, er3, exr3, rfl⟩ := Z5z (b2.Root) .sh .sh r3 hr3
   refine zc [] (iv r3) [(ZA b0 zJ zI), (ZF b1), (ZA b2 z1P z1I), (ZF b3), (ZA b4 z1R z1H)] er3 ?_
   refine zo (iv (IntKind.i64.wrap (r2 + r3))) ?_
   refine zo (iv (min (IntKind.i64.wrap (r2 + r3)) 1048576)) ?_ (xminmax2_min _ _)
   refine zo (bv (r1 == (min (IntKind.i64.wrap (r2 + r3)) 1048576))) ?_
   refine zg ?_
   refine zg ?_
   refine zg ?_
   exact zr ((bv (r1 == (min (IntKind.i64.wrap (r2 + r3)) 1048576))), [(ZA b0 zJ zI), (ZF b1), (ZA b2 z1P z1I), (ZF b3), (ZA b4 z1R z1H)]) ⟨_, rfl⟩
  ·refine zg ?_
   refine zg ?_
   refine zg ?_
   exact zr ((bv false), [(ZA b0 zJ zI), (ZF b1), (ZA b2 z1P z1I), (ZF b3), (ZA b4 z1R z1H)]) ⟨_, rfl⟩
 ·refine zg ?_
  refine zg ?_
  refine zg ?_
  exact zr ((bv false), [(ZA b0 zJ zI), (ZF b1), (ZA b2 z1P z1I), (ZF b3), (ZA b4 z1R z1H)]) ⟨_, rfl⟩
noncomputable def Z3Q (x11 : Int) (x12 : Int) (x13 : Int) (x14 : Int) (x15 : Int) (x16 : Int) (b0 : ZE) (b2 : ZE) (b4 : ZE) : Option (Bool) :=
 Z1S x11 x13 x15 x16 ((IntKind.i64.wrap (x12 + x14))) b0 b2 b4
theorem Z8n (x11 : Int) (x12 : Int) (x13 : Int) (x14 : Int) (x15 : Int) (x16 : Int) (b0 : ZE) (b1 : Zl) (b2 : ZE) (b3 : Zl) (b4 : ZE) (zJ : Own) (zI : Own) (z1P : Own) (z1I : Own) (z1R : Own) (z1H : Own) : Sim (Z1u) (Z3Q x11 x12 x13 x14 x15 x16 b0 b2 b4) (ZeG 0 (.ptr 0 0) (.ptr 2 0) (.ptr 4 0) (iv x11) (iv x12) (iv x13) (iv x14) (iv x15) (iv x16) [(ZA b0 zJ zI), (ZF b1), (ZA b2 z1P z1I), (ZF b3), (ZA b4 z1R z1H)]) := by
 unfold Z3Q
 refine zf (Zhj ..) ?_
 refine ze ?_
 refine zo (iv (IntKind.i64.wrap (x12 + x14))) ?_
 exact zk (Z3g (x11) (x13) (x15) (x16) ((IntKind.i64.wrap (x12 + x14))) (b0) (b1) (b2) (b3) (b4) zJ zI z1P z1I z1R z1H)
noncomputable def Z3N (b0 : ZE) (b2 : ZE) (b4 : ZE) : Option (Bool) :=
 (Z1n b0.Root).bind fun r1 =>
 (Z1n b2.Root).bind fun r2 =>
 (Z1n b4.Root).bind fun r3 =>
 if ((decide (0 ≤ r1.2))) = true then
 (if ((decide (0 ≤ r2.2))) = true then
 (if ((decide ((IntKind.i64.wrap (r1.2 + r2.2)) ≤ 1048576))) = true then
 (Z3Q r1.1 r1.2 r2.1 r2.2 r3.1 r3.2 b0 b2 b4)
 else
 (Z1S r1.1 r2.1 r3.1 r3.2 ((-1)) b0 b2 b4))
 else
 (Z1S r1.1 r2.1 r3.1 r3.2 ((-1)) b0 b2 b4))
 else
 (Z1S r1.1 r2.1 r3.1 r3.2 ((-1)) b0 b2 b4)
theorem Z8x (b0 : ZE) (b1 : Zl) (b2 : ZE) (b3 : Zl) (b4 : ZE) (zJ : Own) (zI : Own) (z1P : Own) (z1I : Own) (z1R : Own) (z1H : Own) : Sim (Z1u) (Z3N b0 b2 b4) (ZeX 0 (.ptr 0 0) (.ptr 2 0) (.ptr 4 0) [(ZA b0 zJ zI), (ZF b1), (ZA b2 z1P z1I), (ZF b3), (ZA b4 z1R z1H)]) := by
 unfold Z3N
 refine zf (Zh1 ..) ?_
 refine ze ?_
 refine zo (.ptr 0 0) ?_
 refine zo (.p (.agg (ZC b0.Root (shrO zJ) (shrO zI)))) ?_
 refine zi fun r1 hr1 => ?_
 obtain ⟨qr1, er1, exr1, rfl⟩ := Z34 (b0.Root) .sh .sh r1 hr1
 refine zc [] (.p (.tup [(.v (.int .i64 r1.1)), (.v (.int .i64 r1.2))])) [(ZA b0 zJ zI), (ZF b1), (ZA b2 z1P z1I), (ZF b3), (ZA b4 z1R z1H)] er1 ?_
 refine zo (iv r1.1) ?_
 refine zo (iv r1.2) ?_
 refine ze ?_
 refine zo (.ptr 2 0) ?_
 refine zo (.p (.agg (ZC b2.Root (shrO z1P) (shrO z1I)))) ?_
 refine zi fun r2 hr2 => ?_
 obtain ⟨qr2, er2, exr2, rfl⟩ := Z34 (b2.Root) .sh .sh r2 hr2
 refine zc [] (.p (.tup [(.v (.int .i64 r2.1)), (.v (.int .i64 r2.2))])) [(ZA b0 zJ zI), (ZF b1), (ZA b2 z1P z1I), (ZF b3), (ZA b4 z1R z1H)] er2 ?_
 refine zo (iv r2.1) ?_
 refine zo (iv r2.2) ?_
 refine ze ?_
 refine zo (.ptr 4 0) ?_
 refine zo (.p (.agg (ZC b4.Root (shrO z1R) (shrO z1H)))) ?_
 refine zi fun r3 hr3 => ?_
 obtain ⟨qr3, er3, exr3, rfl⟩ := Z34 (b4.Root) .sh .sh r3 hr3
 refine zc [] (.p (.tup [(.v (.int .i64 r3.1)), (.v (.int .i64 r3.2))])) [(ZA b0 zJ zI), (ZF b1), (ZA b2 z1P z1I), (ZF b3), (ZA b4 z1R z1H)] er3 ?_
 refine zo (iv r3.1) ?_
 refine zo (iv r3.2) ?_
 refine ze ?_
 refine ze ?_
 refine zo (bv (decide (0 ≤ r1.2))) ?_
 refine za ((decide (0 ≤ r1.2))) ?_ ?_
 ·refine zo (bv (decide (0 ≤ r2.2))) ?_
  refine za ((decide (0 ≤ r2.2))) ?_ ?_
  ·refine zo (iv (IntKind.i64.wrap (r1.2 + r2.2))) ?_
   refine zo (bv (decide ((IntKind.i64.wrap (r1.2 + r2.2)) ≤ 1048576))) ?_
   refine za ((decide ((IntKind.i64.wrap (r1.2 + r2.2)) ≤ 1048576))) ?_ ?_
   ·exact zk (Z8n (r1.1) (r1.2) (r2.1) (r2.2) (r3.1) (r3.2) (b0) (b1) (b2) (b3) (b4) zJ zI z1P z1I z1R z1H)
   ·exact zk (Z3g (r1.1) (r2.1) (r3.1) (r3.2) ((-1)) (b0) (b1) (b2) (b3) (b4) zJ zI z1P z1I z1R z1H)
  ·exact zk (Z3g (r1.1) (r2.1) (r3.1) (r3.2) ((-1)) (b0) (b1) (b2) (b3) (b4) zJ zI z1P z1I z1R z1H)
 ·exact zk (Z3g (r1.1) (r2.1) (r3.1) (r3.2) ((-1)) (b0) (b1) (b2) (b3) (b4) zJ zI z1P z1I z1R z1H)
noncomputable def Z3Y (x0 : ByteArray) (x1 : ByteArray) : Option (Bool) :=
 (Z55 x0).bind fun r1 =>
 (Z55 x1).bind fun r2 =>
 (sadd (ByteArray.mk #[40, 63, 58]) x0).bind fun a3 =>
 (sadd a3 (ByteArray.mk #[41, 40, 63, 58])).bind fun a4 =>
 (sadd a4 x1).bind fun a5 =>
 (sadd a5 (ByteArray.mk #[41])).bind fun a6 =>
 (Z55 a6).bind fun r7 =>
 if ((r1.2.Code != 0)) = true then
 (Z1W)
 else
 (if ((r2.2.Code != 0)) = true then
 (Z1W)
 else
 (if ((r7.2.Code != 0)) = true then
 (Z1W)
 else
 (if (r1.1.Fold) = true then
 (Z1W)
 else
 (if (r2.1.Fold) = true then
 (Z1W)
 else
 (Z3N r1.1 r2.1 r7.1)))))
theorem Z8K (x0 : ByteArray) (x1 : ByteArray) : Sim (Z1u) (Z3Y x0 x1) (ZfZ 0 (.p (.v (.string x0))) (.p (.v (.string x1))) []) := by
 unfold Z3Y
 refine zf (Ziu ..) ?_
 refine ze ?_
 refine zi fun r1 hr1 => ?_
 obtain ⟨qr1, er1, exr1, rfl⟩ := Z68 (x0) r1 hr1
 refine zc [] (.p (.tup [(.agg (Z1k r1.1 .sh .sh)), (.agg (Z1N r1.2))])) [] er1 ?_
 refine zo (.p (.agg (Z1k r1.1 .sh .sh))) ?_
 refine zo (.p (.agg (Z1N r1.2))) ?_
 refine zz (.ptr 0 0) [(ZA (ZE.mk (Z3.mk 0 0 0 0 0 ([] : List Z8) ([] : List Z3)) 0 false) .nl .nl)] ?_
 refine zz (.ptr 1 0) [(ZA (ZE.mk (Z3.mk 0 0 0 0 0 ([] : List Z8) ([] : List Z3)) 0 false) .nl .nl), (ZF (Zl.mk 0 0))] ?_
 refine zt [(ZA r1.1 .sh .sh), (ZF (Zl.mk 0 0))] ?_
 refine zt [(ZA r1.1 .sh .sh), (ZF r1.2)] ?_
 refine ze ?_
 refine zi fun r2 hr2 => ?_
 obtain ⟨qr2, er2, exr2, rfl⟩ := Z68 (x1) r2 hr2
 refine zc [] (.p (.tup [(.agg (Z1k r2.1 .sh .sh)), (.agg (Z1N r2.2))])) [(ZA r1.1 .sh .sh), (ZF r1.2)] er2 ?_
 refine zo (.p (.agg (Z1k r2.1 .sh .sh))) ?_
 refine zo (.p (.agg (Z1N r2.2))) ?_
 refine zz (.ptr 2 0) [(ZA r1.1 .sh .sh), (ZF r1.2), (ZA (ZE.mk (Z3.mk 0 0 0 0 0 ([] : List Z8) ([] : List Z3)) 0 false) .nl .nl)] ?_
 refine zz (.ptr 3 0) [(ZA r1.1 .sh .sh), (ZF r1.2), (ZA (ZE.mk (Z3.mk 0 0 0 0 0 ([] : List Z8) ([] : List Z3)) 0 false) .nl .nl), (ZF (Zl.mk 0 0))] ?_
 refine zt [(ZA r1.1 .sh .sh), (ZF r1.2), (ZA r2.1 .sh .sh), (ZF (Zl.mk 0 0))] ?_
 refine zt [(ZA r1.1 .sh .sh), (ZF r1.2), (ZA r2.1 .sh .sh), (ZF r2.2)] ?_
 refine ze ?_
 refine zi fun a3 ha3 => ?_
 refine zo (.p (.v (.string a3))) ?_ (Eq.trans (by kernel_rfl) (xsadd_of (P := PP) (t := 9) ha3))
 refine zi fun a4 ha4 => ?_
 refine zo (.p (.v (.string a4))) ?_ (Eq.trans (by kernel_rfl) (xsadd_of (P := PP) (t := 9) ha4))
 refine zi fun a5 ha5 => ?_
 refine zo (.p (.v (.string a5))) ?_ (Eq.trans (by kernel_rfl) (xsadd_of (P := PP) (t := 9) ha5))
 refine zi fun a6 ha6 => ?_
 refine zo (.p (.v (.string a6))) ?_ (Eq.trans (by kernel_rfl) (xsadd_of (P := PP) (t := 9) ha6))
 refine zi fun r7 hr7 => ?_
 obtain ⟨qr7, er7, exr7, rfl⟩ := Z68 (a6) r7 hr7
 refine zc [] (.p (.tup [(.agg (Z1k r7.1 .sh .sh)), (.agg (Z1N r7.2))])) [(ZA r1.1 .sh .sh), (ZF r1.2), (ZA r2.1 .sh .sh), (ZF r2.2)] er7 ?_
 refine zo (.p (.agg (Z1k r7.1 .sh .sh))) ?_
 refine zo (.p (.agg (Z1N r7.2))) ?_
 refine zz (.ptr 4 0) [(ZA r1.1 .sh .sh), (ZF r1.2), (ZA r2.1 .sh .sh), (ZF r2.2), (ZA (ZE.mk (Z3.mk 0 0 0 0 0 ([] : List Z8) ([] : List Z3)) 0 false) .nl .nl)] ?_
 refine zz (.ptr 5 0) [(ZA r1.1 .sh .sh), (ZF r1.2), (ZA r2.1 .sh .sh), (ZF r2.2), (ZA (ZE.mk (Z3.mk 0 0 0 0 0 ([] : List Z8) ([] : List Z3)) 0 false) .nl .nl), (ZF (Zl.mk 0 0))] ?_
 refine zt [(ZA r1.1 .sh .sh), (ZF r1.2), (ZA r2.1 .sh .sh), (ZF r2.2), (ZA r7.1 .sh .sh), (ZF (Zl.mk 0 0))] ?_
 refine zt [(ZA r1.1 .sh .sh), (ZF r1.2), (ZA r2.1 .sh .sh), (ZF r2.2), (ZA r7.1 .sh .sh), (ZF r7.2)] ?_
 refine ze ?_
 refine zo (.ptr 1 0) ?_
 refine zo (iv r1.2.Code) ?_
 refine zo (bv (r1.2.Code != 0)) ?_
 refine za ((r1.2.Code != 0)) ?_ ?_
 ·exact zk (Z2H )
 ·refine zo (.ptr 3 0) ?_
  refine zo (iv r2.2.Code) ?_
  refine zo (bv (r2.2.Code != 0)) ?_
  refine za ((r2.2.Code != 0)) ?_ ?_
  ·exact zk (Z2H )
  ·refine zo (.ptr 5 0) ?_
   refine zo (iv r7.2.Code) ?_
   refine zo (bv (r7.2.Code != 0)) ?_
   refine za ((r7.2.Code != 0)) ?_ ?_
   ·exact zk (Z2H )
   ·refine zo (.ptr 0 8) ?_
    refine zo (bv r1.1.Fold) ?_
    refine za (r1.1.Fold) ?_ ?_
    ·exact zk (Z2H )
    ·refine zo (.ptr 2 8) ?_
     refine zo (bv r2.1.Fold) ?_
     refine za (r2.1.Fold) ?_ ?_
     ·exact zk (Z2H )
     ·exact zk (Z8x (r1.1) (r1.2) (r2.1) (r2.2) (r7.1) .sh .sh .sh .sh .sh .sh)
noncomputable def Z46 (x0 : ByteArray) (x1 : ByteArray) : Option (Bool) :=
 if ((decide (100 < (x0.size : Int)))) = true then
 (Z3f)
 else
 (if ((decide (100 < (x1.size : Int)))) = true then
 (Z3f)
 else
 (Z3Y x0 x1))
theorem Z8T (x0 : ByteArray) (x1 : ByteArray) : Sim (Z1u) (Z46 x0 x1) (Zgp 0 (.p (.v (.string x0))) (.p (.v (.string x1))) []) := by
 unfold Z46
 refine zf (Zit ..) ?_
 refine ze ?_
 refine zo (iv (x0.size : Int)) ?_
 refine zo (bv (decide (100 < (x0.size : Int)))) ?_
 refine za ((decide (100 < (x0.size : Int)))) ?_ ?_
 ·exact zk (Z65 )
 ·refine zo (iv (x1.size : Int)) ?_
  refine zo (bv (decide (100 < (x1.size : Int)))) ?_
  refine za ((decide (100 < (x1.size : Int)))) ?_ ?_
  ·exact zk (Z65 )
  ·exact zk (Z8K (x0) (x1))
noncomputable def Z4I (x0 : ByteArray) (x1 : ByteArray) : Option (Bool) :=
 (Z5o).bind fun r1 =>
 if ((!r1)) = true then
 (some (false))
 else
 (Z46 x0 x1)
theorem Z9s (x0 : ByteArray) (x1 : ByteArray) : Sim (Z1u) (Z4I x0 x1) (EE 10 [(.p (.v (.string x0))), (.p (.v (.string x1)))] []) := by
 unfold Z4I
 refine zf (Zle ..) ?_
 refine ze ?_
 refine ze ?_
 refine zi fun r1 hr1 => ?_
 obtain ⟨qr1, er1, exr1, rfl⟩ := Zav  r1 hr1
 refine zc [] (bv r1) [] er1 ?_
 refine zo (bv (!r1)) ?_
 refine za ((!r1)) ?_ ?_
 ·refine ze ?_
  exact zr ((bv false), []) ⟨_, rfl⟩
 ·exact zk (Z8T (x0) (x1))
theorem Z9E (x0 : ByteArray) (x1 : ByteArray) {r} (h : Z4I x0 x1 = some r) : Z5T x0 x1 = some r :=
 pick_of (fun _ _ ha hb => RRun.uniq (Za5) (ha ) (hb )) (Z9s x0 x1 r h)
noncomputable def Z5n  : Option (Bool) :=
 (Z55 ((ByteArray.mk #[97, 123, 50, 44, 51, 125, 124, 98, 42]))).bind fun r1 =>
 (Z1n r1.1.Root).bind fun r2 =>
 (Z55 ((ByteArray.mk #[97, 42]))).bind fun r3 =>
 if ((r1.2.Code == 0)) = true then
 (if ((r3.2.Code == 0)) = true then
 (if ((r2.1 == 0)) = true then
 (if ((r2.2 == (-1))) = true then
 ((Z28 r1.1.Root).bind fun r4 =>
 if ((r4 == 11)) = true then
 ((Z8F r1.1).bind fun r5 =>
 some ((r5 == 0)))
 else
 (some (false)))
 else
 (some (false)))
 else
 (some (false)))
 else
 (some (false)))
 else
 (some (false))
theorem Zah  : Sim (Z4n) (Z5n) (EE 23 [] []) := by
 unfold Z5n
 refine zf (Zla ..) ?_
 refine ze ?_
 refine ze ?_
 refine zi fun r1 hr1 => ?_
 obtain ⟨qr1, er1, exr1, rfl⟩ := Z68 ((ByteArray.mk #[97, 123, 50, 44, 51, 125, 124, 98, 42])) r1 hr1
 refine zc [] (.p (.tup [(.agg (Z1k r1.1 .sh .sh)), (.agg (Z1N r1.2))])) [] er1 ?_
 refine zo (.p (.agg (Z1k r1.1 .sh .sh))) ?_
 refine zo (.p (.agg (Z1N r1.2))) ?_
 refine zz (.ptr 0 0) [(ZA (ZE.mk (Z3.mk 0 0 0 0 0 ([] : List Z8) ([] : List Z3)) 0 false) .nl .nl)] ?_
 refine zz (.ptr 1 0) [(ZA (ZE.mk (Z3.mk 0 0 0 0 0 ([] : List Z8) ([] : List Z3)) 0 false) .nl .nl), (ZF (Zl.mk 0 0))] ?_
 refine zt [(ZA r1.1 .sh .sh), (ZF (Zl.mk 0 0))] ?_
 refine zt [(ZA r1.1 .sh .sh), (ZF r1.2)] ?_
 refine ze ?_
 refine zo (.ptr 0 0) ?_
 refine zo (.p (.agg (ZC r1.1.Root .sh .sh))) ?_
 refine zi fun r2 hr2 => ?_
 obtain ⟨qr2, er2, exr2, rfl⟩ := Z34 (r1.1.Root) .sh .sh r2 hr2
 refine zc [] (.p (.tup [(.v (.int .i64 r2.1)), (.v (.int .i64 r2.2))])) [(ZA r1.1 .sh .sh), (ZF r1.2)] er2 ?_
 refine zo (iv r2.1) ?_
 refine zo (iv r2.2) ?_
 refine ze ?_
 refine zi fun r3 hr3 => ?_
 obtain ⟨qr3, er3, exr3, rfl⟩ := Z68 ((ByteArray.mk #[97, 42])) r3 hr3
 refine zc [] (.p (.tup [(.agg (Z1k r3.1 .sh .sh)), (.agg (Z1N r3.2))])) [(ZA r1.1 .sh .sh), (ZF r1.2)] er3 ?_
 refine zo (.p (.agg (Z1k r3.1 .sh .sh))) ?_
 refine zo (.p (.agg (Z1N r3.2))) ?_
 refine zz (.ptr 2 0) [(ZA r1.1 .sh .sh), (ZF r1.2), (ZA (ZE.mk (Z3.mk 0 0 0 0 0 ([] : List Z8) ([] : List Z3)) 0 false) .nl .nl)] ?_
 refine zz (.ptr 3 0) [(ZA r1.1 .sh .sh), (ZF r1.2), (ZA (ZE.mk (Z3.mk 0 0 0 0 0 ([] : List Z8) ([] : List Z3)) 0 false) .nl .nl), (ZF (Zl.mk 0 0))] ?_
 refine zt [(ZA r1.1 .sh .sh), (ZF r1.2), (ZA r3.1 .sh .sh), (ZF (Zl.mk 0 0))] ?_
 refine zt [(ZA r1.1 .sh .sh), (ZF r1.2), (ZA r3.1 .sh .sh), (ZF r3.2)] ?_
 refine ze ?_
 refine zo (.ptr 1 0) ?_
 refine zo (iv r1.2.Code) ?_
 refine zo (bv (r1.2.Code == 0)) ?_
 refine za ((r1.2.Code == 0)) ?_ ?_
 ·refine zo (.ptr 3 0) ?_
  refine zo (iv r3.2.Code) ?_
  refine zo (bv (r3.2.Code == 0)) ?_
  refine za ((r3.2.Code == 0)) ?_ ?_
  ·refine zo (bv (r2.1 == 0)) ?_
   refine za ((r2.1 == 0)) ?_ ?_
   ·refine zo (bv (r2.2 == (-1))) ?_
    refine za ((r2.2 == (-1))) ?_ ?_
    ·refine zo (.ptr 0 0) ?_
     refine zo (.p (.agg (ZC r1.1.Root .sh .sh))) ?_
     refine zi fun r4 hr4 => ?_
     obtain ⟨qr4, er4, exr4, rfl⟩ := Z5z (r1.1.Root) .sh .sh r4 hr4
     refine zc [] (iv r4) [(ZA r1.1 .sh .sh), (ZF r1.2), (ZA r3.1 .sh .sh), (ZF r3.2)] er4 ?_
     refine zo (bv (r4 == 11)) ?_
     refine za ((r4 == 11)) ?_ ?_
     ·refine zo (.p (.agg (Z1k r1.1 .sh .sh))) ?_
      refine zi fun r5 hr5 => ?_
      obtain ⟨qr5, er5, exr5, rfl⟩ := ZdU (r1.1) .sh .sh r5 hr5
      refine zc [] (iv r5) [(ZA r1.1 .sh .sh), (ZF r1.2), (ZA r3.1 .sh .sh), (ZF r3.2)] er5 ?_
      refine zo (bv (r5 == 0)) ?_
      exact zr ((bv (r5 == 0)), [(ZA r1.1 .sh .sh), (ZF r1.2), (ZA r3.1 .sh .sh), (ZF r3.2)]) ⟨_, rfl⟩
     ·exact zr ((bv false), [(ZA r1.1 .sh .sh), (ZF r1.2), (ZA r3.1 .sh .sh), (ZF r3.2)]) ⟨_, rfl⟩
    ·exact zr ((bv false), [(ZA r1.1 .sh .sh), (ZF r1.2), (ZA r3.1 .sh .sh), (ZF r3.2)]) ⟨_, rfl⟩
   ·exact zr ((bv false), [(ZA r1.1 .sh .sh), (ZF r1.2), (ZA r3.1 .sh .sh), (ZF r3.2)]) ⟨_, rfl⟩
  ·exact zr ((bv false), [(ZA r1.1 .sh .sh), (ZF r1.2), (ZA r3.1 .sh .sh), (ZF r3.2)]) ⟨_, rfl⟩
 ·exact zr ((bv false), [(ZA r1.1 .sh .sh), (ZF r1.2), (ZA r3.1 .sh .sh), (ZF r3.2)]) ⟨_, rfl⟩
theorem Zan  {r} (h : Z5n = some r) : Z5o = some r :=
 pick_of (fun _ _ ha hb => RRun.uniq (ZaT) (ha ) (hb )) (Zah  r h)
noncomputable def Z3k (z23 : List Int) (zS : Int) (z1j : List Zv) (zK : Int) (zT : Int) (zM : Int) (zW : Int) (zV : Int) (zN : Int) (zP : Int) (zQ : List Z8) (zO : List Z3) (z15 : Bool) : Option (ZE × Zl) :=
 Z5h z1j ((z1j.length : Int)) 0 z23 zS zK zT zM zW zV zN zP zQ zO z15
theorem Z72 (b0 : ZE) (b1 : Zl) (z23 : List Int) (z1T : Int) (zS : Int) (z1D : Int) (z1j : List Zv) (zK : Int) (zT : Int) (zM : Int) (zW : Int) (zV : Int) (zN : Int) (zP : Int) (zQ : List Z8) (zO : List Z3) (z1v : Int) (z15 : Bool) (zJ : Own) (zI : Own) (z2p : Own) (z1a : Own) (z12 : Own) (zZ : Own) (z1A : okApp zJ = true) (z1r : okApp zI = true) (z2y : okApp z1a = true) : Sim (Z2t) (Z3k z23 zS z1j zK zT zM zW zV zN zP zQ zO z15) (Zdf 0 (.ptr 0 0) (.ptr 1 0) (.ptr 2 0) (.ptr 3 0) [(ZA b0 zJ zI), (ZF b1), (Zk (Zm.mk z23 z1T zS z1D z1j (Zl.mk zK zT)) z2p z1a), (ZA (ZE.mk (Z3.mk zM zW zV zN zP zQ zO) z1v z15) z12 zZ)]) := by
 unfold Z3k
 refine zf (Zj2 ..) ?_
 refine ze ?_
 refine zo (.ptr 2 0) ?_
 refine zo (.ptr 2 4) ?_
 refine zo (.p (.lst (shrO z1a) (z1j.map Z1G))) ?_
 refine zo (iv (z1j.length : Int)) ?_ (Eq.trans (by kernel_rfl) (xlen_of (P := PP) (t := 56) (d := 62) (by kernel_rfl) Z1G (shrO z1a) z1j))
 exact zk (Z9u (z1j) ((z1j.length : Int)) (0) (b0) (b1) (z23) (z1T) (zS) (z1D) (z1j) (zK) (zT) (zM) (zW) (zV) (zN) (zP) (zQ) (zO) (z1v) (z15) (shrO z1a) zJ zI z2p z1a z12 zZ z1A z1r z2y)
noncomputable def Z61 (z23 : List Int) (z1T : Int) (zS : Int) (z1j : List Zv) (zK : Int) (zT : Int) (zM : Int) (zW : Int) (zV : Int) (zN : Int) (zP : Int) (zQ : List Z8) (zO : List Z3) (z15 : Bool) : Option (ZE × Zl) :=
 (ZU 20 z1T z23 zK zT).bind fun r1 =>
 Z3k z23 zS z1j r1.2.1 r1.2.2 zM zW zV zN zP zQ zO z15
theorem ZcD (b0 : ZE) (b1 : Zl) (z23 : List Int) (z1T : Int) (zS : Int) (z1D : Int) (z1j : List Zv) (zK : Int) (zT : Int) (zM : Int) (zW : Int) (zV : Int) (zN : Int) (zP : Int) (zQ : List Z8) (zO : List Z3) (z1v : Int) (z15 : Bool) (zJ : Own) (zI : Own) (z2p : Own) (z1a : Own) (z12 : Own) (zZ : Own) (z1A : okApp zJ = true) (z1r : okApp zI = true) (z2y : okApp z1a = true) : Sim (Z2t) (Z61 z23 z1T zS z1j zK zT zM zW zV zN zP zQ zO z15) (ZgB 0 (.ptr 0 0) (.ptr 1 0) (.ptr 2 0) (.ptr 3 0) [(ZA b0 zJ zI), (ZF b1), (Zk (Zm.mk z23 z1T zS z1D z1j (Zl.mk zK zT)) z2p z1a), (ZA (ZE.mk (Z3.mk zM zW zV zN zP zQ zO) z1v z15) z12 zZ)]) := by
 unfold Z61
 refine zf (Ziv ..) ?_
 refine ze ?_
 refine zo (.ptr 2 0) ?_
 refine zo (.ptr 2 1) ?_
 refine zo (iv z1T) ?_
 refine zi fun r1 hr1 => ?_
 obtain ⟨qr1, er1, exr1, rfl⟩ := ZX (20) (z1T) (z23) (z1T) (zS) (z1D) (z1j) (zK) (zT) z2p z1a z2y r1 hr1
 refine zc [2] (.p (.tup [])) [(ZA b0 zJ zI), (ZF b1), (Zk (Zm.mk z23 r1.1 zS z1D z1j (Zl.mk r1.2.1 r1.2.2)) z2p z1a), (ZA (ZE.mk (Z3.mk zM zW zV zN zP zQ zO) z1v z15) z12 zZ)] er1 ?_
 exact zk (Z72 (b0) (b1) (z23) (r1.1) (zS) (z1D) (z1j) (r1.2.1) (r1.2.2) (zM) (zW) (zV) (zN) (zP) (zQ) (zO) (z1v) (z15) zJ zI z2p z1a z12 zZ z1A z1r z2y)
noncomputable def Z74 (x0 : ByteArray) : Option (ZE × Zl) :=
 (Z18 ((ByteArray.mk #[40, 63, 105, 41])) ((bytesI x0)) 0).bind fun r1 =>
 (Z32 ((bytesI x0)) r1.2 0 0 (([] : List Zv)) 0 0).bind fun r2 =>
 if ((r2.2.2.2.2.2.1 == 0)) = true then
 (if ((decide (r2.2.1 < ((bytesI x0).length : Int)))) = true then
 (Z61 ((bytesI x0)) r2.2.1 r2.2.2.1 r2.2.2.2.2.1 r2.2.2.2.2.2.1 r2.2.2.2.2.2.2 r2.1.Kind r2.1.Lo r2.1.Hi r2.1.Mode r2.1.Ref r2.1.Set r2.1.Kids r1.1)
 else
 (Z3k ((bytesI x0)) r2.2.2.1 r2.2.2.2.2.1 r2.2.2.2.2.2.1 r2.2.2.2.2.2.2 r2.1.Kind r2.1.Lo r2.1.Hi r2.1.Mode r2.1.Ref r2.1.Set r2.1.Kids r1.1))
 else
 (Z3k ((bytesI x0)) r2.2.2.1 r2.2.2.2.2.1 r2.2.2.2.2.2.1 r2.2.2.2.2.2.2 r2.1.Kind r2.1.Lo r2.1.Hi r2.1.Mode r2.1.Ref r2.1.Set r2.1.Kids r1.1)
theorem Zcx (x0 : ByteArray) (b0 : ZE) (b1 : Zl) (zJ : Own) (zI : Own) (z1A : okApp zJ = true) (z1r : okApp zI = true) : Sim (Z2t) (Z74 x0) (Zgo 0 (.p (.v (.string x0))) (.ptr 0 0) (.ptr 1 0) [(ZA b0 zJ zI), (ZF b1)]) := by
 unfold Z74
 refine zf (ZhH ..) ?_
 refine ze ?_
 refine zo (.p (.lst .sh ((bytesI x0).map (eI .u8)))) ?_ (Eq.trans (by kernel_rfl) (xcnv_byt (P := PP) (s := 9) (d := 40) (by kernel_rfl) (by kernel_rfl) x0))
 refine zo (.p (.agg (Zem (Zm.mk (bytesI x0) 0 0 0 ([] : List Zv) (Zl.mk 0 0)) .sh .nl))) ?_
 refine zx (.ptr 2 0) [(ZA b0 zJ zI), (ZF b1), (Zk (Zm.mk (bytesI x0) 0 0 0 ([] : List Zv) (Zl.mk 0 0)) .sh .nl)] ?_
 refine ze ?_
 refine zi fun r1 hr1 => ?_
 obtain ⟨qr1, er1, exr1, rfl⟩ := Z1d ((ByteArray.mk #[40, 63, 105, 41])) ((bytesI x0)) (0) (0) (0) (([] : List Zv)) (0) (0) .sh .nl rfl r1 hr1
 refine zc [2] (bv r1.1) [(ZA b0 zJ zI), (ZF b1), (Zk (Zm.mk (bytesI x0) r1.2 0 0 ([] : List Zv) (Zl.mk 0 0)) .sh .nl)] er1 ?_
 refine zo (.p (.agg (Z1k (ZE.mk (Z3.mk 0 0 0 0 0 ([] : List Z8) ([] : List Z3)) 0 r1.1) .nl .nl))) ?_
 refine zz (.ptr 3 0) [(ZA b0 zJ zI), (ZF b1), (Zk (Zm.mk (bytesI x0) r1.2 0 0 ([] : List Zv) (Zl.mk 0 0)) .sh .nl), (ZA (ZE.mk (Z3.mk 0 0 0 0 0 ([] : List Z8) ([] : List Z3)) 0 false) .nl .nl)] ?_
 refine zt [(ZA b0 zJ zI), (ZF b1), (Zk (Zm.mk (bytesI x0) r1.2 0 0 ([] : List Zv) (Zl.mk 0 0)) .sh .nl), (ZA (ZE.mk (Z3.mk 0 0 0 0 0 ([] : List Z8) ([] : List Z3)) 0 r1.1) .nl .nl)] ?_
 refine ze ?_
 refine zi fun r2 hr2 => ?_
 obtain ⟨qr2, er2, or2_0_4, exr2, hor2_0_4, rfl⟩ := Z93 ((bytesI x0)) (r1.2) (0) (0) (([] : List Zv)) (0) (0) .sh .nl rfl r2 hr2
 refine zc [2] (.p (.agg (ZC r2.1 .sh .sh))) [(ZA b0 zJ zI), (ZF b1), (Zk (Zm.mk (bytesI x0) r2.2.1 r2.2.2.1 r2.2.2.2.1 r2.2.2.2.2.1 (Zl.mk r2.2.2.2.2.2.1 r2.2.2.2.2.2.2)) .sh or2_0_4), (ZA (ZE.mk (Z3.mk 0 0 0 0 0 ([] : List Z8) ([] : List Z3)) 0 r1.1) .nl .nl)] er2 ?_
 refine zo (.ptr 3 0) ?_
 refine zt [(ZA b0 zJ zI), (ZF b1), (Zk (Zm.mk (bytesI x0) r2.2.1 r2.2.2.1 r2.2.2.2.1 r2.2.2.2.2.1 (Zl.mk r2.2.2.2.2.2.1 r2.2.2.2.2.2.2)) .sh or2_0_4), (ZA (ZE.mk (Z3.mk r2.1.Kind r2.1.Lo r2.1.Hi r2.1.Mode r2.1.Ref r2.1.Set r2.1.Kids) 0 r1.1) .sh .sh)] ?_
 refine ze ?_
 refine zo (.ptr 2 0) ?_
 refine zo (.ptr 2 5) ?_
 refine zo (.ptr 2 5) ?_
 refine zo (iv r2.2.2.2.2.2.1) ?_
 refine zo (bv (r2.2.2.2.2.2.1 == 0)) ?_
 refine za ((r2.2.2.2.2.2.1 == 0)) ?_ ?_
 ·refine zo (.ptr 2 0) ?_
  refine zo (.ptr 2 1) ?_
  refine zo (iv r2.2.1) ?_
  refine zo (.ptr 2 0) ?_
  refine zo (.ptr 2 0) ?_
  refine zo (.p (.lst .sh ((bytesI x0).map (eI .u8)))) ?_
  refine zo (iv ((bytesI x0).length : Int)) ?_ (Eq.trans (by kernel_rfl) (xlen_of (P := PP) (t := 40) (d := 5) (by kernel_rfl) (eI .u8) .sh (bytesI x0)))
  refine zo (bv (decide (r2.2.1 < ((bytesI x0).length : Int)))) ?_
  refine za ((decide (r2.2.1 < ((bytesI x0).length : Int)))) ?_ ?_
  ·exact zk (ZcD (b0) (b1) ((bytesI x0)) (r2.2.1) (r2.2.2.1) (r2.2.2.2.1) (r2.2.2.2.2.1) (r2.2.2.2.2.2.1) (r2.2.2.2.2.2.2) (r2.1.Kind) (r2.1.Lo) (r2.1.Hi) (r2.1.Mode) (r2.1.Ref) (r2.1.Set) (r2.1.Kids) (0) (r1.1) zJ zI .sh or2_0_4 .sh .sh z1A z1r hor2_0_4)
  ·exact zk (Z72 (b0) (b1) ((bytesI x0)) (r2.2.1) (r2.2.2.1) (r2.2.2.2.1) (r2.2.2.2.2.1) (r2.2.2.2.2.2.1) (r2.2.2.2.2.2.2) (r2.1.Kind) (r2.1.Lo) (r2.1.Hi) (r2.1.Mode) (r2.1.Ref) (r2.1.Set) (r2.1.Kids) (0) (r1.1) zJ zI .sh or2_0_4 .sh .sh z1A z1r hor2_0_4)
 ·exact zk (Z72 (b0) (b1) ((bytesI x0)) (r2.2.1) (r2.2.2.1) (r2.2.2.2.1) (r2.2.2.2.2.1) (r2.2.2.2.2.2.1) (r2.2.2.2.2.2.2) (r2.1.Kind) (r2.1.Lo) (r2.1.Hi) (r2.1.Mode) (r2.1.Ref) (r2.1.Set) (r2.1.Kids) (0) (r1.1) zJ zI .sh or2_0_4 .sh .sh z1A z1r hor2_0_4)
noncomputable def Z8D (x0 : ByteArray) : Option (ZE × Zl) :=
 if ((decide (256 < (x0.size : Int)))) = true then
 (some ((ZE.mk (Z3.mk 0 0 0 0 0 ([] : List Z8) ([] : List Z3)) 0 false), (Zl.mk 12 0)))
 else
 (Z74 x0)
theorem ZdD (x0 : ByteArray) : Sim (Z2t) (Z8D x0) (EE 16 [(.p (.v (.string x0)))] []) := by
 unfold Z8D
 refine zf (ZkU ..) ?_
 refine ze ?_
 refine zz (.ptr 0 0) [(ZA (ZE.mk (Z3.mk 0 0 0 0 0 ([] : List Z8) ([] : List Z3)) 0 false) .nl .nl)] ?_
 refine zz (.ptr 1 0) [(ZA (ZE.mk (Z3.mk 0 0 0 0 0 ([] : List Z8) ([] : List Z3)) 0 false) .nl .nl), (ZF (Zl.mk 0 0))] ?_
 refine ze ?_
 refine zo (iv (x0.size : Int)) ?_
 refine zo (bv (decide (256 < (x0.size : Int)))) ?_
 refine za ((decide (256 < (x0.size : Int)))) ?_ ?_
 ·refine ze ?_
  refine zo (.p (.agg (Z1k (ZE.mk (Z3.mk 0 0 0 0 0 ([] : List Z8) ([] : List Z3)) 0 false) .nl .nl))) ?_
  refine zo (.p (.agg (Z1N (Zl.mk 12 0)))) ?_
  refine zt [(ZA (ZE.mk (Z3.mk 0 0 0 0 0 ([] : List Z8) ([] : List Z3)) 0 false) .nl .nl), (ZF (Zl.mk 0 0))] ?_
  refine zt [(ZA (ZE.mk (Z3.mk 0 0 0 0 0 ([] : List Z8) ([] : List Z3)) 0 false) .nl .nl), (ZF (Zl.mk 12 0))] ?_
  exact zr ((.p (.tup [(.agg (Z1k (ZE.mk (Z3.mk 0 0 0 0 0 ([] : List Z8) ([] : List Z3)) 0 false) .sh .sh)), (.agg (Z1N (Zl.mk 12 0)))])), [(ZA (ZE.mk (Z3.mk 0 0 0 0 0 ([] : List Z8) ([] : List Z3)) 0 false) .nl .nl), (ZF (Zl.mk 12 0))]) ⟨_, rfl⟩
 ·exact zk (Zcx (x0) ((ZE.mk (Z3.mk 0 0 0 0 0 ([] : List Z8) ([] : List Z3)) 0 false)) ((Zl.mk 0 0)) .nl .nl rfl rfl)
theorem ZdL (x0 : ByteArray) {r} (h : Z8D x0 = some r) : Z55 x0 = some r :=
 pick_of (fun _ _ ha hb => RRun.uniq (Zbq) (ha ) (hb )) (ZdD x0 r h)
noncomputable def Z3w (x50 : List Zv) (x51 : Int) (x52 : Int) (z23 : List Int) (zS : Int) (zK : Int) (zT : Int) (zM : Int) (zW : Int) (zV : Int) (zN : Int) (zP : Int) (zQ : List Z8) (zO : List Z3) (z15 : Bool) : Option (ZE × Zl) :=
 Z5h x50 x51 ((IntKind.i64.wrap (x52 + 1))) z23 zS zK zT zM zW zV zN zP zQ zO z15
theorem Z8Z (x50 : List Zv) (x51 : Int) (x52 : Int) (b0 : ZE) (b1 : Zl) (z23 : List Int) (z1T : Int) (zS : Int) (z1D : Int) (z1j : List Zv) (zK : Int) (zT : Int) (zM : Int) (zW : Int) (zV : Int) (zN : Int) (zP : Int) (zQ : List Z8) (zO : List Z3) (z1v : Int) (z15 : Bool) (ox50 : Own) (zJ : Own) (zI : Own) (z2p : Own) (z1a : Own) (z12 : Own) (zZ : Own) (z1A : okApp zJ = true) (z1r : okApp zI = true) (z2y : okApp z1a = true) : Sim (Z2t) (Z3w x50 x51 x52 z23 zS zK zT zM zW zV zN zP zQ zO z15) (Zdr 0 (.ptr 0 0) (.ptr 1 0) (.ptr 2 0) (.ptr 3 0) (.p (.lst ox50 (x50.map Z1G))) (iv x51) (iv x52) [(ZA b0 zJ zI), (ZF b1), (Zk (Zm.mk z23 z1T zS z1D z1j (Zl.mk zK zT)) z2p z1a), (ZA (ZE.mk (Z3.mk zM zW zV zN zP zQ zO) z1v z15) z12 zZ)]) := by
 unfold Z3w
 refine zf (Zhi ..) ?_
 refine ze ?_
 refine zo (iv (IntKind.i64.wrap (x52 + 1))) ?_
 exact zk (Z9u (x50) (x51) ((IntKind.i64.wrap (x52 + 1))) (b0) (b1) (z23) (z1T) (zS) (z1D) (z1j) (zK) (zT) (zM) (zW) (zV) (zN) (zP) (zQ) (zO) (z1v) (z15) ox50 zJ zI z2p z1a z12 zZ z1A z1r z2y)
noncomputable def Z5L (x50 : List Zv) (x51 : Int) (x52 : Int) (z23 : List Int) (zS : Int) (zK : Int) (zT : Int) (zM : Int) (zW : Int) (zV : Int) (zN : Int) (zP : Int) (zQ : List Z8) (zO : List Z3) (z15 : Bool) : Option (ZE × Zl) :=
 (lget x50 x52).bind fun a1 =>
 if ((decide (zS < a1.group))) = true then
 ((ZU 26 a1.at_ z23 zK zT).bind fun r2 =>
 Z3w x50 x51 x52 z23 zS r2.2.1 r2.2.2 zM zW zV zN zP zQ zO z15)
 else
 (Z3w x50 x51 x52 z23 zS zK zT zM zW zV zN zP zQ zO z15)
theorem ZbS (x50 : List Zv) (x51 : Int) (x52 : Int) (b0 : ZE) (b1 : Zl) (z23 : List Int) (z1T : Int) (zS : Int) (z1D : Int) (z1j : List Zv) (zK : Int) (zT : Int) (zM : Int) (zW : Int) (zV : Int) (zN : Int) (zP : Int) (zQ : List Z8) (zO : List Z3) (z1v : Int) (z15 : Bool) (ox50 : Own) (zJ : Own) (zI : Own) (z2p : Own) (z1a : Own) (z12 : Own) (zZ : Own) (z1A : okApp zJ = true) (z1r : okApp zI = true) (z2y : okApp z1a = true) : Sim (Z2t) (Z5L x50 x51 x52 z23 zS zK zT zM zW zV zN zP zQ zO z15) (Zf3 0 (.ptr 0 0) (.ptr 1 0) (.ptr 2 0) (.ptr 3 0) (.p (.lst ox50 (x50.map Z1G))) (iv x51) (iv x52) [(ZA b0 zJ zI), (ZF b1), (Zk (Zm.mk z23 z1T zS z1D z1j (Zl.mk zK zT)) z2p z1a), (ZA (ZE.mk (Z3.mk zM zW zV zN zP zQ zO) z1v z15) z12 zZ)]) := by
 unfold Z5L
 refine zf (Zhz ..) ?_
 refine ze ?_
 refine zi fun a1 ha1 => ?_
 refine zo (.cptr (Z8S a1)) ?_ (Eq.trans (by kernel_rfl) (xidx_of (o := ox50) (k := .i64) (n := 2) (e := Z1G) (cs := Z73) (fun _ => rfl) (fun _ => rfl) (by decide) ha1))
 refine zo (.p (.agg (Z8S a1))) ?_
 refine zz (.ptr 4 0) [(ZA b0 zJ zI), (ZF b1), (Zk (Zm.mk z23 z1T zS z1D z1j (Zl.mk zK zT)) z2p z1a), (ZA (ZE.mk (Z3.mk zM zW zV zN zP zQ zO) z1v z15) z12 zZ), (Z8M (Zv.mk 0 0))] ?_
 refine zt [(ZA b0 zJ zI), (ZF b1), (Zk (Zm.mk z23 z1T zS z1D z1j (Zl.mk zK zT)) z2p z1a), (ZA (ZE.mk (Z3.mk zM zW zV zN zP zQ zO) z1v z15) z12 zZ), (Z8M a1)] ?_
 refine ze ?_
 refine zo (.ptr 4 0) ?_
 refine zo (iv a1.group) ?_
 refine zo (.ptr 2 0) ?_
 refine zo (.ptr 2 2) ?_
 refine zo (iv zS) ?_
 refine zo (bv (decide (zS < a1.group))) ?_
 refine za ((decide (zS < a1.group))) ?_ ?_
 ·refine ze ?_
  refine zo (.ptr 4 1) ?_
  refine zo (iv a1.at_) ?_
  refine zi fun r2 hr2 => ?_
  obtain ⟨qr2, er2, exr2, rfl⟩ := ZX (26) (a1.at_) (z23) (z1T) (zS) (z1D) (z1j) (zK) (zT) z2p z1a z2y r2 hr2
  refine zc [2] (.p (.tup [])) [(ZA b0 zJ zI), (ZF b1), (Zk (Zm.mk z23 r2.1 zS z1D z1j (Zl.mk r2.2.1 r2.2.2)) z2p z1a), (ZA (ZE.mk (Z3.mk zM zW zV zN zP zQ zO) z1v z15) z12 zZ), (Z8M a1)] er2 ?_
  exact zk (Z8Z (x50) (x51) (x52) (b0) (b1) (z23) (r2.1) (zS) (z1D) (z1j) (r2.2.1) (r2.2.2) (zM) (zW) (zV) (zN) (zP) (zQ) (zO) (z1v) (z15) ox50 zJ zI z2p z1a z12 zZ z1A z1r z2y)
 ·exact zk (Z8Z (x50) (x51) (x52) (b0) (b1) (z23) (z1T) (zS) (z1D) (z1j) (zK) (zT) (zM) (zW) (zV) (zN) (zP) (zQ) (zO) (z1v) (z15) ox50 zJ zI z2p z1a z12 zZ z1A z1r z2y)
noncomputable def Z8m (zS : Int) (zM : Int) (zW : Int) (zV : Int) (zN : Int) (zP : Int) (zQ : List Z8) (zO : List Z3) (z15 : Bool) : Option (ZE × Zl) :=
 some ((ZE.mk (Z3.mk zM zW zV zN zP zQ zO) zS z15), (Zl.mk 0 0))
theorem Zc6 (b0 : ZE) (b1 : Zl) (z23 : List Int) (z1T : Int) (zS : Int) (z1D : Int) (z1j : List Zv) (zK : Int) (zT : Int) (zM : Int) (zW : Int) (zV : Int) (zN : Int) (zP : Int) (zQ : List Z8) (zO : List Z3) (z1v : Int) (z15 : Bool) (zJ : Own) (zI : Own) (z2p : Own) (z1a : Own) (z12 : Own) (zZ : Own) (z1A : okApp zJ = true) (z1r : okApp zI = true) (z2y : okApp z1a = true) : Sim (Z2t) (Z8m zS zM zW zV zN zP zQ zO z15) (Zey 0 (.ptr 0 0) (.ptr 1 0) (.ptr 2 0) (.ptr 3 0) [(ZA b0 zJ zI), (ZF b1), (Zk (Zm.mk z23 z1T zS z1D z1j (Zl.mk zK zT)) z2p z1a), (ZA (ZE.mk (Z3.mk zM zW zV zN zP zQ zO) z1v z15) z12 zZ)]) := by
 unfold Z8m
 refine zf (Zha ..) ?_
 refine ze ?_
 refine zo (.ptr 2 0) ?_
 refine zo (.ptr 2 2) ?_
 refine zo (iv zS) ?_
 refine zo (.ptr 3 7) ?_
 refine zt [(ZA b0 zJ zI), (ZF b1), (Zk (Zm.mk z23 z1T zS z1D z1j (Zl.mk zK zT)) z2p z1a), (ZA (ZE.mk (Z3.mk zM zW zV zN zP zQ zO) zS z15) z12 zZ)] ?_
 refine ze ?_
 refine zo (.p (.agg (Z1k (ZE.mk (Z3.mk zM zW zV zN zP zQ zO) zS z15) (shrO z12) (shrO zZ)))) ?_
 refine zo (.p (.agg (Z1N (Zl.mk 0 0)))) ?_
 refine zt [(ZA (ZE.mk (Z3.mk zM zW zV zN zP zQ zO) zS z15) (shrO z12) (shrO zZ)), (ZF b1), (Zk (Zm.mk z23 z1T zS z1D z1j (Zl.mk zK zT)) z2p z1a), (ZA (ZE.mk (Z3.mk zM zW zV zN zP zQ zO) zS z15) z12 zZ)] ?_
 refine zt [(ZA (ZE.mk (Z3.mk zM zW zV zN zP zQ zO) zS z15) (shrO z12) (shrO zZ)), (ZF (Zl.mk 0 0)), (Zk (Zm.mk z23 z1T zS z1D z1j (Zl.mk zK zT)) z2p z1a), (ZA (ZE.mk (Z3.mk zM zW zV zN zP zQ zO) zS z15) z12 zZ)] ?_
 exact zr ((.p (.tup [(.agg (Z1k (ZE.mk (Z3.mk zM zW zV zN zP zQ zO) zS z15) .sh .sh)), (.agg (Z1N (Zl.mk 0 0)))])), [(ZA (ZE.mk (Z3.mk zM zW zV zN zP zQ zO) zS z15) (shrO z12) (shrO zZ)), (ZF (Zl.mk 0 0)), (Zk (Zm.mk z23 z1T zS z1D z1j (Zl.mk zK zT)) z2p z1a), (ZA (ZE.mk (Z3.mk zM zW zV zN zP zQ zO) zS z15) z12 zZ)]) ⟨_, rfl⟩
noncomputable def Z5P (zS : Int) (zK : Int) (zT : Int) (zM : Int) (zW : Int) (zV : Int) (zN : Int) (zP : Int) (zQ : List Z8) (zO : List Z3) (z15 : Bool) : Option (ZE × Zl) :=
 if ((zK != 0)) = true then
 (some ((ZE.mk (Z3.mk 0 0 0 0 0 ([] : List Z8) ([] : List Z3)) 0 false), (Zl.mk zK zT)))
 else
 (Z8m zS zM zW zV zN zP zQ zO z15)
theorem Zcb (b0 : ZE) (b1 : Zl) (z23 : List Int) (z1T : Int) (zS : Int) (z1D : Int) (z1j : List Zv) (zK : Int) (zT : Int) (zM : Int) (zW : Int) (zV : Int) (zN : Int) (zP : Int) (zQ : List Z8) (zO : List Z3) (z1v : Int) (z15 : Bool) (zJ : Own) (zI : Own) (z2p : Own) (z1a : Own) (z12 : Own) (zZ : Own) (z1A : okApp zJ = true) (z1r : okApp zI = true) (z2y : okApp z1a = true) : Sim (Z2t) (Z5P zS zK zT zM zW zV zN zP zQ zO z15) (Zf0 0 (.ptr 0 0) (.ptr 1 0) (.ptr 2 0) (.ptr 3 0) [(ZA b0 zJ zI), (ZF b1), (Zk (Zm.mk z23 z1T zS z1D z1j (Zl.mk zK zT)) z2p z1a), (ZA (ZE.mk (Z3.mk zM zW zV zN zP zQ zO) z1v z15) z12 zZ)]) := by
 unfold Z5P
 refine zf (Zhc ..) ?_
 refine ze ?_
 refine zo (.ptr 2 0) ?_
 refine zo (.ptr 2 5) ?_
 refine zo (.ptr 2 5) ?_
 refine zo (iv zK) ?_
 refine zo (bv (zK != 0)) ?_
 refine za ((zK != 0)) ?_ ?_
 ·refine ze ?_
  refine zo (.p (.agg (Z1k (ZE.mk (Z3.mk 0 0 0 0 0 ([] : List Z8) ([] : List Z3)) 0 false) .nl .nl))) ?_
  refine zo (.ptr 2 0) ?_
  refine zo (.ptr 2 5) ?_
  refine zo (.p (.agg (Z1N (Zl.mk zK zT)))) ?_
  refine zt [(ZA (ZE.mk (Z3.mk 0 0 0 0 0 ([] : List Z8) ([] : List Z3)) 0 false) .nl .nl), (ZF b1), (Zk (Zm.mk z23 z1T zS z1D z1j (Zl.mk zK zT)) z2p z1a), (ZA (ZE.mk (Z3.mk zM zW zV zN zP zQ zO) z1v z15) z12 zZ)] ?_
  refine zt [(ZA (ZE.mk (Z3.mk 0 0 0 0 0 ([] : List Z8) ([] : List Z3)) 0 false) .nl .nl), (ZF (Zl.mk zK zT)), (Zk (Zm.mk z23 z1T zS z1D z1j (Zl.mk zK zT)) z2p z1a), (ZA (ZE.mk (Z3.mk zM zW zV zN zP zQ zO) z1v z15) z12 zZ)] ?_
  refine zg ?_
  exact zr ((.p (.tup [(.agg (Z1k (ZE.mk (Z3.mk 0 0 0 0 0 ([] : List Z8) ([] : List Z3)) 0 false) .sh .sh)), (.agg (Z1N (Zl.mk zK zT)))])), [(ZA (ZE.mk (Z3.mk 0 0 0 0 0 ([] : List Z8) ([] : List Z3)) 0 false) .nl .nl), (ZF (Zl.mk zK zT)), (Zk (Zm.mk z23 z1T zS z1D z1j (Zl.mk zK zT)) z2p z1a), (ZA (ZE.mk (Z3.mk zM zW zV zN zP zQ zO) z1v z15) z12 zZ)]) ⟨_, rfl⟩
 ·exact zk (Zc6 (b0) (b1) (z23) (z1T) (zS) (z1D) (z1j) (zK) (zT) (zM) (zW) (zV) (zN) (zP) (zQ) (zO) (z1v) (z15) zJ zI z2p z1a z12 zZ z1A z1r z2y)
noncomputable def Z4r (x50 : List Zv) (x51 : Int) (x52 : Int) (z23 : List Int) (zS : Int) (zK : Int) (zT : Int) (zM : Int) (zW : Int) (zV : Int) (zN : Int) (zP : Int) (zQ : List Z8) (zO : List Z3) (z15 : Bool) : Option (ZE × Zl) :=
 if ((decide (x52 < x51))) = true then
 (Z5L x50 x51 x52 z23 zS zK zT zM zW zV zN zP zQ zO z15)
 else
 (Z5P zS zK zT zM zW zV zN zP zQ zO z15)
theorem ZcI (x50 : List Zv) (x51 : Int) (x52 : Int) (b0 : ZE) (b1 : Zl) (z23 : List Int) (z1T : Int) (zS : Int) (z1D : Int) (z1j : List Zv) (zK : Int) (zT : Int) (zM : Int) (zW : Int) (zV : Int) (zN : Int) (zP : Int) (zQ : List Z8) (zO : List Z3) (z1v : Int) (z15 : Bool) (ox50 : Own) (zJ : Own) (zI : Own) (z2p : Own) (z1a : Own) (z12 : Own) (zZ : Own) (z1A : okApp zJ = true) (z1r : okApp zI = true) (z2y : okApp z1a = true) : Sim (Z2t) (Z4r x50 x51 x52 z23 zS zK zT zM zW zV zN zP zQ zO z15) (Zc8 0 (.ptr 0 0) (.ptr 1 0) (.ptr 2 0) (.ptr 3 0) (.p (.lst ox50 (x50.map Z1G))) (iv x51) (iv x52) [(ZA b0 zJ zI), (ZF b1), (Zk (Zm.mk z23 z1T zS z1D z1j (Zl.mk zK zT)) z2p z1a), (ZA (ZE.mk (Z3.mk zM zW zV zN zP zQ zO) z1v z15) z12 zZ)]) := by
 unfold Z4r
 refine zf (Zig ..) ?_
 refine ze ?_
 refine zo (bv (decide (x52 < x51))) ?_
 refine za ((decide (x52 < x51))) ?_ ?_
 ·exact zk (ZbS (x50) (x51) (x52) (b0) (b1) (z23) (z1T) (zS) (z1D) (z1j) (zK) (zT) (zM) (zW) (zV) (zN) (zP) (zQ) (zO) (z1v) (z15) ox50 zJ zI z2p z1a z12 zZ z1A z1r z2y)
 ·exact zk (Zcb (b0) (b1) (z23) (z1T) (zS) (z1D) (z1j) (zK) (zT) (zM) (zW) (zV) (zN) (zP) (zQ) (zO) (z1v) (z15) zJ zI z2p z1a z12 zZ z1A z1r z2y)
theorem Z6b (x50 : List Zv) (x51 : Int) (x52 : Int) (z23 : List Int) (zS : Int) (zK : Int) (zT : Int) (zM : Int) (zW : Int) (zV : Int) (zN : Int) (zP : Int) (zQ : List Z8) (zO : List Z3) (z15 : Bool) {r} (h : Z4r x50 x51 x52 z23 zS zK zT zM zW zV zN zP zQ zO z15 = some r) : Z5h x50 x51 x52 z23 zS zK zT zM zW zV zN zP zQ zO z15 = some r :=
 pick_of (fun _ _ ha hb => RRun.uniq (Zbq) (ha default default default default default default .ex .ex .ex .ex .ex .ex .ex rfl rfl rfl) (hb default default default default default default .ex .ex .ex .ex .ex .ex .ex rfl rfl rfl)) (fun b0 b1 z1T z1D z1j z1v ox50 zJ zI z2p z1a z12 zZ z1A z1r z2y => ZcI x50 x51 x52 b0 b1 z23 z1T zS z1D z1j zK zT zM zW zV zN zP zQ zO z1v z15 ox50 zJ zI z2p z1a z12 zZ z1A z1r z2y r h)
noncomputable def Z5m (zu : Int) : Option (Bool × Int) :=
 some (false, zu)
theorem Z7a (zn : List Int) (zu : Int) (z7 : Int) (zh : Int) (zj : List Zv) (z2 : Int) (z6 : Int) (zp : Own) (zd : Own) (zy : okApp zd = true) : Sim (Z3x zn z7 zh zj z2 z6 zp zd) (Z5m zu) (ZdX 1  [(Zk (Zm.mk zn zu z7 zh zj (Zl.mk z2 z6)) zp zd)]) := by
 unfold Z5m
 refine zf (Zi9 ..) ?_
 refine ze ?_
 exact zr ((bv false), [(Zk (Zm.mk zn zu z7 zh zj (Zl.mk z2 z6)) zp zd)]) ⟨_, rfl⟩
noncomputable def Z5r (x1 : ByteArray) (zu : Int) : Option (Bool × Int) :=
 some (true, (IntKind.i64.wrap (zu + (x1.size : Int))))
theorem Zad (x1 : ByteArray) (zn : List Int) (zu : Int) (z7 : Int) (zh : Int) (zj : List Zv) (z2 : Int) (z6 : Int) (zp : Own) (zd : Own) (zy : okApp zd = true) : Sim (Z3x zn z7 zh zj z2 z6 zp zd) (Z5r x1 zu) (Zgn 1 (.ptr 0 0) (.p (.v (.string x1))) [(Zk (Zm.mk zn zu z7 zh zj (Zl.mk z2 z6)) zp zd)]) := by
 unfold Z5r
 refine zf (Zic ..) ?_
 refine ze ?_
 refine zo (.ptr 0 0) ?_
 refine zo (.ptr 0 1) ?_
 refine zo (iv zu) ?_
 refine zo (iv (x1.size : Int)) ?_
 refine zo (iv (IntKind.i64.wrap (zu + (x1.size : Int)))) ?_
 refine zo (.ptr 0 0) ?_
 refine zo (.ptr 0 1) ?_
 refine zt [(Zk (Zm.mk zn (IntKind.i64.wrap (zu + (x1.size : Int))) z7 zh zj (Zl.mk z2 z6)) zp zd)] ?_
 refine ze ?_
 exact zr ((bv true), [(Zk (Zm.mk zn (IntKind.i64.wrap (zu + (x1.size : Int))) z7 zh zj (Zl.mk z2 z6)) zp zd)]) ⟨_, rfl⟩
noncomputable def Z6a (x1 : ByteArray) (zn : List Int) (zu : Int) : Option (Bool × Int) :=
 if ((decide ((IntKind.i64.wrap ((zn.length : Int) - zu)) < (x1.size : Int)))) = true then
 (Z5m zu)
 else
 ((lsl zn zu (IntKind.i64.wrap (zu + (x1.size : Int)))).bind fun a1 =>
 if ((!(seq (strI a1) x1))) = true then
 (Z5m zu)
 else
 (Z5r x1 zu))
theorem Zb7 (x1 : ByteArray) (zn : List Int) (zu : Int) (z7 : Int) (zh : Int) (zj : List Zv) (z2 : Int) (z6 : Int) (zp : Own) (zd : Own) (zy : okApp zd = true) : Sim (Z3x zn z7 zh zj z2 z6 zp zd) (Z6a x1 zn zu) (EE 27 [(.ptr 0 0), (.p (.v (.string x1)))] [(Zk (Zm.mk zn zu z7 zh zj (Zl.mk z2 z6)) zp zd)]) := by
 unfold Z6a
 refine zf (ZkE ..) ?_
 refine ze ?_
 refine ze ?_
 refine zo (.ptr 0 0) ?_
 refine zo (.ptr 0 0) ?_
 refine zo (.p (.lst (shrO zp) (zn.map (eI .u8)))) ?_
 refine zo (iv (zn.length : Int)) ?_ (Eq.trans (by kernel_rfl) (xlen_of (P := PP) (t := 40) (d := 5) (by kernel_rfl) (eI .u8) (shrO zp) zn))
 refine zo (.ptr 0 0) ?_
 refine zo (.ptr 0 1) ?_
 refine zo (iv zu) ?_
 refine zo (iv (IntKind.i64.wrap ((zn.length : Int) - zu))) ?_
 refine zo (iv (x1.size : Int)) ?_
 refine zo (bv (decide ((IntKind.i64.wrap ((zn.length : Int) - zu)) < (x1.size : Int)))) ?_
 refine za ((decide ((IntKind.i64.wrap ((zn.length : Int) - zu)) < (x1.size : Int)))) ?_ ?_
 ·exact zk (Z7a (zn) (zu) (z7) (zh) (zj) (z2) (z6) zp zd zy)
 ·refine zo (.ptr 0 0) ?_
  refine zo (.ptr 0 0) ?_
  refine zo (.p (.lst (shrO zp) (zn.map (eI .u8)))) ?_
  refine zo (.ptr 0 0) ?_
  refine zo (.ptr 0 1) ?_
  refine zo (iv zu) ?_
  refine zo (.ptr 0 0) ?_
  refine zo (.ptr 0 1) ?_
  refine zo (iv zu) ?_
  refine zo (iv (x1.size : Int)) ?_
  refine zo (iv (IntKind.i64.wrap (zu + (x1.size : Int)))) ?_
  refine zi fun a1 ha1 => ?_
  refine zo (.p (.lst (slO (shrO zp)) (a1.map (eI .u8)))) ?_ (Eq.trans (by kernel_rfl) <| xsl_of (n := 1) (o := (shrO zp)) (lo := (some (iv zu))) (hi := (some (iv (IntKind.i64.wrap (zu + (x1.size : Int)))))) (e := (eI .u8)) (fun _ => rfl) (by decide) (by kernel_rfl) (by kernel_rfl) ha1)
  refine zo (.p (.v (.string (strI a1)))) ?_ (Eq.trans (by kernel_rfl) (xcnv_str (P := PP) (s := 40) (d := 9) (by kernel_rfl) (slO (shrO zp)) a1))
  refine zo (bv (!(seq (strI a1) x1))) ?_
  refine za ((!(seq (strI a1) x1))) ?_ ?_
  ·exact zk (Z7a (zn) (zu) (z7) (zh) (zj) (z2) (z6) zp zd zy)
  ·exact zk (Zad (x1) (zn) (zu) (z7) (zh) (zj) (z2) (z6) zp zd zy)
theorem ZbH (x1 : ByteArray) (zn : List Int) (zu : Int) {r} (h : Z6a x1 zn zu = some r) : Z18 x1 zn zu = some r :=
 pick_of (fun _ _ ha hb => RRun.uniq (Zci _ _ _ _ _ _ _ _) (ha default default default default default .ex .ex rfl) (hb default default default default default .ex .ex rfl)) (fun z7 zh zj z2 z6 zp zd zy => Zb7 x1 zn zu z7 zh zj z2 z6 zp zd zy r h)
noncomputable def Z4v (zn : List Int) (zu : Int) (z7 : Int) (zh : Int) (zj : List Zv) (z2 : Int) (z6 : Int) : Option (Z3 × Int × Int × Int × (List Zv) × Int × Int) :=
 (Z4A zn zu z7 zh zj z2 z6).bind fun r1 =>
 Z3G (([r1.1] : List Z3)) zn r1.2.1 r1.2.2.1 r1.2.2.2.1 r1.2.2.2.2.1 r1.2.2.2.2.2.1 r1.2.2.2.2.2.2
theorem Zby (zn : List Int) (zu : Int) (z7 : Int) (zh : Int) (zj : List Zv) (z2 : Int) (z6 : Int) (zp : Own) (zd : Own) (zy : okApp zd = true) : Sim (Z2B zn zp) (Z4v zn zu z7 zh zj z2 z6) (EE 28 [(.ptr 0 0)] [(Zk (Zm.mk zn zu z7 zh zj (Zl.mk z2 z6)) zp zd)]) := by
 unfold Z4v
 refine zf (ZkC ..) ?_
 refine ze ?_
 refine zz (.ptr 1 0) [(Zk (Zm.mk zn zu z7 zh zj (Zl.mk z2 z6)) zp zd), (Zq (Z3.mk 0 0 0 0 0 ([] : List Z8) ([] : List Z3)) .nl .nl)] ?_
 refine ze ?_
 refine zi fun r1 hr1 => ?_
 obtain ⟨qr1, er1, or1_0_4, exr1, hor1_0_4, rfl⟩ := Z90 (zn) (zu) (z7) (zh) (zj) (z2) (z6) zp zd zy r1 hr1
 refine zc [0] (.p (.agg (ZC r1.1 .sh .sh))) [(Zk (Zm.mk zn r1.2.1 r1.2.2.1 r1.2.2.2.1 r1.2.2.2.2.1 (Zl.mk r1.2.2.2.2.2.1 r1.2.2.2.2.2.2)) zp or1_0_4), (Zq (Z3.mk 0 0 0 0 0 ([] : List Z8) ([] : List Z3)) .nl .nl)] er1 ?_
 refine zo (.p (.lst .ex (([r1.1] : List Z3).map ZG))) ?_ (Eq.trans (b := some (.p (.lst .ex [.agg (Z24 r1.1)]))) (by kernel_rfl) (by simp only [List.map_cons, List.map_nil, Z3j]))
 exact zk (Z7G (([r1.1] : List Z3)) (zn) (r1.2.1) (r1.2.2.1) (r1.2.2.2.1) (r1.2.2.2.2.1) (r1.2.2.2.2.2.1) (r1.2.2.2.2.2.2) ((Z3.mk 0 0 0 0 0 ([] : List Z8) ([] : List Z3))) .ex zp or1_0_4 .nl .nl rfl hor1_0_4 rfl rfl)
theorem Z8X (zn : List Int) (zu : Int) (z7 : Int) (zh : Int) (zj : List Zv) (z2 : Int) (z6 : Int) {r} (h : Z4v zn zu z7 zh zj z2 z6 = some r) : Z32 zn zu z7 zh zj z2 z6 = some r :=
 pick_of (fun _ _ ha hb => RRun.uniq (Z9j _ _) (ha .ex .ex rfl) (hb .ex .ex rfl)) (fun zp zd zy => Zby zn zu z7 zh zj z2 z6 zp zd zy r h)
noncomputable def Z5C (x3 : List Z3) (zn : List Int) (zu : Int) (z7 : Int) (zh : Int) (zj : List Zv) (z2 : Int) (z6 : Int) : Option (Z3 × Int × Int × Int × (List Zv) × Int × Int) :=
 (Z4A zn zu z7 zh zj z2 z6).bind fun r1 =>
 (lapp x3 ([r1.1] : List Z3)).bind fun a2 =>
 Z3G a2 zn r1.2.1 r1.2.2.1 r1.2.2.2.1 r1.2.2.2.2.1 r1.2.2.2.2.2.1 r1.2.2.2.2.2.2
theorem Zay (x3 : List Z3) (zn : List Int) (zu : Int) (z7 : Int) (zh : Int) (zj : List Zv) (z2 : Int) (z6 : Int) (b1 : Z3) (ox3 : Own) (zp : Own) (zd : Own) (zD : Own) (zB : Own) (hox3 : okApp ox3 = true) (zy : okApp zd = true) (zR : okApp zD = true) (zL : okApp zB = true) : Sim (Z2B zn zp) (Z5C x3 zn zu z7 zh zj z2 z6) (Zgh 1 (.ptr 0 0) (.ptr 1 0) (.p (.lst ox3 (x3.map ZG))) [(Zk (Zm.mk zn zu z7 zh zj (Zl.mk z2 z6)) zp zd), (Zq b1 zD zB)]) := by
 unfold Z5C
 refine zf (ZiM ..) ?_
 refine ze ?_
 refine zi fun r1 hr1 => ?_
 obtain ⟨qr1, er1, or1_0_4, exr1, hor1_0_4, rfl⟩ := Z90 (zn) (zu) (z7) (zh) (zj) (z2) (z6) zp zd zy r1 hr1
 refine zc [0] (.p (.agg (ZC r1.1 .sh .sh))) [(Zk (Zm.mk zn r1.2.1 r1.2.2.1 r1.2.2.2.1 r1.2.2.2.2.1 (Zl.mk r1.2.2.2.2.2.1 r1.2.2.2.2.2.2)) zp or1_0_4), (Zq b1 zD zB)] er1 ?_
 refine zo (.p (.lst .ex (([r1.1] : List Z3).map ZG))) ?_ (Eq.trans (b := some (.p (.lst .ex [.agg (Z24 r1.1)]))) (by kernel_rfl) (by simp only [List.map_cons, List.map_nil, Z3j]))
 refine zi fun a2 ha2 => ?_
 refine zo (.p (.lst .un (a2.map ZG))) ?_ (Eq.trans (by kernel_rfl) <| xapp_of (n := 7) (o := ox3) (o' := .ex) (e := ZG) (ys := ([r1.1] : List Z3)) ZbQ (by decide) hox3 ha2)
 exact zk (Z7G (a2) (zn) (r1.2.1) (r1.2.2.1) (r1.2.2.2.1) (r1.2.2.2.2.1) (r1.2.2.2.2.2.1) (r1.2.2.2.2.2.2) (b1) .un zp or1_0_4 zD zB rfl hor1_0_4 zR zL)
noncomputable def Z4y (x3 : List Z3) (zu : Int) (z7 : Int) (zh : Int) (zj : List Zv) (z2 : Int) (z6 : Int) : Option (Z3 × Int × Int × Int × (List Zv) × Int × Int) :=
 (Z6S 3 x3).bind fun r1 =>
 some (r1, zu, z7, zh, zj, z2, z6)
theorem ZaE (x3 : List Z3) (zn : List Int) (zu : Int) (z7 : Int) (zh : Int) (zj : List Zv) (z2 : Int) (z6 : Int) (b1 : Z3) (ox3 : Own) (zp : Own) (zd : Own) (zD : Own) (zB : Own) (hox3 : okApp ox3 = true) (zy : okApp zd = true) (zR : okApp zD = true) (zL : okApp zB = true) : Sim (Z2B zn zp) (Z4y x3 zu z7 zh zj z2 z6) (Zgz 1 (.ptr 1 0) (.p (.lst ox3 (x3.map ZG))) [(Zk (Zm.mk zn zu z7 zh zj (Zl.mk z2 z6)) zp zd), (Zq b1 zD zB)]) := by
 unfold Z4y
 refine zf (Zjc ..) ?_
 refine ze ?_
 refine zi fun r1 hr1 => ?_
 obtain ⟨qr1, er1, exr1, rfl⟩ := Zal (3) (x3) .sh r1 hr1
 refine zc [] (.p (.agg (ZC r1 .sh .sh))) [(Zk (Zm.mk zn zu z7 zh zj (Zl.mk z2 z6)) zp zd), (Zq b1 zD zB)] er1 ?_
 refine zt [(Zk (Zm.mk zn zu z7 zh zj (Zl.mk z2 z6)) zp zd), (Zq r1 .sh .sh)] ?_
 exact zr ((.p (.agg (ZC r1 .sh .sh))), [(Zk (Zm.mk zn zu z7 zh zj (Zl.mk z2 z6)) zp zd), (Zq r1 .sh .sh)]) ⟨zd, _, zy, rfl⟩
noncomputable def Z3J (x3 : List Z3) (zn : List Int) (zu : Int) (z7 : Int) (zh : Int) (zj : List Zv) (z2 : Int) (z6 : Int) : Option (Z3 × Int × Int × Int × (List Zv) × Int × Int) :=
 (Z18 ((ByteArray.mk #[124])) zn zu).bind fun r1 =>
 if (r1.1) = true then
 (Z5C x3 zn r1.2 z7 zh zj z2 z6)
 else
 (Z4y x3 r1.2 z7 zh zj z2 z6)
theorem Zas (x3 : List Z3) (zn : List Int) (zu : Int) (z7 : Int) (zh : Int) (zj : List Zv) (z2 : Int) (z6 : Int) (b1 : Z3) (ox3 : Own) (zp : Own) (zd : Own) (zD : Own) (zB : Own) (hox3 : okApp ox3 = true) (zy : okApp zd = true) (zR : okApp zD = true) (zL : okApp zB = true) : Sim (Z2B zn zp) (Z3J x3 zn zu z7 zh zj z2 z6) (Zc5 1 (.ptr 0 0) (.ptr 1 0) (.p (.lst ox3 (x3.map ZG))) [(Zk (Zm.mk zn zu z7 zh zj (Zl.mk z2 z6)) zp zd), (Zq b1 zD zB)]) := by
 unfold Z3J
 refine zf (Zii ..) ?_
 refine ze ?_
 refine zi fun r1 hr1 => ?_
 obtain ⟨qr1, er1, exr1, rfl⟩ := Z1d ((ByteArray.mk #[124])) (zn) (zu) (z7) (zh) (zj) (z2) (z6) zp zd zy r1 hr1
 refine zc [0] (bv r1.1) [(Zk (Zm.mk zn r1.2 z7 zh zj (Zl.mk z2 z6)) zp zd), (Zq b1 zD zB)] er1 ?_
 refine za (r1.1) ?_ ?_
 ·exact zk (Zay (x3) (zn) (r1.2) (z7) (zh) (zj) (z2) (z6) (b1) ox3 zp zd zD zB hox3 zy zR zL)
 ·exact zk (ZaE (x3) (zn) (r1.2) (z7) (zh) (zj) (z2) (z6) (b1) ox3 zp zd zD zB hox3 zy zR zL)
theorem Z7F (x3 : List Z3) (zn : List Int) (zu : Int) (z7 : Int) (zh : Int) (zj : List Zv) (z2 : Int) (z6 : Int) {r} (h : Z3J x3 zn zu z7 zh zj z2 z6 = some r) : Z3G x3 zn zu z7 zh zj z2 z6 = some r :=
 pick_of (fun _ _ ha hb => RRun.uniq (Z9j _ _) (ha default .ex .ex .ex .ex .ex rfl rfl rfl rfl) (hb default .ex .ex .ex .ex .ex rfl rfl rfl rfl)) (fun b1 ox3 zp zd zD zB hox3 zy zR zL => Zas x3 zn zu z7 zh zj z2 z6 b1 ox3 zp zd zD zB hox3 zy zR zL r h)
noncomputable def Z5s (zn : List Int) (zu : Int) (z7 : Int) (zh : Int) (zj : List Zv) (z2 : Int) (z6 : Int) : Option (Z3 × Int × Int × Int × (List Zv) × Int × Int) :=
 Z3E (([] : List Z3)) zn zu z7 zh zj z2 z6
theorem Zbx (zn : List Int) (zu : Int) (z7 : Int) (zh : Int) (zj : List Zv) (z2 : Int) (z6 : Int) (zp : Own) (zd : Own) (zy : okApp zd = true) : Sim (Z2n zn zp) (Z5s zn zu z7 zh zj z2 z6) (EE 35 [(.ptr 0 0)] [(Zk (Zm.mk zn zu z7 zh zj (Zl.mk z2 z6)) zp zd)]) := by
 unfold Z5s
 refine zf (ZkT ..) ?_
 refine ze ?_
 refine zz (.ptr 1 0) [(Zk (Zm.mk zn zu z7 zh zj (Zl.mk z2 z6)) zp zd), (Zq (Z3.mk 0 0 0 0 0 ([] : List Z8) ([] : List Z3)) .nl .nl)] ?_
 refine ze ?_
 exact zk (Z7s (([] : List Z3)) (zn) (zu) (z7) (zh) (zj) (z2) (z6) ((Z3.mk 0 0 0 0 0 ([] : List Z8) ([] : List Z3))) .nl zp zd .nl .nl rfl zy rfl rfl)
theorem Z91 (zn : List Int) (zu : Int) (z7 : Int) (zh : Int) (zj : List Zv) (z2 : Int) (z6 : Int) {r} (h : Z5s zn zu z7 zh zj z2 z6 = some r) : Z4A zn zu z7 zh zj z2 z6 = some r :=
 pick_of (fun _ _ ha hb => RRun.uniq (Z9g _ _) (ha .ex .ex rfl) (hb .ex .ex rfl)) (fun zp zd zy => Zbx zn zu z7 zh zj z2 z6 zp zd zy r h)
noncomputable def Z2o (x3 : List Z3) (zu : Int) (z7 : Int) (zh : Int) (zj : List Zv) (z2 : Int) (z6 : Int) : Option (Z3 × Int × Int × Int × (List Zv) × Int × Int) :=
 (Z6S 2 x3).bind fun r1 =>
 some (r1, zu, z7, zh, zj, z2, z6)
theorem Z4H (x3 : List Z3) (zn : List Int) (zu : Int) (z7 : Int) (zh : Int) (zj : List Zv) (z2 : Int) (z6 : Int) (b1 : Z3) (ox3 : Own) (zp : Own) (zd : Own) (zD : Own) (zB : Own) (hox3 : okApp ox3 = true) (zy : okApp zd = true) (zR : okApp zD = true) (zL : okApp zB = true) : Sim (Z2n zn zp) (Z2o x3 zu z7 zh zj z2 z6) (Zce 1 (.ptr 1 0) (.p (.lst ox3 (x3.map ZG))) [(Zk (Zm.mk zn zu z7 zh zj (Zl.mk z2 z6)) zp zd), (Zq b1 zD zB)]) := by
 unfold Z2o
 refine zf (Zib ..) ?_
 refine ze ?_
 refine zi fun r1 hr1 => ?_
 obtain ⟨qr1, er1, exr1, rfl⟩ := Zal (2) (x3) .sh r1 hr1
 refine zc [] (.p (.agg (ZC r1 .sh .sh))) [(Zk (Zm.mk zn zu z7 zh zj (Zl.mk z2 z6)) zp zd), (Zq b1 zD zB)] er1 ?_
 refine zt [(Zk (Zm.mk zn zu z7 zh zj (Zl.mk z2 z6)) zp zd), (Zq r1 .sh .sh)] ?_
 exact zr ((.p (.agg (ZC r1 .sh .sh))), [(Zk (Zm.mk zn zu z7 zh zj (Zl.mk z2 z6)) zp zd), (Zq r1 .sh .sh)]) ⟨zd, _, zy, rfl⟩
noncomputable def Z39 (x3 : List Z3) (zn : List Int) (zu : Int) (z7 : Int) (zh : Int) (zj : List Zv) (z2 : Int) (z6 : Int) : Option (Z3 × Int × Int × Int × (List Zv) × Int × Int) :=
 (Z6d zn zu z7 zh zj z2 z6).bind fun r1 =>
 (Z4w r1.1 r1.2.1 zn r1.2.2.1 r1.2.2.2.1 r1.2.2.2.2.1 r1.2.2.2.2.2.1 r1.2.2.2.2.2.2.1 r1.2.2.2.2.2.2.2).bind fun r2 =>
 (lapp x3 ([r2.1] : List Z3)).bind fun a3 =>
 Z3E a3 zn r2.2.1 r1.2.2.2.1 r1.2.2.2.2.1 r1.2.2.2.2.2.1 r2.2.2.1 r2.2.2.2
theorem Z5W (x3 : List Z3) (zn : List Int) (zu : Int) (z7 : Int) (zh : Int) (zj : List Zv) (z2 : Int) (z6 : Int) (b1 : Z3) (ox3 : Own) (zp : Own) (zd : Own) (zD : Own) (zB : Own) (hox3 : okApp ox3 = true) (zy : okApp zd = true) (zR : okApp zD = true) (zL : okApp zB = true) : Sim (Z2n zn zp) (Z39 x3 zn zu z7 zh zj z2 z6) (Zd2 1 (.ptr 0 0) (.ptr 1 0) (.p (.lst ox3 (x3.map ZG))) [(Zk (Zm.mk zn zu z7 zh zj (Zl.mk z2 z6)) zp zd), (Zq b1 zD zB)]) := by
 unfold Z39
 refine zf (Zi0 ..) ?_
 refine ze ?_
 refine zi fun r1 hr1 => ?_
 obtain ⟨qr1, er1, or1_0_4, exr1, hor1_0_4, rfl⟩ := ZbA (zn) (zu) (z7) (zh) (zj) (z2) (z6) zp zd zy r1 hr1
 refine zc [0] (.p (.tup [(.agg (ZC r1.1 .sh .sh)), (.v (.bool r1.2.1))])) [(Zk (Zm.mk zn r1.2.2.1 r1.2.2.2.1 r1.2.2.2.2.1 r1.2.2.2.2.2.1 (Zl.mk r1.2.2.2.2.2.2.1 r1.2.2.2.2.2.2.2)) zp or1_0_4), (Zq b1 zD zB)] er1 ?_
 refine zo (.p (.agg (ZC r1.1 .sh .sh))) ?_
 refine zo (bv r1.2.1) ?_
 refine zz (.ptr 2 0) [(Zk (Zm.mk zn r1.2.2.1 r1.2.2.2.1 r1.2.2.2.2.1 r1.2.2.2.2.2.1 (Zl.mk r1.2.2.2.2.2.2.1 r1.2.2.2.2.2.2.2)) zp or1_0_4), (Zq b1 zD zB), (Zq (Z3.mk 0 0 0 0 0 ([] : List Z8) ([] : List Z3)) .nl .nl)] ?_
 refine zt [(Zk (Zm.mk zn r1.2.2.1 r1.2.2.2.1 r1.2.2.2.2.1 r1.2.2.2.2.2.1 (Zl.mk r1.2.2.2.2.2.2.1 r1.2.2.2.2.2.2.2)) zp or1_0_4), (Zq b1 zD zB), (Zq r1.1 .sh .sh)] ?_
 refine ze ?_
 refine zo (.p (.agg (ZC r1.1 .sh .sh))) ?_
 refine zi fun r2 hr2 => ?_
 obtain ⟨qr2, er2, exr2, rfl⟩ := ZaW (r1.1) (r1.2.1) (zn) (r1.2.2.1) (r1.2.2.2.1) (r1.2.2.2.2.1) (r1.2.2.2.2.2.1) (r1.2.2.2.2.2.2.1) (r1.2.2.2.2.2.2.2) .sh .sh zp or1_0_4 hor1_0_4 r2 hr2
 refine zc [0] (.p (.agg (ZC r2.1 .sh .sh))) [(Zk (Zm.mk zn r2.2.1 r1.2.2.2.1 r1.2.2.2.2.1 r1.2.2.2.2.2.1 (Zl.mk r2.2.2.1 r2.2.2.2)) zp or1_0_4), (Zq b1 zD zB), (Zq r1.1 .sh .sh)] er2 ?_
 refine zo (.p (.lst .ex (([r2.1] : List Z3).map ZG))) ?_ (Eq.trans (b := some (.p (.lst .ex [.agg (Z24 r2.1)]))) (by kernel_rfl) (by simp only [List.map_cons, List.map_nil, Z3j]))
 refine zi fun a3 ha3 => ?_
 refine zo (.p (.lst .un (a3.map ZG))) ?_ (Eq.trans (by kernel_rfl) <| xapp_of (n := 7) (o := ox3) (o' := .ex) (e := ZG) (ys := ([r2.1] : List Z3)) ZbQ (by decide) hox3 ha3)
 exact zk (Z7s (a3) (zn) (r2.2.1) (r1.2.2.2.1) (r1.2.2.2.2.1) (r1.2.2.2.2.2.1) (r2.2.2.1) (r2.2.2.2) (b1) .un zp or1_0_4 zD zB rfl hor1_0_4 zR zL)
noncomputable def Z4C (x3 : List Z3) (zn : List Int) (zu : Int) (z7 : Int) (zh : Int) (zj : List Zv) (z2 : Int) (z6 : Int) : Option (Z3 × Int × Int × Int × (List Zv) × Int × Int) :=
 (Z1K ((Zm.mk zn zu z7 zh zj (Zl.mk z2 z6)))).bind fun r1 =>
 if ((r1 == (-1))) = true then
 (if ((r1 == (-1))) = true then
 (Z2o x3 zu z7 zh zj z2 z6)
 else
 (Z39 x3 zn zu z7 zh zj z2 z6))
 else
 (if ((r1 == 124)) = true then
 (if ((r1 == 124)) = true then
 (Z2o x3 zu z7 zh zj z2 z6)
 else
 (Z39 x3 zn zu z7 zh zj z2 z6))
 else
 (if ((r1 == 41)) = true then
 (Z2o x3 zu z7 zh zj z2 z6)
 else
 (Z39 x3 zn zu z7 zh zj z2 z6)))
theorem ZaB (x3 : List Z3) (zn : List Int) (zu : Int) (z7 : Int) (zh : Int) (zj : List Zv) (z2 : Int) (z6 : Int) (b1 : Z3) (ox3 : Own) (zp : Own) (zd : Own) (zD : Own) (zB : Own) (hox3 : okApp ox3 = true) (zy : okApp zd = true) (zR : okApp zD = true) (zL : okApp zB = true) : Sim (Z2n zn zp) (Z4C x3 zn zu z7 zh zj z2 z6) (ZfT 1 (.ptr 0 0) (.ptr 1 0) (.p (.lst ox3 (x3.map ZG))) [(Zk (Zm.mk zn zu z7 zh zj (Zl.mk z2 z6)) zp zd), (Zq b1 zD zB)]) := by
 unfold Z4C
 refine zf (ZhX ..) ?_
 refine ze ?_
 refine zi fun r1 hr1 => ?_
 obtain ⟨qr1, er1, exr1, rfl⟩ := Z1Q ((Zm.mk zn zu z7 zh zj (Zl.mk z2 z6))) zp zd zy r1 hr1
 refine zc [0] (iv r1) [(Zk (Zm.mk zn zu z7 zh zj (Zl.mk z2 z6)) zp zd), (Zq b1 zD zB)] er1 ?_
 refine ze ?_
 refine zo (bv (r1 == (-1))) ?_
 refine za ((r1 == (-1))) ?_ ?_
 ·refine za ((r1 == (-1))) ?_ ?_
  ·exact zk (Z4H (x3) (zn) (zu) (z7) (zh) (zj) (z2) (z6) (b1) ox3 zp zd zD zB hox3 zy zR zL)
  ·exact zk (Z5W (x3) (zn) (zu) (z7) (zh) (zj) (z2) (z6) (b1) ox3 zp zd zD zB hox3 zy zR zL)
 ·refine ze ?_
  refine zo (bv (r1 == 124)) ?_
  refine za ((r1 == 124)) ?_ ?_
  ·refine za ((r1 == 124)) ?_ ?_
   ·exact zk (Z4H (x3) (zn) (zu) (z7) (zh) (zj) (z2) (z6) (b1) ox3 zp zd zD zB hox3 zy zR zL)
   ·exact zk (Z5W (x3) (zn) (zu) (z7) (zh) (zj) (z2) (z6) (b1) ox3 zp zd zD zB hox3 zy zR zL)
  ·refine ze ?_
   refine zo (bv (r1 == 41)) ?_
   refine za ((r1 == 41)) ?_ ?_
   ·exact zk (Z4H (x3) (zn) (zu) (z7) (zh) (zj) (z2) (z6) (b1) ox3 zp zd zD zB hox3 zy zR zL)
   ·exact zk (Z5W (x3) (zn) (zu) (z7) (zh) (zj) (z2) (z6) (b1) ox3 zp zd zD zB hox3 zy zR zL)
noncomputable def Z4B (x3 : List Z3) (zn : List Int) (zu : Int) (z7 : Int) (zh : Int) (zj : List Zv) (z2 : Int) (z6 : Int) : Option (Z3 × Int × Int × Int × (List Zv) × Int × Int) :=
 if ((z2 == 0)) = true then
 (Z4C x3 zn zu z7 zh zj z2 z6)
 else
 (Z2o x3 zu z7 zh zj z2 z6)
theorem ZaA (x3 : List Z3) (zn : List Int) (zu : Int) (z7 : Int) (zh : Int) (zj : List Zv) (z2 : Int) (z6 : Int) (b1 : Z3) (ox3 : Own) (zp : Own) (zd : Own) (zD : Own) (zB : Own) (hox3 : okApp ox3 = true) (zy : okApp zd = true) (zR : okApp zD = true) (zL : okApp zB = true) : Sim (Z2n zn zp) (Z4B x3 zn zu z7 zh zj z2 z6) (Zcs 1 (.ptr 0 0) (.ptr 1 0) (.p (.lst ox3 (x3.map ZG))) [(Zk (Zm.mk zn zu z7 zh zj (Zl.mk z2 z6)) zp zd), (Zq b1 zD zB)]) := by
 unfold Z4B
 refine zf (ZiV ..) ?_
 refine ze ?_
 refine zo (.ptr 0 0) ?_
 refine zo (.ptr 0 5) ?_
 refine zo (.ptr 0 5) ?_
 refine zo (iv z2) ?_
 refine zo (bv (z2 == 0)) ?_
 refine za ((z2 == 0)) ?_ ?_
 ·exact zk (ZaB (x3) (zn) (zu) (z7) (zh) (zj) (z2) (z6) (b1) ox3 zp zd zD zB hox3 zy zR zL)
 ·exact zk (Z4H (x3) (zn) (zu) (z7) (zh) (zj) (z2) (z6) (b1) ox3 zp zd zD zB hox3 zy zR zL)
theorem Z7J (x3 : List Z3) (zn : List Int) (zu : Int) (z7 : Int) (zh : Int) (zj : List Zv) (z2 : Int) (z6 : Int) {r} (h : Z4B x3 zn zu z7 zh zj z2 z6 = some r) : Z3E x3 zn zu z7 zh zj z2 z6 = some r :=
 pick_of (fun _ _ ha hb => RRun.uniq (Z9g _ _) (ha default .ex .ex .ex .ex .ex rfl rfl rfl rfl) (hb default .ex .ex .ex .ex .ex rfl rfl rfl rfl)) (fun b1 ox3 zp zd zD zB hox3 zy zR zL => ZaA x3 zn zu z7 zh zj z2 z6 b1 ox3 zp zd zD zB hox3 zy zR zL r h)
end Go.Proofs.YtadodmjdkphddaaDoor.N2
end
section
set_option linter.unusedSimpArgs false
set_option linter.unusedVariables false
namespace Go.Proofs.YtadodmjdkphddaaDoor.N2
open Go Go.Abs
set_option linter.unusedVariables false
set_option maxRecDepth 100000
noncomputable def Z5p (b0 : Zm) : Option (Int) :=
 (Z8r b0.b b0.at_).bind fun r1 =>
 some (r1.1)
theorem Zae (b0 : Zm) (zp : Own) (zd : Own) (zy : okApp zd = true) : Sim (Z4j b0 zp zd) (Z5p b0) (Zft 1 (.ptr 0 0) [(Zk b0 zp zd)]) := by
 unfold Z5p
 refine zf (ZhY ..) ?_
 refine ze ?_
 refine zo (.ptr 0 0) ?_
 refine zo (.ptr 0 0) ?_
 refine zo (.p (.lst (shrO zp) (b0.b.map (eI .u8)))) ?_
 refine zo (.ptr 0 0) ?_
 refine zo (.ptr 0 1) ?_
 refine zo (iv b0.at_) ?_
 refine zi fun r1 hr1 => ?_
 obtain ⟨qr1, er1, exr1, rfl⟩ := ZbP (b0.b) (b0.at_) .sh r1 hr1
 refine zc [] (.p (.tup [(.v (.int .i64 r1.1)), (.v (.int .i64 r1.2))])) [(Zk b0 zp zd)] er1 ?_
 refine zo (iv r1.1) ?_
 refine zo (iv r1.2) ?_
 refine ze ?_
 exact zr ((iv r1.1), [(Zk b0 zp zd)]) ⟨_, rfl⟩
noncomputable def Z6c (b0 : Zm) : Option (Int) :=
 if ((decide ((b0.b.length : Int) ≤ b0.at_))) = true then
 (some ((-1)))
 else
 (Z5p b0)
theorem Zbb (b0 : Zm) (zp : Own) (zd : Own) (zy : okApp zd = true) : Sim (Z4j b0 zp zd) (Z6c b0) (EE 41 [(.ptr 0 0)] [(Zk b0 zp zd)]) := by
 unfold Z6c
 refine zf (Zkf ..) ?_
 refine ze ?_
 refine ze ?_
 refine zo (.ptr 0 0) ?_
 refine zo (.ptr 0 1) ?_
 refine zo (iv b0.at_) ?_
 refine zo (.ptr 0 0) ?_
 refine zo (.ptr 0 0) ?_
 refine zo (.p (.lst (shrO zp) (b0.b.map (eI .u8)))) ?_
 refine zo (iv (b0.b.length : Int)) ?_ (Eq.trans (by kernel_rfl) (xlen_of (P := PP) (t := 40) (d := 5) (by kernel_rfl) (eI .u8) (shrO zp) b0.b))
 refine zo (bv (decide ((b0.b.length : Int) ≤ b0.at_))) ?_
 refine za ((decide ((b0.b.length : Int) ≤ b0.at_))) ?_ ?_
 ·refine ze ?_
  exact zr ((iv (-1)), [(Zk b0 zp zd)]) ⟨_, rfl⟩
 ·exact zk (Zae (b0) zp zd zy)
theorem ZbD (b0 : Zm) {r} (h : Z6c b0 = some r) : Z1K b0 = some r :=
 pick_of (fun _ _ ha hb => RRun.uniq (Zcj _ _ _) (ha .ex .ex rfl) (hb .ex .ex rfl)) (fun zp zd zy => Zbb b0 zp zd zy r h)
noncomputable def Z82  : Option (Int × Int) :=
 some (0, 0)
theorem Za0  : Sim (Z5k) (Z82) (Zef 0  []) := by
 unfold Z82
 refine zf (ZiO ..) ?_
 refine ze ?_
 exact zr ((.p (.tup [(.v (.int .i64 0)), (.v (.int .i64 0))])), []) ⟨_, rfl⟩
noncomputable def Z7X (x0 : List Int) (x1 : Int) : Option (Int × Int) :=
 (lget x0 x1).bind fun a1 =>
 some ((IntKind.i64.wrap (1114112 + (IntKind.i64.wrap a1))), 1)
theorem Zd7 (x0 : List Int) (x1 : Int) (ox0 : Own) : Sim (Z5k) (Z7X x0 x1) (Zgf 0 (.p (.lst ox0 (x0.map (eI .u8)))) (iv x1) []) := by
 unfold Z7X
 refine zf (Zio ..) ?_
 refine ze ?_
 refine zi fun a1 ha1 => ?_
 refine zo (.cptr [(.v (.int .u8 a1))]) ?_ (Eq.trans (by kernel_rfl) (xidx_of (o := (shrO ox0)) (k := .i64) (n := 1) (e := (eI .u8)) (cs := (fun a => [(eI .u8) a])) (fun _ => rfl) (fun _ => rfl) (by decide) ha1))
 refine zo (.p (.v (.int .u8 a1))) ?_
 refine zo (iv (IntKind.i64.wrap a1)) ?_
 refine zo (iv (IntKind.i64.wrap (1114112 + (IntKind.i64.wrap a1)))) ?_
 exact zr ((.p (.tup [(.v (.int .i64 (IntKind.i64.wrap (1114112 + (IntKind.i64.wrap a1))))), (.v (.int .i64 1))])), []) ⟨_, rfl⟩
noncomputable def Z5Z (x6 : Int) (x7 : Int) : Option (Int × Int) :=
 some ((IntKind.i64.wrap x6), x7)
theorem Z9Y (x6 : Int) (x7 : Int) : Sim (Z5k) (Z5Z x6 x7) (Zeg 0 (.p (.v (.int .i32 x6))) (iv x7) []) := by
 unfold Z5Z
 refine zf (Ziq ..) ?_
 refine ze ?_
 refine zo (iv (IntKind.i64.wrap x6)) ?_
 exact zr ((.p (.tup [(.v (.int .i64 (IntKind.i64.wrap x6))), (.v (.int .i64 x7))])), []) ⟨_, rfl⟩
noncomputable def Z84 (x0 : List Int) (x1 : Int) : Option (Int × Int) :=
 (lsl x0 x1 (x0.length : Int)).bind fun a1 =>
 (Z5U a1).bind fun r2 =>
 if ((r2.1 == 65533)) = true then
 (if ((r2.2 == 1)) = true then
 (Z7X x0 x1)
 else
 (Z5Z r2.1 r2.2))
 else
 (Z5Z r2.1 r2.2)
theorem Zdd (x0 : List Int) (x1 : Int) (ox0 : Own) : Sim (Z5k) (Z84 x0 x1) (Zg6 0 (.p (.lst ox0 (x0.map (eI .u8)))) (iv x1) []) := by
 unfold Z84
 refine zf (ZhG ..) ?_
 refine ze ?_
 refine zi fun a1 ha1 => ?_
 refine zo (.p (.lst (slO (shrO ox0)) (a1.map (eI .u8)))) ?_ (Eq.trans (by kernel_rfl) <| xsl_of (n := 1) (o := (shrO ox0)) (lo := (some (iv x1))) (hi := none) (e := (eI .u8)) (fun _ => rfl) (by decide) (by kernel_rfl) (by kernel_rfl) ha1)
 refine zi fun r2 hr2 => ?_
 obtain ⟨qr2, er2, exr2, rfl⟩ := Z9z (a1) .sh r2 hr2
 refine zc [] (.p (.tup [(.v (.int .i32 r2.1)), (.v (.int .i64 r2.2))])) [] er2 ?_
 refine zo (.p (.v (.int .i32 r2.1))) ?_
 refine zo (iv r2.2) ?_
 refine ze ?_
 refine zo (bv (r2.1 == 65533)) ?_
 refine za ((r2.1 == 65533)) ?_ ?_
 ·refine zo (bv (r2.2 == 1)) ?_
  refine za ((r2.2 == 1)) ?_ ?_
  ·exact zk (Zd7 (x0) (x1) ox0)
  ·exact zk (Z9Y (r2.1) (r2.2))
 ·exact zk (Z9Y (r2.1) (r2.2))
noncomputable def Z9R (x0 : List Int) (x1 : Int) : Option (Int × Int) :=
 if ((decide (x1 < 0))) = true then
 (Z82)
 else
 (if ((decide ((x0.length : Int) ≤ x1))) = true then
 (Z82)
 else
 (Z84 x0 x1))
theorem Zew (x0 : List Int) (x1 : Int) (ox0 : Own) : Sim (Z5k) (Z9R x0 x1) (EE 45 [(.p (.lst ox0 (x0.map (eI .u8)))), (iv x1)] []) := by
 unfold Z9R
 refine zf (Zk8 ..) ?_
 refine ze ?_
 refine ze ?_
 refine zo (bv (decide (x1 < 0))) ?_
 refine za ((decide (x1 < 0))) ?_ ?_
 ·exact zk (Za0 )
 ·refine zo (iv (x0.length : Int)) ?_ (Eq.trans (by kernel_rfl) (xlen_of (P := PP) (t := 40) (d := 5) (by kernel_rfl) (eI .u8) (shrO ox0) x0))
  refine zo (bv (decide ((x0.length : Int) ≤ x1))) ?_
  refine za ((decide ((x0.length : Int) ≤ x1))) ?_ ?_
  ·exact zk (Za0 )
  ·exact zk (Zdd (x0) (x1) ox0)
theorem ZeJ (x0 : List Int) (x1 : Int) {r} (h : Z9R x0 x1 = some r) : Z8r x0 x1 = some r :=
 pick_of (fun _ _ ha hb => RRun.uniq (Zf9) (ha .ex) (hb .ex)) (fun ox0 => Zew x0 x1 ox0 r h)
noncomputable def Z8k (x0 : Int) (x1 : List Z3) : Option (Z3) :=
 some ((Z3.mk x0 0 0 0 0 ([] : List Z8) x1))
theorem ZbT (x0 : Int) (x1 : List Z3) (b0 : Z3) (ox1 : Own) (z1f : Own) (z14 : Own) (zji : okApp z1f = true) (ziJ : okApp z14 = true) : Sim (Z5Y) (Z8k x0 x1) (Zg0 0 (iv x0) (.p (.lst ox1 (x1.map ZG))) (.ptr 0 0) [(Zq b0 z1f z14)]) := by
 unfold Z8k
 refine zf (Zi2 ..) ?_
 refine ze ?_
 refine zo (.p (.agg (ZC (Z3.mk x0 0 0 0 0 ([] : List Z8) x1) .nl (shrO (shrO ox1))))) ?_
 refine zt [(Zq (Z3.mk x0 0 0 0 0 ([] : List Z8) x1) .nl (shrO (shrO ox1)))] ?_
 exact zr ((.p (.agg (ZC (Z3.mk x0 0 0 0 0 ([] : List Z8) x1) .sh .sh))), [(Zq (Z3.mk x0 0 0 0 0 ([] : List Z8) x1) .nl (shrO (shrO ox1)))]) ⟨_, rfl⟩
noncomputable def Z7O (x0 : Int) (x1 : List Z3) : Option (Z3) :=
 if (((x1.length : Int) == 0)) = true then
 (some ((Z3.mk 0 0 0 0 0 ([] : List Z8) ([] : List Z3))))
 else
 (if (((x1.length : Int) == 1)) = true then
 ((lget x1 0).bind fun a1 =>
 some (a1))
 else
 (Z8k x0 x1))
theorem Zd3 (x0 : Int) (x1 : List Z3) (ox1 : Own) : Sim (Z5Y) (Z7O x0 x1) (EE 36 [(iv x0), (.p (.lst ox1 (x1.map ZG)))] []) := by
 unfold Z7O
 refine zf (ZkZ ..) ?_
 refine ze ?_
 refine zz (.ptr 0 0) [(Zq (Z3.mk 0 0 0 0 0 ([] : List Z8) ([] : List Z3)) .nl .nl)] ?_
 refine ze ?_
 refine zo (iv (x1.length : Int)) ?_ (Eq.trans (by kernel_rfl) (xlen_of (P := PP) (t := 25) (d := 27) (by kernel_rfl) ZG (shrO ox1) x1))
 refine ze ?_
 refine zo (bv ((x1.length : Int) == 0)) ?_
 refine za (((x1.length : Int) == 0)) ?_ ?_
 ·refine ze ?_
  refine zo (.p (.agg (ZC (Z3.mk 0 0 0 0 0 ([] : List Z8) ([] : List Z3)) .nl .nl))) ?_
  refine zt [(Zq (Z3.mk 0 0 0 0 0 ([] : List Z8) ([] : List Z3)) .nl .nl)] ?_
  exact zr ((.p (.agg (ZC (Z3.mk 0 0 0 0 0 ([] : List Z8) ([] : List Z3)) .sh .sh))), [(Zq (Z3.mk 0 0 0 0 0 ([] : List Z8) ([] : List Z3)) .nl .nl)]) ⟨_, rfl⟩
 ·refine ze ?_
  refine zo (bv ((x1.length : Int) == 1)) ?_
  refine za (((x1.length : Int) == 1)) ?_ ?_
  ·refine ze ?_
   refine zi fun a1 ha1 => ?_
   refine zo (.cptr (ZC a1 .sh .sh)) ?_ (Eq.trans (by kernel_rfl) (xidx_of (o := (shrO ox1)) (k := .i64) (n := 7) (e := ZG) (cs := Z24) Z42 (fun _ => rfl) (by decide) ha1))
   refine zo (.p (.agg (ZC a1 .sh .sh))) ?_
   refine zt [(Zq a1 .sh .sh)] ?_
   exact zr ((.p (.agg (ZC a1 .sh .sh))), [(Zq a1 .sh .sh)]) ⟨_, rfl⟩
  ·exact zk (ZbT (x0) (x1) ((Z3.mk 0 0 0 0 0 ([] : List Z8) ([] : List Z3))) ox1 .nl .nl rfl rfl)
theorem ZdE (x0 : Int) (x1 : List Z3) {r} (h : Z7O x0 x1 = some r) : Z6S x0 x1 = some r :=
 pick_of (fun _ _ ha hb => RRun.uniq (ZdV) (ha .ex) (hb .ex)) (fun ox1 => Zd3 x0 x1 ox1 r h)
noncomputable def Z1l (zu : Int) (z7 : Int) (zh : Int) (zj : List Zv) (z2 : Int) (z6 : Int) : Option (Z3 × Bool × Int × Int × Int × (List Zv) × Int × Int) :=
 some ((Z3.mk 0 0 0 0 0 ([] : List Z8) ([] : List Z3)), true, zu, z7, zh, zj, z2, z6)
theorem Z1m (zn : List Int) (zu : Int) (z7 : Int) (zh : Int) (zj : List Zv) (z2 : Int) (z6 : Int) (b1 : Z3) (zp : Own) (zd : Own) (zD : Own) (zB : Own) (zy : okApp zd = true) (zR : okApp zD = true) (zL : okApp zB = true) : Sim (Z4k zn zp) (Z1l zu z7 zh zj z2 z6) (Z5x 1 (.ptr 1 0) [(Zk (Zm.mk zn zu z7 zh zj (Zl.mk z2 z6)) zp zd), (Zq b1 zD zB)]) := by
 unfold Z1l
 refine zf (ZgZ ..) ?_
 refine ze ?_
 refine zo (.p (.agg (ZC (Z3.mk 0 0 0 0 0 ([] : List Z8) ([] : List Z3)) .nl .nl))) ?_
 refine zt [(Zk (Zm.mk zn zu z7 zh zj (Zl.mk z2 z6)) zp zd), (Zq (Z3.mk 0 0 0 0 0 ([] : List Z8) ([] : List Z3)) .nl .nl)] ?_
 exact zr ((.p (.tup [(.agg (ZC (Z3.mk 0 0 0 0 0 ([] : List Z8) ([] : List Z3)) .sh .sh)), (.v (.bool true))])), [(Zk (Zm.mk zn zu z7 zh zj (Zl.mk z2 z6)) zp zd), (Zq (Z3.mk 0 0 0 0 0 ([] : List Z8) ([] : List Z3)) .nl .nl)]) ⟨zd, _, zy, rfl⟩
noncomputable def Z59 (zn : List Int) (zu : Int) (z7 : Int) (zh : Int) (zj : List Zv) (z2 : Int) (z6 : Int) : Option (Z3 × Bool × Int × Int × Int × (List Zv) × Int × Int) :=
 (Z2e zn zu).bind fun r1 =>
 if ((r1.1 == 46)) = true then
 ((Z1C 10).bind fun r2 =>
 (Z2N true (([r2] : List Z8))).bind fun r3 =>
 some (r3, true, r1.2, z7, zh, zj, z2, z6))
 else
 (if ((r1.1 == 94)) = true then
 (some ((Z3.mk 9 0 0 0 0 ([] : List Z8) ([] : List Z3)), false, r1.2, z7, zh, zj, z2, z6))
 else
 (if ((r1.1 == 36)) = true then
 (some ((Z3.mk 9 0 0 0 1 ([] : List Z8) ([] : List Z3)), false, r1.2, z7, zh, zj, z2, z6))
 else
 (if ((r1.1 == 92)) = true then
 ((Z3e zu zn r1.2 z7 zh zj z2 z6).bind fun r4 =>
 some (r4.1, (r4.1.Kind != 9), r4.2.1, z7, zh, r4.2.2.1, r4.2.2.2.1, r4.2.2.2.2))
 else
 (if ((r1.1 == 91)) = true then
 ((Z5V zu zn r1.2 z7 zh zj z2 z6).bind fun r5 =>
 some (r5.1, true, r5.2.1, z7, zh, zj, r5.2.2.1, r5.2.2.2))
 else
 (if ((r1.1 == 40)) = true then
 ((Z3l zu zn r1.2 z7 zh zj z2 z6).bind fun r6 =>
 some (r6.1, r6.2.1, r6.2.2.1, r6.2.2.2.1, r6.2.2.2.2.1, r6.2.2.2.2.2.1, r6.2.2.2.2.2.2.1, r6.2.2.2.2.2.2.2))
 else
 (if ((r1.1 == 42)) = true then
 (if ((r1.1 == 42)) = true then
 ((ZU 23 zu zn z2 z6).bind fun r7 =>
 Z1l r7.1 z7 zh zj r7.2.1 r7.2.2)
 else
 (if ((r1.1 == 93)) = true then
 (if ((r1.1 == 93)) = true then
 ((ZU 20 zu zn z2 z6).bind fun r8 =>
 Z1l r8.1 z7 zh zj r8.2.1 r8.2.2)
 else
 ((Z1C r1.1).bind fun r9 =>
 (Z2N false (([r9] : List Z8))).bind fun r10 =>
 some (r10, true, r1.2, z7, zh, zj, z2, z6)))
 else
 (if ((r1.1 == 125)) = true then
 ((ZU 20 zu zn z2 z6).bind fun r11 =>
 Z1l r11.1 z7 zh zj r11.2.1 r11.2.2)
 else
 ((Z1C r1.1).bind fun r12 =>
 (Z2N false (([r12] : List Z8))).bind fun r13 =>
 some (r13, true, r1.2, z7, zh, zj, z2, z6)))))
 else
 (if ((r1.1 == 43)) = true then
 (if ((r1.1 == 43)) = true then
 ((ZU 23 zu zn z2 z6).bind fun r14 =>
 Z1l r14.1 z7 zh zj r14.2.1 r14.2.2)
 else
 (if ((r1.1 == 93)) = true then
 (if ((r1.1 == 93)) = true then
 ((ZU 20 zu zn z2 z6).bind fun r15 =>
 Z1l r15.1 z7 zh zj r15.2.1 r15.2.2)
 else
 ((Z1C r1.1).bind fun r16 =>
 (Z2N false (([r16] : List Z8))).bind fun r17 =>
 some (r17, true, r1.2, z7, zh, zj, z2, z6)))
 else
 (if ((r1.1 == 125)) = true then
 ((ZU 20 zu zn z2 z6).bind fun r18 =>
 Z1l r18.1 z7 zh zj r18.2.1 r18.2.2)
 else
 ((Z1C r1.1).bind fun r19 =>
 (Z2N false (([r19] : List Z8))).bind fun r20 =>
 some (r20, true, r1.2, z7, zh, zj, z2, z6)))))
 else
 (if ((r1.1 == 63)) = true then
 (if ((r1.1 == 63)) = true then
 ((ZU 23 zu zn z2 z6).bind fun r21 =>
 Z1l r21.1 z7 zh zj r21.2.1 r21.2.2)
 else
 (if ((r1.1 == 93)) = true then
 (if ((r1.1 == 93)) = true then
 ((ZU 20 zu zn z2 z6).bind fun r22 =>
 Z1l r22.1 z7 zh zj r22.2.1 r22.2.2)
 else
 ((Z1C r1.1).bind fun r23 =>
 (Z2N false (([r23] : List Z8))).bind fun r24 =>
 some (r24, true, r1.2, z7, zh, zj, z2, z6)))
 else
 (if ((r1.1 == 125)) = true then
 ((ZU 20 zu zn z2 z6).bind fun r25 =>
 Z1l r25.1 z7 zh zj r25.2.1 r25.2.2)
 else
 ((Z1C r1.1).bind fun r26 =>
 (Z2N false (([r26] : List Z8))).bind fun r27 =>
 some (r27, true, r1.2, z7, zh, zj, z2, z6)))))
 else
 (if ((r1.1 == 123)) = true then
 ((ZU 23 zu zn z2 z6).bind fun r28 =>
 Z1l r28.1 z7 zh zj r28.2.1 r28.2.2)
 else
 (if ((r1.1 == 93)) = true then
 (if ((r1.1 == 93)) = true then
 ((ZU 20 zu zn z2 z6).bind fun r29 =>
 Z1l r29.1 z7 zh zj r29.2.1 r29.2.2)
 else
 ((Z1C r1.1).bind fun r30 =>
 (Z2N false (([r30] : List Z8))).bind fun r31 =>
 some (r31, true, r1.2, z7, zh, zj, z2, z6)))
 else
 (if ((r1.1 == 125)) = true then
 ((ZU 20 zu zn z2 z6).bind fun r32 =>
 Z1l r32.1 z7 zh zj r32.2.1 r32.2.2)
 else
 ((Z1C r1.1).bind fun r33 =>
 (Z2N false (([r33] : List Z8))).bind fun r34 =>
 some (r34, true, r1.2, z7, zh, zj, z2, z6)))))))))))))
theorem Zbf (zn : List Int) (zu : Int) (z7 : Int) (zh : Int) (zj : List Zv) (z2 : Int) (z6 : Int) (zp : Own) (zd : Own) (zy : okApp zd = true) : Sim (Z4k zn zp) (Z59 zn zu z7 zh zj z2 z6) (EE 42 [(.ptr 0 0)] [(Zk (Zm.mk zn zu z7 zh zj (Zl.mk z2 z6)) zp zd)]) := by
 unfold Z59
 refine zf (ZkX ..) ?_
 refine ze ?_
 refine zz (.ptr 1 0) [(Zk (Zm.mk zn zu z7 zh zj (Zl.mk z2 z6)) zp zd), (Zq (Z3.mk 0 0 0 0 0 ([] : List Z8) ([] : List Z3)) .nl .nl)] ?_
 refine ze ?_
 refine zo (.ptr 0 0) ?_
 refine zo (.ptr 0 1) ?_
 refine zo (iv zu) ?_
 refine ze ?_
 refine zi fun r1 hr1 => ?_
 obtain ⟨qr1, er1, exr1, rfl⟩ := Z2A (zn) (zu) (z7) (zh) (zj) (z2) (z6) zp zd zy r1 hr1
 refine zc [0] (iv r1.1) [(Zk (Zm.mk zn r1.2 z7 zh zj (Zl.mk z2 z6)) zp zd), (Zq (Z3.mk 0 0 0 0 0 ([] : List Z8) ([] : List Z3)) .nl .nl)] er1 ?_
 refine ze ?_
 refine ze ?_
 refine zo (bv (r1.1 == 46)) ?_
 refine za ((r1.1 == 46)) ?_ ?_
 ·refine ze ?_
  refine zi fun r2 hr2 => ?_
  obtain ⟨qr2, er2, exr2, rfl⟩ := Z1x (10) r2 hr2
  refine zc [] (.p (.agg (ZH r2))) [(Zk (Zm.mk zn r1.2 z7 zh zj (Zl.mk z2 z6)) zp zd), (Zq (Z3.mk 0 0 0 0 0 ([] : List Z8) ([] : List Z3)) .nl .nl)] er2 ?_
  refine zo (.p (.lst .ex (([r2] : List Z8).map Zz))) ?_
  refine zi fun r3 hr3 => ?_
  obtain ⟨qr3, er3, exr3, rfl⟩ := Z2X (true) (([r2] : List Z8)) .sh r3 hr3
  refine zc [] (.p (.agg (ZC r3 .sh .sh))) [(Zk (Zm.mk zn r1.2 z7 zh zj (Zl.mk z2 z6)) zp zd), (Zq (Z3.mk 0 0 0 0 0 ([] : List Z8) ([] : List Z3)) .nl .nl)] er3 ?_
  refine zt [(Zk (Zm.mk zn r1.2 z7 zh zj (Zl.mk z2 z6)) zp zd), (Zq r3 .sh .sh)] ?_
  exact zr ((.p (.tup [(.agg (ZC r3 .sh .sh)), (.v (.bool true))])), [(Zk (Zm.mk zn r1.2 z7 zh zj (Zl.mk z2 z6)) zp zd), (Zq r3 .sh .sh)]) ⟨zd, _, zy, rfl⟩
 ·refine ze ?_
  refine zo (bv (r1.1 == 94)) ?_
  refine za ((r1.1 == 94)) ?_ ?_
  ·refine ze ?_
   refine zo (.p (.agg (ZC (Z3.mk 9 0 0 0 0 ([] : List Z8) ([] : List Z3)) .nl .nl))) ?_
   refine zt [(Zk (Zm.mk zn r1.2 z7 zh zj (Zl.mk z2 z6)) zp zd), (Zq (Z3.mk 9 0 0 0 0 ([] : List Z8) ([] : List Z3)) .nl .nl)] ?_
   exact zr ((.p (.tup [(.agg (ZC (Z3.mk 9 0 0 0 0 ([] : List Z8) ([] : List Z3)) .sh .sh)), (.v (.bool false))])), [(Zk (Zm.mk zn r1.2 z7 zh zj (Zl.mk z2 z6)) zp zd), (Zq (Z3.mk 9 0 0 0 0 ([] : List Z8) ([] : List Z3)) .nl .nl)]) ⟨zd, _, zy, rfl⟩
  ·refine ze ?_
   refine zo (bv (r1.1 == 36)) ?_
   refine za ((r1.1 == 36)) ?_ ?_
   ·refine ze ?_
    refine zo (.p (.agg (ZC (Z3.mk 9 0 0 0 1 ([] : List Z8) ([] : List Z3)) .nl .nl))) ?_
    refine zt [(Zk (Zm.mk zn r1.2 z7 zh zj (Zl.mk z2 z6)) zp zd), (Zq (Z3.mk 9 0 0 0 1 ([] : List Z8) ([] : List Z3)) .nl .nl)] ?_
    exact zr ((.p (.tup [(.agg (ZC (Z3.mk 9 0 0 0 1 ([] : List Z8) ([] : List Z3)) .sh .sh)), (.v (.bool false))])), [(Zk (Zm.mk zn r1.2 z7 zh zj (Zl.mk z2 z6)) zp zd), (Zq (Z3.mk 9 0 0 0 1 ([] : List Z8) ([] : List Z3)) .nl .nl)]) ⟨zd, _, zy, rfl⟩
   ·refine ze ?_
    refine zo (bv (r1.1 == 92)) ?_
    refine za ((r1.1 == 92)) ?_ ?_
    ·refine ze ?_
     refine zi fun r4 hr4 => ?_
     obtain ⟨qr4, er4, or4_0_4, exr4, hor4_0_4, rfl⟩ := ZaZ (zu) (zn) (r1.2) (z7) (zh) (zj) (z2) (z6) zp zd zy r4 hr4
     refine zc [0] (.p (.agg (ZC r4.1 .sh .sh))) [(Zk (Zm.mk zn r4.2.1 z7 zh r4.2.2.1 (Zl.mk r4.2.2.2.1 r4.2.2.2.2)) zp or4_0_4), (Zq (Z3.mk 0 0 0 0 0 ([] : List Z8) ([] : List Z3)) .nl .nl)] er4 ?_
     refine zz (.ptr 2 0) [(Zk (Zm.mk zn r4.2.1 z7 zh r4.2.2.1 (Zl.mk r4.2.2.2.1 r4.2.2.2.2)) zp or4_0_4), (Zq (Z3.mk 0 0 0 0 0 ([] : List Z8) ([] : List Z3)) .nl .nl), (Zq (Z3.mk 0 0 0 0 0 ([] : List Z8) ([] : List Z3)) .nl .nl)] ?_
     refine zt [(Zk (Zm.mk zn r4.2.1 z7 zh r4.2.2.1 (Zl.mk r4.2.2.2.1 r4.2.2.2.2)) zp or4_0_4), (Zq (Z3.mk 0 0 0 0 0 ([] : List Z8) ([] : List Z3)) .nl .nl), (Zq r4.1 .sh .sh)] ?_
     refine ze ?_
     refine zo (.p (.agg (ZC r4.1 .sh .sh))) ?_
     refine zo (.ptr 2 0) ?_
     refine zo (iv r4.1.Kind) ?_
     refine zo (bv (r4.1.Kind != 9)) ?_
     refine zt [(Zk (Zm.mk zn r4.2.1 z7 zh r4.2.2.1 (Zl.mk r4.2.2.2.1 r4.2.2.2.2)) zp or4_0_4), (Zq r4.1 .sh .sh), (Zq r4.1 .sh .sh)] ?_
     refine zg ?_
     exact zr ((.p (.tup [(.agg (ZC r4.1 .sh .sh)), (.v (.bool (r4.1.Kind != 9)))])), [(Zk (Zm.mk zn r4.2.1 z7 zh r4.2.2.1 (Zl.mk r4.2.2.2.1 r4.2.2.2.2)) zp or4_0_4), (Zq r4.1 .sh .sh), (Zq r4.1 .sh .sh)]) ⟨or4_0_4, _, hor4_0_4, rfl⟩
    ·refine ze ?_
     refine zo (bv (r1.1 == 91)) ?_
     refine za ((r1.1 == 91)) ?_ ?_
     ·refine ze ?_
      refine zi fun r5 hr5 => ?_
      obtain ⟨qr5, er5, exr5, rfl⟩ := Zb9 (zu) (zn) (r1.2) (z7) (zh) (zj) (z2) (z6) zp zd zy r5 hr5
      refine zc [0] (.p (.agg (ZC r5.1 .sh .sh))) [(Zk (Zm.mk zn r5.2.1 z7 zh zj (Zl.mk r5.2.2.1 r5.2.2.2)) zp zd), (Zq (Z3.mk 0 0 0 0 0 ([] : List Z8) ([] : List Z3)) .nl .nl)] er5 ?_
      refine zt [(Zk (Zm.mk zn r5.2.1 z7 zh zj (Zl.mk r5.2.2.1 r5.2.2.2)) zp zd), (Zq r5.1 .sh .sh)] ?_
      exact zr ((.p (.tup [(.agg (ZC r5.1 .sh .sh)), (.v (.bool true))])), [(Zk (Zm.mk zn r5.2.1 z7 zh zj (Zl.mk r5.2.2.1 r5.2.2.2)) zp zd), (Zq r5.1 .sh .sh)]) ⟨zd, _, zy, rfl⟩
     ·refine ze ?_
      refine zo (bv (r1.1 == 40)) ?_
      refine za ((r1.1 == 40)) ?_ ?_
      ·refine ze ?_
       refine zi fun r6 hr6 => ?_
       obtain ⟨qr6, er6, or6_0_4, exr6, hor6_0_4, rfl⟩ := Zbl (zu) (zn) (r1.2) (z7) (zh) (zj) (z2) (z6) zp zd zy r6 hr6
       refine zc [0] (.p (.tup [(.agg (ZC r6.1 .sh .sh)), (.v (.bool r6.2.1))])) [(Zk (Zm.mk zn r6.2.2.1 r6.2.2.2.1 r6.2.2.2.2.1 r6.2.2.2.2.2.1 (Zl.mk r6.2.2.2.2.2.2.1 r6.2.2.2.2.2.2.2)) zp or6_0_4), (Zq (Z3.mk 0 0 0 0 0 ([] : List Z8) ([] : List Z3)) .nl .nl)] er6 ?_
       refine zo (.p (.agg (ZC r6.1 .sh .sh))) ?_
       refine zo (bv r6.2.1) ?_
       refine zt [(Zk (Zm.mk zn r6.2.2.1 r6.2.2.2.1 r6.2.2.2.2.1 r6.2.2.2.2.2.1 (Zl.mk r6.2.2.2.2.2.2.1 r6.2.2.2.2.2.2.2)) zp or6_0_4), (Zq r6.1 .sh .sh)] ?_
       exact zr ((.p (.tup [(.agg (ZC r6.1 .sh .sh)), (.v (.bool r6.2.1))])), [(Zk (Zm.mk zn r6.2.2.1 r6.2.2.2.1 r6.2.2.2.2.1 r6.2.2.2.2.2.1 (Zl.mk r6.2.2.2.2.2.2.1 r6.2.2.2.2.2.2.2)) zp or6_0_4), (Zq r6.1 .sh .sh)]) ⟨or6_0_4, _, hor6_0_4, rfl⟩
      ·refine ze ?_
       refine zo (bv (r1.1 == 42)) ?_
       refine za ((r1.1 == 42)) ?_ ?_
       ·refine za ((r1.1 == 42)) ?_ ?_
        ·refine ze ?_
         refine zi fun r7 hr7 => ?_
         obtain ⟨qr7, er7, exr7, rfl⟩ := ZX (23) (zu) (zn) (r1.2) (z7) (zh) (zj) (z2) (z6) zp zd zy r7 hr7
         refine zc [0] (.p (.tup [])) [(Zk (Zm.mk zn r7.1 z7 zh zj (Zl.mk r7.2.1 r7.2.2)) zp zd), (Zq (Z3.mk 0 0 0 0 0 ([] : List Z8) ([] : List Z3)) .nl .nl)] er7 ?_
         exact zk (Z1m (zn) (r7.1) (z7) (zh) (zj) (r7.2.1) (r7.2.2) ((Z3.mk 0 0 0 0 0 ([] : List Z8) ([] : List Z3))) zp zd .nl .nl zy rfl rfl)
        ·refine ze ?_
         refine zo (bv (r1.1 == 93)) ?_
         refine za ((r1.1 == 93)) ?_ ?_
         ·refine za ((r1.1 == 93)) ?_ ?_
          ·refine ze ?_
           refine zi fun r8 hr8 => ?_
           obtain ⟨qr8, er8, exr8, rfl⟩ := ZX (20) (zu) (zn) (r1.2) (z7) (zh) (zj) (z2) (z6) zp zd zy r8 hr8
           refine zc [0] (.p (.tup [])) [(Zk (Zm.mk zn r8.1 z7 zh zj (Zl.mk r8.2.1 r8.2.2)) zp zd), (Zq (Z3.mk 0 0 0 0 0 ([] : List Z8) ([] : List Z3)) .nl .nl)] er8 ?_
           exact zk (Z1m (zn) (r8.1) (z7) (zh) (zj) (r8.2.1) (r8.2.2) ((Z3.mk 0 0 0 0 0 ([] : List Z8) ([] : List Z3))) zp zd .nl .nl zy rfl rfl)
          ·refine ze ?_
           refine zi fun r9 hr9 => ?_
           obtain ⟨qr9, er9, exr9, rfl⟩ := Z1x (r1.1) r9 hr9
           refine zc [] (.p (.agg (ZH r9))) [(Zk (Zm.mk zn r1.2 z7 zh zj (Zl.mk z2 z6)) zp zd), (Zq (Z3.mk 0 0 0 0 0 ([] : List Z8) ([] : List Z3)) .nl .nl)] er9 ?_
           refine zo (.p (.lst .ex (([r9] : List Z8).map Zz))) ?_
           refine zi fun r10 hr10 => ?_
           obtain ⟨qr10, er10, exr10, rfl⟩ := Z2X (false) (([r9] : List Z8)) .sh r10 hr10
           refine zc [] (.p (.agg (ZC r10 .sh .sh))) [(Zk (Zm.mk zn r1.2 z7 zh zj (Zl.mk z2 z6)) zp zd), (Zq (Z3.mk 0 0 0 0 0 ([] : List Z8) ([] : List Z3)) .nl .nl)] er10 ?_
           refine zt [(Zk (Zm.mk zn r1.2 z7 zh zj (Zl.mk z2 z6)) zp zd), (Zq r10 .sh .sh)] ?_
           exact zr ((.p (.tup [(.agg (ZC r10 .sh .sh)), (.v (.bool true))])), [(Zk (Zm.mk zn r1.2 z7 zh zj (Zl.mk z2 z6)) zp zd), (Zq r10 .sh .sh)]) ⟨zd, _, zy, rfl⟩
         ·refine ze ?_
          refine zo (bv (r1.1 == 125)) ?_
          refine za ((r1.1 == 125)) ?_ ?_
          ·refine ze ?_
           refine zi fun r11 hr11 => ?_
           obtain ⟨qr11, er11, exr11, rfl⟩ := ZX (20) (zu) (zn) (r1.2) (z7) (zh) (zj) (z2) (z6) zp zd zy r11 hr11
           refine zc [0] (.p (.tup [])) [(Zk (Zm.mk zn r11.1 z7 zh zj (Zl.mk r11.2.1 r11.2.2)) zp zd), (Zq (Z3.mk 0 0 0 0 0 ([] : List Z8) ([] : List Z3)) .nl .nl)] er11 ?_
           exact zk (Z1m (zn) (r11.1) (z7) (zh) (zj) (r11.2.1) (r11.2.2) ((Z3.mk 0 0 0 0 0 ([] : List Z8) ([] : List Z3))) zp zd .nl .nl zy rfl rfl)
          ·refine ze ?_
           refine zi fun r12 hr12 => ?_
           obtain ⟨qr12, er12, exr12, rfl⟩ := Z1x (r1.1) r12 hr12
           refine zc [] (.p (.agg (ZH r12))) [(Zk (Zm.mk zn r1.2 z7 zh zj (Zl.mk z2 z6)) zp zd), (Zq (Z3.mk 0 0 0 0 0 ([] : List Z8) ([] : List Z3)) .nl .nl)] er12 ?_
           refine zo (.p (.lst .ex (([r12] : List Z8).map Zz))) ?_
           refine zi fun r13 hr13 => ?_
           obtain ⟨qr13, er13, exr13, rfl⟩ := Z2X (false) (([r12] : List Z8)) .sh r13 hr13
           refine zc [] (.p (.agg (ZC r13 .sh .sh))) [(Zk (Zm.mk zn r1.2 z7 zh zj (Zl.mk z2 z6)) zp zd), (Zq (Z3.mk 0 0 0 0 0 ([] : List Z8) ([] : List Z3)) .nl .nl)] er13 ?_
           refine zt [(Zk (Zm.mk zn r1.2 z7 zh zj (Zl.mk z2 z6)) zp zd), (Zq r13 .sh .sh)] ?_
           exact zr ((.p (.tup [(.agg (ZC r13 .sh .sh)), (.v (.bool true))])), [(Zk (Zm.mk zn r1.2 z7 zh zj (Zl.mk z2 z6)) zp zd), (Zq r13 .sh .sh)]) ⟨zd, _, zy, rfl⟩
       ·refine ze ?_
        refine zo (bv (r1.1 == 43)) ?_
        refine za ((r1.1 == 43)) ?_ ?_
        ·refine za ((r1.1 == 43)) ?_ ?_
         ·refine ze ?_
          refine zi fun r14 hr14 => ?_
          obtain ⟨qr14, er14, exr14, rfl⟩ := ZX (23) (zu) (zn) (r1.2) (z7) (zh) (zj) (z2) (z6) zp zd zy r14 hr14
          refine zc [0] (.p (.tup [])) [(Zk (Zm.mk zn r14.1 z7 zh zj (Zl.mk r14.2.1 r14.2.2)) zp zd), (Zq (Z3.mk 0 0 0 0 0 ([] : List Z8) ([] : List Z3)) .nl .nl)] er14 ?_
          exact zk (Z1m (zn) (r14.1) (z7) (zh) (zj) (r14.2.1) (r14.2.2) ((Z3.mk 0 0 0 0 0 ([] : List Z8) ([] : List Z3))) zp zd .nl .nl zy rfl rfl)
         ·refine ze ?_
          refine zo (bv (r1.1 == 93)) ?_
          refine za ((r1.1 == 93)) ?_ ?_
          ·refine za ((r1.1 == 93)) ?_ ?_
           ·refine ze ?_
            refine zi fun r15 hr15 => ?_
            obtain ⟨qr15, er15, exr15, rfl⟩ := ZX (20) (zu) (zn) (r1.2) (z7) (zh) (zj) (z2) (z6) zp zd zy r15 hr15
            refine zc [0] (.p (.tup [])) [(Zk (Zm.mk zn r15.1 z7 zh zj (Zl.mk r15.2.1 r15.2.2)) zp zd), (Zq (Z3.mk 0 0 0 0 0 ([] : List Z8) ([] : List Z3)) .nl .nl)] er15 ?_
            exact zk (Z1m (zn) (r15.1) (z7) (zh) (zj) (r15.2.1) (r15.2.2) ((Z3.mk 0 0 0 0 0 ([] : List Z8) ([] : List Z3))) zp zd .nl .nl zy rfl rfl)
           ·refine ze ?_
            refine zi fun r16 hr16 => ?_
            obtain ⟨qr16, er16, exr16, rfl⟩ := Z1x (r1.1) r16 hr16
            refine zc [] (.p (.agg (ZH r16))) [(Zk (Zm.mk zn r1.2 z7 zh zj (Zl.mk z2 z6)) zp zd), (Zq (Z3.mk 0 0 0 0 0 ([] : List Z8) ([] : List Z3)) .nl .nl)] er16 ?_
            refine zo (.p (.lst .ex (([r16] : List Z8).map Zz))) ?_
            refine zi fun r17 hr17 => ?_
            obtain ⟨qr17, er17, exr17, rfl⟩ := Z2X (false) (([r16] : List Z8)) .sh r17 hr17
            refine zc [] (.p (.agg (ZC r17 .sh .sh))) [(Zk (Zm.mk zn r1.2 z7 zh zj (Zl.mk z2 z6)) zp zd), (Zq (Z3.mk 0 0 0 0 0 ([] : List Z8) ([] : List Z3)) .nl .nl)] er17 ?_
            refine zt [(Zk (Zm.mk zn r1.2 z7 zh zj (Zl.mk z2 z6)) zp zd), (Zq r17 .sh .sh)] ?_
            exact zr ((.p (.tup [(.agg (ZC r17 .sh .sh)), (.v (.bool true))])), [(Zk (Zm.mk zn r1.2 z7 zh zj (Zl.mk z2 z6)) zp zd), (Zq r17 .sh .sh)]) ⟨zd, _, zy, rfl⟩
          ·refine ze ?_
           refine zo (bv (r1.1 == 125)) ?_
           refine za ((r1.1 == 125)) ?_ ?_
           ·refine ze ?_
            refine zi fun r18 hr18 => ?_
            obtain ⟨qr18, er18, exr18, rfl⟩ := ZX (20) (zu) (zn) (r1.2) (z7) (zh) (zj) (z2) (z6) zp zd zy r18 hr18
            refine zc [0] (.p (.tup [])) [(Zk (Zm.mk zn r18.1 z7 zh zj (Zl.mk r18.2.1 r18.2.2)) zp zd), (Zq (Z3.mk 0 0 0 0 0 ([] : List Z8) ([] : List Z3)) .nl .nl)] er18 ?_
            exact zk (Z1m (zn) (r18.1) (z7) (zh) (zj) (r18.2.1) (r18.2.2) ((Z3.mk 0 0 0 0 0 ([] : List Z8) ([] : List Z3))) zp zd .nl .nl zy rfl rfl)
           ·refine ze ?_
            refine zi fun r19 hr19 => ?_
            obtain ⟨qr19, er19, exr19, rfl⟩ := Z1x (r1.1) r19 hr19
            refine zc [] (.p (.agg (ZH r19))) [(Zk (Zm.mk zn r1.2 z7 zh zj (Zl.mk z2 z6)) zp zd), (Zq (Z3.mk 0 0 0 0 0 ([] : List Z8) ([] : List Z3)) .nl .nl)] er19 ?_
            refine zo (.p (.lst .ex (([r19] : List Z8).map Zz))) ?_
            refine zi fun r20 hr20 => ?_
            obtain ⟨qr20, er20, exr20, rfl⟩ := Z2X (false) (([r19] : List Z8)) .sh r20 hr20
            refine zc [] (.p (.agg (ZC r20 .sh .sh))) [(Zk (Zm.mk zn r1.2 z7 zh zj (Zl.mk z2 z6)) zp zd), (Zq (Z3.mk 0 0 0 0 0 ([] : List Z8) ([] : List Z3)) .nl .nl)] er20 ?_
            refine zt [(Zk (Zm.mk zn r1.2 z7 zh zj (Zl.mk z2 z6)) zp zd), (Zq r20 .sh .sh)] ?_
            exact zr ((.p (.tup [(.agg (ZC r20 .sh .sh)), (.v (.bool true))])), [(Zk (Zm.mk zn r1.2 z7 zh zj (Zl.mk z2 z6)) zp zd), (Zq r20 .sh .sh)]) ⟨zd, _, zy, rfl⟩
        ·refine ze ?_
         refine zo (bv (r1.1 == 63)) ?_
         refine za ((r1.1 == 63)) ?_ ?_
         ·refine za ((r1.1 == 63)) ?_ ?_
          ·refine ze ?_
           refine zi fun r21 hr21 => ?_
           obtain ⟨qr21, er21, exr21, rfl⟩ := ZX (23) (zu) (zn) (r1.2) (z7) (zh) (zj) (z2) (z6) zp zd zy r21 hr21
           refine zc [0] (.p (.tup [])) [(Zk (Zm.mk zn r21.1 z7 zh zj (Zl.mk r21.2.1 r21.2.2)) zp zd), (Zq (Z3.mk 0 0 0 0 0 ([] : List Z8) ([] : List Z3)) .nl .nl)] er21 ?_
           exact zk (Z1m (zn) (r21.1) (z7) (zh) (zj) (r21.2.1) (r21.2.2) ((Z3.mk 0 0 0 0 0 ([] : List Z8) ([] : List Z3))) zp zd .nl .nl zy rfl rfl)
          ·refine ze ?_
           refine zo (bv (r1.1 == 93)) ?_
           refine za ((r1.1 == 93)) ?_ ?_
           ·refine za ((r1.1 == 93)) ?_ ?_
            ·refine ze ?_
             refine zi fun r22 hr22 => ?_
             obtain ⟨qr22, er22, exr22, rfl⟩ := ZX (20) (zu) (zn) (r1.2) (z7) (zh) (zj) (z2) (z6) zp zd zy r22 hr22
             refine zc [0] (.p (.tup [])) [(Zk (Zm.mk zn r22.1 z7 zh zj (Zl.mk r22.2.1 r22.2.2)) zp zd), (Zq (Z3.mk 0 0 0 0 0 ([] : List Z8) ([] : List Z3)) .nl .nl)] er22 ?_
             exact zk (Z1m (zn) (r22.1) (z7) (zh) (zj) (r22.2.1) (r22.2.2) ((Z3.mk 0 0 0 0 0 ([] : List Z8) ([] : List Z3))) zp zd .nl .nl zy rfl rfl)
            ·refine ze ?_
             refine zi fun r23 hr23 => ?_
             obtain ⟨qr23, er23, exr23, rfl⟩ := Z1x (r1.1) r23 hr23
             refine zc [] (.p (.agg (ZH r23))) [(Zk (Zm.mk zn r1.2 z7 zh zj (Zl.mk z2 z6)) zp zd), (Zq (Z3.mk 0 0 0 0 0 ([] : List Z8) ([] : List Z3)) .nl .nl)] er23 ?_
             refine zo (.p (.lst .ex (([r23] : List Z8).map Zz))) ?_
             refine zi fun r24 hr24 => ?_
             obtain ⟨qr24, er24, exr24, rfl⟩ := Z2X (false) (([r23] : List Z8)) .sh r24 hr24
             refine zc [] (.p (.agg (ZC r24 .sh .sh))) [(Zk (Zm.mk zn r1.2 z7 zh zj (Zl.mk z2 z6)) zp zd), (Zq (Z3.mk 0 0 0 0 0 ([] : List Z8) ([] : List Z3)) .nl .nl)] er24 ?_
             refine zt [(Zk (Zm.mk zn r1.2 z7 zh zj (Zl.mk z2 z6)) zp zd), (Zq r24 .sh .sh)] ?_
             exact zr ((.p (.tup [(.agg (ZC r24 .sh .sh)), (.v (.bool true))])), [(Zk (Zm.mk zn r1.2 z7 zh zj (Zl.mk z2 z6)) zp zd), (Zq r24 .sh .sh)]) ⟨zd, _, zy, rfl⟩
           ·refine ze ?_
            refine zo (bv (r1.1 == 125)) ?_
            refine za ((r1.1 == 125)) ?_ ?_
            ·refine ze ?_
             refine zi fun r25 hr25 => ?_
             obtain ⟨qr25, er25, exr25, rfl⟩ := ZX (20) (zu) (zn) (r1.2) (z7) (zh) (zj) (z2) (z6) zp zd zy r25 hr25
             refine zc [0] (.p (.tup [])) [(Zk (Zm.mk zn r25.1 z7 zh zj (Zl.mk r25.2.1 r25.2.2)) zp zd), (Zq (Z3.mk 0 0 0 0 0 ([] : List Z8) ([] : List Z3)) .nl .nl)] er25 ?_
             exact zk (Z1m (zn) (r25.1) (z7) (zh) (zj) (r25.2.1) (r25.2.2) ((Z3.mk 0 0 0 0 0 ([] : List Z8) ([] : List Z3))) zp zd .nl .nl zy rfl rfl)
            ·refine ze ?_
             refine zi fun r26 hr26 => ?_
             obtain ⟨qr26, er26, exr26, rfl⟩ := Z1x (r1.1) r26 hr26
             refine zc [] (.p (.agg (ZH r26))) [(Zk (Zm.mk zn r1.2 z7 zh zj (Zl.mk z2 z6)) zp zd), (Zq (Z3.mk 0 0 0 0 0 ([] : List Z8) ([] : List Z3)) .nl .nl)] er26 ?_
             refine zo (.p (.lst .ex (([r26] : List Z8).map Zz))) ?_
             refine zi fun r27 hr27 => ?_
             obtain ⟨qr27, er27, exr27, rfl⟩ := Z2X (false) (([r26] : List Z8)) .sh r27 hr27
             refine zc [] (.p (.agg (ZC r27 .sh .sh))) [(Zk (Zm.mk zn r1.2 z7 zh zj (Zl.mk z2 z6)) zp zd), (Zq (Z3.mk 0 0 0 0 0 ([] : List Z8) ([] : List Z3)) .nl .nl)] er27 ?_
             refine zt [(Zk (Zm.mk zn r1.2 z7 zh zj (Zl.mk z2 z6)) zp zd), (Zq r27 .sh .sh)] ?_
             exact zr ((.p (.tup [(.agg (ZC r27 .sh .sh)), (.v (.bool true))])), [(Zk (Zm.mk zn r1.2 z7 zh zj (Zl.mk z2 z6)) zp zd), (Zq r27 .sh .sh)]) ⟨zd, _, zy, rfl⟩
         ·refine ze ?_
          refine zo (bv (r1.1 == 123)) ?_
          refine za ((r1.1 == 123)) ?_ ?_
          ·refine ze ?_
           refine zi fun r28 hr28 => ?_
           obtain ⟨qr28, er28, exr28, rfl⟩ := ZX (23) (zu) (zn) (r1.2) (z7) (zh) (zj) (z2) (z6) zp zd zy r28 hr28
           refine zc [0] (.p (.tup [])) [(Zk (Zm.mk zn r28.1 z7 zh zj (Zl.mk r28.2.1 r28.2.2)) zp zd), (Zq (Z3.mk 0 0 0 0 0 ([] : List Z8) ([] : List Z3)) .nl .nl)] er28 ?_
           exact zk (Z1m (zn) (r28.1) (z7) (zh) (zj) (r28.2.1) (r28.2.2) ((Z3.mk 0 0 0 0 0 ([] : List Z8) ([] : List Z3))) zp zd .nl .nl zy rfl rfl)
          ·refine ze ?_
           refine zo (bv (r1.1 == 93)) ?_
           refine za ((r1.1 == 93)) ?_ ?_
           ·refine za ((r1.1 == 93)) ?_ ?_
            ·refine ze ?_
             refine zi fun r29 hr29 => ?_
             obtain ⟨qr29, er29, exr29, rfl⟩ := ZX (20) (zu) (zn) (r1.2) (z7) (zh) (zj) (z2) (z6) zp zd zy r29 hr29
             refine zc [0] (.p (.tup [])) [(Zk (Zm.mk zn r29.1 z7 zh zj (Zl.mk r29.2.1 r29.2.2)) zp zd), (Zq (Z3.mk 0 0 0 0 0 ([] : List Z8) ([] : List Z3)) .nl .nl)] er29 ?_
             exact zk (Z1m (zn) (r29.1) (z7) (zh) (zj) (r29.2.1) (r29.2.2) ((Z3.mk 0 0 0 0 0 ([] : List Z8) ([] : List Z3))) zp zd .nl .nl zy rfl rfl)
            ·refine ze ?_
             refine zi fun r30 hr30 => ?_
             obtain ⟨qr30, er30, exr30, rfl⟩ := Z1x (r1.1) r30 hr30
             refine zc [] (.p (.agg (ZH r30))) [(Zk (Zm.mk zn r1.2 z7 zh zj (Zl.mk z2 z6)) zp zd), (Zq (Z3.mk 0 0 0 0 0 ([] : List Z8) ([] : List Z3)) .nl .nl)] er30 ?_
             refine zo (.p (.lst .ex (([r30] : List Z8).map Zz))) ?_
             refine zi fun r31 hr31 => ?_
             obtain ⟨qr31, er31, exr31, rfl⟩ := Z2X (false) (([r30] : List Z8)) .sh r31 hr31
             refine zc [] (.p (.agg (ZC r31 .sh .sh))) [(Zk (Zm.mk zn r1.2 z7 zh zj (Zl.mk z2 z6)) zp zd), (Zq (Z3.mk 0 0 0 0 0 ([] : List Z8) ([] : List Z3)) .nl .nl)] er31 ?_
             refine zt [(Zk (Zm.mk zn r1.2 z7 zh zj (Zl.mk z2 z6)) zp zd), (Zq r31 .sh .sh)] ?_
             exact zr ((.p (.tup [(.agg (ZC r31 .sh .sh)), (.v (.bool true))])), [(Zk (Zm.mk zn r1.2 z7 zh zj (Zl.mk z2 z6)) zp zd), (Zq r31 .sh .sh)]) ⟨zd, _, zy, rfl⟩
           ·refine ze ?_
            refine zo (bv (r1.1 == 125)) ?_
            refine za ((r1.1 == 125)) ?_ ?_
            ·refine ze ?_
             refine zi fun r32 hr32 => ?_
             obtain ⟨qr32, er32, exr32, rfl⟩ := ZX (20) (zu) (zn) (r1.2) (z7) (zh) (zj) (z2) (z6) zp zd zy r32 hr32
             refine zc [0] (.p (.tup [])) [(Zk (Zm.mk zn r32.1 z7 zh zj (Zl.mk r32.2.1 r32.2.2)) zp zd), (Zq (Z3.mk 0 0 0 0 0 ([] : List Z8) ([] : List Z3)) .nl .nl)] er32 ?_
             exact zk (Z1m (zn) (r32.1) (z7) (zh) (zj) (r32.2.1) (r32.2.2) ((Z3.mk 0 0 0 0 0 ([] : List Z8) ([] : List Z3))) zp zd .nl .nl zy rfl rfl)
            ·refine ze ?_
             refine zi fun r33 hr33 => ?_
             obtain ⟨qr33, er33, exr33, rfl⟩ := Z1x (r1.1) r33 hr33
             refine zc [] (.p (.agg (ZH r33))) [(Zk (Zm.mk zn r1.2 z7 zh zj (Zl.mk z2 z6)) zp zd), (Zq (Z3.mk 0 0 0 0 0 ([] : List Z8) ([] : List Z3)) .nl .nl)] er33 ?_
             refine zo (.p (.lst .ex (([r33] : List Z8).map Zz))) ?_
             refine zi fun r34 hr34 => ?_
             obtain ⟨qr34, er34, exr34, rfl⟩ := Z2X (false) (([r33] : List Z8)) .sh r34 hr34
             refine zc [] (.p (.agg (ZC r34 .sh .sh))) [(Zk (Zm.mk zn r1.2 z7 zh zj (Zl.mk z2 z6)) zp zd), (Zq (Z3.mk 0 0 0 0 0 ([] : List Z8) ([] : List Z3)) .nl .nl)] er34 ?_
             refine zt [(Zk (Zm.mk zn r1.2 z7 zh zj (Zl.mk z2 z6)) zp zd), (Zq r34 .sh .sh)] ?_
             exact zr ((.p (.tup [(.agg (ZC r34 .sh .sh)), (.v (.bool true))])), [(Zk (Zm.mk zn r1.2 z7 zh zj (Zl.mk z2 z6)) zp zd), (Zq r34 .sh .sh)]) ⟨zd, _, zy, rfl⟩
theorem ZbL (zn : List Int) (zu : Int) (z7 : Int) (zh : Int) (zj : List Zv) (z2 : Int) (z6 : Int) {r} (h : Z59 zn zu z7 zh zj z2 z6 = some r) : Z6d zn zu z7 zh zj z2 z6 = some r :=
 pick_of (fun _ _ ha hb => RRun.uniq (Zcg _ _) (ha .ex .ex rfl) (hb .ex .ex rfl)) (fun zp zd zy => Zbf zn zu z7 zh zj z2 z6 zp zd zy r h)
noncomputable def Z6e (zn : List Int) (zu : Int) : Option (Int × Int) :=
 (Z8r zn zu).bind fun r1 =>
 some (r1.1, (IntKind.i64.wrap (zu + r1.2)))
theorem Zbj (zn : List Int) (zu : Int) (z7 : Int) (zh : Int) (zj : List Zv) (z2 : Int) (z6 : Int) (zp : Own) (zd : Own) (zy : okApp zd = true) : Sim (Z5b zn z7 zh zj z2 z6 zp zd) (Z6e zn zu) (EE 46 [(.ptr 0 0)] [(Zk (Zm.mk zn zu z7 zh zj (Zl.mk z2 z6)) zp zd)]) := by
 unfold Z6e
 refine zf (Zkn ..) ?_
 refine ze ?_
 refine ze ?_
 refine zo (.ptr 0 0) ?_
 refine zo (.ptr 0 0) ?_
 refine zo (.p (.lst (shrO zp) (zn.map (eI .u8)))) ?_
 refine zo (.ptr 0 0) ?_
 refine zo (.ptr 0 1) ?_
 refine zo (iv zu) ?_
 refine zi fun r1 hr1 => ?_
 obtain ⟨qr1, er1, exr1, rfl⟩ := ZbP (zn) (zu) .sh r1 hr1
 refine zc [] (.p (.tup [(.v (.int .i64 r1.1)), (.v (.int .i64 r1.2))])) [(Zk (Zm.mk zn zu z7 zh zj (Zl.mk z2 z6)) zp zd)] er1 ?_
 refine zo (iv r1.1) ?_
 refine zo (iv r1.2) ?_
 refine ze ?_
 refine zo (.ptr 0 0) ?_
 refine zo (.ptr 0 1) ?_
 refine zo (iv zu) ?_
 refine zo (iv (IntKind.i64.wrap (zu + r1.2))) ?_
 refine zo (.ptr 0 0) ?_
 refine zo (.ptr 0 1) ?_
 refine zt [(Zk (Zm.mk zn (IntKind.i64.wrap (zu + r1.2)) z7 zh zj (Zl.mk z2 z6)) zp zd)] ?_
 refine ze ?_
 exact zr ((iv r1.1), [(Zk (Zm.mk zn (IntKind.i64.wrap (zu + r1.2)) z7 zh zj (Zl.mk z2 z6)) zp zd)]) ⟨_, rfl⟩
theorem ZbG (zn : List Int) (zu : Int) {r} (h : Z6e zn zu = some r) : Z2e zn zu = some r :=
 pick_of (fun _ _ ha hb => RRun.uniq (ZbZ _ _ _ _ _ _ _ _) (ha default default default default default .ex .ex rfl) (hb default default default default default .ex .ex rfl)) (fun z7 zh zj z2 z6 zp zd zy => Zbj zn zu z7 zh zj z2 z6 zp zd zy r h)
noncomputable def ZbI (x0 : Int) : Option (Z8) :=
 some ((Z8.mk x0 x0))
theorem Zek (x0 : Int) : Sim (Z8s) (ZbI x0) (EE 48 [(iv x0)] []) := by
 unfold ZbI
 refine zf (Zkk ..) ?_
 refine ze ?_
 refine zz (.ptr 0 0) [(Z1E (Z8.mk 0 0))] ?_
 refine ze ?_
 refine zo (.p (.agg (ZH (Z8.mk x0 x0)))) ?_
 refine zt [(Z1E (Z8.mk x0 x0))] ?_
 exact zr ((.p (.agg (ZH (Z8.mk x0 x0)))), [(Z1E (Z8.mk x0 x0))]) ⟨_, rfl⟩
theorem ZeN (x0 : Int) {r} (h : ZbI x0 = some r) : Z1C x0 = some r :=
 pick_of (fun _ _ ha hb => RRun.uniq (Zf5) (ha ) (hb )) (Zek x0 r h)
noncomputable def Z7W (x5 : List Z8) : Option (Z3) :=
 some ((Z3.mk 1 0 0 0 0 x5 ([] : List Z3)))
theorem Za9 (x5 : List Z8) (b0 : Z3) (ox5 : Own) (z1f : Own) (z14 : Own) (zji : okApp z1f = true) (ziJ : okApp z14 = true) : Sim (Z7d) (Z7W x5) (ZdY 0 (.ptr 0 0) (.p (.lst ox5 (x5.map Zz))) [(Zq b0 z1f z14)]) := by
 unfold Z7W
 refine zf (ZiH ..) ?_
 refine ze ?_
 refine zo (.p (.agg (ZC (Z3.mk 1 0 0 0 0 x5 ([] : List Z3)) (shrO (shrO ox5)) .nl))) ?_
 refine zt [(Zq (Z3.mk 1 0 0 0 0 x5 ([] : List Z3)) (shrO (shrO ox5)) .nl)] ?_
 exact zr ((.p (.agg (ZC (Z3.mk 1 0 0 0 0 x5 ([] : List Z3)) .sh .sh))), [(Zq (Z3.mk 1 0 0 0 0 x5 ([] : List Z3)) (shrO (shrO ox5)) .nl)]) ⟨_, rfl⟩
noncomputable def Z9U (x0 : Bool) (x1 : List Z8) : Option (Z3) :=
 (Z9p x1).bind fun r1 =>
 if (x0) = true then
 ((Z6u r1.1).bind fun r2 =>
 Z7W r2.1)
 else
 (Z7W r1.1)
theorem Zei (x0 : Bool) (x1 : List Z8) (ox1 : Own) : Sim (Z7d) (Z9U x0 x1) (EE 47 [(bv x0), (.p (.lst ox1 (x1.map Zz)))] []) := by
 unfold Z9U
 refine zf (Zkh ..) ?_
 refine ze ?_
 refine zz (.ptr 0 0) [(Zq (Z3.mk 0 0 0 0 0 ([] : List Z8) ([] : List Z3)) .nl .nl)] ?_
 refine ze ?_
 refine zi fun r1 hr1 => ?_
 obtain ⟨qr1, er1, exr1, rfl⟩ := Ze2 (x1) .sh r1 hr1
 refine zc [] (.p (.tup [(.lst .sh (r1.1.map Zz)), (.v (.int .i64 r1.2))])) [(Zq (Z3.mk 0 0 0 0 0 ([] : List Z8) ([] : List Z3)) .nl .nl)] er1 ?_
 refine zo (.p (.lst .sh (r1.1.map Zz))) ?_
 refine zo (iv r1.2) ?_
 refine ze ?_
 refine za (x0) ?_ ?_
 ·refine ze ?_
  refine zi fun r2 hr2 => ?_
  obtain ⟨qr2, er2, exr2, rfl⟩ := Za3 (r1.1) .sh r2 hr2
  refine zc [] (.p (.tup [(.lst .sh (r2.1.map Zz)), (.v (.int .i64 r2.2))])) [(Zq (Z3.mk 0 0 0 0 0 ([] : List Z8) ([] : List Z3)) .nl .nl)] er2 ?_
  refine zo (.p (.lst .sh (r2.1.map Zz))) ?_
  refine zo (iv r2.2) ?_
  exact zk (Za9 (r2.1) ((Z3.mk 0 0 0 0 0 ([] : List Z8) ([] : List Z3))) .sh .nl .nl rfl rfl)
 ·exact zk (Za9 (r1.1) ((Z3.mk 0 0 0 0 0 ([] : List Z8) ([] : List Z3))) .sh .nl .nl rfl rfl)
theorem ZeH (x0 : Bool) (x1 : List Z8) {r} (h : Z9U x0 x1 = some r) : Z2N x0 x1 = some r :=
 pick_of (fun _ _ ha hb => RRun.uniq (Zf8) (ha .ex) (hb .ex)) (fun ox1 => Zei x0 x1 ox1 r h)
noncomputable def Z7m (x0 : List Z8) : Option ((List Z8) × Int) :=
 (Z83 x0).bind fun r1 =>
 some (r1, 0)
theorem ZcR (x0 : List Z8) (ox0 : Own) : Sim (Z6U) (Z7m x0) (Zfe 0 (.p (.lst ox0 (x0.map Zz))) []) := by
 unfold Z7m
 refine zf (ZiQ ..) ?_
 refine ze ?_
 refine zi fun r1 hr1 => ?_
 obtain ⟨qr1, er1, exr1, rfl⟩ := Zaj (x0) .sh r1 hr1
 refine zc [] (.p (.lst .sh (r1.map Zz))) [] er1 ?_
 exact zr ((.p (.tup [(.lst .sh (r1.map Zz)), (.v (.int .i64 0))])), []) ⟨_, rfl⟩
noncomputable def Z9d (x0 : List Z8) : Option ((List Z8) × Int) :=
 (Z3t x0).bind fun r1 =>
 if (r1) = true then
 (some (([] : List Z8), 13))
 else
 (Z7m x0)
theorem ZdQ (x0 : List Z8) (ox0 : Own) : Sim (Z6U) (Z9d x0) (EE 54 [(.p (.lst ox0 (x0.map Zz)))] []) := by
 unfold Z9d
 refine zf (Zl2 ..) ?_
 refine ze ?_
 refine ze ?_
 refine zi fun r1 hr1 => ?_
 obtain ⟨qr1, er1, exr1, rfl⟩ := Z8l (x0) .sh r1 hr1
 refine zc [] (bv r1) [] er1 ?_
 refine za (r1) ?_ ?_
 ·refine ze ?_
  exact zr ((.p (.tup [(.lst .sh []), (.v (.int .i64 13))])), []) ⟨_, rfl⟩
 ·exact zk (ZcR (x0) ox0)
theorem Zeu (x0 : List Z8) {r} (h : Z9d x0 = some r) : Z9p x0 = some r :=
 pick_of (fun _ _ ha hb => RRun.uniq (ZeD) (ha .ex) (hb .ex)) (fun ox0 => ZdQ x0 ox0 r h)
noncomputable def Z3u (x0 : List Z8) : Option (Bool) :=
 (Z48 x0).bind fun r1 =>
 some ((decide (0 ≤ r1)))
theorem Z7U (x0 : List Z8) (ox0 : Own) : Sim (Z2T) (Z3u x0) (EE 65 [(.p (.lst ox0 (x0.map Zz))), (.clo 66 [] [])] []) := by
 unfold Z3u
 refine zf (Zkg ..) ?_
 refine ze ?_
 refine ze ?_
 refine zi fun r1 hr1 => ?_
 obtain ⟨qr1, er1, exr1, rfl⟩ := Z98 (x0) .sh r1 hr1
 refine zc [] (iv r1) [] er1 ?_
 refine zo (bv (decide (0 ≤ r1))) ?_
 exact zr ((bv (decide (0 ≤ r1))), []) ⟨_, rfl⟩
theorem Z8i (x0 : List Z8) {r} (h : Z3u x0 = some r) : Z3t x0 = some r :=
 pick_of (fun _ _ ha hb => RRun.uniq (Z8y) (ha .ex) (hb .ex)) (fun ox0 => Z7U x0 ox0 r h)
noncomputable def Z3W (x0 : List Z8) : Option (Int) :=
 Z2V x0 ((x0.length : Int)) 0
theorem Z8P (x0 : List Z8) (ox0 : Own) : Sim (Z1s) (Z3W x0) (EE 73 [(.p (.lst ox0 (x0.map Zz))), (.clo 66 [] [])] []) := by
 unfold Z3W
 refine zf (Zl6 ..) ?_
 refine ze ?_
 refine ze ?_
 refine zo (iv (x0.length : Int)) ?_ (Eq.trans (by kernel_rfl) (xlen_of (P := PP) (t := 23) (d := 39) (by kernel_rfl) Zz (shrO ox0) x0))
 exact zk (Z5O (x0) ((x0.length : Int)) (0) ox0)
theorem Z9a (x0 : List Z8) {r} (h : Z3W x0 = some r) : Z48 x0 = some r :=
 pick_of (fun _ _ ha hb => RRun.uniq (Z6l) (ha .ex) (hb .ex)) (fun ox0 => Z8P x0 ox0 r h)
noncomputable def Z3q (x0 : List Z8) (x7 : Int) (x8 : Int) : Option (Int) :=
 Z2V x0 x7 ((IntKind.i64.wrap (x8 + 1)))
theorem Z7M (x0 : List Z8) (x7 : Int) (x8 : Int) (ox0 : Own) : Sim (Z1s) (Z3q x0 x7 x8) (ZfF 0 (.p (.lst ox0 (x0.map Zz))) (.clo 66 [] []) (iv x7) (iv x8) []) := by
 unfold Z3q
 refine zf (Zje ..) ?_
 refine ze ?_
 refine zo (iv (IntKind.i64.wrap (x8 + 1))) ?_
 exact zk (Z5O (x0) (x7) ((IntKind.i64.wrap (x8 + 1))) ox0)
noncomputable def Z3s (x0 : List Z8) (x7 : Int) (x8 : Int) : Option (Int) :=
 (lget x0 x8).bind fun a1 =>
 (Z86 a1).bind fun r2 =>
 if (r2) = true then
 (some (x8))
 else
 (Z3q x0 x7 x8)
theorem Z85 (x0 : List Z8) (x7 : Int) (x8 : Int) (ox0 : Own) : Sim (Z1s) (Z3s x0 x7 x8) (Zfi 0 (.p (.lst ox0 (x0.map Zz))) (.clo 66 [] []) (iv x7) (iv x8) []) := by
 unfold Z3s
 refine zf (ZiG ..) ?_
 refine ze ?_
 refine ze ?_
 refine zi fun a1 ha1 => ?_
 refine zo (.cptr (ZH a1)) ?_ (Eq.trans (by kernel_rfl) (xidx_of (o := (shrO ox0)) (k := .i64) (n := 2) (e := Zz) (cs := Z5c) (fun _ => rfl) (fun _ => rfl) (by decide) ha1))
 refine zo (.p (.agg (ZH a1))) ?_
 refine zi fun r2 hr2 => ?_
 obtain ⟨qr2, er2, exr2, rfl⟩ := Zdx (a1) r2 hr2
 refine zv [] (bv r2) [] er2 ?_
 refine za (r2) ?_ ?_
 ·refine ze ?_
  exact zr ((iv x8), []) ⟨_, rfl⟩
 ·exact zk (Z7M (x0) (x7) (x8) ox0)
noncomputable def Z4M  : Option (Int) :=
 some ((-1))
theorem Z7L  : Sim (Z1s) (Z4M) (ZfL 0  []) := by
 unfold Z4M
 refine zf (Zja ..) ?_
 refine ze ?_
 exact zr ((iv (-1)), []) ⟨_, rfl⟩
noncomputable def Z2U (x0 : List Z8) (x7 : Int) (x8 : Int) : Option (Int) :=
 if ((decide (x8 < x7))) = true then
 (Z3s x0 x7 x8)
 else
 (Z4M)
theorem Z88 (x0 : List Z8) (x7 : Int) (x8 : Int) (ox0 : Own) : Sim (Z1s) (Z2U x0 x7 x8) (Zc1 0 (.p (.lst ox0 (x0.map Zz))) (.clo 66 [] []) (iv x7) (iv x8) []) := by
 unfold Z2U
 refine zf (ZhI ..) ?_
 refine ze ?_
 refine zo (bv (decide (x8 < x7))) ?_
 refine za ((decide (x8 < x7))) ?_ ?_
 ·exact zk (Z85 (x0) (x7) (x8) ox0)
 ·exact zk (Z7L )
theorem Z5I (x0 : List Z8) (x7 : Int) (x8 : Int) {r} (h : Z2U x0 x7 x8 = some r) : Z2V x0 x7 x8 = some r :=
 pick_of (fun _ _ ha hb => RRun.uniq (Z6l) (ha .ex) (hb .ex)) (fun ox0 => Z88 x0 x7 x8 ox0 r h)
noncomputable def Z87 (x0 : Z8) : Option (Bool) :=
 (Z5a x0).bind fun r1 =>
 some ((!r1))
theorem Zd1 (x0 : Z8) : Sim (Z6X) (Z87 x0) (EE 66 [(.p (.agg (ZH x0)))] []) := by
 unfold Z87
 refine zf (Zkr ..) ?_
 refine ze ?_
 refine zx (.ptr 0 0) [(Z1E x0)] ?_
 refine ze ?_
 refine zo (.p (.agg (ZH x0))) ?_
 refine zi fun r1 hr1 => ?_
 obtain ⟨qr1, er1, exr1, rfl⟩ := Z8p (x0) r1 hr1
 refine zc [] (bv r1) [(Z1E x0)] er1 ?_
 refine zo (bv (!r1)) ?_
 exact zr ((bv (!r1)), [(Z1E x0)]) ⟨_, rfl⟩
theorem Zdz (x0 : Z8) {r} (h : Z87 x0 = some r) : Z86 x0 = some r :=
 pick_of (fun _ _ ha hb => RRun.uniq (ZdT) (ha ) (hb )) (Zd1 x0 r h)
noncomputable def Z6f (x0 : Z8) : Option (Bool) :=
 if ((decide (0 ≤ x0.Lo))) = true then
 (if ((decide (x0.Lo ≤ x0.Hi))) = true then
 (some ((decide (x0.Hi ≤ 1114367))))
 else
 (some (false)))
 else
 (some (false))
theorem Zbk (x0 : Z8) : Sim (Z57) (Z6f x0) (EE 67 [(.p (.agg (ZH x0)))] []) := by
 unfold Z6f
 refine zf (Zkc ..) ?_
 refine ze ?_
 refine zx (.ptr 0 0) [(Z1E x0)] ?_
 refine ze ?_
 refine zo (.ptr 0 0) ?_
 refine zo (iv x0.Lo) ?_
 refine zo (bv (decide (0 ≤ x0.Lo))) ?_
 refine za ((decide (0 ≤ x0.Lo))) ?_ ?_
 ·refine zo (.ptr 0 0) ?_
  refine zo (iv x0.Lo) ?_
  refine zo (.ptr 0 1) ?_
  refine zo (iv x0.Hi) ?_
  refine zo (bv (decide (x0.Lo ≤ x0.Hi))) ?_
  refine za ((decide (x0.Lo ≤ x0.Hi))) ?_ ?_
  ·refine zo (.ptr 0 1) ?_
   refine zo (iv x0.Hi) ?_
   refine zo (bv (decide (x0.Hi ≤ 1114367))) ?_
   exact zr ((bv (decide (x0.Hi ≤ 1114367))), [(Z1E x0)]) ⟨_, rfl⟩
  ·exact zr ((bv false), [(Z1E x0)]) ⟨_, rfl⟩
 ·exact zr ((bv false), [(Z1E x0)]) ⟨_, rfl⟩
theorem ZbE (x0 : Z8) {r} (h : Z6f x0 = some r) : Z5a x0 = some r :=
 pick_of (fun _ _ ha hb => RRun.uniq (Zcq) (ha ) (hb )) (Zbk x0 r h)
noncomputable def Z6o (x0 : List Z8) : Option ((List Z8) × Int) :=
 (Z7f x0).bind fun r1 =>
 some (r1, 0)
theorem ZbC (x0 : List Z8) (ox0 : Own) : Sim (Z5G) (Z6o x0) (ZgA 0 (.p (.lst ox0 (x0.map Zz))) []) := by
 unfold Z6o
 refine zf (Zix ..) ?_
 refine ze ?_
 refine zi fun r1 hr1 => ?_
 obtain ⟨qr1, er1, exr1, rfl⟩ := Zd0 (x0) .sh r1 hr1
 refine zc [] (.p (.lst .sh (r1.map Zz))) [] er1 ?_
 exact zr ((.p (.tup [(.lst .sh (r1.map Zz)), (.v (.int .i64 0))])), []) ⟨_, rfl⟩
noncomputable def Z7n (x0 : List Z8) : Option ((List Z8) × Int) :=
 (Z4G x0).bind fun r1 =>
 if ((!r1)) = true then
 (some (([] : List Z8), 10))
 else
 (Z6o x0)
theorem ZcM (x0 : List Z8) (ox0 : Own) : Sim (Z5G) (Z7n x0) (EE 55 [(.p (.lst ox0 (x0.map Zz)))] []) := by
 unfold Z7n
 refine zf (ZjV ..) ?_
 refine ze ?_
 refine ze ?_
 refine zi fun r1 hr1 => ?_
 obtain ⟨qr1, er1, exr1, rfl⟩ := Z6V (x0) .sh r1 hr1
 refine zc [] (bv r1) [] er1 ?_
 refine zo (bv (!r1)) ?_
 refine za ((!r1)) ?_ ?_
 ·refine ze ?_
  exact zr ((.p (.tup [(.lst .sh []), (.v (.int .i64 10))])), []) ⟨_, rfl⟩
 ·exact zk (ZbC (x0) ox0)
theorem Zdb (x0 : List Z8) {r} (h : Z7n x0 = some r) : Z6u x0 = some r :=
 pick_of (fun _ _ ha hb => RRun.uniq (ZdB) (ha .ex) (hb .ex)) (fun ox0 => ZcM x0 ox0 r h)
noncomputable def Z6m (x0 : List Z8) : Option (Bool) :=
 Z4z ((-2)) x0 ((x0.length : Int)) 0
theorem ZbJ (x0 : List Z8) (ox0 : Own) : Sim (Z1X) (Z6m x0) (EE 69 [(.p (.lst ox0 (x0.map Zz)))] []) := by
 unfold Z6m
 refine zf (Zkd ..) ?_
 refine ze ?_
 refine ze ?_
 refine ze ?_
 refine zo (iv (x0.length : Int)) ?_ (Eq.trans (by kernel_rfl) (xlen_of (P := PP) (t := 24) (d := 39) (by kernel_rfl) Zz (shrO ox0) x0))
 exact zk (Z7t ((-2)) (x0) ((x0.length : Int)) (0) (shrO ox0))
theorem Zc7 (x0 : List Z8) {r} (h : Z6m x0 = some r) : Z4G x0 = some r :=
 pick_of (fun _ _ ha hb => RRun.uniq (Z9k) (ha .ex) (hb .ex)) (fun ox0 => ZbJ x0 ox0 r h)
noncomputable def Z5B  : Option (Bool) :=
 some (false)
theorem Z7e  : Sim (Z1X) (Z5B) (Zej 0  []) := by
 unfold Z5B
 refine zf (ZhW ..) ?_
 refine ze ?_
 exact zr ((bv false), []) ⟨_, rfl⟩
noncomputable def Z5F (x3 : Int) (x6 : List Z8) (x7 : Int) (x8 : Int) : Option (Bool) :=
 Z4z x3 x6 x7 ((IntKind.i64.wrap (x8 + 1)))
theorem Zaw (x3 : Int) (x6 : List Z8) (x7 : Int) (x8 : Int) (ox6 : Own) : Sim (Z1X) (Z5F x3 x6 x7 x8) (ZfA 0 (iv x3) (.p (.lst ox6 (x6.map Zz))) (iv x7) (iv x8) []) := by
 unfold Z5F
 refine zf (Ziy ..) ?_
 refine ze ?_
 refine zo (iv (IntKind.i64.wrap (x8 + 1))) ?_
 exact zk (Z7t (x3) (x6) (x7) ((IntKind.i64.wrap (x8 + 1))) ox6)
noncomputable def Z5E (x6 : List Z8) (x7 : Int) (x8 : Int) (b0 : Z8) : Option (Bool) :=
 Z5F b0.Hi x6 x7 x8
theorem Zat (x6 : List Z8) (x7 : Int) (x8 : Int) (b0 : Z8) (ox6 : Own) : Sim (Z1X) (Z5E x6 x7 x8 b0) (Zga 0 (.ptr 0 0) (.p (.lst ox6 (x6.map Zz))) (iv x7) (iv x8) [(Z1E b0)]) := by
 unfold Z5E
 refine zf (Zid ..) ?_
 refine ze ?_
 refine zo (.ptr 0 1) ?_
 refine zo (iv b0.Hi) ?_
 exact zk (Zaw (b0.Hi) (x6) (x7) (x8) ox6)
noncomputable def Z5D (x3 : Int) (x6 : List Z8) (x7 : Int) (x8 : Int) : Option (Bool) :=
 (lget x6 x8).bind fun a1 =>
 (Z5a a1).bind fun r2 =>
 if ((!r2)) = true then
 (Z5B)
 else
 (if ((decide (a1.Lo < (IntKind.i64.wrap (x3 + 2))))) = true then
 (Z5B)
 else
 (Z5E x6 x7 x8 a1))
theorem Zar (x3 : Int) (x6 : List Z8) (x7 : Int) (x8 : Int) (ox6 : Own) : Sim (Z1X) (Z5D x3 x6 x7 x8) (Zfm 0 (iv x3) (.p (.lst ox6 (x6.map Zz))) (iv x7) (iv x8) []) := by
 unfold Z5D
 refine zf (ZhS ..) ?_
 refine ze ?_
 refine zi fun a1 ha1 => ?_
 refine zo (.cptr (ZH a1)) ?_ (Eq.trans (by kernel_rfl) (xidx_of (o := ox6) (k := .i64) (n := 2) (e := Zz) (cs := Z5c) (fun _ => rfl) (fun _ => rfl) (by decide) ha1))
 refine zo (.p (.agg (ZH a1))) ?_
 refine zz (.ptr 0 0) [(Z1E (Z8.mk 0 0))] ?_
 refine zt [(Z1E a1)] ?_
 refine ze ?_
 refine zo (.p (.agg (ZH a1))) ?_
 refine zi fun r2 hr2 => ?_
 obtain ⟨qr2, er2, exr2, rfl⟩ := Z8p (a1) r2 hr2
 refine zc [] (bv r2) [(Z1E a1)] er2 ?_
 refine zo (bv (!r2)) ?_
 refine za ((!r2)) ?_ ?_
 ·exact zk (Z7e )
 ·refine zo (.ptr 0 0) ?_
  refine zo (iv a1.Lo) ?_
  refine zo (iv (IntKind.i64.wrap (x3 + 2))) ?_
  refine zo (bv (decide (a1.Lo < (IntKind.i64.wrap (x3 + 2))))) ?_
  refine za ((decide (a1.Lo < (IntKind.i64.wrap (x3 + 2))))) ?_ ?_
  ·exact zk (Z7e )
  ·exact zk (Zat (x6) (x7) (x8) (a1) ox6)
noncomputable def Z6L  : Option (Bool) :=
 some (true)
theorem Zao  : Sim (Z1X) (Z6L) (ZfB 0  []) := by
 unfold Z6L
 refine zf (ZiY ..) ?_
 refine ze ?_
 exact zr ((bv true), []) ⟨_, rfl⟩
noncomputable def Z4E (x3 : Int) (x6 : List Z8) (x7 : Int) (x8 : Int) : Option (Bool) :=
 if ((decide (x8 < x7))) = true then
 (Z5D x3 x6 x7 x8)
 else
 (Z6L)
theorem Zaq (x3 : Int) (x6 : List Z8) (x7 : Int) (x8 : Int) (ox6 : Own) : Sim (Z1X) (Z4E x3 x6 x7 x8) (Zch 0 (iv x3) (.p (.lst ox6 (x6.map Zz))) (iv x7) (iv x8) []) := by
 unfold Z4E
 refine zf (Zik ..) ?_
 refine ze ?_
 refine zo (bv (decide (x8 < x7))) ?_
 refine za ((decide (x8 < x7))) ?_ ?_
 ·exact zk (Zar (x3) (x6) (x7) (x8) ox6)
 ·exact zk (Zao )
theorem Z7I (x3 : Int) (x6 : List Z8) (x7 : Int) (x8 : Int) {r} (h : Z4E x3 x6 x7 x8 = some r) : Z4z x3 x6 x7 x8 = some r :=
 pick_of (fun _ _ ha hb => RRun.uniq (Z9k) (ha .ex) (hb .ex)) (fun ox6 => Zaq x3 x6 x7 x8 ox6 r h)
noncomputable def Z7o (x0 : List Z8) : Option ((List Z8)) :=
 Z5v (([] : List Z8)) 0 x0 ((x0.length : Int)) 0
theorem ZcQ (x0 : List Z8) (ox0 : Own) : Sim (Z2q) (Z7o x0) (EE 70 [(.p (.lst ox0 (x0.map Zz)))] []) := by
 unfold Z7o
 refine zf (Zl5 ..) ?_
 refine ze ?_
 refine ze ?_
 refine ze ?_
 refine ze ?_
 refine zo (iv (x0.length : Int)) ?_ (Eq.trans (by kernel_rfl) (xlen_of (P := PP) (t := 24) (d := 39) (by kernel_rfl) Zz (shrO ox0) x0))
 exact zk (Z8Y (([] : List Z8)) (0) (x0) ((x0.length : Int)) (0) .nl (shrO ox0) rfl)
theorem Zdc (x0 : List Z8) {r} (h : Z7o x0 = some r) : Z7f x0 = some r :=
 pick_of (fun _ _ ha hb => RRun.uniq (Zam) (ha .ex) (hb .ex)) (fun ox0 => ZcQ x0 ox0 r h)
noncomputable def Z6r (x3 : List Z8) (x4 : Int) (x7 : List Z8) (x8 : Int) (x9 : Int) : Option ((List Z8)) :=
 Z5v x3 x4 x7 x8 ((IntKind.i64.wrap (x9 + 1)))
theorem Zbz (x3 : List Z8) (x4 : Int) (x7 : List Z8) (x8 : Int) (x9 : Int) (ox3 : Own) (ox7 : Own) (hox3 : okApp ox3 = true) : Sim (Z2q) (Z6r x3 x4 x7 x8 x9) (ZfR 0 (.p (.lst ox3 (x3.map Zz))) (iv x4) (.p (.lst ox7 (x7.map Zz))) (iv x8) (iv x9) []) := by
 unfold Z6r
 refine zf (Zjf ..) ?_
 refine ze ?_
 refine zo (iv (IntKind.i64.wrap (x9 + 1))) ?_
 exact zk (Z8Y (x3) (x4) (x7) (x8) ((IntKind.i64.wrap (x9 + 1))) ox3 ox7 hox3)
noncomputable def Z4x (x3 : List Z8) (x7 : List Z8) (x8 : Int) (x9 : Int) (b0 : Z8) : Option ((List Z8)) :=
 Z6r x3 ((IntKind.i64.wrap (b0.Hi + 1))) x7 x8 x9
theorem Z8o (x3 : List Z8) (x7 : List Z8) (x8 : Int) (x9 : Int) (b0 : Z8) (ox3 : Own) (ox7 : Own) (hox3 : okApp ox3 = true) : Sim (Z2q) (Z4x x3 x7 x8 x9 b0) (Zep 0 (.p (.lst ox3 (x3.map Zz))) (.ptr 0 0) (.p (.lst ox7 (x7.map Zz))) (iv x8) (iv x9) [(Z1E b0)]) := by
 unfold Z4x
 refine zf (Zj0 ..) ?_
 refine ze ?_
 refine zo (.ptr 0 1) ?_
 refine zo (iv b0.Hi) ?_
 refine zo (iv (IntKind.i64.wrap (b0.Hi + 1))) ?_
 exact zk (Zbz (x3) ((IntKind.i64.wrap (b0.Hi + 1))) (x7) (x8) (x9) ox3 ox7 hox3)
noncomputable def Z6s (x3 : List Z8) (x4 : Int) (x7 : List Z8) (x8 : Int) (x9 : Int) : Option ((List Z8)) :=
 (lget x7 x9).bind fun a1 =>
 if ((decide (x4 < a1.Lo))) = true then
 ((lapp x3 ([(Z8.mk x4 (IntKind.i64.wrap (a1.Lo - 1)))] : List Z8)).bind fun a2 =>
 Z4x a2 x7 x8 x9 a1)
 else
 (Z4x x3 x7 x8 x9 a1)
theorem ZbF (x3 : List Z8) (x4 : Int) (x7 : List Z8) (x8 : Int) (x9 : Int) (ox3 : Own) (ox7 : Own) (hox3 : okApp ox3 = true) : Sim (Z2q) (Z6s x3 x4 x7 x8 x9) (ZfQ 0 (.p (.lst ox3 (x3.map Zz))) (iv x4) (.p (.lst ox7 (x7.map Zz))) (iv x8) (iv x9) []) := by
 unfold Z6s
 refine zf (Zij ..) ?_
 refine ze ?_
 refine zi fun a1 ha1 => ?_
 refine zo (.cptr (ZH a1)) ?_ (Eq.trans (by kernel_rfl) (xidx_of (o := ox7) (k := .i64) (n := 2) (e := Zz) (cs := Z5c) (fun _ => rfl) (fun _ => rfl) (by decide) ha1))
 refine zo (.p (.agg (ZH a1))) ?_
 refine zz (.ptr 0 0) [(Z1E (Z8.mk 0 0))] ?_
 refine zt [(Z1E a1)] ?_
 refine ze ?_
 refine zo (.ptr 0 0) ?_
 refine zo (iv a1.Lo) ?_
 refine zo (bv (decide (x4 < a1.Lo))) ?_
 refine za ((decide (x4 < a1.Lo))) ?_ ?_
 ·refine ze ?_
  refine zo (.ptr 0 0) ?_
  refine zo (iv a1.Lo) ?_
  refine zo (iv (IntKind.i64.wrap (a1.Lo - 1))) ?_
  refine zo (.p (.agg (ZH (Z8.mk x4 (IntKind.i64.wrap (a1.Lo - 1)))))) ?_
  refine zo (.p (.lst .ex (([(Z8.mk x4 (IntKind.i64.wrap (a1.Lo - 1)))] : List Z8).map Zz))) ?_
  refine zi fun a2 ha2 => ?_
  refine zo (.p (.lst .un (a2.map Zz))) ?_ (Eq.trans (by kernel_rfl) <| xapp_of (n := 2) (o := ox3) (o' := .ex) (e := Zz) (ys := ([(Z8.mk x4 (IntKind.i64.wrap (a1.Lo - 1)))] : List Z8)) (fun _ => rfl) (by decide) hox3 ha2)
  exact zk (Z8o (a2) (x7) (x8) (x9) (a1) .un ox7 rfl)
 ·exact zk (Z8o (x3) (x7) (x8) (x9) (a1) ox3 ox7 hox3)
noncomputable def Z4l (x3 : List Z8) : Option ((List Z8)) :=
 some (x3)
theorem Z8a (x3 : List Z8) (ox3 : Own) (hox3 : okApp ox3 = true) : Sim (Z2q) (Z4l x3) (Zdn 0 (.p (.lst ox3 (x3.map Zz))) []) := by
 unfold Z4l
 refine zf (Zhm ..) ?_
 refine ze ?_
 exact zr ((.p (.lst .sh (x3.map Zz))), []) ⟨_, rfl⟩
noncomputable def Z69 (x3 : List Z8) (x4 : Int) : Option ((List Z8)) :=
 if ((decide (x4 ≤ 1114367))) = true then
 ((lapp x3 ([(Z8.mk x4 1114367)] : List Z8)).bind fun a1 =>
 Z4l a1)
 else
 (Z4l x3)
theorem Zba (x3 : List Z8) (x4 : Int) (ox3 : Own) (hox3 : okApp ox3 = true) : Sim (Z2q) (Z69 x3 x4) (ZeO 0 (.p (.lst ox3 (x3.map Zz))) (iv x4) []) := by
 unfold Z69
 refine zf (Zhd ..) ?_
 refine ze ?_
 refine zo (bv (decide (x4 ≤ 1114367))) ?_
 refine za ((decide (x4 ≤ 1114367))) ?_ ?_
 ·refine ze ?_
  refine zo (.p (.agg (ZH (Z8.mk x4 1114367)))) ?_
  refine zo (.p (.lst .ex (([(Z8.mk x4 1114367)] : List Z8).map Zz))) ?_
  refine zi fun a1 ha1 => ?_
  refine zo (.p (.lst .un (a1.map Zz))) ?_ (Eq.trans (by kernel_rfl) <| xapp_of (n := 2) (o := ox3) (o' := .ex) (e := Zz) (ys := ([(Z8.mk x4 1114367)] : List Z8)) (fun _ => rfl) (by decide) hox3 ha1)
  exact zk (Z8a (a1) .un rfl)
 ·exact zk (Z8a (x3) ox3 hox3)
noncomputable def Z5t (x3 : List Z8) (x4 : Int) (x7 : List Z8) (x8 : Int) (x9 : Int) : Option ((List Z8)) :=
 if ((decide (x9 < x8))) = true then
 (Z6s x3 x4 x7 x8 x9)
 else
 (Z69 x3 x4)
theorem ZbB (x3 : List Z8) (x4 : Int) (x7 : List Z8) (x8 : Int) (x9 : Int) (ox3 : Own) (ox7 : Own) (hox3 : okApp ox3 = true) : Sim (Z2q) (Z5t x3 x4 x7 x8 x9) (Zcl 0 (.p (.lst ox3 (x3.map Zz))) (iv x4) (.p (.lst ox7 (x7.map Zz))) (iv x8) (iv x9) []) := by
 unfold Z5t
 refine zf (ZiB ..) ?_
 refine ze ?_
 refine zo (bv (decide (x9 < x8))) ?_
 refine za ((decide (x9 < x8))) ?_ ?_
 ·exact zk (ZbF (x3) (x4) (x7) (x8) (x9) ox3 ox7 hox3)
 ·exact zk (Zba (x3) (x4) ox3 hox3)
theorem Z8W (x3 : List Z8) (x4 : Int) (x7 : List Z8) (x8 : Int) (x9 : Int) {r} (h : Z5t x3 x4 x7 x8 x9 = some r) : Z5v x3 x4 x7 x8 x9 = some r :=
 pick_of (fun _ _ ha hb => RRun.uniq (Zam) (ha .ex .ex rfl) (hb .ex .ex rfl)) (fun ox3 ox7 hox3 => ZbB x3 x4 x7 x8 x9 ox3 ox7 hox3 r h)
noncomputable def Z3y (x1 : Int) (x5 : Int) (zu : Int) (zj : List Zv) (z2 : Int) (z6 : Int) : Option (Z3 × Int × (List Zv) × Int × Int) :=
 (lapp zj ([(Zv.mk (IntKind.i64.wrap (x5 - 48)) x1)] : List Zv)).bind fun a1 =>
 some ((Z3.mk 6 0 0 0 (IntKind.i64.wrap (x5 - 48)) ([] : List Z8) ([] : List Z3)), zu, a1, z2, z6)
theorem Z9r (x1 : Int) (x5 : Int) (zn : List Int) (zu : Int) (z7 : Int) (zh : Int) (zj : List Zv) (z2 : Int) (z6 : Int) (b1 : Z3) (zp : Own) (zd : Own) (zD : Own) (zB : Own) (zy : okApp zd = true) (zR : okApp zD = true) (zL : okApp zB = true) : Sim (Z2M zn z7 zh zp) (Z3y x1 x5 zu zj z2 z6) (ZeP 1 (.ptr 0 0) (iv x1) (.ptr 1 0) (iv x5) [(Zk (Zm.mk zn zu z7 zh zj (Zl.mk z2 z6)) zp zd), (Zq b1 zD zB)]) := by
 unfold Z3y
 refine zf (Zh9 ..) ?_
 refine ze ?_
 refine zo (.ptr 0 0) ?_
 refine zo (.ptr 0 4) ?_
 refine zw (.p (.lst zd (zj.map Z1G))) [(Zk (Zm.mk zn zu z7 zh zj (Zl.mk z2 z6)) zp (shrO zd)), (Zq b1 zD zB)] ?_
 refine zo (iv (IntKind.i64.wrap (x5 - 48))) ?_
 refine zo (.p (.agg (Z8S (Zv.mk (IntKind.i64.wrap (x5 - 48)) x1)))) ?_
 refine zo (.p (.lst .ex (([(Zv.mk (IntKind.i64.wrap (x5 - 48)) x1)] : List Zv).map Z1G))) ?_
 refine zi fun a1 ha1 => ?_
 refine zo (.p (.lst .un (a1.map Z1G))) ?_ (Eq.trans (by kernel_rfl) <| xapp_of (n := 2) (o := zd) (o' := .ex) (e := Z1G) (ys := ([(Zv.mk (IntKind.i64.wrap (x5 - 48)) x1)] : List Zv)) (fun _ => rfl) (by decide) zy ha1)
 refine zo (.ptr 0 0) ?_
 refine zo (.ptr 0 4) ?_
 refine zt [(Zk (Zm.mk zn zu z7 zh a1 (Zl.mk z2 z6)) zp .un), (Zq b1 zD zB)] ?_
 refine ze ?_
 refine zo (iv (IntKind.i64.wrap (x5 - 48))) ?_
 refine zo (.p (.agg (ZC (Z3.mk 6 0 0 0 (IntKind.i64.wrap (x5 - 48)) ([] : List Z8) ([] : List Z3)) .nl .nl))) ?_
 refine zt [(Zk (Zm.mk zn zu z7 zh a1 (Zl.mk z2 z6)) zp .un), (Zq (Z3.mk 6 0 0 0 (IntKind.i64.wrap (x5 - 48)) ([] : List Z8) ([] : List Z3)) .nl .nl)] ?_
 exact zr ((.p (.agg (ZC (Z3.mk 6 0 0 0 (IntKind.i64.wrap (x5 - 48)) ([] : List Z8) ([] : List Z3)) .sh .sh))), [(Zk (Zm.mk zn zu z7 zh a1 (Zl.mk z2 z6)) zp .un), (Zq (Z3.mk 6 0 0 0 (IntKind.i64.wrap (x5 - 48)) ([] : List Z8) ([] : List Z3)) .nl .nl)]) ⟨.un, _, rfl, rfl⟩
noncomputable def Z2h (x1 : Int) (x5 : Int) (zn : List Int) (zu : Int) (z7 : Int) (zh : Int) (zj : List Zv) (z2 : Int) (z6 : Int) : Option (Z3 × Int × (List Zv) × Int × Int) :=
 (Z4Z x5 x1 zn zu z7 zh zj z2 z6).bind fun r1 =>
 (Z1C r1.1).bind fun r2 =>
 (Z2N false (([r2] : List Z8))).bind fun r3 =>
 some (r3, r1.2.1, zj, r1.2.2.1, r1.2.2.2)
theorem Z6B (x1 : Int) (x5 : Int) (zn : List Int) (zu : Int) (z7 : Int) (zh : Int) (zj : List Zv) (z2 : Int) (z6 : Int) (b1 : Z3) (zp : Own) (zd : Own) (zD : Own) (zB : Own) (zy : okApp zd = true) (zR : okApp zD = true) (zL : okApp zB = true) : Sim (Z2M zn z7 zh zp) (Z2h x1 x5 zn zu z7 zh zj z2 z6) (Zdu 1 (.ptr 0 0) (iv x1) (.ptr 1 0) (iv x5) [(Zk (Zm.mk zn zu z7 zh zj (Zl.mk z2 z6)) zp zd), (Zq b1 zD zB)]) := by
 unfold Z2h
 refine zf (Zhk ..) ?_
 refine ze ?_
 refine zi fun r1 hr1 => ?_
 obtain ⟨qr1, er1, exr1, rfl⟩ := Z89 (x5) (x1) (zn) (zu) (z7) (zh) (zj) (z2) (z6) zp zd zy r1 hr1
 refine zc [0] (iv r1.1) [(Zk (Zm.mk zn r1.2.1 z7 zh zj (Zl.mk r1.2.2.1 r1.2.2.2)) zp zd), (Zq b1 zD zB)] er1 ?_
 refine zi fun r2 hr2 => ?_
 obtain ⟨qr2, er2, exr2, rfl⟩ := Z1x (r1.1) r2 hr2
 refine zc [] (.p (.agg (ZH r2))) [(Zk (Zm.mk zn r1.2.1 z7 zh zj (Zl.mk r1.2.2.1 r1.2.2.2)) zp zd), (Zq b1 zD zB)] er2 ?_
 refine zo (.p (.lst .ex (([r2] : List Z8).map Zz))) ?_
 refine zi fun r3 hr3 => ?_
 obtain ⟨qr3, er3, exr3, rfl⟩ := Z2X (false) (([r2] : List Z8)) .sh r3 hr3
 refine zc [] (.p (.agg (ZC r3 .sh .sh))) [(Zk (Zm.mk zn r1.2.1 z7 zh zj (Zl.mk r1.2.2.1 r1.2.2.2)) zp zd), (Zq b1 zD zB)] er3 ?_
 refine zt [(Zk (Zm.mk zn r1.2.1 z7 zh zj (Zl.mk r1.2.2.1 r1.2.2.2)) zp zd), (Zq r3 .sh .sh)] ?_
 exact zr ((.p (.agg (ZC r3 .sh .sh))), [(Zk (Zm.mk zn r1.2.1 z7 zh zj (Zl.mk r1.2.2.1 r1.2.2.2)) zp zd), (Zq r3 .sh .sh)]) ⟨zd, _, zy, rfl⟩
noncomputable def Z2m (x1 : Int) (x5 : Int) (zn : List Int) (zu : Int) (z7 : Int) (zh : Int) (zj : List Zv) (z2 : Int) (z6 : Int) : Option (Z3 × Int × (List Zv) × Int × Int) :=
 (Z2e zn zu).bind fun r1 =>
 (Z50 x5).bind fun r2 =>
 (nilO r2.1 r2.2).bind fun a3 =>
 if ((!a3)) = true then
 ((Z50 x5).bind fun r4 =>
 (Z2N ((decide (x5 < 97))) r4.2).bind fun r5 =>
 some (r5, r1.2, zj, z2, z6))
 else
 (if ((x5 == 98)) = true then
 (some ((Z3.mk 9 0 0 0 2 ([] : List Z8) ([] : List Z3)), r1.2, zj, z2, z6))
 else
 (if ((x5 == 66)) = true then
 (some ((Z3.mk 9 0 0 0 3 ([] : List Z8) ([] : List Z3)), r1.2, zj, z2, z6))
 else
 (if ((decide (49 ≤ x5))) = true then
 (if ((decide (x5 ≤ 57))) = true then
 (Z3y x1 x5 r1.2 zj z2 z6)
 else
 (Z2h x1 x5 zn r1.2 z7 zh zj z2 z6))
 else
 (Z2h x1 x5 zn r1.2 z7 zh zj z2 z6))))
theorem Z9J (x1 : Int) (x5 : Int) (zn : List Int) (zu : Int) (z7 : Int) (zh : Int) (zj : List Zv) (z2 : Int) (z6 : Int) (b1 : Z3) (zp : Own) (zd : Own) (zD : Own) (zB : Own) (zy : okApp zd = true) (zR : okApp zD = true) (zL : okApp zB = true) : Sim (Z2M zn z7 zh zp) (Z2m x1 x5 zn zu z7 zh zj z2 z6) (Zgd 1 (.ptr 0 0) (iv x1) (.ptr 1 0) (iv x5) [(Zk (Zm.mk zn zu z7 zh zj (Zl.mk z2 z6)) zp zd), (Zq b1 zD zB)]) := by
 unfold Z2m
 refine zf (Zia ..) ?_
 refine ze ?_
 refine zi fun r1 hr1 => ?_
 obtain ⟨qr1, er1, exr1, rfl⟩ := Z2A (zn) (zu) (z7) (zh) (zj) (z2) (z6) zp zd zy r1 hr1
 refine zc [0] (iv r1.1) [(Zk (Zm.mk zn r1.2 z7 zh zj (Zl.mk z2 z6)) zp zd), (Zq b1 zD zB)] er1 ?_
 refine ze ?_
 refine zi fun r2 hr2 => ?_
 obtain ⟨qr2, er2, exr2, rfl⟩ := Z70 (x5) r2 hr2
 refine zc [] (.p (.lst r2.1 (r2.2.map Zz))) [(Zk (Zm.mk zn r1.2 z7 zh zj (Zl.mk z2 z6)) zp zd), (Zq b1 zD zB)] er2 ?_
 refine zi fun a3 ha3 => ?_
 refine zo (bv (!a3)) ?_ (Eq.trans (by kernel_rfl) (xnil_neq (P := PP) (t := 23) (c := .slice none 0 0) (e := Zz) (by kernel_rfl) ha3))
 refine za ((!a3)) ?_ ?_
 ·refine ze ?_
  refine zo (bv (decide (x5 < 97))) ?_
  refine zi fun r4 hr4 => ?_
  obtain ⟨qr4, er4, exr4, rfl⟩ := Z70 (x5) r4 hr4
  refine zc [] (.p (.lst r4.1 (r4.2.map Zz))) [(Zk (Zm.mk zn r1.2 z7 zh zj (Zl.mk z2 z6)) zp zd), (Zq b1 zD zB)] er4 ?_
  refine zi fun r5 hr5 => ?_
  obtain ⟨qr5, er5, exr5, rfl⟩ := Z2X ((decide (x5 < 97))) (r4.2) .sh r5 hr5
  refine zc [] (.p (.agg (ZC r5 .sh .sh))) [(Zk (Zm.mk zn r1.2 z7 zh zj (Zl.mk z2 z6)) zp zd), (Zq b1 zD zB)] er5 ?_
  refine zt [(Zk (Zm.mk zn r1.2 z7 zh zj (Zl.mk z2 z6)) zp zd), (Zq r5 .sh .sh)] ?_
  exact zr ((.p (.agg (ZC r5 .sh .sh))), [(Zk (Zm.mk zn r1.2 z7 zh zj (Zl.mk z2 z6)) zp zd), (Zq r5 .sh .sh)]) ⟨zd, _, zy, rfl⟩
 ·refine ze ?_
  refine zo (bv (x5 == 98)) ?_
  refine za ((x5 == 98)) ?_ ?_
  ·refine ze ?_
   refine zo (.p (.agg (ZC (Z3.mk 9 0 0 0 2 ([] : List Z8) ([] : List Z3)) .nl .nl))) ?_
   refine zt [(Zk (Zm.mk zn r1.2 z7 zh zj (Zl.mk z2 z6)) zp zd), (Zq (Z3.mk 9 0 0 0 2 ([] : List Z8) ([] : List Z3)) .nl .nl)] ?_
   exact zr ((.p (.agg (ZC (Z3.mk 9 0 0 0 2 ([] : List Z8) ([] : List Z3)) .sh .sh))), [(Zk (Zm.mk zn r1.2 z7 zh zj (Zl.mk z2 z6)) zp zd), (Zq (Z3.mk 9 0 0 0 2 ([] : List Z8) ([] : List Z3)) .nl .nl)]) ⟨zd, _, zy, rfl⟩
  ·refine ze ?_
   refine zo (bv (x5 == 66)) ?_
   refine za ((x5 == 66)) ?_ ?_
   ·refine ze ?_
    refine zo (.p (.agg (ZC (Z3.mk 9 0 0 0 3 ([] : List Z8) ([] : List Z3)) .nl .nl))) ?_
    refine zt [(Zk (Zm.mk zn r1.2 z7 zh zj (Zl.mk z2 z6)) zp zd), (Zq (Z3.mk 9 0 0 0 3 ([] : List Z8) ([] : List Z3)) .nl .nl)] ?_
    exact zr ((.p (.agg (ZC (Z3.mk 9 0 0 0 3 ([] : List Z8) ([] : List Z3)) .sh .sh))), [(Zk (Zm.mk zn r1.2 z7 zh zj (Zl.mk z2 z6)) zp zd), (Zq (Z3.mk 9 0 0 0 3 ([] : List Z8) ([] : List Z3)) .nl .nl)]) ⟨zd, _, zy, rfl⟩
   ·refine ze ?_
    refine zo (bv (decide (49 ≤ x5))) ?_
    refine za ((decide (49 ≤ x5))) ?_ ?_
    ·refine zo (bv (decide (x5 ≤ 57))) ?_
     refine za ((decide (x5 ≤ 57))) ?_ ?_
     ·exact zk (Z9r (x1) (x5) (zn) (r1.2) (z7) (zh) (zj) (z2) (z6) (b1) zp zd zD zB zy zR zL)
     ·exact zk (Z6B (x1) (x5) (zn) (r1.2) (z7) (zh) (zj) (z2) (z6) (b1) zp zd zD zB zy zR zL)
    ·exact zk (Z6B (x1) (x5) (zn) (r1.2) (z7) (zh) (zj) (z2) (z6) (b1) zp zd zD zB zy zR zL)
noncomputable def Z3H (x1 : Int) (zn : List Int) (zu : Int) (z7 : Int) (zh : Int) (zj : List Zv) (z2 : Int) (z6 : Int) : Option (Z3 × Int × (List Zv) × Int × Int) :=
 (Z1K ((Zm.mk zn zu z7 zh zj (Zl.mk z2 z6)))).bind fun r1 =>
 if ((decide (r1 < 0))) = true then
 ((ZU 21 x1 zn z2 z6).bind fun r2 =>
 some ((Z3.mk 0 0 0 0 0 ([] : List Z8) ([] : List Z3)), r2.1, zj, r2.2.1, r2.2.2))
 else
 (Z2m x1 r1 zn zu z7 zh zj z2 z6)
theorem Zap (x1 : Int) (zn : List Int) (zu : Int) (z7 : Int) (zh : Int) (zj : List Zv) (z2 : Int) (z6 : Int) (zp : Own) (zd : Own) (zy : okApp zd = true) : Sim (Z2M zn z7 zh zp) (Z3H x1 zn zu z7 zh zj z2 z6) (EE 49 [(.ptr 0 0), (iv x1)] [(Zk (Zm.mk zn zu z7 zh zj (Zl.mk z2 z6)) zp zd)]) := by
 unfold Z3H
 refine zf (Zkw ..) ?_
 refine ze ?_
 refine zz (.ptr 1 0) [(Zk (Zm.mk zn zu z7 zh zj (Zl.mk z2 z6)) zp zd), (Zq (Z3.mk 0 0 0 0 0 ([] : List Z8) ([] : List Z3)) .nl .nl)] ?_
 refine ze ?_
 refine zi fun r1 hr1 => ?_
 obtain ⟨qr1, er1, exr1, rfl⟩ := Z1Q ((Zm.mk zn zu z7 zh zj (Zl.mk z2 z6))) zp zd zy r1 hr1
 refine zc [0] (iv r1) [(Zk (Zm.mk zn zu z7 zh zj (Zl.mk z2 z6)) zp zd), (Zq (Z3.mk 0 0 0 0 0 ([] : List Z8) ([] : List Z3)) .nl .nl)] er1 ?_
 refine ze ?_
 refine zo (bv (decide (r1 < 0))) ?_
 refine za ((decide (r1 < 0))) ?_ ?_
 ·refine ze ?_
  refine zi fun r2 hr2 => ?_
  obtain ⟨qr2, er2, exr2, rfl⟩ := ZX (21) (x1) (zn) (zu) (z7) (zh) (zj) (z2) (z6) zp zd zy r2 hr2
  refine zc [0] (.p (.tup [])) [(Zk (Zm.mk zn r2.1 z7 zh zj (Zl.mk r2.2.1 r2.2.2)) zp zd), (Zq (Z3.mk 0 0 0 0 0 ([] : List Z8) ([] : List Z3)) .nl .nl)] er2 ?_
  refine ze ?_
  refine zo (.p (.agg (ZC (Z3.mk 0 0 0 0 0 ([] : List Z8) ([] : List Z3)) .nl .nl))) ?_
  refine zt [(Zk (Zm.mk zn r2.1 z7 zh zj (Zl.mk r2.2.1 r2.2.2)) zp zd), (Zq (Z3.mk 0 0 0 0 0 ([] : List Z8) ([] : List Z3)) .nl .nl)] ?_
  exact zr ((.p (.agg (ZC (Z3.mk 0 0 0 0 0 ([] : List Z8) ([] : List Z3)) .sh .sh))), [(Zk (Zm.mk zn r2.1 z7 zh zj (Zl.mk r2.2.1 r2.2.2)) zp zd), (Zq (Z3.mk 0 0 0 0 0 ([] : List Z8) ([] : List Z3)) .nl .nl)]) ⟨zd, _, zy, rfl⟩
 ·exact zk (Z9J (x1) (r1) (zn) (zu) (z7) (zh) (zj) (z2) (z6) ((Z3.mk 0 0 0 0 0 ([] : List Z8) ([] : List Z3))) zp zd .nl .nl zy rfl rfl)
theorem ZaY (x1 : Int) (zn : List Int) (zu : Int) (z7 : Int) (zh : Int) (zj : List Zv) (z2 : Int) (z6 : Int) {r} (h : Z3H x1 zn zu z7 zh zj z2 z6 = some r) : Z3e x1 zn zu z7 zh zj z2 z6 = some r :=
 pick_of (fun _ _ ha hb => RRun.uniq (Zbe _ _ _ _) (ha .ex .ex rfl) (hb .ex .ex rfl)) (fun zp zd zy => Zap x1 zn zu z7 zh zj z2 z6 zp zd zy r h)
end Go.Proofs.YtadodmjdkphddaaDoor.N2
end
section
set_option linter.unusedSimpArgs false
set_option linter.unusedVariables false
namespace Go.Proofs.YtadodmjdkphddaaDoor.N2
open Go Go.Abs
set_option linter.unusedVariables false
set_option maxRecDepth 100000
noncomputable def Z3v (zn : List Int) (z2 : Int) (z6 : Int) : Option (Int × Int × Int) :=
 some ((zn.length : Int), z2, z6)
theorem Z7b (zn : List Int) (zu : Int) (z7 : Int) (zh : Int) (zj : List Zv) (z2 : Int) (z6 : Int) (zp : Own) (zd : Own) (zy : okApp zd = true) : Sim (Z4i zn z7 zh zj zp zd) (Z3v zn z2 z6) (Zet 1 (.ptr 0 0) [(Zk (Zm.mk zn zu z7 zh zj (Zl.mk z2 z6)) zp zd)]) := by
 unfold Z3v
 refine zf (Zi7 ..) ?_
 refine ze ?_
 refine zo (.ptr 0 0) ?_
 refine zo (.ptr 0 0) ?_
 refine zo (.p (.lst (shrO zp) (zn.map (eI .u8)))) ?_
 refine zo (iv (zn.length : Int)) ?_ (Eq.trans (by kernel_rfl) (xlen_of (P := PP) (t := 40) (d := 5) (by kernel_rfl) (eI .u8) (shrO zp) zn))
 refine zo (.ptr 0 0) ?_
 refine zo (.ptr 0 1) ?_
 refine zt [(Zk (Zm.mk zn (zn.length : Int) z7 zh zj (Zl.mk z2 z6)) zp zd)] ?_
 exact zr ((.p (.tup [])), [(Zk (Zm.mk zn (zn.length : Int) z7 zh zj (Zl.mk z2 z6)) zp zd)]) ⟨_, rfl⟩
noncomputable def Z58 (x1 : Int) (x2 : Int) (zn : List Int) (z2 : Int) (z6 : Int) : Option (Int × Int × Int) :=
 if ((z2 == 0)) = true then
 (Z3v zn x1 x2)
 else
 (Z3v zn z2 z6)
theorem Zb8 (x1 : Int) (x2 : Int) (zn : List Int) (zu : Int) (z7 : Int) (zh : Int) (zj : List Zv) (z2 : Int) (z6 : Int) (zp : Own) (zd : Own) (zy : okApp zd = true) : Sim (Z4i zn z7 zh zj zp zd) (Z58 x1 x2 zn z2 z6) (EE 29 [(.ptr 0 0), (iv x1), (iv x2)] [(Zk (Zm.mk zn zu z7 zh zj (Zl.mk z2 z6)) zp zd)]) := by
 unfold Z58
 refine zf (ZkO ..) ?_
 refine ze ?_
 refine zo (.ptr 0 0) ?_
 refine zo (.ptr 0 5) ?_
 refine zo (.ptr 0 5) ?_
 refine zo (iv z2) ?_
 refine zo (bv (z2 == 0)) ?_
 refine za ((z2 == 0)) ?_ ?_
 ·refine ze ?_
  refine zo (.p (.agg (Z1N (Zl.mk x1 x2)))) ?_
  refine zo (.ptr 0 0) ?_
  refine zo (.ptr 0 5) ?_
  refine zt [(Zk (Zm.mk zn zu z7 zh zj (Zl.mk x1 x2)) zp zd)] ?_
  exact zk (Z7b (zn) (zu) (z7) (zh) (zj) (x1) (x2) zp zd zy)
 ·exact zk (Z7b (zn) (zu) (z7) (zh) (zj) (z2) (z6) zp zd zy)
theorem Z8q (x1 : Int) (x2 : Int) (zn : List Int) (z2 : Int) (z6 : Int) {r} (h : Z58 x1 x2 zn z2 z6 = some r) : ZU x1 x2 zn z2 z6 = some r :=
 pick_of (fun _ _ ha hb => RRun.uniq (Zck _ _ _ _ _ _) (ha default default default default .ex .ex rfl) (hb default default default default .ex .ex rfl)) (fun zu z7 zh zj zp zd zy => Zb8 x1 x2 zn zu z7 zh zj z2 z6 zp zd zy r h)
noncomputable def Z1Z  : Option ((Own × (List Z8))) :=
 some ((.nl, ([] : List Z8)))
theorem Z2f  : Sim (Z51) (Z1Z) (Z7c 0  []) := by
 unfold Z1Z
 refine zf (ZgY ..) ?_
 refine ze ?_
 exact zr ((.p (.lst .nl [])), []) ⟨_, rfl⟩
noncomputable def Z2P (x0 : Int) : Option ((Own × (List Z8))) :=
 if ((x0 == 100)) = true then
 (if ((x0 == 100)) = true then
 (some ((.ex, ([(Z8.mk 48 57)] : List Z8))))
 else
 (if ((x0 == 119)) = true then
 (if ((x0 == 119)) = true then
 ((Z1C 95).bind fun r1 =>
 some ((.ex, ([(Z8.mk 48 57), (Z8.mk 65 90), r1, (Z8.mk 97 122)] : List Z8))))
 else
 (if ((x0 == 115)) = true then
 (if ((x0 == 115)) = true then
 ((Z1C 32).bind fun r2 =>
 some ((.ex, ([(Z8.mk 9 13), r2] : List Z8))))
 else
 (Z1Z))
 else
 (if ((x0 == 83)) = true then
 ((Z1C 32).bind fun r3 =>
 some ((.ex, ([(Z8.mk 9 13), r3] : List Z8))))
 else
 (Z1Z))))
 else
 (if ((x0 == 87)) = true then
 ((Z1C 95).bind fun r4 =>
 some ((.ex, ([(Z8.mk 48 57), (Z8.mk 65 90), r4, (Z8.mk 97 122)] : List Z8))))
 else
 (if ((x0 == 115)) = true then
 (if ((x0 == 115)) = true then
 ((Z1C 32).bind fun r5 =>
 some ((.ex, ([(Z8.mk 9 13), r5] : List Z8))))
 else
 (Z1Z))
 else
 (if ((x0 == 83)) = true then
 ((Z1C 32).bind fun r6 =>
 some ((.ex, ([(Z8.mk 9 13), r6] : List Z8))))
 else
 (Z1Z))))))
 else
 (if ((x0 == 68)) = true then
 (some ((.ex, ([(Z8.mk 48 57)] : List Z8))))
 else
 (if ((x0 == 119)) = true then
 (if ((x0 == 119)) = true then
 ((Z1C 95).bind fun r7 =>
 some ((.ex, ([(Z8.mk 48 57), (Z8.mk 65 90), r7, (Z8.mk 97 122)] : List Z8))))
 else
 (if ((x0 == 115)) = true then
 (if ((x0 == 115)) = true then
 ((Z1C 32).bind fun r8 =>
 some ((.ex, ([(Z8.mk 9 13), r8] : List Z8))))
 else
 (Z1Z))
 else
 (if ((x0 == 83)) = true then
 ((Z1C 32).bind fun r9 =>
 some ((.ex, ([(Z8.mk 9 13), r9] : List Z8))))
 else
 (Z1Z))))
 else
 (if ((x0 == 87)) = true then
 ((Z1C 95).bind fun r10 =>
 some ((.ex, ([(Z8.mk 48 57), (Z8.mk 65 90), r10, (Z8.mk 97 122)] : List Z8))))
 else
 (if ((x0 == 115)) = true then
 (if ((x0 == 115)) = true then
 ((Z1C 32).bind fun r11 =>
 some ((.ex, ([(Z8.mk 9 13), r11] : List Z8))))
 else
 (Z1Z))
 else
 (if ((x0 == 83)) = true then
 ((Z1C 32).bind fun r12 =>
 some ((.ex, ([(Z8.mk 9 13), r12] : List Z8))))
 else
 (Z1Z))))))
theorem Zcm (x0 : Int) : Sim (Z51) (Z2P x0) (EE 56 [(iv x0)] []) := by
 unfold Z2P
 refine zf (Zk7 ..) ?_
 refine ze ?_
 refine ze ?_
 refine ze ?_
 refine zo (bv (x0 == 100)) ?_
 refine za ((x0 == 100)) ?_ ?_
 ·refine za ((x0 == 100)) ?_ ?_
  ·refine ze ?_
   refine zo (.p (.agg (ZH (Z8.mk 48 57)))) ?_
   refine zo (.p (.lst .ex (([(Z8.mk 48 57)] : List Z8).map Zz))) ?_
   exact zr ((.p (.lst .ex (([(Z8.mk 48 57)] : List Z8).map Zz))), []) ⟨_, rfl⟩
  ·refine ze ?_
   refine zo (bv (x0 == 119)) ?_
   refine za ((x0 == 119)) ?_ ?_
   ·refine za ((x0 == 119)) ?_ ?_
    ·refine ze ?_
     refine zo (.p (.agg (ZH (Z8.mk 48 57)))) ?_
     refine zo (.p (.agg (ZH (Z8.mk 65 90)))) ?_
     refine zi fun r1 hr1 => ?_
     obtain ⟨qr1, er1, exr1, rfl⟩ := Z1x (95) r1 hr1
     refine zc [] (.p (.agg (ZH r1))) [] er1 ?_
     refine zo (.p (.agg (ZH (Z8.mk 97 122)))) ?_
     refine zo (.p (.lst .ex (([(Z8.mk 48 57), (Z8.mk 65 90), r1, (Z8.mk 97 122)] : List Z8).map Zz))) ?_
     exact zr ((.p (.lst .ex (([(Z8.mk 48 57), (Z8.mk 65 90), r1, (Z8.mk 97 122)] : List Z8).map Zz))), []) ⟨_, rfl⟩
    ·refine ze ?_
     refine zo (bv (x0 == 115)) ?_
     refine za ((x0 == 115)) ?_ ?_
     ·refine za ((x0 == 115)) ?_ ?_
      ·refine ze ?_
       refine zo (.p (.agg (ZH (Z8.mk 9 13)))) ?_
       refine zi fun r2 hr2 => ?_
       obtain ⟨qr2, er2, exr2, rfl⟩ := Z1x (32) r2 hr2
       refine zc [] (.p (.agg (ZH r2))) [] er2 ?_
       refine zo (.p (.lst .ex (([(Z8.mk 9 13), r2] : List Z8).map Zz))) ?_
       exact zr ((.p (.lst .ex (([(Z8.mk 9 13), r2] : List Z8).map Zz))), []) ⟨_, rfl⟩
      ·exact zk (Z2f )
     ·refine ze ?_
      refine zo (bv (x0 == 83)) ?_
      refine za ((x0 == 83)) ?_ ?_
      ·refine ze ?_
       refine zo (.p (.agg (ZH (Z8.mk 9 13)))) ?_
       refine zi fun r3 hr3 => ?_
       obtain ⟨qr3, er3, exr3, rfl⟩ := Z1x (32) r3 hr3
       refine zc [] (.p (.agg (ZH r3))) [] er3 ?_
       refine zo (.p (.lst .ex (([(Z8.mk 9 13), r3] : List Z8).map Zz))) ?_
       exact zr ((.p (.lst .ex (([(Z8.mk 9 13), r3] : List Z8).map Zz))), []) ⟨_, rfl⟩
      ·exact zk (Z2f )
   ·refine ze ?_
    refine zo (bv (x0 == 87)) ?_
    refine za ((x0 == 87)) ?_ ?_
    ·refine ze ?_
     refine zo (.p (.agg (ZH (Z8.mk 48 57)))) ?_
     refine zo (.p (.agg (ZH (Z8.mk 65 90)))) ?_
     refine zi fun r4 hr4 => ?_
     obtain ⟨qr4, er4, exr4, rfl⟩ := Z1x (95) r4 hr4
     refine zc [] (.p (.agg (ZH r4))) [] er4 ?_
     refine zo (.p (.agg (ZH (Z8.mk 97 122)))) ?_
     refine zo (.p (.lst .ex (([(Z8.mk 48 57), (Z8.mk 65 90), r4, (Z8.mk 97 122)] : List Z8).map Zz))) ?_
     exact zr ((.p (.lst .ex (([(Z8.mk 48 57), (Z8.mk 65 90), r4, (Z8.mk 97 122)] : List Z8).map Zz))), []) ⟨_, rfl⟩
    ·refine ze ?_
     refine zo (bv (x0 == 115)) ?_
     refine za ((x0 == 115)) ?_ ?_
     ·refine za ((x0 == 115)) ?_ ?_
      ·refine ze ?_
       refine zo (.p (.agg (ZH (Z8.mk 9 13)))) ?_
       refine zi fun r5 hr5 => ?_
       obtain ⟨qr5, er5, exr5, rfl⟩ := Z1x (32) r5 hr5
       refine zc [] (.p (.agg (ZH r5))) [] er5 ?_
       refine zo (.p (.lst .ex (([(Z8.mk 9 13), r5] : List Z8).map Zz))) ?_
       exact zr ((.p (.lst .ex (([(Z8.mk 9 13), r5] : List Z8).map Zz))), []) ⟨_, rfl⟩
      ·exact zk (Z2f )
     ·refine ze ?_
      refine zo (bv (x0 == 83)) ?_
      refine za ((x0 == 83)) ?_ ?_
      ·refine ze ?_
       refine zo (.p (.agg (ZH (Z8.mk 9 13)))) ?_
       refine zi fun r6 hr6 => ?_
       obtain ⟨qr6, er6, exr6, rfl⟩ := Z1x (32) r6 hr6
       refine zc [] (.p (.agg (ZH r6))) [] er6 ?_
       refine zo (.p (.lst .ex (([(Z8.mk 9 13), r6] : List Z8).map Zz))) ?_
       exact zr ((.p (.lst .ex (([(Z8.mk 9 13), r6] : List Z8).map Zz))), []) ⟨_, rfl⟩
      ·exact zk (Z2f )
 ·refine ze ?_
  refine zo (bv (x0 == 68)) ?_
  refine za ((x0 == 68)) ?_ ?_
  ·refine ze ?_
   refine zo (.p (.agg (ZH (Z8.mk 48 57)))) ?_
   refine zo (.p (.lst .ex (([(Z8.mk 48 57)] : List Z8).map Zz))) ?_
   exact zr ((.p (.lst .ex (([(Z8.mk 48 57)] : List Z8).map Zz))), []) ⟨_, rfl⟩
  ·refine ze ?_
   refine zo (bv (x0 == 119)) ?_
   refine za ((x0 == 119)) ?_ ?_
   ·refine za ((x0 == 119)) ?_ ?_
    ·refine ze ?_
     refine zo (.p (.agg (ZH (Z8.mk 48 57)))) ?_
     refine zo (.p (.agg (ZH (Z8.mk 65 90)))) ?_
     refine zi fun r7 hr7 => ?_
     obtain ⟨qr7, er7, exr7, rfl⟩ := Z1x (95) r7 hr7
     refine zc [] (.p (.agg (ZH r7))) [] er7 ?_
     refine zo (.p (.agg (ZH (Z8.mk 97 122)))) ?_
     refine zo (.p (.lst .ex (([(Z8.mk 48 57), (Z8.mk 65 90), r7, (Z8.mk 97 122)] : List Z8).map Zz))) ?_
     exact zr ((.p (.lst .ex (([(Z8.mk 48 57), (Z8.mk 65 90), r7, (Z8.mk 97 122)] : List Z8).map Zz))), []) ⟨_, rfl⟩
    ·refine ze ?_
     refine zo (bv (x0 == 115)) ?_
     refine za ((x0 == 115)) ?_ ?_
     ·refine za ((x0 == 115)) ?_ ?_
      ·refine ze ?_
       refine zo (.p (.agg (ZH (Z8.mk 9 13)))) ?_
       refine zi fun r8 hr8 => ?_
       obtain ⟨qr8, er8, exr8, rfl⟩ := Z1x (32) r8 hr8
       refine zc [] (.p (.agg (ZH r8))) [] er8 ?_
       refine zo (.p (.lst .ex (([(Z8.mk 9 13), r8] : List Z8).map Zz))) ?_
       exact zr ((.p (.lst .ex (([(Z8.mk 9 13), r8] : List Z8).map Zz))), []) ⟨_, rfl⟩
      ·exact zk (Z2f )
     ·refine ze ?_
      refine zo (bv (x0 == 83)) ?_
      refine za ((x0 == 83)) ?_ ?_
      ·refine ze ?_
       refine zo (.p (.agg (ZH (Z8.mk 9 13)))) ?_
       refine zi fun r9 hr9 => ?_
       obtain ⟨qr9, er9, exr9, rfl⟩ := Z1x (32) r9 hr9
       refine zc [] (.p (.agg (ZH r9))) [] er9 ?_
       refine zo (.p (.lst .ex (([(Z8.mk 9 13), r9] : List Z8).map Zz))) ?_
       exact zr ((.p (.lst .ex (([(Z8.mk 9 13), r9] : List Z8).map Zz))), []) ⟨_, rfl⟩
      ·exact zk (Z2f )
   ·refine ze ?_
    refine zo (bv (x0 == 87)) ?_
    refine za ((x0 == 87)) ?_ ?_
    ·refine ze ?_
     refine zo (.p (.agg (ZH (Z8.mk 48 57)))) ?_
     refine zo (.p (.agg (ZH (Z8.mk 65 90)))) ?_
     refine zi fun r10 hr10 => ?_
     obtain ⟨qr10, er10, exr10, rfl⟩ := Z1x (95) r10 hr10
     refine zc [] (.p (.agg (ZH r10))) [] er10 ?_
     refine zo (.p (.agg (ZH (Z8.mk 97 122)))) ?_
     refine zo (.p (.lst .ex (([(Z8.mk 48 57), (Z8.mk 65 90), r10, (Z8.mk 97 122)] : List Z8).map Zz))) ?_
     exact zr ((.p (.lst .ex (([(Z8.mk 48 57), (Z8.mk 65 90), r10, (Z8.mk 97 122)] : List Z8).map Zz))), []) ⟨_, rfl⟩
    ·refine ze ?_
     refine zo (bv (x0 == 115)) ?_
     refine za ((x0 == 115)) ?_ ?_
     ·refine za ((x0 == 115)) ?_ ?_
      ·refine ze ?_
       refine zo (.p (.agg (ZH (Z8.mk 9 13)))) ?_
       refine zi fun r11 hr11 => ?_
       obtain ⟨qr11, er11, exr11, rfl⟩ := Z1x (32) r11 hr11
       refine zc [] (.p (.agg (ZH r11))) [] er11 ?_
       refine zo (.p (.lst .ex (([(Z8.mk 9 13), r11] : List Z8).map Zz))) ?_
       exact zr ((.p (.lst .ex (([(Z8.mk 9 13), r11] : List Z8).map Zz))), []) ⟨_, rfl⟩
      ·exact zk (Z2f )
     ·refine ze ?_
      refine zo (bv (x0 == 83)) ?_
      refine za ((x0 == 83)) ?_ ?_
      ·refine ze ?_
       refine zo (.p (.agg (ZH (Z8.mk 9 13)))) ?_
       refine zi fun r12 hr12 => ?_
       obtain ⟨qr12, er12, exr12, rfl⟩ := Z1x (32) r12 hr12
       refine zc [] (.p (.agg (ZH r12))) [] er12 ?_
       refine zo (.p (.lst .ex (([(Z8.mk 9 13), r12] : List Z8).map Zz))) ?_
       exact zr ((.p (.lst .ex (([(Z8.mk 9 13), r12] : List Z8).map Zz))), []) ⟨_, rfl⟩
      ·exact zk (Z2f )
theorem Zcz (x0 : Int) {r} (h : Z2P x0 = some r) : Z50 x0 = some r :=
 pick_of (fun _ _ ha hb => RRun.uniq (ZcX) (ha ) (hb )) (Zcm x0 r h)
noncomputable def Z25 (x2 : Int) (zn : List Int) (z2 : Int) (z6 : Int) : Option (Int × Int × Int × Int) :=
 (ZU 21 x2 zn z2 z6).bind fun r1 =>
 some (0, r1.1, r1.2.1, r1.2.2)
theorem Z38 (x2 : Int) (zn : List Int) (zu : Int) (z7 : Int) (zh : Int) (zj : List Zv) (z2 : Int) (z6 : Int) (zp : Own) (zd : Own) (zy : okApp zd = true) : Sim (Z3m zn z7 zh zj zp zd) (Z25 x2 zn z2 z6) (Z9C 1 (.ptr 0 0) (iv x2) [(Zk (Zm.mk zn zu z7 zh zj (Zl.mk z2 z6)) zp zd)]) := by
 unfold Z25
 refine zf (ZhB ..) ?_
 refine ze ?_
 refine zi fun r1 hr1 => ?_
 obtain ⟨qr1, er1, exr1, rfl⟩ := ZX (21) (x2) (zn) (zu) (z7) (zh) (zj) (z2) (z6) zp zd zy r1 hr1
 refine zc [0] (.p (.tup [])) [(Zk (Zm.mk zn r1.1 z7 zh zj (Zl.mk r1.2.1 r1.2.2)) zp zd)] er1 ?_
 refine ze ?_
 exact zr ((iv 0), [(Zk (Zm.mk zn r1.1 z7 zh zj (Zl.mk r1.2.1 r1.2.2)) zp zd)]) ⟨_, rfl⟩
noncomputable def Z64 (x1 : Int) (zu : Int) (z2 : Int) (z6 : Int) : Option (Int × Int × Int × Int) :=
 some (x1, zu, z2, z6)
theorem Z9G (x1 : Int) (zn : List Int) (zu : Int) (z7 : Int) (zh : Int) (zj : List Zv) (z2 : Int) (z6 : Int) (zp : Own) (zd : Own) (zy : okApp zd = true) : Sim (Z3m zn z7 zh zj zp zd) (Z64 x1 zu z2 z6) (ZeK 1 (iv x1) [(Zk (Zm.mk zn zu z7 zh zj (Zl.mk z2 z6)) zp zd)]) := by
 unfold Z64
 refine zf (ZgV ..) ?_
 refine ze ?_
 exact zr ((iv x1), [(Zk (Zm.mk zn zu z7 zh zj (Zl.mk z2 z6)) zp zd)]) ⟨_, rfl⟩
noncomputable def Z5S (x1 : Int) (x2 : Int) (zn : List Int) (zu : Int) (z7 : Int) (zh : Int) (zj : List Zv) (z2 : Int) (z6 : Int) : Option (Int × Int × Int × Int) :=
 if ((x1 == 110)) = true then
 (some (10, zu, z2, z6))
 else
 (if ((x1 == 116)) = true then
 (some (9, zu, z2, z6))
 else
 (if ((x1 == 114)) = true then
 (some (13, zu, z2, z6))
 else
 (if ((x1 == 120)) = true then
 ((Z1K ((Zm.mk zn zu z7 zh zj (Zl.mk z2 z6)))).bind fun r1 =>
 (Z8C r1).bind fun r2 =>
 if ((decide (0 ≤ r2))) = true then
 ((Z2e zn zu).bind fun r3 =>
 (Z1K ((Zm.mk zn r3.2 z7 zh zj (Zl.mk z2 z6)))).bind fun r4 =>
 (Z8C r4).bind fun r5 =>
 if ((decide (0 ≤ r5))) = true then
 ((Z2e zn r3.2).bind fun r6 =>
 some ((IntKind.i64.wrap ((IntKind.i64.wrap (16 * r2)) + r5)), r6.2, z2, z6))
 else
 (Z25 x2 zn z2 z6))
 else
 (Z25 x2 zn z2 z6))
 else
 (if ((decide (32 < x1))) = true then
 (if ((decide (x1 < 127))) = true then
 ((Z6p (([(Z8.mk 48 57), (Z8.mk 65 90), (Z8.mk 97 122)] : List Z8)) x1).bind fun r7 =>
 if ((!r7)) = true then
 (Z64 x1 zu z2 z6)
 else
 (Z25 x2 zn z2 z6))
 else
 (Z25 x2 zn z2 z6))
 else
 (Z25 x2 zn z2 z6)))))
theorem Zb3 (x1 : Int) (x2 : Int) (zn : List Int) (zu : Int) (z7 : Int) (zh : Int) (zj : List Zv) (z2 : Int) (z6 : Int) (zp : Own) (zd : Own) (zy : okApp zd = true) : Sim (Z3m zn z7 zh zj zp zd) (Z5S x1 x2 zn zu z7 zh zj z2 z6) (EE 57 [(.ptr 0 0), (iv x1), (iv x2)] [(Zk (Zm.mk zn zu z7 zh zj (Zl.mk z2 z6)) zp zd)]) := by
 unfold Z5S
 refine zf (ZkG ..) ?_
 refine ze ?_
 refine ze ?_
 refine zo (bv (x1 == 110)) ?_
 refine za ((x1 == 110)) ?_ ?_
 ·refine ze ?_
  exact zr ((iv 10), [(Zk (Zm.mk zn zu z7 zh zj (Zl.mk z2 z6)) zp zd)]) ⟨_, rfl⟩
 ·refine ze ?_
  refine zo (bv (x1 == 116)) ?_
  refine za ((x1 == 116)) ?_ ?_
  ·refine ze ?_
   exact zr ((iv 9), [(Zk (Zm.mk zn zu z7 zh zj (Zl.mk z2 z6)) zp zd)]) ⟨_, rfl⟩
  ·refine ze ?_
   refine zo (bv (x1 == 114)) ?_
   refine za ((x1 == 114)) ?_ ?_
   ·refine ze ?_
    exact zr ((iv 13), [(Zk (Zm.mk zn zu z7 zh zj (Zl.mk z2 z6)) zp zd)]) ⟨_, rfl⟩
   ·refine ze ?_
    refine zo (bv (x1 == 120)) ?_
    refine za ((x1 == 120)) ?_ ?_
    ·refine ze ?_
     refine zi fun r1 hr1 => ?_
     obtain ⟨qr1, er1, exr1, rfl⟩ := Z1Q ((Zm.mk zn zu z7 zh zj (Zl.mk z2 z6))) zp zd zy r1 hr1
     refine zc [0] (iv r1) [(Zk (Zm.mk zn zu z7 zh zj (Zl.mk z2 z6)) zp zd)] er1 ?_
     refine zi fun r2 hr2 => ?_
     obtain ⟨qr2, er2, exr2, rfl⟩ := Zcc (r1) r2 hr2
     refine zc [] (iv r2) [(Zk (Zm.mk zn zu z7 zh zj (Zl.mk z2 z6)) zp zd)] er2 ?_
     refine ze ?_
     refine zo (bv (decide (0 ≤ r2))) ?_
     refine za ((decide (0 ≤ r2))) ?_ ?_
     ·refine ze ?_
      refine zi fun r3 hr3 => ?_
      obtain ⟨qr3, er3, exr3, rfl⟩ := Z2A (zn) (zu) (z7) (zh) (zj) (z2) (z6) zp zd zy r3 hr3
      refine zc [0] (iv r3.1) [(Zk (Zm.mk zn r3.2 z7 zh zj (Zl.mk z2 z6)) zp zd)] er3 ?_
      refine ze ?_
      refine zi fun r4 hr4 => ?_
      obtain ⟨qr4, er4, exr4, rfl⟩ := Z1Q ((Zm.mk zn r3.2 z7 zh zj (Zl.mk z2 z6))) zp zd zy r4 hr4
      refine zc [0] (iv r4) [(Zk (Zm.mk zn r3.2 z7 zh zj (Zl.mk z2 z6)) zp zd)] er4 ?_
      refine zi fun r5 hr5 => ?_
      obtain ⟨qr5, er5, exr5, rfl⟩ := Zcc (r4) r5 hr5
      refine zc [] (iv r5) [(Zk (Zm.mk zn r3.2 z7 zh zj (Zl.mk z2 z6)) zp zd)] er5 ?_
      refine ze ?_
      refine zo (bv (decide (0 ≤ r5))) ?_
      refine za ((decide (0 ≤ r5))) ?_ ?_
      ·refine ze ?_
       refine zi fun r6 hr6 => ?_
       obtain ⟨qr6, er6, exr6, rfl⟩ := Z2A (zn) (r3.2) (z7) (zh) (zj) (z2) (z6) zp zd zy r6 hr6
       refine zc [0] (iv r6.1) [(Zk (Zm.mk zn r6.2 z7 zh zj (Zl.mk z2 z6)) zp zd)] er6 ?_
       refine ze ?_
       refine zo (iv (IntKind.i64.wrap (16 * r2))) ?_
       refine zo (iv (IntKind.i64.wrap ((IntKind.i64.wrap (16 * r2)) + r5))) ?_
       exact zr ((iv (IntKind.i64.wrap ((IntKind.i64.wrap (16 * r2)) + r5))), [(Zk (Zm.mk zn r6.2 z7 zh zj (Zl.mk z2 z6)) zp zd)]) ⟨_, rfl⟩
      ·exact zk (Z38 (x2) (zn) (r3.2) (z7) (zh) (zj) (z2) (z6) zp zd zy)
     ·exact zk (Z38 (x2) (zn) (zu) (z7) (zh) (zj) (z2) (z6) zp zd zy)
    ·refine ze ?_
     refine zo (bv (decide (32 < x1))) ?_
     refine za ((decide (32 < x1))) ?_ ?_
     ·refine zo (bv (decide (x1 < 127))) ?_
      refine za ((decide (x1 < 127))) ?_ ?_
      ·refine zo (.p (.agg (ZH (Z8.mk 48 57)))) ?_
       refine zo (.p (.agg (ZH (Z8.mk 65 90)))) ?_
       refine zo (.p (.agg (ZH (Z8.mk 97 122)))) ?_
       refine zo (.p (.lst .ex (([(Z8.mk 48 57), (Z8.mk 65 90), (Z8.mk 97 122)] : List Z8).map Zz))) ?_
       refine zi fun r7 hr7 => ?_
       obtain ⟨qr7, er7, exr7, rfl⟩ := Zd4 (([(Z8.mk 48 57), (Z8.mk 65 90), (Z8.mk 97 122)] : List Z8)) (x1) .sh r7 hr7
       refine zc [] (bv r7) [(Zk (Zm.mk zn zu z7 zh zj (Zl.mk z2 z6)) zp zd)] er7 ?_
       refine zo (bv (!r7)) ?_
       refine za ((!r7)) ?_ ?_
       ·exact zk (Z9G (x1) (zn) (zu) (z7) (zh) (zj) (z2) (z6) zp zd zy)
       ·exact zk (Z38 (x2) (zn) (zu) (z7) (zh) (zj) (z2) (z6) zp zd zy)
      ·exact zk (Z38 (x2) (zn) (zu) (z7) (zh) (zj) (z2) (z6) zp zd zy)
     ·exact zk (Z38 (x2) (zn) (zu) (z7) (zh) (zj) (z2) (z6) zp zd zy)
theorem Zbd (x1 : Int) (x2 : Int) (zn : List Int) (zu : Int) (z7 : Int) (zh : Int) (zj : List Zv) (z2 : Int) (z6 : Int) {r} (h : Z5S x1 x2 zn zu z7 zh zj z2 z6 = some r) : Z4Z x1 x2 zn zu z7 zh zj z2 z6 = some r :=
 pick_of (fun _ _ ha hb => RRun.uniq (ZbK _ _ _ _ _ _) (ha .ex .ex rfl) (hb .ex .ex rfl)) (fun zp zd zy => Zb3 x1 x2 zn zu z7 zh zj z2 z6 zp zd zy r h)
noncomputable def Z7S (x0 : Int) : Option (Int) :=
 some ((IntKind.i64.wrap (x0 - 48)))
theorem Zde (x0 : Int) : Sim (Z5l) (Z7S x0) (ZfH 0 (iv x0) []) := by
 unfold Z7S
 refine zf (Zjh ..) ?_
 refine ze ?_
 refine zo (iv (IntKind.i64.wrap (x0 - 48))) ?_
 exact zr ((iv (IntKind.i64.wrap (x0 - 48))), []) ⟨_, rfl⟩
noncomputable def Z7K (x0 : Int) : Option (Int) :=
 some ((IntKind.i64.wrap ((IntKind.i64.wrap (x0 - 97)) + 10)))
theorem Zd9 (x0 : Int) : Sim (Z5l) (Z7K x0) (ZfX 0 (iv x0) []) := by
 unfold Z7K
 refine zf (Ziw ..) ?_
 refine ze ?_
 refine zo (iv (IntKind.i64.wrap (x0 - 97))) ?_
 refine zo (iv (IntKind.i64.wrap ((IntKind.i64.wrap (x0 - 97)) + 10))) ?_
 exact zr ((iv (IntKind.i64.wrap ((IntKind.i64.wrap (x0 - 97)) + 10))), []) ⟨_, rfl⟩
noncomputable def Z6K  : Option (Int) :=
 some ((-1))
theorem Za7  : Sim (Z5l) (Z6K) (Ze5 0  []) := by
 unfold Z6K
 refine zf (Zj8 ..) ?_
 refine ze ?_
 exact zr ((iv (-1)), []) ⟨_, rfl⟩
noncomputable def Z6Q (x0 : Int) : Option (Int) :=
 if ((decide (97 ≤ x0))) = true then
 (if ((decide (x0 ≤ 102))) = true then
 (Z7K x0)
 else
 (Z6K))
 else
 (Z6K)
theorem Z9X (x0 : Int) : Sim (Z5l) (Z6Q x0) (Ze9 0 (iv x0) []) := by
 unfold Z6Q
 refine zf (Zj3 ..) ?_
 refine ze ?_
 refine zo (bv (decide (97 ≤ x0))) ?_
 refine za ((decide (97 ≤ x0))) ?_ ?_
 ·refine zo (bv (decide (x0 ≤ 102))) ?_
  refine za ((decide (x0 ≤ 102))) ?_ ?_
  ·exact zk (Zd9 (x0))
  ·exact zk (Za7 )
 ·exact zk (Za7 )
noncomputable def Z9S (x0 : Int) : Option (Int) :=
 if ((decide (48 ≤ x0))) = true then
 (if ((decide (x0 ≤ 57))) = true then
 (Z7S x0)
 else
 (Z6Q x0))
 else
 (Z6Q x0)
theorem Ze1 (x0 : Int) : Sim (Z5l) (Z9S x0) (EE 71 [(iv x0)] []) := by
 unfold Z9S
 refine zf (ZjD ..) ?_
 refine ze ?_
 refine ze ?_
 refine zo (bv (decide (48 ≤ x0))) ?_
 refine za ((decide (48 ≤ x0))) ?_ ?_
 ·refine zo (bv (decide (x0 ≤ 57))) ?_
  refine za ((decide (x0 ≤ 57))) ?_ ?_
  ·exact zk (Zde (x0))
  ·exact zk (Z9X (x0))
 ·exact zk (Z9X (x0))
theorem ZeV (x0 : Int) {r} (h : Z9S x0 = some r) : Z8C x0 = some r :=
 pick_of (fun _ _ ha hb => RRun.uniq (Zf6) (ha ) (hb )) (Ze1 x0 r h)
noncomputable def Z7h (x0 : List Z8) (x1 : Int) : Option (Bool) :=
 (Z3p x0 x1).bind fun r1 =>
 some (r1)
theorem ZcS (x0 : List Z8) (x1 : Int) (ox0 : Own) : Sim (Z6v) (Z7h x0 x1) (EE 19 [(.p (.lst ox0 (x0.map Zz))), (iv x1)] []) := by
 unfold Z7h
 refine zf (Zko ..) ?_
 refine ze ?_
 refine zx (.ptr 0 0) [[(iv x1)]] ?_
 refine ze ?_
 refine zi fun r1 hr1 => ?_
 obtain ⟨qr1, er1, exr1, rfl⟩ := Z8j (x0) (x1) .sh r1 hr1
 refine zc [0] (bv r1) [[(iv x1)]] er1 ?_
 exact zr ((bv r1), [[(iv x1)]]) ⟨_, rfl⟩
theorem ZcZ (x0 : List Z8) (x1 : Int) {r} (h : Z7h x0 x1 = some r) : Z6p x0 x1 = some r :=
 pick_of (fun _ _ ha hb => RRun.uniq (ZdC) (ha .ex) (hb .ex)) (fun ox0 => ZcS x0 x1 ox0 r h)
noncomputable def Z3o (x0 : List Z8) (z11 : Int) : Option (Bool) :=
 (Z40 x0 z11).bind fun r1 =>
 some ((decide (0 ≤ r1)))
theorem Z7N (x0 : List Z8) (z11 : Int) (ox0 : Own) : Sim (Z2R z11) (Z3o x0 z11) (EE 30 [(.p (.lst ox0 (x0.map Zz))), (.clo 31 [] [(.ptr 0 0)])] [[(iv z11)]]) := by
 unfold Z3o
 refine zf (ZkD ..) ?_
 refine ze ?_
 refine ze ?_
 refine zi fun r1 hr1 => ?_
 obtain ⟨qr1, er1, exr1, rfl⟩ := Z97 (x0) (z11) .sh r1 hr1
 refine zc [0] (iv r1) [[(iv z11)]] er1 ?_
 refine zo (bv (decide (0 ≤ r1))) ?_
 exact zr ((bv (decide (0 ≤ r1))), [[(iv z11)]]) ⟨_, rfl⟩
theorem Z8f (x0 : List Z8) (z11 : Int) {r} (h : Z3o x0 z11 = some r) : Z3p x0 z11 = some r :=
 pick_of (fun _ _ ha hb => RRun.uniq (Z8w _) (ha .ex) (hb .ex)) (fun ox0 => Z7N x0 z11 ox0 r h)
noncomputable def Z41 (x0 : List Z8) (z11 : Int) : Option (Int) :=
 Z2Q x0 ((x0.length : Int)) 0 z11
theorem Z8N (x0 : List Z8) (z11 : Int) (ox0 : Own) : Sim (Z1t z11) (Z41 x0 z11) (EE 37 [(.p (.lst ox0 (x0.map Zz))), (.clo 31 [] [(.ptr 0 0)])] [[(iv z11)]]) := by
 unfold Z41
 refine zf (ZjI ..) ?_
 refine ze ?_
 refine ze ?_
 refine zo (iv (x0.length : Int)) ?_ (Eq.trans (by kernel_rfl) (xlen_of (P := PP) (t := 24) (d := 39) (by kernel_rfl) Zz (shrO ox0) x0))
 exact zk (Z5K (x0) ((x0.length : Int)) (0) (z11) ox0)
theorem Z99 (x0 : List Z8) (z11 : Int) {r} (h : Z41 x0 z11 = some r) : Z40 x0 z11 = some r :=
 pick_of (fun _ _ ha hb => RRun.uniq (Z6n _) (ha .ex) (hb .ex)) (fun ox0 => Z8N x0 z11 ox0 r h)
noncomputable def Z3r (x0 : List Z8) (x7 : Int) (x8 : Int) (z11 : Int) : Option (Int) :=
 Z2Q x0 x7 ((IntKind.i64.wrap (x8 + 1))) z11
theorem Z7Y (x0 : List Z8) (x7 : Int) (x8 : Int) (z11 : Int) (ox0 : Own) : Sim (Z1t z11) (Z3r x0 x7 x8 z11) (Zge 1 (.p (.lst ox0 (x0.map Zz))) (.clo 31 [] [(.ptr 0 0)]) (iv x7) (iv x8) [[(iv z11)]]) := by
 unfold Z3r
 refine zf (Zjd ..) ?_
 refine ze ?_
 refine zo (iv (IntKind.i64.wrap (x8 + 1))) ?_
 exact zk (Z5K (x0) (x7) ((IntKind.i64.wrap (x8 + 1))) (z11) ox0)
noncomputable def Z2S (x0 : List Z8) (x7 : Int) (x8 : Int) (z11 : Int) : Option (Int) :=
 (lget x0 x8).bind fun a1 =>
 (Z6G a1 z11).bind fun r2 =>
 if (r2) = true then
 (some (x8))
 else
 (Z3r x0 x7 x8 z11)
theorem Z80 (x0 : List Z8) (x7 : Int) (x8 : Int) (z11 : Int) (ox0 : Own) : Sim (Z1t z11) (Z2S x0 x7 x8 z11) (ZfK 1 (.p (.lst ox0 (x0.map Zz))) (.clo 31 [] [(.ptr 0 0)]) (iv x7) (iv x8) [[(iv z11)]]) := by
 unfold Z2S
 refine zf (Zil ..) ?_
 refine ze ?_
 refine ze ?_
 refine zi fun a1 ha1 => ?_
 refine zo (.cptr (ZH a1)) ?_ (Eq.trans (by kernel_rfl) (xidx_of (o := (shrO ox0)) (k := .i64) (n := 2) (e := Zz) (cs := Z5c) (fun _ => rfl) (fun _ => rfl) (by decide) ha1))
 refine zo (.p (.agg (ZH a1))) ?_
 refine zi fun r2 hr2 => ?_
 obtain ⟨qr2, er2, exr2, rfl⟩ := ZcL (a1) (z11) r2 hr2
 refine zv [0] (bv r2) [[(iv z11)]] er2 ?_
 refine za (r2) ?_ ?_
 ·refine ze ?_
  exact zr ((iv x8), [[(iv z11)]]) ⟨_, rfl⟩
 ·exact zk (Z7Y (x0) (x7) (x8) (z11) ox0)
noncomputable def Z4N  : Option (Int) :=
 some ((-1))
theorem Z7Z (z11 : Int) : Sim (Z1t z11) (Z4N) (Zgc 1  [[(iv z11)]]) := by
 unfold Z4N
 refine zf (ZhP ..) ?_
 refine ze ?_
 exact zr ((iv (-1)), [[(iv z11)]]) ⟨_, rfl⟩
noncomputable def Z2l (x0 : List Z8) (x7 : Int) (x8 : Int) (z11 : Int) : Option (Int) :=
 if ((decide (x8 < x7))) = true then
 (Z2S x0 x7 x8 z11)
 else
 (Z4N)
theorem Z7P (x0 : List Z8) (x7 : Int) (x8 : Int) (z11 : Int) (ox0 : Own) : Sim (Z1t z11) (Z2l x0 x7 x8 z11) (ZbW 1 (.p (.lst ox0 (x0.map Zz))) (.clo 31 [] [(.ptr 0 0)]) (iv x7) (iv x8) [[(iv z11)]]) := by
 unfold Z2l
 refine zf (Zin ..) ?_
 refine ze ?_
 refine zo (bv (decide (x8 < x7))) ?_
 refine za ((decide (x8 < x7))) ?_ ?_
 ·exact zk (Z80 (x0) (x7) (x8) (z11) ox0)
 ·exact zk (Z7Z (z11))
theorem Z4e (x0 : List Z8) (x7 : Int) (x8 : Int) (z11 : Int) {r} (h : Z2l x0 x7 x8 z11 = some r) : Z2Q x0 x7 x8 z11 = some r :=
 pick_of (fun _ _ ha hb => RRun.uniq (Z6n _) (ha .ex) (hb .ex)) (fun ox0 => Z7P x0 x7 x8 z11 ox0 r h)
noncomputable def Z6E (x0 : Z8) (z11 : Int) : Option (Bool) :=
 if ((decide (x0.Lo ≤ z11))) = true then
 (some ((decide (z11 ≤ x0.Hi))))
 else
 (some (false))
theorem Zc4 (x0 : Z8) (z11 : Int) : Sim (Z5M z11) (Z6E x0 z11) (EE 31 [(.p (.agg (ZH x0))), (.ptr 0 0)] [[(iv z11)]]) := by
 unfold Z6E
 refine zf (Zks ..) ?_
 refine ze ?_
 refine zx (.ptr 1 0) [[(iv z11)], (Z1E x0)] ?_
 refine ze ?_
 refine zo (.ptr 1 0) ?_
 refine zo (iv x0.Lo) ?_
 refine zo (iv z11) ?_
 refine zo (bv (decide (x0.Lo ≤ z11))) ?_
 refine za ((decide (x0.Lo ≤ z11))) ?_ ?_
 ·refine zo (iv z11) ?_
  refine zo (.ptr 1 1) ?_
  refine zo (iv x0.Hi) ?_
  refine zo (bv (decide (z11 ≤ x0.Hi))) ?_
  exact zr ((bv (decide (z11 ≤ x0.Hi))), [[(iv z11)], (Z1E x0)]) ⟨_, rfl⟩
 ·exact zr ((bv false), [[(iv z11)], (Z1E x0)]) ⟨_, rfl⟩
theorem ZcK (x0 : Z8) (z11 : Int) {r} (h : Z6E x0 z11 = some r) : Z6G x0 z11 = some r :=
 pick_of (fun _ _ ha hb => RRun.uniq (ZcT _) (ha ) (hb )) (Zc4 x0 z11 r h)
noncomputable def Z4Y (x1 : Int) (zn : List Int) (zu : Int) (z7 : Int) (zh : Int) (zj : List Zv) (z2 : Int) (z6 : Int) : Option (Z3 × Int × Int × Int) :=
 (Z18 ((ByteArray.mk #[94])) zn zu).bind fun r1 =>
 Z2W x1 r1.1 0 zn r1.2 z7 zh zj z2 z6 (([] : List Z8))
theorem ZaU (x1 : Int) (zn : List Int) (zu : Int) (z7 : Int) (zh : Int) (zj : List Zv) (z2 : Int) (z6 : Int) (zp : Own) (zd : Own) (zy : okApp zd = true) : Sim (Z1b zn z7 zh zj zp zd) (Z4Y x1 zn zu z7 zh zj z2 z6) (EE 50 [(.ptr 0 0), (iv x1)] [(Zk (Zm.mk zn zu z7 zh zj (Zl.mk z2 z6)) zp zd)]) := by
 unfold Z4Y
 refine zf (ZkS ..) ?_
 refine ze ?_
 refine zz (.ptr 1 0) [(Zk (Zm.mk zn zu z7 zh zj (Zl.mk z2 z6)) zp zd), (Zq (Z3.mk 0 0 0 0 0 ([] : List Z8) ([] : List Z3)) .nl .nl)] ?_
 refine ze ?_
 refine zi fun r1 hr1 => ?_
 obtain ⟨qr1, er1, exr1, rfl⟩ := Z1d ((ByteArray.mk #[94])) (zn) (zu) (z7) (zh) (zj) (z2) (z6) zp zd zy r1 hr1
 refine zc [0] (bv r1.1) [(Zk (Zm.mk zn r1.2 z7 zh zj (Zl.mk z2 z6)) zp zd), (Zq (Z3.mk 0 0 0 0 0 ([] : List Z8) ([] : List Z3)) .nl .nl)] er1 ?_
 refine ze ?_
 refine zz (.ptr 2 0) [(Zk (Zm.mk zn r1.2 z7 zh zj (Zl.mk z2 z6)) zp zd), (Zq (Z3.mk 0 0 0 0 0 ([] : List Z8) ([] : List Z3)) .nl .nl), [(.p (.lst .nl []))]] ?_
 refine ze ?_
 refine ze ?_
 exact zk (Z76 (x1) (r1.1) (0) (zn) (r1.2) (z7) (zh) (zj) (z2) (z6) ((Z3.mk 0 0 0 0 0 ([] : List Z8) ([] : List Z3))) (([] : List Z8)) zp zd .nl .nl .nl zy rfl rfl)
theorem Zbc (x1 : Int) (zn : List Int) (zu : Int) (z7 : Int) (zh : Int) (zj : List Zv) (z2 : Int) (z6 : Int) {r} (h : Z4Y x1 zn zu z7 zh zj z2 z6 = some r) : Z5V x1 zn zu z7 zh zj z2 z6 = some r :=
 pick_of (fun _ _ ha hb => RRun.uniq (Z8z _ _ _ _ _ _) (ha .ex .ex rfl) (hb .ex .ex rfl)) (fun zp zd zy => ZaU x1 zn zu z7 zh zj z2 z6 zp zd zy r h)
noncomputable def Z1g (x1 : Int) (x5 : Bool) (x8 : Int) (zn : List Int) (zu : Int) (z7 : Int) (zh : Int) (zj : List Zv) (z2 : Int) (z6 : Int) (z13 : List Z8) : Option (Z3 × Int × Int × Int) :=
 Z2W x1 x5 ((IntKind.i64.wrap (x8 + 1))) zn zu z7 zh zj z2 z6 z13
theorem Z1M (x1 : Int) (x5 : Bool) (x8 : Int) (zn : List Int) (zu : Int) (z7 : Int) (zh : Int) (zj : List Zv) (z2 : Int) (z6 : Int) (b1 : Z3) (z13 : List Z8) (zp : Own) (zd : Own) (zD : Own) (zB : Own) (z1h : Own) (zy : okApp zd = true) (zR : okApp zD = true) (zL : okApp zB = true) : Sim (Z1b zn z7 zh zj zp zd) (Z1g x1 x5 x8 zn zu z7 zh zj z2 z6 z13) (Z7B 1 (.ptr 0 0) (iv x1) (.ptr 1 0) (bv x5) (.ptr 2 0) (.clo 58 [] [(.ptr 2 0)]) (iv x8) [(Zk (Zm.mk zn zu z7 zh zj (Zl.mk z2 z6)) zp zd), (Zq b1 zD zB), [(.p (.lst z1h (z13.map Zz)))]]) := by
 unfold Z1g
 refine zf (Zi5 ..) ?_
 refine ze ?_
 refine zo (iv (IntKind.i64.wrap (x8 + 1))) ?_
 exact zk (Z76 (x1) (x5) ((IntKind.i64.wrap (x8 + 1))) (zn) (zu) (z7) (zh) (zj) (z2) (z6) (b1) (z13) zp zd zD zB z1h zy zR zL)
noncomputable def Z3V (zu : Int) (z2 : Int) (z6 : Int) (z13 : List Z8) : Option (Z3 × Int × Int × Int) :=
 some ((Z3.mk 1 0 0 0 0 z13 ([] : List Z3)), zu, z2, z6)
theorem Z6T (zn : List Int) (zu : Int) (z7 : Int) (zh : Int) (zj : List Zv) (z2 : Int) (z6 : Int) (b1 : Z3) (z13 : List Z8) (zp : Own) (zd : Own) (zD : Own) (zB : Own) (z1h : Own) (zy : okApp zd = true) (zR : okApp zD = true) (zL : okApp zB = true) : Sim (Z1b zn z7 zh zj zp zd) (Z3V zu z2 z6 z13) (Zdk 1 (.ptr 1 0) (.ptr 2 0) [(Zk (Zm.mk zn zu z7 zh zj (Zl.mk z2 z6)) zp zd), (Zq b1 zD zB), [(.p (.lst z1h (z13.map Zz)))]]) := by
 unfold Z3V
 refine zf (Zhn ..) ?_
 refine ze ?_
 refine zo (.p (.lst (shrO z1h) (z13.map Zz))) ?_
 refine zo (.p (.agg (ZC (Z3.mk 1 0 0 0 0 z13 ([] : List Z3)) (shrO (shrO z1h)) .nl))) ?_
 refine zt [(Zk (Zm.mk zn zu z7 zh zj (Zl.mk z2 z6)) zp zd), (Zq (Z3.mk 1 0 0 0 0 z13 ([] : List Z3)) (shrO (shrO z1h)) .nl), [(.p (.lst z1h (z13.map Zz)))]] ?_
 exact zr ((.p (.agg (ZC (Z3.mk 1 0 0 0 0 z13 ([] : List Z3)) .sh .sh))), [(Zk (Zm.mk zn zu z7 zh zj (Zl.mk z2 z6)) zp zd), (Zq (Z3.mk 1 0 0 0 0 z13 ([] : List Z3)) (shrO (shrO z1h)) .nl), [(.p (.lst z1h (z13.map Zz)))]]) ⟨_, rfl⟩
noncomputable def Z4S (x5 : Bool) (zn : List Int) (zu : Int) (z2 : Int) (z6 : Int) (z13 : List Z8) : Option (Z3 × Int × Int × Int) :=
 (Z2e zn zu).bind fun r1 =>
 if (x5) = true then
 ((Z6u z13).bind fun r2 =>
 Z3V r1.2 z2 z6 r2.1)
 else
 (Z3V r1.2 z2 z6 z13)
theorem Z9A (x5 : Bool) (zn : List Int) (zu : Int) (z7 : Int) (zh : Int) (zj : List Zv) (z2 : Int) (z6 : Int) (b1 : Z3) (z13 : List Z8) (zp : Own) (zd : Own) (zD : Own) (zB : Own) (z1h : Own) (zy : okApp zd = true) (zR : okApp zD = true) (zL : okApp zB = true) : Sim (Z1b zn z7 zh zj zp zd) (Z4S x5 zn zu z2 z6 z13) (ZeF 1 (.ptr 0 0) (.ptr 1 0) (bv x5) (.ptr 2 0) [(Zk (Zm.mk zn zu z7 zh zj (Zl.mk z2 z6)) zp zd), (Zq b1 zD zB), [(.p (.lst z1h (z13.map Zz)))]]) := by
 unfold Z4S
 refine zf (Zh5 ..) ?_
 refine ze ?_
 refine zi fun r1 hr1 => ?_
 obtain ⟨qr1, er1, exr1, rfl⟩ := Z2A (zn) (zu) (z7) (zh) (zj) (z2) (z6) zp zd zy r1 hr1
 refine zc [0] (iv r1.1) [(Zk (Zm.mk zn r1.2 z7 zh zj (Zl.mk z2 z6)) zp zd), (Zq b1 zD zB), [(.p (.lst z1h (z13.map Zz)))]] er1 ?_
 refine ze ?_
 refine za (x5) ?_ ?_
 ·refine ze ?_
  refine zo (.p (.lst (shrO z1h) (z13.map Zz))) ?_
  refine zi fun r2 hr2 => ?_
  obtain ⟨qr2, er2, exr2, rfl⟩ := Za3 (z13) .sh r2 hr2
  refine zc [] (.p (.tup [(.lst .sh (r2.1.map Zz)), (.v (.int .i64 r2.2))])) [(Zk (Zm.mk zn r1.2 z7 zh zj (Zl.mk z2 z6)) zp zd), (Zq b1 zD zB), [(.p (.lst z1h (z13.map Zz)))]] er2 ?_
  refine zo (.p (.lst .sh (r2.1.map Zz))) ?_
  refine zo (iv r2.2) ?_
  refine zt [(Zk (Zm.mk zn r1.2 z7 zh zj (Zl.mk z2 z6)) zp zd), (Zq b1 zD zB), [(.p (.lst .sh (r2.1.map Zz)))]] ?_
  exact zk (Z6T (zn) (r1.2) (z7) (zh) (zj) (z2) (z6) (b1) (r2.1) zp zd zD zB .sh zy zR zL)
 ·exact zk (Z6T (zn) (r1.2) (z7) (zh) (zj) (z2) (z6) (b1) (z13) zp zd zD zB z1h zy zR zL)
noncomputable def Z2G (x1 : Int) (x5 : Bool) (x8 : Int) (x9 : Int) (zn : List Int) (z7 : Int) (zh : Int) (zj : List Zv) (z2 : Int) (z6 : Int) (z13 : List Z8) : Option (Z3 × Int × Int × Int) :=
 (ZU 22 x9 zn z2 z6).bind fun r1 =>
 Z1g x1 x5 x8 zn r1.1 z7 zh zj r1.2.1 r1.2.2 z13
theorem Z45 (x1 : Int) (x5 : Bool) (x8 : Int) (x9 : Int) (zn : List Int) (zu : Int) (z7 : Int) (zh : Int) (zj : List Zv) (z2 : Int) (z6 : Int) (b1 : Z3) (z13 : List Z8) (zp : Own) (zd : Own) (zD : Own) (zB : Own) (z1h : Own) (zy : okApp zd = true) (zR : okApp zD = true) (zL : okApp zB = true) : Sim (Z1b zn z7 zh zj zp zd) (Z2G x1 x5 x8 x9 zn z7 zh zj z2 z6 z13) (ZaF 1 (.ptr 0 0) (iv x1) (.ptr 1 0) (bv x5) (.ptr 2 0) (.clo 58 [] [(.ptr 2 0)]) (iv x8) (iv x9) [(Zk (Zm.mk zn zu z7 zh zj (Zl.mk z2 z6)) zp zd), (Zq b1 zD zB), [(.p (.lst z1h (z13.map Zz)))]]) := by
 unfold Z2G
 refine zf (Zh7 ..) ?_
 refine ze ?_
 refine zi fun r1 hr1 => ?_
 obtain ⟨qr1, er1, exr1, rfl⟩ := ZX (22) (x9) (zn) (zu) (z7) (zh) (zj) (z2) (z6) zp zd zy r1 hr1
 refine zc [0] (.p (.tup [])) [(Zk (Zm.mk zn r1.1 z7 zh zj (Zl.mk r1.2.1 r1.2.2)) zp zd), (Zq b1 zD zB), [(.p (.lst z1h (z13.map Zz)))]] er1 ?_
 exact zk (Z1M (x1) (x5) (x8) (zn) (r1.1) (z7) (zh) (zj) (r1.2.1) (r1.2.2) (b1) (z13) zp zd zD zB z1h zy zR zL)
noncomputable def Z1F (x1 : Int) (x5 : Bool) (x8 : Int) (x11 : Int) (x15 : Int) (zn : List Int) (zu : Int) (z7 : Int) (zh : Int) (zj : List Zv) (z2 : Int) (z6 : Int) (z13 : List Z8) : Option (Z3 × Int × Int × Int) :=
 if ((z2 == 0)) = true then
 ((Z4p (([(Z8.mk x11 x15)] : List Z8)) z13).bind fun r1 =>
 Z1g x1 x5 x8 zn zu z7 zh zj z2 z6 r1)
 else
 (Z1g x1 x5 x8 zn zu z7 zh zj z2 z6 z13)
theorem Z3Z (x1 : Int) (x5 : Bool) (x8 : Int) (x11 : Int) (x15 : Int) (zn : List Int) (zu : Int) (z7 : Int) (zh : Int) (zj : List Zv) (z2 : Int) (z6 : Int) (b1 : Z3) (z13 : List Z8) (zp : Own) (zd : Own) (zD : Own) (zB : Own) (z1h : Own) (zy : okApp zd = true) (zR : okApp zD = true) (zL : okApp zB = true) : Sim (Z1b zn z7 zh zj zp zd) (Z1F x1 x5 x8 x11 x15 zn zu z7 zh zj z2 z6 z13) (ZaQ 1 (.ptr 0 0) (iv x1) (.ptr 1 0) (bv x5) (.ptr 2 0) (.clo 58 [] [(.ptr 2 0)]) (iv x8) (iv x11) (iv x15) [(Zk (Zm.mk zn zu z7 zh zj (Zl.mk z2 z6)) zp zd), (Zq b1 zD zB), [(.p (.lst z1h (z13.map Zz)))]]) := by
 unfold Z1F
 refine zf (Zhp ..) ?_
 refine ze ?_
 refine zo (.ptr 0 0) ?_
 refine zo (.ptr 0 5) ?_
 refine zo (.ptr 0 5) ?_
 refine zo (iv z2) ?_
 refine zo (bv (z2 == 0)) ?_
 refine za ((z2 == 0)) ?_ ?_
 ·refine ze ?_
  refine zo (.p (.agg (ZH (Z8.mk x11 x15)))) ?_
  refine zo (.p (.lst .ex (([(Z8.mk x11 x15)] : List Z8).map Zz))) ?_
  refine zi fun r1 hr1 => ?_
  obtain ⟨qr1, er1, or1_0_0, exr1, rfl⟩ := Z7p (([(Z8.mk x11 x15)] : List Z8)) (z13) .sh z1h r1 hr1
  refine zv [2] (.p (.tup [])) [(Zk (Zm.mk zn zu z7 zh zj (Zl.mk z2 z6)) zp zd), (Zq b1 zD zB), [(.p (.lst or1_0_0 (r1.map Zz)))]] er1 ?_
  exact zk (Z1M (x1) (x5) (x8) (zn) (zu) (z7) (zh) (zj) (z2) (z6) (b1) (r1) zp zd zD zB or1_0_0 zy zR zL)
 ·exact zk (Z1M (x1) (x5) (x8) (zn) (zu) (z7) (zh) (zj) (z2) (z6) (b1) (z13) zp zd zD zB z1h zy zR zL)
noncomputable def Z3c (x1 : Int) (x5 : Bool) (x8 : Int) (x9 : Int) (x11 : Int) (x15 : Int) (zn : List Int) (z7 : Int) (zh : Int) (zj : List Zv) (z2 : Int) (z6 : Int) (z13 : List Z8) : Option (Z3 × Int × Int × Int) :=
 (ZU 22 x9 zn z2 z6).bind fun r1 =>
 Z1F x1 x5 x8 x11 x15 zn r1.1 z7 zh zj r1.2.1 r1.2.2 z13
theorem Z6M (x1 : Int) (x5 : Bool) (x8 : Int) (x9 : Int) (x11 : Int) (x15 : Int) (zn : List Int) (zu : Int) (z7 : Int) (zh : Int) (zj : List Zv) (z2 : Int) (z6 : Int) (b1 : Z3) (z13 : List Z8) (zp : Own) (zd : Own) (zD : Own) (zB : Own) (z1h : Own) (zy : okApp zd = true) (zR : okApp zD = true) (zL : okApp zB = true) : Sim (Z1b zn z7 zh zj zp zd) (Z3c x1 x5 x8 x9 x11 x15 zn z7 zh zj z2 z6 z13) (Zdi 1 (.ptr 0 0) (iv x1) (.ptr 1 0) (bv x5) (.ptr 2 0) (.clo 58 [] [(.ptr 2 0)]) (iv x8) (iv x9) (iv x11) (iv x15) [(Zk (Zm.mk zn zu z7 zh zj (Zl.mk z2 z6)) zp zd), (Zq b1 zD zB), [(.p (.lst z1h (z13.map Zz)))]]) := by
 unfold Z3c
 refine zf (ZhC ..) ?_
 refine ze ?_
 refine zi fun r1 hr1 => ?_
 obtain ⟨qr1, er1, exr1, rfl⟩ := ZX (22) (x9) (zn) (zu) (z7) (zh) (zj) (z2) (z6) zp zd zy r1 hr1
 refine zc [0] (.p (.tup [])) [(Zk (Zm.mk zn r1.1 z7 zh zj (Zl.mk r1.2.1 r1.2.2)) zp zd), (Zq b1 zD zB), [(.p (.lst z1h (z13.map Zz)))]] er1 ?_
 exact zk (Z3Z (x1) (x5) (x8) (x11) (x15) (zn) (r1.1) (z7) (zh) (zj) (r1.2.1) (r1.2.2) (b1) (z13) zp zd zD zB z1h zy zR zL)
noncomputable def Z4O (x1 : Int) (x5 : Bool) (x8 : Int) (x9 : Int) (x11 : Int) (zn : List Int) (zu : Int) (z7 : Int) (zh : Int) (zj : List Zv) (z2 : Int) (z6 : Int) (z13 : List Z8) : Option (Z3 × Int × Int × Int) :=
 (Z3L zn zu z7 zh zj z2 z6).bind fun r1 =>
 if ((r1.2.2.2.2.1 == 0)) = true then
 ((nilO (shrO (shrO (shrO (shrO r1.2.1.1)))) r1.2.1.2).bind fun a2 =>
 if ((!a2)) = true then
 (Z3c x1 x5 x8 x9 x11 r1.1 zn z7 zh zj r1.2.2.2.2.1 r1.2.2.2.2.2 z13)
 else
 (if ((decide (r1.1 < x11))) = true then
 (Z3c x1 x5 x8 x9 x11 r1.1 zn z7 zh zj r1.2.2.2.2.1 r1.2.2.2.2.2 z13)
 else
 (Z1F x1 x5 x8 x11 r1.1 zn r1.2.2.2.1 z7 zh zj r1.2.2.2.2.1 r1.2.2.2.2.2 z13)))
 else
 (Z1F x1 x5 x8 x11 r1.1 zn r1.2.2.2.1 z7 zh zj r1.2.2.2.2.1 r1.2.2.2.2.2 z13)
theorem Z9D (x1 : Int) (x5 : Bool) (x8 : Int) (x9 : Int) (x11 : Int) (zn : List Int) (zu : Int) (z7 : Int) (zh : Int) (zj : List Zv) (z2 : Int) (z6 : Int) (b1 : Z3) (z13 : List Z8) (zp : Own) (zd : Own) (zD : Own) (zB : Own) (z1h : Own) (zy : okApp zd = true) (zR : okApp zD = true) (zL : okApp zB = true) : Sim (Z1b zn z7 zh zj zp zd) (Z4O x1 x5 x8 x9 x11 zn zu z7 zh zj z2 z6 z13) (ZeT 1 (.ptr 0 0) (iv x1) (.ptr 1 0) (bv x5) (.ptr 2 0) (.clo 58 [] [(.ptr 2 0)]) (iv x8) (iv x9) (iv x11) [(Zk (Zm.mk zn zu z7 zh zj (Zl.mk z2 z6)) zp zd), (Zq b1 zD zB), [(.p (.lst z1h (z13.map Zz)))]]) := by
 unfold Z4O
 refine zf (Zhl ..) ?_
 refine ze ?_
 refine zi fun r1 hr1 => ?_
 obtain ⟨qr1, er1, exr1, rfl⟩ := Z7z (zn) (zu) (z7) (zh) (zj) (z2) (z6) zp zd zy r1 hr1
 refine zc [0] (.p (.tup [(.v (.int .i64 r1.1)), (.lst r1.2.1.1 (r1.2.1.2.map Zz)), (.v (.bool r1.2.2.1))])) [(Zk (Zm.mk zn r1.2.2.2.1 z7 zh zj (Zl.mk r1.2.2.2.2.1 r1.2.2.2.2.2)) zp zd), (Zq b1 zD zB), [(.p (.lst z1h (z13.map Zz)))]] er1 ?_
 refine zo (iv r1.1) ?_
 refine zo (.p (.lst (shrO r1.2.1.1) (r1.2.1.2.map Zz))) ?_
 refine zo (bv r1.2.2.1) ?_
 refine ze ?_
 refine zo (.ptr 0 0) ?_
 refine zo (.ptr 0 5) ?_
 refine zo (.ptr 0 5) ?_
 refine zo (iv r1.2.2.2.2.1) ?_
 refine zo (bv (r1.2.2.2.2.1 == 0)) ?_
 refine za ((r1.2.2.2.2.1 == 0)) ?_ ?_
 ·refine zi fun a2 ha2 => ?_
  refine zo (bv (!a2)) ?_ (Eq.trans (by kernel_rfl) (xnil_neq (P := PP) (t := 23) (c := .slice none 0 0) (e := Zz) (by kernel_rfl) ha2))
  refine za ((!a2)) ?_ ?_
  ·exact zk (Z6M (x1) (x5) (x8) (x9) (x11) (r1.1) (zn) (r1.2.2.2.1) (z7) (zh) (zj) (r1.2.2.2.2.1) (r1.2.2.2.2.2) (b1) (z13) zp zd zD zB z1h zy zR zL)
  ·refine zo (bv (decide (r1.1 < x11))) ?_
   refine za ((decide (r1.1 < x11))) ?_ ?_
   ·exact zk (Z6M (x1) (x5) (x8) (x9) (x11) (r1.1) (zn) (r1.2.2.2.1) (z7) (zh) (zj) (r1.2.2.2.2.1) (r1.2.2.2.2.2) (b1) (z13) zp zd zD zB z1h zy zR zL)
   ·exact zk (Z3Z (x1) (x5) (x8) (x11) (r1.1) (zn) (r1.2.2.2.1) (z7) (zh) (zj) (r1.2.2.2.2.1) (r1.2.2.2.2.2) (b1) (z13) zp zd zD zB z1h zy zR zL)
 ·exact zk (Z3Z (x1) (x5) (x8) (x11) (r1.1) (zn) (r1.2.2.2.1) (z7) (zh) (zj) (r1.2.2.2.2.1) (r1.2.2.2.2.2) (b1) (z13) zp zd zD zB z1h zy zR zL)
noncomputable def Z3U (x1 : Int) (x5 : Bool) (x8 : Int) (x9 : Int) (x11 : Int) (zn : List Int) (zu : Int) (z7 : Int) (zh : Int) (zj : List Zv) (z2 : Int) (z6 : Int) (z13 : List Z8) : Option (Z3 × Int × Int × Int) :=
 (Z18 ((ByteArray.mk #[45])) zn zu).bind fun r1 =>
 if (r1.1) = true then
 ((Z1K ((Zm.mk zn r1.2 z7 zh zj (Zl.mk z2 z6)))).bind fun r2 =>
 if ((r2 == 93)) = true then
 (Z2G x1 x5 x8 x9 zn z7 zh zj z2 z6 z13)
 else
 (if ((r2 == 91)) = true then
 (Z2G x1 x5 x8 x9 zn z7 zh zj z2 z6 z13)
 else
 (if ((r2 == 45)) = true then
 (Z2G x1 x5 x8 x9 zn z7 zh zj z2 z6 z13)
 else
 (if ((decide (r2 < 0))) = true then
 (Z2G x1 x5 x8 x9 zn z7 zh zj z2 z6 z13)
 else
 (Z4O x1 x5 x8 x9 x11 zn r1.2 z7 zh zj z2 z6 z13)))))
 else
 (Z1F x1 x5 x8 x11 x11 zn r1.2 z7 zh zj z2 z6 z13)
theorem Z9K (x1 : Int) (x5 : Bool) (x8 : Int) (x9 : Int) (x11 : Int) (zn : List Int) (zu : Int) (z7 : Int) (zh : Int) (zj : List Zv) (z2 : Int) (z6 : Int) (b1 : Z3) (z13 : List Z8) (zp : Own) (zd : Own) (zD : Own) (zB : Own) (z1h : Own) (zy : okApp zd = true) (zR : okApp zD = true) (zL : okApp zB = true) : Sim (Z1b zn z7 zh zj zp zd) (Z3U x1 x5 x8 x9 x11 zn zu z7 zh zj z2 z6 z13) (ZeU 1 (.ptr 0 0) (iv x1) (.ptr 1 0) (bv x5) (.ptr 2 0) (.clo 58 [] [(.ptr 2 0)]) (iv x8) (iv x9) (iv x11) [(Zk (Zm.mk zn zu z7 zh zj (Zl.mk z2 z6)) zp zd), (Zq b1 zD zB), [(.p (.lst z1h (z13.map Zz)))]]) := by
 unfold Z3U
 refine zf (Zht ..) ?_
 refine ze ?_
 refine ze ?_
 refine zi fun r1 hr1 => ?_
 obtain ⟨qr1, er1, exr1, rfl⟩ := Z1d ((ByteArray.mk #[45])) (zn) (zu) (z7) (zh) (zj) (z2) (z6) zp zd zy r1 hr1
 refine zc [0] (bv r1.1) [(Zk (Zm.mk zn r1.2 z7 zh zj (Zl.mk z2 z6)) zp zd), (Zq b1 zD zB), [(.p (.lst z1h (z13.map Zz)))]] er1 ?_
 refine za (r1.1) ?_ ?_
 ·refine ze ?_
  refine zi fun r2 hr2 => ?_
  obtain ⟨qr2, er2, exr2, rfl⟩ := Z1Q ((Zm.mk zn r1.2 z7 zh zj (Zl.mk z2 z6))) zp zd zy r2 hr2
  refine zc [0] (iv r2) [(Zk (Zm.mk zn r1.2 z7 zh zj (Zl.mk z2 z6)) zp zd), (Zq b1 zD zB), [(.p (.lst z1h (z13.map Zz)))]] er2 ?_
  refine ze ?_
  refine zo (bv (r2 == 93)) ?_
  refine za ((r2 == 93)) ?_ ?_
  ·exact zk (Z45 (x1) (x5) (x8) (x9) (zn) (r1.2) (z7) (zh) (zj) (z2) (z6) (b1) (z13) zp zd zD zB z1h zy zR zL)
  ·refine zo (bv (r2 == 91)) ?_
   refine za ((r2 == 91)) ?_ ?_
   ·exact zk (Z45 (x1) (x5) (x8) (x9) (zn) (r1.2) (z7) (zh) (zj) (z2) (z6) (b1) (z13) zp zd zD zB z1h zy zR zL)
   ·refine zo (bv (r2 == 45)) ?_
    refine za ((r2 == 45)) ?_ ?_
    ·exact zk (Z45 (x1) (x5) (x8) (x9) (zn) (r1.2) (z7) (zh) (zj) (z2) (z6) (b1) (z13) zp zd zD zB z1h zy zR zL)
    ·refine zo (bv (decide (r2 < 0))) ?_
     refine za ((decide (r2 < 0))) ?_ ?_
     ·exact zk (Z45 (x1) (x5) (x8) (x9) (zn) (r1.2) (z7) (zh) (zj) (z2) (z6) (b1) (z13) zp zd zD zB z1h zy zR zL)
     ·exact zk (Z9D (x1) (x5) (x8) (x9) (x11) (zn) (r1.2) (z7) (zh) (zj) (z2) (z6) (b1) (z13) zp zd zD zB z1h zy zR zL)
 ·exact zk (Z3Z (x1) (x5) (x8) (x11) (x11) (zn) (r1.2) (z7) (zh) (zj) (z2) (z6) (b1) (z13) zp zd zD zB z1h zy zR zL)
noncomputable def Z3T (x1 : Int) (x5 : Bool) (x8 : Int) (x9 : Int) (zn : List Int) (zu : Int) (z7 : Int) (zh : Int) (zj : List Zv) (z2 : Int) (z6 : Int) (z13 : List Z8) : Option (Z3 × Int × Int × Int) :=
 (Z3L zn zu z7 zh zj z2 z6).bind fun r1 =>
 (nilO (shrO (shrO (shrO (shrO r1.2.1.1)))) r1.2.1.2).bind fun a2 =>
 if ((!a2)) = true then
 ((Z2N r1.2.2.1 r1.2.1.2).bind fun r3 =>
 (Z4p r3.Set z13).bind fun r4 =>
 (Z1K ((Zm.mk zn r1.2.2.2.1 z7 zh zj (Zl.mk r1.2.2.2.2.1 r1.2.2.2.2.2)))).bind fun r5 =>
 if ((r5 == 45)) = true then
 ((ZU 22 r1.2.2.2.1 zn r1.2.2.2.2.1 r1.2.2.2.2.2).bind fun r6 =>
 Z1g x1 x5 x8 zn r6.1 z7 zh zj r6.2.1 r6.2.2 r4)
 else
 (Z1g x1 x5 x8 zn r1.2.2.2.1 z7 zh zj r1.2.2.2.2.1 r1.2.2.2.2.2 r4))
 else
 (Z3U x1 x5 x8 x9 r1.1 zn r1.2.2.2.1 z7 zh zj r1.2.2.2.2.1 r1.2.2.2.2.2 z13)
theorem Z6O (x1 : Int) (x5 : Bool) (x8 : Int) (x9 : Int) (zn : List Int) (zu : Int) (z7 : Int) (zh : Int) (zj : List Zv) (z2 : Int) (z6 : Int) (b1 : Z3) (z13 : List Z8) (zp : Own) (zd : Own) (zD : Own) (zB : Own) (z1h : Own) (zy : okApp zd = true) (zR : okApp zD = true) (zL : okApp zB = true) : Sim (Z1b zn z7 zh zj zp zd) (Z3T x1 x5 x8 x9 zn zu z7 zh zj z2 z6 z13) (Zdm 1 (.ptr 0 0) (iv x1) (.ptr 1 0) (bv x5) (.ptr 2 0) (.clo 58 [] [(.ptr 2 0)]) (iv x8) (iv x9) [(Zk (Zm.mk zn zu z7 zh zj (Zl.mk z2 z6)) zp zd), (Zq b1 zD zB), [(.p (.lst z1h (z13.map Zz)))]]) := by
 unfold Z3T
 refine zf (Zh3 ..) ?_
 refine ze ?_
 refine zi fun r1 hr1 => ?_
 obtain ⟨qr1, er1, exr1, rfl⟩ := Z7z (zn) (zu) (z7) (zh) (zj) (z2) (z6) zp zd zy r1 hr1
 refine zc [0] (.p (.tup [(.v (.int .i64 r1.1)), (.lst r1.2.1.1 (r1.2.1.2.map Zz)), (.v (.bool r1.2.2.1))])) [(Zk (Zm.mk zn r1.2.2.2.1 z7 zh zj (Zl.mk r1.2.2.2.2.1 r1.2.2.2.2.2)) zp zd), (Zq b1 zD zB), [(.p (.lst z1h (z13.map Zz)))]] er1 ?_
 refine zo (iv r1.1) ?_
 refine zo (.p (.lst (shrO r1.2.1.1) (r1.2.1.2.map Zz))) ?_
 refine zo (bv r1.2.2.1) ?_
 refine ze ?_
 refine zi fun a2 ha2 => ?_
 refine zo (bv (!a2)) ?_ (Eq.trans (by kernel_rfl) (xnil_neq (P := PP) (t := 23) (c := .slice none 0 0) (e := Zz) (by kernel_rfl) ha2))
 refine za ((!a2)) ?_ ?_
 ·refine ze ?_
  refine zi fun r3 hr3 => ?_
  obtain ⟨qr3, er3, exr3, rfl⟩ := Z2X (r1.2.2.1) (r1.2.1.2) .sh r3 hr3
  refine zc [] (.p (.agg (ZC r3 .sh .sh))) [(Zk (Zm.mk zn r1.2.2.2.1 z7 zh zj (Zl.mk r1.2.2.2.2.1 r1.2.2.2.2.2)) zp zd), (Zq b1 zD zB), [(.p (.lst z1h (z13.map Zz)))]] er3 ?_
  refine zz (.ptr 3 0) [(Zk (Zm.mk zn r1.2.2.2.1 z7 zh zj (Zl.mk r1.2.2.2.2.1 r1.2.2.2.2.2)) zp zd), (Zq b1 zD zB), [(.p (.lst z1h (z13.map Zz)))], (Zq (Z3.mk 0 0 0 0 0 ([] : List Z8) ([] : List Z3)) .nl .nl)] ?_
  refine zt [(Zk (Zm.mk zn r1.2.2.2.1 z7 zh zj (Zl.mk r1.2.2.2.2.1 r1.2.2.2.2.2)) zp zd), (Zq b1 zD zB), [(.p (.lst z1h (z13.map Zz)))], (Zq r3 .sh .sh)] ?_
  refine ze ?_
  refine zo (.ptr 3 5) ?_
  refine zo (.p (.lst .sh (r3.Set.map Zz))) ?_
  refine zi fun r4 hr4 => ?_
  obtain ⟨qr4, er4, or4_0_0, exr4, rfl⟩ := Z7p (r3.Set) (z13) .sh z1h r4 hr4
  refine zv [2] (.p (.tup [])) [(Zk (Zm.mk zn r1.2.2.2.1 z7 zh zj (Zl.mk r1.2.2.2.2.1 r1.2.2.2.2.2)) zp zd), (Zq b1 zD zB), [(.p (.lst or4_0_0 (r4.map Zz)))], (Zq r3 .sh .sh)] er4 ?_
  refine ze ?_
  refine zi fun r5 hr5 => ?_
  obtain ⟨qr5, er5, exr5, rfl⟩ := Z1Q ((Zm.mk zn r1.2.2.2.1 z7 zh zj (Zl.mk r1.2.2.2.2.1 r1.2.2.2.2.2))) zp zd zy r5 hr5
  refine zc [0] (iv r5) [(Zk (Zm.mk zn r1.2.2.2.1 z7 zh zj (Zl.mk r1.2.2.2.2.1 r1.2.2.2.2.2)) zp zd), (Zq b1 zD zB), [(.p (.lst or4_0_0 (r4.map Zz)))], (Zq r3 .sh .sh)] er5 ?_
  refine zo (bv (r5 == 45)) ?_
  refine za ((r5 == 45)) ?_ ?_
  ·refine ze ?_
   refine zo (.ptr 0 0) ?_
   refine zo (.ptr 0 1) ?_
   refine zo (iv r1.2.2.2.1) ?_
   refine zi fun r6 hr6 => ?_
   obtain ⟨qr6, er6, exr6, rfl⟩ := ZX (22) (r1.2.2.2.1) (zn) (r1.2.2.2.1) (z7) (zh) (zj) (r1.2.2.2.2.1) (r1.2.2.2.2.2) zp zd zy r6 hr6
   refine zc [0] (.p (.tup [])) [(Zk (Zm.mk zn r6.1 z7 zh zj (Zl.mk r6.2.1 r6.2.2)) zp zd), (Zq b1 zD zB), [(.p (.lst or4_0_0 (r4.map Zz)))], (Zq r3 .sh .sh)] er6 ?_
   exact zk (Z1M (x1) (x5) (x8) (zn) (r6.1) (z7) (zh) (zj) (r6.2.1) (r6.2.2) (b1) (r4) zp zd zD zB or4_0_0 zy zR zL)
  ·exact zk (Z1M (x1) (x5) (x8) (zn) (r1.2.2.2.1) (z7) (zh) (zj) (r1.2.2.2.2.1) (r1.2.2.2.2.2) (b1) (r4) zp zd zD zB or4_0_0 zy zR zL)
 ·exact zk (Z9K (x1) (x5) (x8) (x9) (r1.1) (zn) (r1.2.2.2.1) (z7) (zh) (zj) (r1.2.2.2.2.1) (r1.2.2.2.2.2) (b1) (z13) zp zd zD zB z1h zy zR zL)
noncomputable def Z3h (x1 : Int) (x5 : Bool) (x8 : Int) (zn : List Int) (zu : Int) (z7 : Int) (zh : Int) (zj : List Zv) (z2 : Int) (z6 : Int) (z13 : List Z8) : Option (Z3 × Int × Int × Int) :=
 (Z1K ((Zm.mk zn zu z7 zh zj (Zl.mk z2 z6)))).bind fun r1 =>
 if ((r1 == (-1))) = true then
 ((ZU 22 x1 zn z2 z6).bind fun r2 =>
 Z1g x1 x5 x8 zn r2.1 z7 zh zj r2.2.1 r2.2.2 z13)
 else
 (if ((r1 == 93)) = true then
 (if ((x8 == 0)) = true then
 ((ZU 22 x1 zn z2 z6).bind fun r3 =>
 Z1g x1 x5 x8 zn r3.1 z7 zh zj r3.2.1 r3.2.2 z13)
 else
 (Z4S x5 zn zu z2 z6 z13))
 else
 (if ((r1 == 91)) = true then
 (if ((r1 == 91)) = true then
 ((ZU 22 zu zn z2 z6).bind fun r4 =>
 Z1g x1 x5 x8 zn r4.1 z7 zh zj r4.2.1 r4.2.2 z13)
 else
 (Z3T x1 x5 x8 zu zn zu z7 zh zj z2 z6 z13))
 else
 (if ((r1 == 45)) = true then
 ((ZU 22 zu zn z2 z6).bind fun r5 =>
 Z1g x1 x5 x8 zn r5.1 z7 zh zj r5.2.1 r5.2.2 z13)
 else
 (Z3T x1 x5 x8 zu zn zu z7 zh zj z2 z6 z13))))
theorem Z9W (x1 : Int) (x5 : Bool) (x8 : Int) (zn : List Int) (zu : Int) (z7 : Int) (zh : Int) (zj : List Zv) (z2 : Int) (z6 : Int) (b1 : Z3) (z13 : List Z8) (zp : Own) (zd : Own) (zD : Own) (zB : Own) (z1h : Own) (zy : okApp zd = true) (zR : okApp zD = true) (zL : okApp zB = true) : Sim (Z1b zn z7 zh zj zp zd) (Z3h x1 x5 x8 zn zu z7 zh zj z2 z6 z13) (Zfn 1 (.ptr 0 0) (iv x1) (.ptr 1 0) (bv x5) (.ptr 2 0) (.clo 58 [] [(.ptr 2 0)]) (iv x8) [(Zk (Zm.mk zn zu z7 zh zj (Zl.mk z2 z6)) zp zd), (Zq b1 zD zB), [(.p (.lst z1h (z13.map Zz)))]]) := by
 unfold Z3h
 refine zf (ZiP ..) ?_
 refine ze ?_
 refine zo (.ptr 0 0) ?_
 refine zo (.ptr 0 1) ?_
 refine zo (iv zu) ?_
 refine ze ?_
 refine zi fun r1 hr1 => ?_
 obtain ⟨qr1, er1, exr1, rfl⟩ := Z1Q ((Zm.mk zn zu z7 zh zj (Zl.mk z2 z6))) zp zd zy r1 hr1
 refine zc [0] (iv r1) [(Zk (Zm.mk zn zu z7 zh zj (Zl.mk z2 z6)) zp zd), (Zq b1 zD zB), [(.p (.lst z1h (z13.map Zz)))]] er1 ?_
 refine ze ?_
 refine ze ?_
 refine zo (bv (r1 == (-1))) ?_
 refine za ((r1 == (-1))) ?_ ?_
 ·refine ze ?_
  refine zi fun r2 hr2 => ?_
  obtain ⟨qr2, er2, exr2, rfl⟩ := ZX (22) (x1) (zn) (zu) (z7) (zh) (zj) (z2) (z6) zp zd zy r2 hr2
  refine zc [0] (.p (.tup [])) [(Zk (Zm.mk zn r2.1 z7 zh zj (Zl.mk r2.2.1 r2.2.2)) zp zd), (Zq b1 zD zB), [(.p (.lst z1h (z13.map Zz)))]] er2 ?_
  exact zk (Z1M (x1) (x5) (x8) (zn) (r2.1) (z7) (zh) (zj) (r2.2.1) (r2.2.2) (b1) (z13) zp zd zD zB z1h zy zR zL)
 ·refine ze ?_
  refine zo (bv (r1 == 93)) ?_
  refine za ((r1 == 93)) ?_ ?_
  ·refine ze ?_
   refine zo (bv (x8 == 0)) ?_
   refine za ((x8 == 0)) ?_ ?_
   ·refine ze ?_
    refine zi fun r3 hr3 => ?_
    obtain ⟨qr3, er3, exr3, rfl⟩ := ZX (22) (x1) (zn) (zu) (z7) (zh) (zj) (z2) (z6) zp zd zy r3 hr3
    refine zc [0] (.p (.tup [])) [(Zk (Zm.mk zn r3.1 z7 zh zj (Zl.mk r3.2.1 r3.2.2)) zp zd), (Zq b1 zD zB), [(.p (.lst z1h (z13.map Zz)))]] er3 ?_
    exact zk (Z1M (x1) (x5) (x8) (zn) (r3.1) (z7) (zh) (zj) (r3.2.1) (r3.2.2) (b1) (z13) zp zd zD zB z1h zy zR zL)
   ·exact zk (Z9A (x5) (zn) (zu) (z7) (zh) (zj) (z2) (z6) (b1) (z13) zp zd zD zB z1h zy zR zL)
  ·refine ze ?_
   refine zo (bv (r1 == 91)) ?_
   refine za ((r1 == 91)) ?_ ?_
   ·refine za ((r1 == 91)) ?_ ?_
    ·refine ze ?_
     refine zi fun r4 hr4 => ?_
     obtain ⟨qr4, er4, exr4, rfl⟩ := ZX (22) (zu) (zn) (zu) (z7) (zh) (zj) (z2) (z6) zp zd zy r4 hr4
     refine zc [0] (.p (.tup [])) [(Zk (Zm.mk zn r4.1 z7 zh zj (Zl.mk r4.2.1 r4.2.2)) zp zd), (Zq b1 zD zB), [(.p (.lst z1h (z13.map Zz)))]] er4 ?_
     exact zk (Z1M (x1) (x5) (x8) (zn) (r4.1) (z7) (zh) (zj) (r4.2.1) (r4.2.2) (b1) (z13) zp zd zD zB z1h zy zR zL)
    ·exact zk (Z6O (x1) (x5) (x8) (zu) (zn) (zu) (z7) (zh) (zj) (z2) (z6) (b1) (z13) zp zd zD zB z1h zy zR zL)
   ·refine ze ?_
    refine zo (bv (r1 == 45)) ?_
    refine za ((r1 == 45)) ?_ ?_
    ·refine ze ?_
     refine zi fun r5 hr5 => ?_
     obtain ⟨qr5, er5, exr5, rfl⟩ := ZX (22) (zu) (zn) (zu) (z7) (zh) (zj) (z2) (z6) zp zd zy r5 hr5
     refine zc [0] (.p (.tup [])) [(Zk (Zm.mk zn r5.1 z7 zh zj (Zl.mk r5.2.1 r5.2.2)) zp zd), (Zq b1 zD zB), [(.p (.lst z1h (z13.map Zz)))]] er5 ?_
     exact zk (Z1M (x1) (x5) (x8) (zn) (r5.1) (z7) (zh) (zj) (r5.2.1) (r5.2.2) (b1) (z13) zp zd zD zB z1h zy zR zL)
    ·exact zk (Z6O (x1) (x5) (x8) (zu) (zn) (zu) (z7) (zh) (zj) (z2) (z6) (b1) (z13) zp zd zD zB z1h zy zR zL)
noncomputable def Z63 (zu : Int) (z2 : Int) (z6 : Int) : Option (Z3 × Int × Int × Int) :=
 some ((Z3.mk 0 0 0 0 0 ([] : List Z8) ([] : List Z3)), zu, z2, z6)
theorem Z9I (zn : List Int) (zu : Int) (z7 : Int) (zh : Int) (zj : List Zv) (z2 : Int) (z6 : Int) (b1 : Z3) (zp : Own) (zd : Own) (zD : Own) (zB : Own) (zy : okApp zd = true) (zR : okApp zD = true) (zL : okApp zB = true) : Sim (Z1b zn z7 zh zj zp zd) (Z63 zu z2 z6) (ZeS 1 (.ptr 1 0) [(Zk (Zm.mk zn zu z7 zh zj (Zl.mk z2 z6)) zp zd), (Zq b1 zD zB)]) := by
 unfold Z63
 refine zf (Zhr ..) ?_
 refine ze ?_
 refine zo (.p (.agg (ZC (Z3.mk 0 0 0 0 0 ([] : List Z8) ([] : List Z3)) .nl .nl))) ?_
 refine zt [(Zk (Zm.mk zn zu z7 zh zj (Zl.mk z2 z6)) zp zd), (Zq (Z3.mk 0 0 0 0 0 ([] : List Z8) ([] : List Z3)) .nl .nl)] ?_
 exact zr ((.p (.agg (ZC (Z3.mk 0 0 0 0 0 ([] : List Z8) ([] : List Z3)) .sh .sh))), [(Zk (Zm.mk zn zu z7 zh zj (Zl.mk z2 z6)) zp zd), (Zq (Z3.mk 0 0 0 0 0 ([] : List Z8) ([] : List Z3)) .nl .nl)]) ⟨_, rfl⟩
noncomputable def Z4b (x1 : Int) (x5 : Bool) (x8 : Int) (zn : List Int) (zu : Int) (z7 : Int) (zh : Int) (zj : List Zv) (z2 : Int) (z6 : Int) (z13 : List Z8) : Option (Z3 × Int × Int × Int) :=
 if ((z2 == 0)) = true then
 (Z3h x1 x5 x8 zn zu z7 zh zj z2 z6 z13)
 else
 (Z63 zu z2 z6)
theorem Za4 (x1 : Int) (x5 : Bool) (x8 : Int) (zn : List Int) (zu : Int) (z7 : Int) (zh : Int) (zj : List Zv) (z2 : Int) (z6 : Int) (b1 : Z3) (z13 : List Z8) (zp : Own) (zd : Own) (zD : Own) (zB : Own) (z1h : Own) (zy : okApp zd = true) (zR : okApp zD = true) (zL : okApp zB = true) : Sim (Z1b zn z7 zh zj zp zd) (Z4b x1 x5 x8 zn zu z7 zh zj z2 z6 z13) (Zcr 1 (.ptr 0 0) (iv x1) (.ptr 1 0) (bv x5) (.ptr 2 0) (.clo 58 [] [(.ptr 2 0)]) (iv x8) [(Zk (Zm.mk zn zu z7 zh zj (Zl.mk z2 z6)) zp zd), (Zq b1 zD zB), [(.p (.lst z1h (z13.map Zz)))]]) := by
 unfold Z4b
 refine zf (ZiT ..) ?_
 refine ze ?_
 refine zo (.ptr 0 0) ?_
 refine zo (.ptr 0 5) ?_
 refine zo (.ptr 0 5) ?_
 refine zo (iv z2) ?_
 refine zo (bv (z2 == 0)) ?_
 refine za ((z2 == 0)) ?_ ?_
 ·exact zk (Z9W (x1) (x5) (x8) (zn) (zu) (z7) (zh) (zj) (z2) (z6) (b1) (z13) zp zd zD zB z1h zy zR zL)
 ·exact zk (Z9I (zn) (zu) (z7) (zh) (zj) (z2) (z6) (b1) zp zd zD zB zy zR zL)
theorem Z78 (x1 : Int) (x5 : Bool) (x8 : Int) (zn : List Int) (zu : Int) (z7 : Int) (zh : Int) (zj : List Zv) (z2 : Int) (z6 : Int) (z13 : List Z8) {r} (h : Z4b x1 x5 x8 zn zu z7 zh zj z2 z6 z13 = some r) : Z2W x1 x5 x8 zn zu z7 zh zj z2 z6 z13 = some r :=
 pick_of (fun _ _ ha hb => RRun.uniq (Z8z _ _ _ _ _ _) (ha default .ex .ex .ex .ex .ex rfl rfl rfl) (hb default .ex .ex .ex .ex .ex rfl rfl rfl)) (fun b1 zp zd zD zB z1h zy zR zL => Za4 x1 x5 x8 zn zu z7 zh zj z2 z6 b1 z13 zp zd zD zB z1h zy zR zL r h)
noncomputable def Z3z (x2 : Int) (x5 : Int) (zn : List Int) (zu : Int) (z7 : Int) (zh : Int) (zj : List Zv) (z2 : Int) (z6 : Int) : Option (Int × (Own × (List Z8)) × Bool × Int × Int × Int) :=
 (Z4Z x2 x5 zn zu z7 zh zj z2 z6).bind fun r1 =>
 some (r1.1, (.nl, ([] : List Z8)), false, r1.2.1, r1.2.2.1, r1.2.2.2)
theorem Z9t (x2 : Int) (x5 : Int) (zn : List Int) (zu : Int) (z7 : Int) (zh : Int) (zj : List Zv) (z2 : Int) (z6 : Int) (zp : Own) (zd : Own) (zy : okApp zd = true) : Sim (Z2K zn z7 zh zj zp zd) (Z3z x2 x5 zn zu z7 zh zj z2 z6) (Zez 1 (.ptr 0 0) (iv x2) (iv x5) [(Zk (Zm.mk zn zu z7 zh zj (Zl.mk z2 z6)) zp zd)]) := by
 unfold Z3z
 refine zf (ZhD ..) ?_
 refine ze ?_
 refine zi fun r1 hr1 => ?_
 obtain ⟨qr1, er1, exr1, rfl⟩ := Z89 (x2) (x5) (zn) (zu) (z7) (zh) (zj) (z2) (z6) zp zd zy r1 hr1
 refine zc [0] (iv r1.1) [(Zk (Zm.mk zn r1.2.1 z7 zh zj (Zl.mk r1.2.2.1 r1.2.2.2)) zp zd)] er1 ?_
 exact zr ((.p (.tup [(.v (.int .i64 r1.1)), (.lst .nl []), (.v (.bool false))])), [(Zk (Zm.mk zn r1.2.1 z7 zh zj (Zl.mk r1.2.2.1 r1.2.2.2)) zp zd)]) ⟨_, rfl⟩
noncomputable def Z4T (x2 : Int) (x5 : Int) (zn : List Int) (zu : Int) (z7 : Int) (zh : Int) (zj : List Zv) (z2 : Int) (z6 : Int) : Option (Int × (Own × (List Z8)) × Bool × Int × Int × Int) :=
 (Z2e zn zu).bind fun r1 =>
 (Z50 x2).bind fun r2 =>
 (nilO (shrO r2.1) r2.2).bind fun a3 =>
 if ((!a3)) = true then
 (some (0, ((shrO r2.1), r2.2), (decide (x2 < 97)), r1.2, z2, z6))
 else
 (Z3z x2 x5 zn r1.2 z7 zh zj z2 z6)
theorem Z9L (x2 : Int) (x5 : Int) (zn : List Int) (zu : Int) (z7 : Int) (zh : Int) (zj : List Zv) (z2 : Int) (z6 : Int) (zp : Own) (zd : Own) (zy : okApp zd = true) : Sim (Z2K zn z7 zh zj zp zd) (Z4T x2 x5 zn zu z7 zh zj z2 z6) (Zfv 1 (.ptr 0 0) (iv x2) (iv x5) [(Zk (Zm.mk zn zu z7 zh zj (Zl.mk z2 z6)) zp zd)]) := by
 unfold Z4T
 refine zf (ZhZ ..) ?_
 refine ze ?_
 refine zi fun r1 hr1 => ?_
 obtain ⟨qr1, er1, exr1, rfl⟩ := Z2A (zn) (zu) (z7) (zh) (zj) (z2) (z6) zp zd zy r1 hr1
 refine zc [0] (iv r1.1) [(Zk (Zm.mk zn r1.2 z7 zh zj (Zl.mk z2 z6)) zp zd)] er1 ?_
 refine ze ?_
 refine zi fun r2 hr2 => ?_
 obtain ⟨qr2, er2, exr2, rfl⟩ := Z70 (x2) r2 hr2
 refine zc [] (.p (.lst r2.1 (r2.2.map Zz))) [(Zk (Zm.mk zn r1.2 z7 zh zj (Zl.mk z2 z6)) zp zd)] er2 ?_
 refine ze ?_
 refine zi fun a3 ha3 => ?_
 refine zo (bv (!a3)) ?_ (Eq.trans (by kernel_rfl) (xnil_neq (P := PP) (t := 23) (c := .slice none 0 0) (e := Zz) (by kernel_rfl) ha3))
 refine za ((!a3)) ?_ ?_
 ·refine ze ?_
  refine zo (bv (decide (x2 < 97))) ?_
  exact zr ((.p (.tup [(.v (.int .i64 0)), (.lst (shrO r2.1) (r2.2.map Zz)), (.v (.bool (decide (x2 < 97))))])), [(Zk (Zm.mk zn r1.2 z7 zh zj (Zl.mk z2 z6)) zp zd)]) ⟨_, rfl⟩
 ·exact zk (Z9t (x2) (x5) (zn) (r1.2) (z7) (zh) (zj) (z2) (z6) zp zd zy)
noncomputable def Z4P (x5 : Int) (zn : List Int) (zu : Int) (z7 : Int) (zh : Int) (zj : List Zv) (z2 : Int) (z6 : Int) : Option (Int × (Own × (List Z8)) × Bool × Int × Int × Int) :=
 (Z1K ((Zm.mk zn zu z7 zh zj (Zl.mk z2 z6)))).bind fun r1 =>
 if ((decide (r1 < 0))) = true then
 ((ZU 21 x5 zn z2 z6).bind fun r2 =>
 some (0, (.nl, ([] : List Z8)), false, r2.1, r2.2.1, r2.2.2))
 else
 (Z4T r1 x5 zn zu z7 zh zj z2 z6)
theorem Z9M (x5 : Int) (zn : List Int) (zu : Int) (z7 : Int) (zh : Int) (zj : List Zv) (z2 : Int) (z6 : Int) (zp : Own) (zd : Own) (zy : okApp zd = true) : Sim (Z2K zn z7 zh zj zp zd) (Z4P x5 zn zu z7 zh zj z2 z6) (Zgy 1 (.ptr 0 0) (iv x5) [(Zk (Zm.mk zn zu z7 zh zj (Zl.mk z2 z6)) zp zd)]) := by
 unfold Z4P
 refine zf (ZhQ ..) ?_
 refine ze ?_
 refine zi fun r1 hr1 => ?_
 obtain ⟨qr1, er1, exr1, rfl⟩ := Z1Q ((Zm.mk zn zu z7 zh zj (Zl.mk z2 z6))) zp zd zy r1 hr1
 refine zc [0] (iv r1) [(Zk (Zm.mk zn zu z7 zh zj (Zl.mk z2 z6)) zp zd)] er1 ?_
 refine ze ?_
 refine zo (bv (decide (r1 < 0))) ?_
 refine za ((decide (r1 < 0))) ?_ ?_
 ·refine ze ?_
  refine zi fun r2 hr2 => ?_
  obtain ⟨qr2, er2, exr2, rfl⟩ := ZX (21) (x5) (zn) (zu) (z7) (zh) (zj) (z2) (z6) zp zd zy r2 hr2
  refine zc [0] (.p (.tup [])) [(Zk (Zm.mk zn r2.1 z7 zh zj (Zl.mk r2.2.1 r2.2.2)) zp zd)] er2 ?_
  refine ze ?_
  exact zr ((.p (.tup [(.v (.int .i64 0)), (.lst .nl []), (.v (.bool false))])), [(Zk (Zm.mk zn r2.1 z7 zh zj (Zl.mk r2.2.1 r2.2.2)) zp zd)]) ⟨_, rfl⟩
 ·exact zk (Z9L (r1) (x5) (zn) (zu) (z7) (zh) (zj) (z2) (z6) zp zd zy)
noncomputable def Z4F (zn : List Int) (zu : Int) (z7 : Int) (zh : Int) (zj : List Zv) (z2 : Int) (z6 : Int) : Option (Int × (Own × (List Z8)) × Bool × Int × Int × Int) :=
 (Z2e zn zu).bind fun r1 =>
 if ((r1.1 != 92)) = true then
 (some (r1.1, (.nl, ([] : List Z8)), false, r1.2, z2, z6))
 else
 (Z4P zu zn r1.2 z7 zh zj z2 z6)
theorem ZaC (zn : List Int) (zu : Int) (z7 : Int) (zh : Int) (zj : List Zv) (z2 : Int) (z6 : Int) (zp : Own) (zd : Own) (zy : okApp zd = true) : Sim (Z2K zn z7 zh zj zp zd) (Z4F zn zu z7 zh zj z2 z6) (EE 60 [(.ptr 0 0)] [(Zk (Zm.mk zn zu z7 zh zj (Zl.mk z2 z6)) zp zd)]) := by
 unfold Z4F
 refine zf (Zki ..) ?_
 refine ze ?_
 refine ze ?_
 refine zo (.ptr 0 0) ?_
 refine zo (.ptr 0 1) ?_
 refine zo (iv zu) ?_
 refine ze ?_
 refine zi fun r1 hr1 => ?_
 obtain ⟨qr1, er1, exr1, rfl⟩ := Z2A (zn) (zu) (z7) (zh) (zj) (z2) (z6) zp zd zy r1 hr1
 refine zc [0] (iv r1.1) [(Zk (Zm.mk zn r1.2 z7 zh zj (Zl.mk z2 z6)) zp zd)] er1 ?_
 refine ze ?_
 refine zo (bv (r1.1 != 92)) ?_
 refine za ((r1.1 != 92)) ?_ ?_
 ·refine ze ?_
  exact zr ((.p (.tup [(.v (.int .i64 r1.1)), (.lst .nl []), (.v (.bool false))])), [(Zk (Zm.mk zn r1.2 z7 zh zj (Zl.mk z2 z6)) zp zd)]) ⟨_, rfl⟩
 ·exact zk (Z9M (zu) (zn) (r1.2) (z7) (zh) (zj) (z2) (z6) zp zd zy)
theorem Z7v (zn : List Int) (zu : Int) (z7 : Int) (zh : Int) (zj : List Zv) (z2 : Int) (z6 : Int) {r} (h : Z4F zn zu z7 zh zj z2 z6 = some r) : Z3L zn zu z7 zh zj z2 z6 = some r :=
 pick_of (fun _ _ ha hb => RRun.uniq (Zbh _ _ _ _ _ _) (ha .ex .ex rfl) (hb .ex .ex rfl)) (fun zp zd zy => ZaC zn zu z7 zh zj z2 z6 zp zd zy r h)
end Go.Proofs.YtadodmjdkphddaaDoor.N2
end
