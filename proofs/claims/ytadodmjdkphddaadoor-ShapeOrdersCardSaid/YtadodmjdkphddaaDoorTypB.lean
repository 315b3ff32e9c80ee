/- The functions' typed texts. No condition. -/
import Derived.Test.YtadodmjdkphddaaDoorTypA

section
set_option linter.unusedSimpArgs false
set_option linter.unusedVariables false
namespace Go.Proofs.YtadodmjdkphddaaDoor.N2
open Go Go.Abs
set_option linter.unusedVariables false
set_option maxRecDepth 100000
noncomputable def Z3s (b0 : ZF) : Option (Bool) :=
 (Z1t b0.Root).bind fun r1 =>
 (Z2g b0.Root).bind fun r2 =>
 if ((decide (0 ≤ r1.1))) = true then
 (if ((decide (r1.1 ≤ 1048576))) = true then
 (if ((decide ((-1) ≤ r1.2))) = true then
 (if ((decide (r1.2 ≤ 1048576))) = true then
 (if ((decide (r1.2 < 0))) = true then
 (if ((decide (0 ≤ r2))) = true then
 (some ((decide (r2 ≤ 1048576))))
 else
 (some (false)))
 else
 (if ((decide (r1.1 ≤ r1.2))) = true then
 (if ((decide (0 ≤ r2))) = true then
 (some ((decide (r2 ≤ 1048576))))
 else
 (some (false)))
 else
 (some (false))))
 else
 (some (false)))
 else
 (some (false)))
 else
 (some (false)))
 else
 (some (false))
theorem Z85 (b0 : ZF) (zM : Own) (zI : Own) : Sim (Z1W) (Z3s b0) (Zh5 0 (.ptr 0 0) [(ZD b0 zM zI)]) := by
 unfold Z3s
 refine zf (ZiW ..) ?_
 refine ze ?_
 refine zo (.ptr 0 0) ?_
 refine zo (.p (.agg (ZC b0.Root (shrO zM) (shrO zI)))) ?_
 refine zi fun r1 hr1 => ?_
 obtain ⟨qr1, er1, exr1, rfl⟩ := Z3M (b0.Root) .sh .sh r1 hr1
 refine zc [] (.p (.tup [(.v (.int .i64 r1.1)), (.v (.int .i64 r1.2))])) [(ZD b0 zM zI)] er1 ?_
 refine zo (iv r1.1) ?_
 refine zo (iv r1.2) ?_
 refine ze ?_
 refine zo (.ptr 0 0) ?_
 refine zo (.p (.agg (ZC b0.Root (shrO zM) (shrO zI)))) ?_
 refine zi fun r2 hr2 => ?_
 obtain ⟨qr2, er2, exr2, rfl⟩ := Z75 (b0.Root) .sh .sh r2 hr2
 refine zc [] (iv r2) [(ZD b0 zM zI)] er2 ?_
 refine ze ?_
 refine zo (bv (decide (0 ≤ r1.1))) ?_
 refine za ((decide (0 ≤ r1.1))) ?_ ?_
 ·refine zo (bv (decide (r1.1 ≤ 1048576))) ?_
  refine za ((decide (r1.1 ≤ 1048576))) ?_ ?_
  ·refine zo (bv (decide ((-1) ≤ r1.2))) ?_
   refine za ((decide ((-1) ≤ r1.2))) ?_ ?_
   ·refine zo (bv (decide (r1.2 ≤ 1048576))) ?_
    refine za ((decide (r1.2 ≤ 1048576))) ?_ ?_
    ·refine zo (bv (decide (r1.2 < 0))) ?_
     refine za ((decide (r1.2 < 0))) ?_ ?_
     ·refine zo (bv (decide (0 ≤ r2))) ?_
      refine za ((decide (0 ≤ r2))) ?_ ?_
      ·refine zo (bv (decide (r2 ≤ 1048576))) ?_
       exact zr ((bv (decide (r2 ≤ 1048576))), [(ZD b0 zM zI)]) ⟨_, rfl⟩
      ·exact zr ((bv false), [(ZD b0 zM zI)]) ⟨_, rfl⟩
     ·refine zo (bv (decide (r1.1 ≤ r1.2))) ?_
      refine za ((decide (r1.1 ≤ r1.2))) ?_ ?_
      ·refine zo (bv (decide (0 ≤ r2))) ?_
       refine za ((decide (0 ≤ r2))) ?_ ?_
       ·refine zo (bv (decide (r2 ≤ 1048576))) ?_
        exact zr ((bv (decide (r2 ≤ 1048576))), [(ZD b0 zM zI)]) ⟨_, rfl⟩
       ·exact zr ((bv false), [(ZD b0 zM zI)]) ⟨_, rfl⟩
      ·exact zr ((bv false), [(ZD b0 zM zI)]) ⟨_, rfl⟩
    ·exact zr ((bv false), [(ZD b0 zM zI)]) ⟨_, rfl⟩
   ·exact zr ((bv false), [(ZD b0 zM zI)]) ⟨_, rfl⟩
  ·exact zr ((bv false), [(ZD b0 zM zI)]) ⟨_, rfl⟩
 ·exact zr ((bv false), [(ZD b0 zM zI)]) ⟨_, rfl⟩
noncomputable def Z2W (x0 : ByteArray) : Option (Bool) :=
 (Z69 x0).bind fun r1 =>
 if ((r1.2.Code != 0)) = true then
 (some (true))
 else
 (Z3s r1.1)
theorem Z8b (x0 : ByteArray) : Sim (Z1W) (Z2W x0) (ZgR 0 (.p (.v (.string x0))) []) := by
 unfold Z2W
 refine zf (ZiZ ..) ?_
 refine ze ?_
 refine zi fun r1 hr1 => ?_
 obtain ⟨qr1, er1, exr1, rfl⟩ := Z8J (x0) r1 hr1
 refine zc [] (.p (.tup [(.agg (Z1A r1.1 .sh .sh)), (.agg (Z2m r1.2))])) [] er1 ?_
 refine zo (.p (.agg (Z1A r1.1 .sh .sh))) ?_
 refine zo (.p (.agg (Z2m r1.2))) ?_
 refine zz (.ptr 0 0) [(ZD (ZF.mk (Z7.mk 0 0 0 0 0 ([] : List Zc) ([] : List Z7)) 0 false) .nl .nl)] ?_
 refine zz (.ptr 1 0) [(ZD (ZF.mk (Z7.mk 0 0 0 0 0 ([] : List Zc) ([] : List Z7)) 0 false) .nl .nl), (ZJ (Zl.mk 0 0))] ?_
 refine zt [(ZD r1.1 .sh .sh), (ZJ (Zl.mk 0 0))] ?_
 refine zt [(ZD r1.1 .sh .sh), (ZJ r1.2)] ?_
 refine ze ?_
 refine zo (.ptr 1 0) ?_
 refine zo (iv r1.2.Code) ?_
 refine zo (bv (r1.2.Code != 0)) ?_
 refine za ((r1.2.Code != 0)) ?_ ?_
 ·refine ze ?_
  exact zr ((bv true), [(ZD r1.1 .sh .sh), (ZJ r1.2)]) ⟨_, rfl⟩
 ·exact zk (Z85 (r1.1) .sh .sh)
noncomputable def Z3w (x0 : ByteArray) : Option (Bool) :=
 if ((decide (400 < (x0.size : Int)))) = true then
 (some (true))
 else
 (Z2W x0)
theorem Z8c (x0 : ByteArray) : Sim (Z1W) (Z3w x0) (ZgU 0 (.p (.v (.string x0))) []) := by
 unfold Z3w
 refine zf (ZiY ..) ?_
 refine ze ?_
 refine zo (iv (x0.size : Int)) ?_
 refine zo (bv (decide (400 < (x0.size : Int)))) ?_
 refine za ((decide (400 < (x0.size : Int)))) ?_ ?_
 ·refine ze ?_
  exact zr ((bv true), []) ⟨_, rfl⟩
 ·exact zk (Z8b (x0))
noncomputable def Z49 (x0 : ByteArray) : Option (Bool) :=
 (Z5e).bind fun r1 =>
 if ((!r1)) = true then
 (some (false))
 else
 (Z3w x0)
theorem Z8W (x0 : ByteArray) : Sim (Z1W) (Z49 x0) (EE 9 [(.p (.v (.string x0)))] []) := by
 unfold Z49
 refine zf (Zl5 ..) ?_
 refine ze ?_
 refine ze ?_
 refine zi fun r1 hr1 => ?_
 obtain ⟨qr1, er1, exr1, rfl⟩ := Zag  r1 hr1
 refine zc [] (bv r1) [] er1 ?_
 refine zo (bv (!r1)) ?_
 refine za ((!r1)) ?_ ?_
 ·refine ze ?_
  exact zr ((bv false), []) ⟨_, rfl⟩
 ·exact zk (Z8c (x0))
theorem Z92 (x0 : ByteArray) {r} (h : Z49 x0 = some r) : Z5j x0 = some r :=
 pick_of (fun _ _ ha hb => RRun.uniq (Z9l) (ha ) (hb )) (Z8W x0 r h)
noncomputable def Z5g  : Option (Bool) :=
 (Z69 ((ByteArray.mk #[97, 123, 50, 44, 51, 125, 124, 98, 42]))).bind fun r1 =>
 (Z1t r1.1.Root).bind fun r2 =>
 (Z69 ((ByteArray.mk #[97, 42]))).bind fun r3 =>
 if ((r1.2.Code == 0)) = true then
 (if ((r3.2.Code == 0)) = true then
 (if ((r2.1 == 0)) = true then
 (if ((r2.2 == (-1))) = true then
 ((Z2g r1.1.Root).bind fun r4 =>
 if ((r4 == 11)) = true then
 ((Z8t r1.1).bind fun r5 =>
 some ((r5 == 0)))
 else
 (some (false)))
 else
 (some (false)))
 else
 (some (false)))
 else
 (some (false)))
 else
 (some (false))
theorem Za2  : Sim (Z4g) (Z5g) (EE 23 [] []) := by
 unfold Z5g
 refine zf (Zk7 ..) ?_
 refine ze ?_
 refine ze ?_
 refine zi fun r1 hr1 => ?_
 obtain ⟨qr1, er1, exr1, rfl⟩ := Z8J ((ByteArray.mk #[97, 123, 50, 44, 51, 125, 124, 98, 42])) r1 hr1
 refine zc [] (.p (.tup [(.agg (Z1A r1.1 .sh .sh)), (.agg (Z2m r1.2))])) [] er1 ?_
 refine zo (.p (.agg (Z1A r1.1 .sh .sh))) ?_
 refine zo (.p (.agg (Z2m r1.2))) ?_
 refine zz (.ptr 0 0) [(ZD (ZF.mk (Z7.mk 0 0 0 0 0 ([] : List Zc) ([] : List Z7)) 0 false) .nl .nl)] ?_
 refine zz (.ptr 1 0) [(ZD (ZF.mk (Z7.mk 0 0 0 0 0 ([] : List Zc) ([] : List Z7)) 0 false) .nl .nl), (ZJ (Zl.mk 0 0))] ?_
 refine zt [(ZD r1.1 .sh .sh), (ZJ (Zl.mk 0 0))] ?_
 refine zt [(ZD r1.1 .sh .sh), (ZJ r1.2)] ?_
 refine ze ?_
 refine zo (.ptr 0 0) ?_
 refine zo (.p (.agg (ZC r1.1.Root .sh .sh))) ?_
 refine zi fun r2 hr2 => ?_
 obtain ⟨qr2, er2, exr2, rfl⟩ := Z3M (r1.1.Root) .sh .sh r2 hr2
 refine zc [] (.p (.tup [(.v (.int .i64 r2.1)), (.v (.int .i64 r2.2))])) [(ZD r1.1 .sh .sh), (ZJ r1.2)] er2 ?_
 refine zo (iv r2.1) ?_
 refine zo (iv r2.2) ?_
 refine ze ?_
 refine zi fun r3 hr3 => ?_
 obtain ⟨qr3, er3, exr3, rfl⟩ := Z8J ((ByteArray.mk #[97, 42])) r3 hr3
 refine zc [] (.p (.tup [(.agg (Z1A r3.1 .sh .sh)), (.agg (Z2m r3.2))])) [(ZD r1.1 .sh .sh), (ZJ r1.2)] er3 ?_
 refine zo (.p (.agg (Z1A r3.1 .sh .sh))) ?_
 refine zo (.p (.agg (Z2m r3.2))) ?_
 refine zz (.ptr 2 0) [(ZD r1.1 .sh .sh), (ZJ r1.2), (ZD (ZF.mk (Z7.mk 0 0 0 0 0 ([] : List Zc) ([] : List Z7)) 0 false) .nl .nl)] ?_
 refine zz (.ptr 3 0) [(ZD r1.1 .sh .sh), (ZJ r1.2), (ZD (ZF.mk (Z7.mk 0 0 0 0 0 ([] : List Zc) ([] : List Z7)) 0 false) .nl .nl), (ZJ (Zl.mk 0 0))] ?_
 refine zt [(ZD r1.1 .sh .sh), (ZJ r1.2), (ZD r3.1 .sh .sh), (ZJ (Zl.mk 0 0))] ?_
 refine zt [(ZD r1.1 .sh .sh), (ZJ r1.2), (ZD r3.1 .sh .sh), (ZJ r3.2)] ?_
 refine ze ?_
 refine zo (.ptr 1 0) ?_
 refine zo (iv r1.2.Code) ?_
 refine zo (bv (r1.2.Code == 0)) ?_
 refine za ((r1.2.Code == 0)) ?_ ?_
 ·refine zo (.ptr 3 0) ?_
  refine zo (iv r3.2.Code) ?_
  refine zo (bv (r3.2.Code == 0)) ?_
  refine za ((r3.2.Code == 0)) ?_ ?_
  ·refine zo (bv (r2.1 == 0)) ?_
   refine za ((r2.1 == 0)) ?_ ?_
   ·refine zo (bv (r2.2 == (-1))) ?_
    refine za ((r2.2 == (-1))) ?_ ?_
    ·refine zo (.ptr 0 0) ?_
     refine zo (.p (.agg (ZC r1.1.Root .sh .sh))) ?_
     refine zi fun r4 hr4 => ?_
     obtain ⟨qr4, er4, exr4, rfl⟩ := Z75 (r1.1.Root) .sh .sh r4 hr4
     refine zc [] (iv r4) [(ZD r1.1 .sh .sh), (ZJ r1.2), (ZD r3.1 .sh .sh), (ZJ r3.2)] er4 ?_
     refine zo (bv (r4 == 11)) ?_
     refine za ((r4 == 11)) ?_ ?_
     ·refine zo (.p (.agg (Z1A r1.1 .sh .sh))) ?_
      refine zi fun r5 hr5 => ?_
      obtain ⟨qr5, er5, exr5, rfl⟩ := ZdF (r1.1) .sh .sh r5 hr5
      refine zc [] (iv r5) [(ZD r1.1 .sh .sh), (ZJ r1.2), (ZD r3.1 .sh .sh), (ZJ r3.2)] er5 ?_
      refine zo (bv (r5 == 0)) ?_
      exact zr ((bv (r5 == 0)), [(ZD r1.1 .sh .sh), (ZJ r1.2), (ZD r3.1 .sh .sh), (ZJ r3.2)]) ⟨_, rfl⟩
     ·exact zr ((bv false), [(ZD r1.1 .sh .sh), (ZJ r1.2), (ZD r3.1 .sh .sh), (ZJ r3.2)]) ⟨_, rfl⟩
    ·exact zr ((bv false), [(ZD r1.1 .sh .sh), (ZJ r1.2), (ZD r3.1 .sh .sh), (ZJ r3.2)]) ⟨_, rfl⟩
   ·exact zr ((bv false), [(ZD r1.1 .sh .sh), (ZJ r1.2), (ZD r3.1 .sh .sh), (ZJ r3.2)]) ⟨_, rfl⟩
  ·exact zr ((bv false), [(ZD r1.1 .sh .sh), (ZJ r1.2), (ZD r3.1 .sh .sh), (ZJ r3.2)]) ⟨_, rfl⟩
 ·exact zr ((bv false), [(ZD r1.1 .sh .sh), (ZJ r1.2), (ZD r3.1 .sh .sh), (ZJ r3.2)]) ⟨_, rfl⟩
theorem Zae  {r} (h : Z5g = some r) : Z5e = some r :=
 pick_of (fun _ _ ha hb => RRun.uniq (ZaJ) (ha ) (hb )) (Za2  r h)
noncomputable def Z3b (z1U : List Int) (zT : Int) (z1k : List Zv) (zK : Int) (zU : Int) (zN : Int) (zW : Int) (zX : Int) (zO : Int) (zQ : Int) (zR : List Zc) (zP : List Z7) (z16 : Bool) : Option (ZF × Zl) :=
 Z54 z1k ((z1k.length : Int)) 0 z1U zT zK zU zN zW zX zO zQ zR zP z16
theorem Z6P (b0 : ZF) (b1 : Zl) (z1U : List Int) (z1N : Int) (zT : Int) (z1D : Int) (z1k : List Zv) (zK : Int) (zU : Int) (zN : Int) (zW : Int) (zX : Int) (zO : Int) (zQ : Int) (zR : List Zc) (zP : List Z7) (z1v : Int) (z16 : Bool) (zM : Own) (zI : Own) (z2j : Own) (z1b : Own) (z14 : Own) (z10 : Own) (z1y : okApp zM = true) (z1r : okApp zI = true) (z2v : okApp z1b = true) : Sim (Z2o) (Z3b z1U zT z1k zK zU zN zW zX zO zQ zR zP z16) (ZcN 0 (.ptr 0 0) (.ptr 1 0) (.ptr 2 0) (.ptr 3 0) [(ZD b0 zM zI), (ZJ b1), (Zk (Zm.mk z1U z1N zT z1D z1k (Zl.mk zK zU)) z2j z1b), (ZD (ZF.mk (Z7.mk zN zW zX zO zQ zR zP) z1v z16) z14 z10)]) := by
 unfold Z3b
 refine zf (Zi0 ..) ?_
 refine ze ?_
 refine zo (.ptr 2 0) ?_
 refine zo (.ptr 2 4) ?_
 refine zo (.p (.lst (shrO z1b) (z1k.map Z1G))) ?_
 refine zo (iv (z1k.length : Int)) ?_ (Eq.trans (by kernel_rfl) (xlen_of (P := PP) (t := 56) (d := 62) (by kernel_rfl) Z1G (shrO z1b) z1k))
 exact zk (Z9m (z1k) ((z1k.length : Int)) (0) (b0) (b1) (z1U) (z1N) (zT) (z1D) (z1k) (zK) (zU) (zN) (zW) (zX) (zO) (zQ) (zR) (zP) (z1v) (z16) (shrO z1b) zM zI z2j z1b z14 z10 z1y z1r z2v)
noncomputable def Z5S (z1U : List Int) (z1N : Int) (zT : Int) (z1k : List Zv) (zK : Int) (zU : Int) (zN : Int) (zW : Int) (zX : Int) (zO : Int) (zQ : Int) (zR : List Zc) (zP : List Z7) (z16 : Bool) : Option (ZF × Zl) :=
 (ZV 20 z1N z1U zK zU).bind fun r1 =>
 Z3b z1U zT z1k r1.2.1 r1.2.2 zN zW zX zO zQ zR zP z16
theorem Zcw (b0 : ZF) (b1 : Zl) (z1U : List Int) (z1N : Int) (zT : Int) (z1D : Int) (z1k : List Zv) (zK : Int) (zU : Int) (zN : Int) (zW : Int) (zX : Int) (zO : Int) (zQ : Int) (zR : List Zc) (zP : List Z7) (z1v : Int) (z16 : Bool) (zM : Own) (zI : Own) (z2j : Own) (z1b : Own) (z14 : Own) (z10 : Own) (z1y : okApp zM = true) (z1r : okApp zI = true) (z2v : okApp z1b = true) : Sim (Z2o) (Z5S z1U z1N zT z1k zK zU zN zW zX zO zQ zR zP z16) (Zfg 0 (.ptr 0 0) (.ptr 1 0) (.ptr 2 0) (.ptr 3 0) [(ZD b0 zM zI), (ZJ b1), (Zk (Zm.mk z1U z1N zT z1D z1k (Zl.mk zK zU)) z2j z1b), (ZD (ZF.mk (Z7.mk zN zW zX zO zQ zR zP) z1v z16) z14 z10)]) := by
 unfold Z5S
 refine zf (ZiH ..) ?_
 refine ze ?_
 refine zo (.ptr 2 0) ?_
 refine zo (.ptr 2 1) ?_
 refine zo (iv z1N) ?_
 refine zi fun r1 hr1 => ?_
 obtain ⟨qr1, er1, exr1, rfl⟩ := ZY (20) (z1N) (z1U) (z1N) (zT) (z1D) (z1k) (zK) (zU) z2j z1b z2v r1 hr1
 refine zc [2] (.p (.tup [])) [(ZD b0 zM zI), (ZJ b1), (Zk (Zm.mk z1U r1.1 zT z1D z1k (Zl.mk r1.2.1 r1.2.2)) z2j z1b), (ZD (ZF.mk (Z7.mk zN zW zX zO zQ zR zP) z1v z16) z14 z10)] er1 ?_
 exact zk (Z6P (b0) (b1) (z1U) (r1.1) (zT) (z1D) (z1k) (r1.2.1) (r1.2.2) (zN) (zW) (zX) (zO) (zQ) (zR) (zP) (z1v) (z16) zM zI z2j z1b z14 z10 z1y z1r z2v)
noncomputable def Z6S (x0 : ByteArray) : Option (ZF × Zl) :=
 (Z19 ((ByteArray.mk #[40, 63, 105, 41])) ((bytesI x0)) 0).bind fun r1 =>
 (Z2Y ((bytesI x0)) r1.2 0 0 (([] : List Zv)) 0 0).bind fun r2 =>
 if ((r2.2.2.2.2.2.1 == 0)) = true then
 (if ((decide (r2.2.1 < ((bytesI x0).length : Int)))) = true then
 (Z5S ((bytesI x0)) r2.2.1 r2.2.2.1 r2.2.2.2.2.1 r2.2.2.2.2.2.1 r2.2.2.2.2.2.2 r2.1.Kind r2.1.Lo r2.1.Hi r2.1.Mode r2.1.Ref r2.1.Set r2.1.Kids r1.1)
 else
 (Z3b ((bytesI x0)) r2.2.2.1 r2.2.2.2.2.1 r2.2.2.2.2.2.1 r2.2.2.2.2.2.2 r2.1.Kind r2.1.Lo r2.1.Hi r2.1.Mode r2.1.Ref r2.1.Set r2.1.Kids r1.1))
 else
 (Z3b ((bytesI x0)) r2.2.2.1 r2.2.2.2.2.1 r2.2.2.2.2.2.1 r2.2.2.2.2.2.2 r2.1.Kind r2.1.Lo r2.1.Hi r2.1.Mode r2.1.Ref r2.1.Set r2.1.Kids r1.1)
theorem Zci (x0 : ByteArray) (b0 : ZF) (b1 : Zl) (zM : Own) (zI : Own) (z1y : okApp zM = true) (z1r : okApp zI = true) : Sim (Z2o) (Z6S x0) (Zfb 0 (.p (.v (.string x0))) (.ptr 0 0) (.ptr 1 0) [(ZD b0 zM zI), (ZJ b1)]) := by
 unfold Z6S
 refine zf (Zim ..) ?_
 refine ze ?_
 refine zo (.p (.lst .sh ((bytesI x0).map (eI .u8)))) ?_ (Eq.trans (by kernel_rfl) (xcnv_byt (P := PP) (s := 9) (d := 40) (by kernel_rfl) (by kernel_rfl) x0))
 refine zo (.p (.agg (ZdX (Zm.mk (bytesI x0) 0 0 0 ([] : List Zv) (Zl.mk 0 0)) .sh .nl))) ?_
 refine zx (.ptr 2 0) [(ZD b0 zM zI), (ZJ b1), (Zk (Zm.mk (bytesI x0) 0 0 0 ([] : List Zv) (Zl.mk 0 0)) .sh .nl)] ?_
 refine ze ?_
 refine zi fun r1 hr1 => ?_
 obtain ⟨qr1, er1, exr1, rfl⟩ := Z1e ((ByteArray.mk #[40, 63, 105, 41])) ((bytesI x0)) (0) (0) (0) (([] : List Zv)) (0) (0) .sh .nl rfl r1 hr1
 refine zc [2] (bv r1.1) [(ZD b0 zM zI), (ZJ b1), (Zk (Zm.mk (bytesI x0) r1.2 0 0 ([] : List Zv) (Zl.mk 0 0)) .sh .nl)] er1 ?_
 refine zo (.p (.agg (Z1A (ZF.mk (Z7.mk 0 0 0 0 0 ([] : List Zc) ([] : List Z7)) 0 r1.1) .nl .nl))) ?_
 refine zz (.ptr 3 0) [(ZD b0 zM zI), (ZJ b1), (Zk (Zm.mk (bytesI x0) r1.2 0 0 ([] : List Zv) (Zl.mk 0 0)) .sh .nl), (ZD (ZF.mk (Z7.mk 0 0 0 0 0 ([] : List Zc) ([] : List Z7)) 0 false) .nl .nl)] ?_
 refine zt [(ZD b0 zM zI), (ZJ b1), (Zk (Zm.mk (bytesI x0) r1.2 0 0 ([] : List Zv) (Zl.mk 0 0)) .sh .nl), (ZD (ZF.mk (Z7.mk 0 0 0 0 0 ([] : List Zc) ([] : List Z7)) 0 r1.1) .nl .nl)] ?_
 refine ze ?_
 refine zi fun r2 hr2 => ?_
 obtain ⟨qr2, er2, or2_0_4, exr2, hor2_0_4, rfl⟩ := Z8P ((bytesI x0)) (r1.2) (0) (0) (([] : List Zv)) (0) (0) .sh .nl rfl r2 hr2
 refine zc [2] (.p (.agg (ZC r2.1 .sh .sh))) [(ZD b0 zM zI), (ZJ b1), (Zk (Zm.mk (bytesI x0) r2.2.1 r2.2.2.1 r2.2.2.2.1 r2.2.2.2.2.1 (Zl.mk r2.2.2.2.2.2.1 r2.2.2.2.2.2.2)) .sh or2_0_4), (ZD (ZF.mk (Z7.mk 0 0 0 0 0 ([] : List Zc) ([] : List Z7)) 0 r1.1) .nl .nl)] er2 ?_
 refine zo (.ptr 3 0) ?_
 refine zt [(ZD b0 zM zI), (ZJ b1), (Zk (Zm.mk (bytesI x0) r2.2.1 r2.2.2.1 r2.2.2.2.1 r2.2.2.2.2.1 (Zl.mk r2.2.2.2.2.2.1 r2.2.2.2.2.2.2)) .sh or2_0_4), (ZD (ZF.mk (Z7.mk r2.1.Kind r2.1.Lo r2.1.Hi r2.1.Mode r2.1.Ref r2.1.Set r2.1.Kids) 0 r1.1) .sh .sh)] ?_
 refine ze ?_
 refine zo (.ptr 2 0) ?_
 refine zo (.ptr 2 5) ?_
 refine zo (.ptr 2 5) ?_
 refine zo (iv r2.2.2.2.2.2.1) ?_
 refine zo (bv (r2.2.2.2.2.2.1 == 0)) ?_
 refine za ((r2.2.2.2.2.2.1 == 0)) ?_ ?_
 ·refine zo (.ptr 2 0) ?_
  refine zo (.ptr 2 1) ?_
  refine zo (iv r2.2.1) ?_
  refine zo (.ptr 2 0) ?_
  refine zo (.ptr 2 0) ?_
  refine zo (.p (.lst .sh ((bytesI x0).map (eI .u8)))) ?_
  refine zo (iv ((bytesI x0).length : Int)) ?_ (Eq.trans (by kernel_rfl) (xlen_of (P := PP) (t := 40) (d := 5) (by kernel_rfl) (eI .u8) .sh (bytesI x0)))
  refine zo (bv (decide (r2.2.1 < ((bytesI x0).length : Int)))) ?_
  refine za ((decide (r2.2.1 < ((bytesI x0).length : Int)))) ?_ ?_
  ·exact zk (Zcw (b0) (b1) ((bytesI x0)) (r2.2.1) (r2.2.2.1) (r2.2.2.2.1) (r2.2.2.2.2.1) (r2.2.2.2.2.2.1) (r2.2.2.2.2.2.2) (r2.1.Kind) (r2.1.Lo) (r2.1.Hi) (r2.1.Mode) (r2.1.Ref) (r2.1.Set) (r2.1.Kids) (0) (r1.1) zM zI .sh or2_0_4 .sh .sh z1y z1r hor2_0_4)
  ·exact zk (Z6P (b0) (b1) ((bytesI x0)) (r2.2.1) (r2.2.2.1) (r2.2.2.2.1) (r2.2.2.2.2.1) (r2.2.2.2.2.2.1) (r2.2.2.2.2.2.2) (r2.1.Kind) (r2.1.Lo) (r2.1.Hi) (r2.1.Mode) (r2.1.Ref) (r2.1.Set) (r2.1.Kids) (0) (r1.1) zM zI .sh or2_0_4 .sh .sh z1y z1r hor2_0_4)
 ·exact zk (Z6P (b0) (b1) ((bytesI x0)) (r2.2.1) (r2.2.2.1) (r2.2.2.2.1) (r2.2.2.2.2.1) (r2.2.2.2.2.2.1) (r2.2.2.2.2.2.2) (r2.1.Kind) (r2.1.Lo) (r2.1.Hi) (r2.1.Mode) (r2.1.Ref) (r2.1.Set) (r2.1.Kids) (0) (r1.1) zM zI .sh or2_0_4 .sh .sh z1y z1r hor2_0_4)
noncomputable def Z8y (x0 : ByteArray) : Option (ZF × Zl) :=
 if ((decide (256 < (x0.size : Int)))) = true then
 (some ((ZF.mk (Z7.mk 0 0 0 0 0 ([] : List Zc) ([] : List Z7)) 0 false), (Zl.mk 12 0)))
 else
 (Z6S x0)
theorem Zdj (x0 : ByteArray) : Sim (Z2o) (Z8y x0) (EE 16 [(.p (.v (.string x0)))] []) := by
 unfold Z8y
 refine zf (ZjV ..) ?_
 refine ze ?_
 refine zz (.ptr 0 0) [(ZD (ZF.mk (Z7.mk 0 0 0 0 0 ([] : List Zc) ([] : List Z7)) 0 false) .nl .nl)] ?_
 refine zz (.ptr 1 0) [(ZD (ZF.mk (Z7.mk 0 0 0 0 0 ([] : List Zc) ([] : List Z7)) 0 false) .nl .nl), (ZJ (Zl.mk 0 0))] ?_
 refine ze ?_
 refine zo (iv (x0.size : Int)) ?_
 refine zo (bv (decide (256 < (x0.size : Int)))) ?_
 refine za ((decide (256 < (x0.size : Int)))) ?_ ?_
 ·refine ze ?_
  refine zo (.p (.agg (Z1A (ZF.mk (Z7.mk 0 0 0 0 0 ([] : List Zc) ([] : List Z7)) 0 false) .nl .nl))) ?_
  refine zo (.p (.agg (Z2m (Zl.mk 12 0)))) ?_
  refine zt [(ZD (ZF.mk (Z7.mk 0 0 0 0 0 ([] : List Zc) ([] : List Z7)) 0 false) .nl .nl), (ZJ (Zl.mk 0 0))] ?_
  refine zt [(ZD (ZF.mk (Z7.mk 0 0 0 0 0 ([] : List Zc) ([] : List Z7)) 0 false) .nl .nl), (ZJ (Zl.mk 12 0))] ?_
  exact zr ((.p (.tup [(.agg (Z1A (ZF.mk (Z7.mk 0 0 0 0 0 ([] : List Zc) ([] : List Z7)) 0 false) .sh .sh)), (.agg (Z2m (Zl.mk 12 0)))])), [(ZD (ZF.mk (Z7.mk 0 0 0 0 0 ([] : List Zc) ([] : List Z7)) 0 false) .nl .nl), (ZJ (Zl.mk 12 0))]) ⟨_, rfl⟩
 ·exact zk (Zci (x0) ((ZF.mk (Z7.mk 0 0 0 0 0 ([] : List Zc) ([] : List Z7)) 0 false)) ((Zl.mk 0 0)) .nl .nl rfl rfl)
theorem Zdz (x0 : ByteArray) {r} (h : Z8y x0 = some r) : Z69 x0 = some r :=
 pick_of (fun _ _ ha hb => RRun.uniq (Zbd) (ha ) (hb )) (Zdj x0 r h)
noncomputable def Z3p (x50 : List Zv) (x51 : Int) (x52 : Int) (z1U : List Int) (zT : Int) (zK : Int) (zU : Int) (zN : Int) (zW : Int) (zX : Int) (zO : Int) (zQ : Int) (zR : List Zc) (zP : List Z7) (z16 : Bool) : Option (ZF × Zl) :=
 Z54 x50 x51 ((IntKind.i64.wrap (x52 + 1))) z1U zT zK zU zN zW zX zO zQ zR zP z16
theorem Z8Q (x50 : List Zv) (x51 : Int) (x52 : Int) (b0 : ZF) (b1 : Zl) (z1U : List Int) (z1N : Int) (zT : Int) (z1D : Int) (z1k : List Zv) (zK : Int) (zU : Int) (zN : Int) (zW : Int) (zX : Int) (zO : Int) (zQ : Int) (zR : List Zc) (zP : List Z7) (z1v : Int) (z16 : Bool) (ox50 : Own) (zM : Own) (zI : Own) (z2j : Own) (z1b : Own) (z14 : Own) (z10 : Own) (z1y : okApp zM = true) (z1r : okApp zI = true) (z2v : okApp z1b = true) : Sim (Z2o) (Z3p x50 x51 x52 z1U zT zK zU zN zW zX zO zQ zR zP z16) (Zd8 0 (.ptr 0 0) (.ptr 1 0) (.ptr 2 0) (.ptr 3 0) (.p (.lst ox50 (x50.map Z1G))) (iv x51) (iv x52) [(ZD b0 zM zI), (ZJ b1), (Zk (Zm.mk z1U z1N zT z1D z1k (Zl.mk zK zU)) z2j z1b), (ZD (ZF.mk (Z7.mk zN zW zX zO zQ zR zP) z1v z16) z14 z10)]) := by
 unfold Z3p
 refine zf (Zh6 ..) ?_
 refine ze ?_
 refine zo (iv (IntKind.i64.wrap (x52 + 1))) ?_
 exact zk (Z9m (x50) (x51) ((IntKind.i64.wrap (x52 + 1))) (b0) (b1) (z1U) (z1N) (zT) (z1D) (z1k) (zK) (zU) (zN) (zW) (zX) (zO) (zQ) (zR) (zP) (z1v) (z16) ox50 zM zI z2j z1b z14 z10 z1y z1r z2v)
noncomputable def Z5z (x50 : List Zv) (x51 : Int) (x52 : Int) (z1U : List Int) (zT : Int) (zK : Int) (zU : Int) (zN : Int) (zW : Int) (zX : Int) (zO : Int) (zQ : Int) (zR : List Zc) (zP : List Z7) (z16 : Bool) : Option (ZF × Zl) :=
 (lget x50 x52).bind fun a1 =>
 if ((decide (zT < a1.group))) = true then
 ((ZV 26 a1.at_ z1U zK zU).bind fun r2 =>
 Z3p x50 x51 x52 z1U zT r2.2.1 r2.2.2 zN zW zX zO zQ zR zP z16)
 else
 (Z3p x50 x51 x52 z1U zT zK zU zN zW zX zO zQ zR zP z16)
theorem Zc4 (x50 : List Zv) (x51 : Int) (x52 : Int) (b0 : ZF) (b1 : Zl) (z1U : List Int) (z1N : Int) (zT : Int) (z1D : Int) (z1k : List Zv) (zK : Int) (zU : Int) (zN : Int) (zW : Int) (zX : Int) (zO : Int) (zQ : Int) (zR : List Zc) (zP : List Z7) (z1v : Int) (z16 : Bool) (ox50 : Own) (zM : Own) (zI : Own) (z2j : Own) (z1b : Own) (z14 : Own) (z10 : Own) (z1y : okApp zM = true) (z1r : okApp zI = true) (z2v : okApp z1b = true) : Sim (Z2o) (Z5z x50 x51 x52 z1U zT zK zU zN zW zX zO zQ zR zP z16) (ZeK 0 (.ptr 0 0) (.ptr 1 0) (.ptr 2 0) (.ptr 3 0) (.p (.lst ox50 (x50.map Z1G))) (iv x51) (iv x52) [(ZD b0 zM zI), (ZJ b1), (Zk (Zm.mk z1U z1N zT z1D z1k (Zl.mk zK zU)) z2j z1b), (ZD (ZF.mk (Z7.mk zN zW zX zO zQ zR zP) z1v z16) z14 z10)]) := by
 unfold Z5z
 refine zf (ZgG ..) ?_
 refine ze ?_
 refine zi fun a1 ha1 => ?_
 refine zo (.cptr (Z8G a1)) ?_ (Eq.trans (by kernel_rfl) (xidx_of (o := ox50) (k := .i64) (n := 2) (e := Z1G) (cs := Z6Q) (fun _ => rfl) (fun _ => rfl) (by decide) ha1))
 refine zo (.p (.agg (Z8G a1))) ?_
 refine zz (.ptr 4 0) [(ZD b0 zM zI), (ZJ b1), (Zk (Zm.mk z1U z1N zT z1D z1k (Zl.mk zK zU)) z2j z1b), (ZD (ZF.mk (Z7.mk zN zW zX zO zQ zR zP) z1v z16) z14 z10), (Z8D (Zv.mk 0 0))] ?_
 refine zt [(ZD b0 zM zI), (ZJ b1), (Zk (Zm.mk z1U z1N zT z1D z1k (Zl.mk zK zU)) z2j z1b), (ZD (ZF.mk (Z7.mk zN zW zX zO zQ zR zP) z1v z16) z14 z10), (Z8D a1)] ?_
 refine ze ?_
 refine zo (.ptr 4 0) ?_
 refine zo (iv a1.group) ?_
 refine zo (.ptr 2 0) ?_
 refine zo (.ptr 2 2) ?_
 refine zo (iv zT) ?_
 refine zo (bv (decide (zT < a1.group))) ?_
 refine za ((decide (zT < a1.group))) ?_ ?_
 ·refine ze ?_
  refine zo (.ptr 4 1) ?_
  refine zo (iv a1.at_) ?_
  refine zi fun r2 hr2 => ?_
  obtain ⟨qr2, er2, exr2, rfl⟩ := ZY (26) (a1.at_) (z1U) (z1N) (zT) (z1D) (z1k) (zK) (zU) z2j z1b z2v r2 hr2
  refine zc [2] (.p (.tup [])) [(ZD b0 zM zI), (ZJ b1), (Zk (Zm.mk z1U r2.1 zT z1D z1k (Zl.mk r2.2.1 r2.2.2)) z2j z1b), (ZD (ZF.mk (Z7.mk zN zW zX zO zQ zR zP) z1v z16) z14 z10), (Z8D a1)] er2 ?_
  exact zk (Z8Q (x50) (x51) (x52) (b0) (b1) (z1U) (r2.1) (zT) (z1D) (z1k) (r2.2.1) (r2.2.2) (zN) (zW) (zX) (zO) (zQ) (zR) (zP) (z1v) (z16) ox50 zM zI z2j z1b z14 z10 z1y z1r z2v)
 ·exact zk (Z8Q (x50) (x51) (x52) (b0) (b1) (z1U) (z1N) (zT) (z1D) (z1k) (zK) (zU) (zN) (zW) (zX) (zO) (zQ) (zR) (zP) (z1v) (z16) ox50 zM zI z2j z1b z14 z10 z1y z1r z2v)
noncomputable def Z8a (zT : Int) (zN : Int) (zW : Int) (zX : Int) (zO : Int) (zQ : Int) (zR : List Zc) (zP : List Z7) (z16 : Bool) : Option (ZF × Zl) :=
 some ((ZF.mk (Z7.mk zN zW zX zO zQ zR zP) zT z16), (Zl.mk 0 0))
theorem ZbK (b0 : ZF) (b1 : Zl) (z1U : List Int) (z1N : Int) (zT : Int) (z1D : Int) (z1k : List Zv) (zK : Int) (zU : Int) (zN : Int) (zW : Int) (zX : Int) (zO : Int) (zQ : Int) (zR : List Zc) (zP : List Z7) (z1v : Int) (z16 : Bool) (zM : Own) (zI : Own) (z2j : Own) (z1b : Own) (z14 : Own) (z10 : Own) (z1y : okApp zM = true) (z1r : okApp zI = true) (z2v : okApp z1b = true) : Sim (Z2o) (Z8a zT zN zW zX zO zQ zR zP z16) (Zev 0 (.ptr 0 0) (.ptr 1 0) (.ptr 2 0) (.ptr 3 0) [(ZD b0 zM zI), (ZJ b1), (Zk (Zm.mk z1U z1N zT z1D z1k (Zl.mk zK zU)) z2j z1b), (ZD (ZF.mk (Z7.mk zN zW zX zO zQ zR zP) z1v z16) z14 z10)]) := by
 unfold Z8a
 refine zf (Zhf ..) ?_
 refine ze ?_
 refine zo (.ptr 2 0) ?_
 refine zo (.ptr 2 2) ?_
 refine zo (iv zT) ?_
 refine zo (.ptr 3 7) ?_
 refine zt [(ZD b0 zM zI), (ZJ b1), (Zk (Zm.mk z1U z1N zT z1D z1k (Zl.mk zK zU)) z2j z1b), (ZD (ZF.mk (Z7.mk zN zW zX zO zQ zR zP) zT z16) z14 z10)] ?_
 refine ze ?_
 refine zo (.p (.agg (Z1A (ZF.mk (Z7.mk zN zW zX zO zQ zR zP) zT z16) (shrO z14) (shrO z10)))) ?_
 refine zo (.p (.agg (Z2m (Zl.mk 0 0)))) ?_
 refine zt [(ZD (ZF.mk (Z7.mk zN zW zX zO zQ zR zP) zT z16) (shrO z14) (shrO z10)), (ZJ b1), (Zk (Zm.mk z1U z1N zT z1D z1k (Zl.mk zK zU)) z2j z1b), (ZD (ZF.mk (Z7.mk zN zW zX zO zQ zR zP) zT z16) z14 z10)] ?_
 refine zt [(ZD (ZF.mk (Z7.mk zN zW zX zO zQ zR zP) zT z16) (shrO z14) (shrO z10)), (ZJ (Zl.mk 0 0)), (Zk (Zm.mk z1U z1N zT z1D z1k (Zl.mk zK zU)) z2j z1b), (ZD (ZF.mk (Z7.mk zN zW zX zO zQ zR zP) zT z16) z14 z10)] ?_
 exact zr ((.p (.tup [(.agg (Z1A (ZF.mk (Z7.mk zN zW zX zO zQ zR zP) zT z16) .sh .sh)), (.agg (Z2m (Zl.mk 0 0)))])), [(ZD (ZF.mk (Z7.mk zN zW zX zO zQ zR zP) zT z16) (shrO z14) (shrO z10)), (ZJ (Zl.mk 0 0)), (Zk (Zm.mk z1U z1N zT z1D z1k (Zl.mk zK zU)) z2j z1b), (ZD (ZF.mk (Z7.mk zN zW zX zO zQ zR zP) zT z16) z14 z10)]) ⟨_, rfl⟩
noncomputable def Z5F (zT : Int) (zK : Int) (zU : Int) (zN : Int) (zW : Int) (zX : Int) (zO : Int) (zQ : Int) (zR : List Zc) (zP : List Z7) (z16 : Bool) : Option (ZF × Zl) :=
 if ((zK != 0)) = true then
 (some ((ZF.mk (Z7.mk 0 0 0 0 0 ([] : List Zc) ([] : List Z7)) 0 false), (Zl.mk zK zU)))
 else
 (Z8a zT zN zW zX zO zQ zR zP z16)
theorem ZbQ (b0 : ZF) (b1 : Zl) (z1U : List Int) (z1N : Int) (zT : Int) (z1D : Int) (z1k : List Zv) (zK : Int) (zU : Int) (zN : Int) (zW : Int) (zX : Int) (zO : Int) (zQ : Int) (zR : List Zc) (zP : List Z7) (z1v : Int) (z16 : Bool) (zM : Own) (zI : Own) (z2j : Own) (z1b : Own) (z14 : Own) (z10 : Own) (z1y : okApp zM = true) (z1r : okApp zI = true) (z2v : okApp z1b = true) : Sim (Z2o) (Z5F zT zK zU zN zW zX zO zQ zR zP z16) (Zen 0 (.ptr 0 0) (.ptr 1 0) (.ptr 2 0) (.ptr 3 0) [(ZD b0 zM zI), (ZJ b1), (Zk (Zm.mk z1U z1N zT z1D z1k (Zl.mk zK zU)) z2j z1b), (ZD (ZF.mk (Z7.mk zN zW zX zO zQ zR zP) z1v z16) z14 z10)]) := by
 unfold Z5F
 refine zf (ZgI ..) ?_
 refine ze ?_
 refine zo (.ptr 2 0) ?_
 refine zo (.ptr 2 5) ?_
 refine zo (.ptr 2 5) ?_
 refine zo (iv zK) ?_
 refine zo (bv (zK != 0)) ?_
 refine za ((zK != 0)) ?_ ?_
 ·refine ze ?_
  refine zo (.p (.agg (Z1A (ZF.mk (Z7.mk 0 0 0 0 0 ([] : List Zc) ([] : List Z7)) 0 false) .nl .nl))) ?_
  refine zo (.ptr 2 0) ?_
  refine zo (.ptr 2 5) ?_
  refine zo (.p (.agg (Z2m (Zl.mk zK zU)))) ?_
  refine zt [(ZD (ZF.mk (Z7.mk 0 0 0 0 0 ([] : List Zc) ([] : List Z7)) 0 false) .nl .nl), (ZJ b1), (Zk (Zm.mk z1U z1N zT z1D z1k (Zl.mk zK zU)) z2j z1b), (ZD (ZF.mk (Z7.mk zN zW zX zO zQ zR zP) z1v z16) z14 z10)] ?_
  refine zt [(ZD (ZF.mk (Z7.mk 0 0 0 0 0 ([] : List Zc) ([] : List Z7)) 0 false) .nl .nl), (ZJ (Zl.mk zK zU)), (Zk (Zm.mk z1U z1N zT z1D z1k (Zl.mk zK zU)) z2j z1b), (ZD (ZF.mk (Z7.mk zN zW zX zO zQ zR zP) z1v z16) z14 z10)] ?_
  refine zg ?_
  exact zr ((.p (.tup [(.agg (Z1A (ZF.mk (Z7.mk 0 0 0 0 0 ([] : List Zc) ([] : List Z7)) 0 false) .sh .sh)), (.agg (Z2m (Zl.mk zK zU)))])), [(ZD (ZF.mk (Z7.mk 0 0 0 0 0 ([] : List Zc) ([] : List Z7)) 0 false) .nl .nl), (ZJ (Zl.mk zK zU)), (Zk (Zm.mk z1U z1N zT z1D z1k (Zl.mk zK zU)) z2j z1b), (ZD (ZF.mk (Z7.mk zN zW zX zO zQ zR zP) z1v z16) z14 z10)]) ⟨_, rfl⟩
 ·exact zk (ZbK (b0) (b1) (z1U) (z1N) (zT) (z1D) (z1k) (zK) (zU) (zN) (zW) (zX) (zO) (zQ) (zR) (zP) (z1v) (z16) zM zI z2j z1b z14 z10 z1y z1r z2v)
noncomputable def Z4k (x50 : List Zv) (x51 : Int) (x52 : Int) (z1U : List Int) (zT : Int) (zK : Int) (zU : Int) (zN : Int) (zW : Int) (zX : Int) (zO : Int) (zQ : Int) (zR : List Zc) (zP : List Z7) (z16 : Bool) : Option (ZF × Zl) :=
 if ((decide (x52 < x51))) = true then
 (Z5z x50 x51 x52 z1U zT zK zU zN zW zX zO zQ zR zP z16)
 else
 (Z5F zT zK zU zN zW zX zO zQ zR zP z16)
theorem Zco (x50 : List Zv) (x51 : Int) (x52 : Int) (b0 : ZF) (b1 : Zl) (z1U : List Int) (z1N : Int) (zT : Int) (z1D : Int) (z1k : List Zv) (zK : Int) (zU : Int) (zN : Int) (zW : Int) (zX : Int) (zO : Int) (zQ : Int) (zR : List Zc) (zP : List Z7) (z1v : Int) (z16 : Bool) (ox50 : Own) (zM : Own) (zI : Own) (z2j : Own) (z1b : Own) (z14 : Own) (z10 : Own) (z1y : okApp zM = true) (z1r : okApp zI = true) (z2v : okApp z1b = true) : Sim (Z2o) (Z4k x50 x51 x52 z1U zT zK zU zN zW zX zO zQ zR zP z16) (ZbG 0 (.ptr 0 0) (.ptr 1 0) (.ptr 2 0) (.ptr 3 0) (.p (.lst ox50 (x50.map Z1G))) (iv x51) (iv x52) [(ZD b0 zM zI), (ZJ b1), (Zk (Zm.mk z1U z1N zT z1D z1k (Zl.mk zK zU)) z2j z1b), (ZD (ZF.mk (Z7.mk zN zW zX zO zQ zR zP) z1v z16) z14 z10)]) := by
 unfold Z4k
 refine zf (Ziq ..) ?_
 refine ze ?_
 refine zo (bv (decide (x52 < x51))) ?_
 refine za ((decide (x52 < x51))) ?_ ?_
 ·exact zk (Zc4 (x50) (x51) (x52) (b0) (b1) (z1U) (z1N) (zT) (z1D) (z1k) (zK) (zU) (zN) (zW) (zX) (zO) (zQ) (zR) (zP) (z1v) (z16) ox50 zM zI z2j z1b z14 z10 z1y z1r z2v)
 ·exact zk (ZbQ (b0) (b1) (z1U) (z1N) (zT) (z1D) (z1k) (zK) (zU) (zN) (zW) (zX) (zO) (zQ) (zR) (zP) (z1v) (z16) zM zI z2j z1b z14 z10 z1y z1r z2v)
theorem Z5Y (x50 : List Zv) (x51 : Int) (x52 : Int) (z1U : List Int) (zT : Int) (zK : Int) (zU : Int) (zN : Int) (zW : Int) (zX : Int) (zO : Int) (zQ : Int) (zR : List Zc) (zP : List Z7) (z16 : Bool) {r} (h : Z4k x50 x51 x52 z1U zT zK zU zN zW zX zO zQ zR zP z16 = some r) : Z54 x50 x51 x52 z1U zT zK zU zN zW zX zO zQ zR zP z16 = some r :=
 pick_of (fun _ _ ha hb => RRun.uniq (Zbd) (ha default default default default default default .ex .ex .ex .ex .ex .ex .ex rfl rfl rfl) (hb default default default default default default .ex .ex .ex .ex .ex .ex .ex rfl rfl rfl)) (fun b0 b1 z1N z1D z1k z1v ox50 zM zI z2j z1b z14 z10 z1y z1r z2v => Zco x50 x51 x52 b0 b1 z1U z1N zT z1D z1k zK zU zN zW zX zO zQ zR zP z1v z16 ox50 zM zI z2j z1b z14 z10 z1y z1r z2v r h)
noncomputable def Z5c (zu : Int) : Option (Bool × Int) :=
 some (false, zu)
theorem Z6Z (zn : List Int) (zu : Int) (zb : Int) (zh : Int) (zj : List Zv) (z2 : Int) (z6 : Int) (zp : Own) (zd : Own) (zy : okApp zd = true) : Sim (Z3q zn zb zh zj z2 z6 zp zd) (Z5c zu) (Zeh 1  [(Zk (Zm.mk zn zu zb zh zj (Zl.mk z2 z6)) zp zd)]) := by
 unfold Z5c
 refine zf (ZiF ..) ?_
 refine ze ?_
 exact zr ((bv false), [(Zk (Zm.mk zn zu zb zh zj (Zl.mk z2 z6)) zp zd)]) ⟨_, rfl⟩
noncomputable def Z5b (x1 : ByteArray) (zu : Int) : Option (Bool × Int) :=
 some (true, (IntKind.i64.wrap (zu + (x1.size : Int))))
theorem Za5 (x1 : ByteArray) (zn : List Int) (zu : Int) (zb : Int) (zh : Int) (zj : List Zv) (z2 : Int) (z6 : Int) (zp : Own) (zd : Own) (zy : okApp zd = true) : Sim (Z3q zn zb zh zj z2 z6 zp zd) (Z5b x1 zu) (ZfY 1 (.ptr 0 0) (.p (.v (.string x1))) [(Zk (Zm.mk zn zu zb zh zj (Zl.mk z2 z6)) zp zd)]) := by
 unfold Z5b
 refine zf (ZhW ..) ?_
 refine ze ?_
 refine zo (.ptr 0 0) ?_
 refine zo (.ptr 0 1) ?_
 refine zo (iv zu) ?_
 refine zo (iv (x1.size : Int)) ?_
 refine zo (iv (IntKind.i64.wrap (zu + (x1.size : Int)))) ?_
 refine zo (.ptr 0 0) ?_
 refine zo (.ptr 0 1) ?_
 refine zt [(Zk (Zm.mk zn (IntKind.i64.wrap (zu + (x1.size : Int))) zb zh zj (Zl.mk z2 z6)) zp zd)] ?_
 refine ze ?_
 exact zr ((bv true), [(Zk (Zm.mk zn (IntKind.i64.wrap (zu + (x1.size : Int))) zb zh zj (Zl.mk z2 z6)) zp zd)]) ⟨_, rfl⟩
noncomputable def Z62 (x1 : ByteArray) (zn : List Int) (zu : Int) : Option (Bool × Int) :=
 if ((decide ((IntKind.i64.wrap ((zn.length : Int) - zu)) < (x1.size : Int)))) = true then
 (Z5c zu)
 else
 ((lsl zn zu (IntKind.i64.wrap (zu + (x1.size : Int)))).bind fun a1 =>
 if ((!(seq (strI a1) x1))) = true then
 (Z5c zu)
 else
 (Z5b x1 zu))
theorem ZaU (x1 : ByteArray) (zn : List Int) (zu : Int) (zb : Int) (zh : Int) (zj : List Zv) (z2 : Int) (z6 : Int) (zp : Own) (zd : Own) (zy : okApp zd = true) : Sim (Z3q zn zb zh zj z2 z6 zp zd) (Z62 x1 zn zu) (EE 27 [(.ptr 0 0), (.p (.v (.string x1)))] [(Zk (Zm.mk zn zu zb zh zj (Zl.mk z2 z6)) zp zd)]) := by
 unfold Z62
 refine zf (ZjW ..) ?_
 refine ze ?_
 refine ze ?_
 refine zo (.ptr 0 0) ?_
 refine zo (.ptr 0 0) ?_
 refine zo (.p (.lst (shrO zp) (zn.map (eI .u8)))) ?_
 refine zo (iv (zn.length : Int)) ?_ (Eq.trans (by kernel_rfl) (xlen_of (P := PP) (t := 40) (d := 5) (by kernel_rfl) (eI .u8) (shrO zp) zn))
 refine zo (.ptr 0 0) ?_
 refine zo (.ptr 0 1) ?_
 refine zo (iv zu) ?_
 refine zo (iv (IntKind.i64.wrap ((zn.length : Int) - zu))) ?_
 refine zo (iv (x1.size : Int)) ?_
 refine zo (bv (decide ((IntKind.i64.wrap ((zn.length : Int) - zu)) < (x1.size : Int)))) ?_
 refine za ((decide ((IntKind.i64.wrap ((zn.length : Int) - zu)) < (x1.size : Int)))) ?_ ?_
 ·exact zk (Z6Z (zn) (zu) (zb) (zh) (zj) (z2) (z6) zp zd zy)
 ·refine zo (.ptr 0 0) ?_
  refine zo (.ptr 0 0) ?_
  refine zo (.p (.lst (shrO zp) (zn.map (eI .u8)))) ?_
  refine zo (.ptr 0 0) ?_
  refine zo (.ptr 0 1) ?_
  refine zo (iv zu) ?_
  refine zo (.ptr 0 0) ?_
  refine zo (.ptr 0 1) ?_
  refine zo (iv zu) ?_
  refine zo (iv (x1.size : Int)) ?_
  refine zo (iv (IntKind.i64.wrap (zu + (x1.size : Int)))) ?_
  refine zi fun a1 ha1 => ?_
  refine zo (.p (.lst (slO (shrO zp)) (a1.map (eI .u8)))) ?_ (Eq.trans (by kernel_rfl) <| xsl_of (n := 1) (o := (shrO zp)) (lo := (some (iv zu))) (hi := (some (iv (IntKind.i64.wrap (zu + (x1.size : Int)))))) (e := (eI .u8)) (fun _ => rfl) (by decide) (by kernel_rfl) (by kernel_rfl) ha1)
  refine zo (.p (.v (.string (strI a1)))) ?_ (Eq.trans (by kernel_rfl) (xcnv_str (P := PP) (s := 40) (d := 9) (by kernel_rfl) (slO (shrO zp)) a1))
  refine zo (bv (!(seq (strI a1) x1))) ?_
  refine za ((!(seq (strI a1) x1))) ?_ ?_
  ·exact zk (Z6Z (zn) (zu) (zb) (zh) (zj) (z2) (z6) zp zd zy)
  ·exact zk (Za5 (x1) (zn) (zu) (zb) (zh) (zj) (z2) (z6) zp zd zy)
theorem Zbi (x1 : ByteArray) (zn : List Int) (zu : Int) {r} (h : Z62 x1 zn zu = some r) : Z19 x1 zn zu = some r :=
 pick_of (fun _ _ ha hb => RRun.uniq (Zc9 _ _ _ _ _ _ _ _) (ha default default default default default .ex .ex rfl) (hb default default default default default .ex .ex rfl)) (fun zb zh zj z2 z6 zp zd zy => ZaU x1 zn zu zb zh zj z2 z6 zp zd zy r h)
noncomputable def Z4v (zn : List Int) (zu : Int) (zb : Int) (zh : Int) (zj : List Zv) (z2 : Int) (z6 : Int) : Option (Z7 × Int × Int × Int × (List Zv) × Int × Int) :=
 (Z4z zn zu zb zh zj z2 z6).bind fun r1 =>
 Z3B (([r1.1] : List Z7)) zn r1.2.1 r1.2.2.1 r1.2.2.2.1 r1.2.2.2.2.1 r1.2.2.2.2.2.1 r1.2.2.2.2.2.2
theorem Zbq (zn : List Int) (zu : Int) (zb : Int) (zh : Int) (zj : List Zv) (z2 : Int) (z6 : Int) (zp : Own) (zd : Own) (zy : okApp zd = true) : Sim (Z2w zn zp) (Z4v zn zu zb zh zj z2 z6) (EE 28 [(.ptr 0 0)] [(Zk (Zm.mk zn zu zb zh zj (Zl.mk z2 z6)) zp zd)]) := by
 unfold Z4v
 refine zf (ZkF ..) ?_
 refine ze ?_
 refine zz (.ptr 1 0) [(Zk (Zm.mk zn zu zb zh zj (Zl.mk z2 z6)) zp zd), (Zq (Z7.mk 0 0 0 0 0 ([] : List Zc) ([] : List Z7)) .nl .nl)] ?_
 refine ze ?_
 refine zi fun r1 hr1 => ?_
 obtain ⟨qr1, er1, or1_0_4, exr1, hor1_0_4, rfl⟩ := Z8R (zn) (zu) (zb) (zh) (zj) (z2) (z6) zp zd zy r1 hr1
 refine zc [0] (.p (.agg (ZC r1.1 .sh .sh))) [(Zk (Zm.mk zn r1.2.1 r1.2.2.1 r1.2.2.2.1 r1.2.2.2.2.1 (Zl.mk r1.2.2.2.2.2.1 r1.2.2.2.2.2.2)) zp or1_0_4), (Zq (Z7.mk 0 0 0 0 0 ([] : List Zc) ([] : List Z7)) .nl .nl)] er1 ?_
 refine zo (.p (.lst .ex (([r1.1] : List Z7).map ZG))) ?_ (Eq.trans (b := some (.p (.lst .ex [.agg (Z1V r1.1)]))) (by kernel_rfl) (by simp only [List.map_cons, List.map_nil, Z3c]))
 exact zk (Z7w (([r1.1] : List Z7)) (zn) (r1.2.1) (r1.2.2.1) (r1.2.2.2.1) (r1.2.2.2.2.1) (r1.2.2.2.2.2.1) (r1.2.2.2.2.2.2) ((Z7.mk 0 0 0 0 0 ([] : List Zc) ([] : List Z7))) .ex zp or1_0_4 .nl .nl rfl hor1_0_4 rfl rfl)
theorem Z8U (zn : List Int) (zu : Int) (zb : Int) (zh : Int) (zj : List Zv) (z2 : Int) (z6 : Int) {r} (h : Z4v zn zu zb zh zj z2 z6 = some r) : Z2Y zn zu zb zh zj z2 z6 = some r :=
 pick_of (fun _ _ ha hb => RRun.uniq (Z9g _ _) (ha .ex .ex rfl) (hb .ex .ex rfl)) (fun zp zd zy => Zbq zn zu zb zh zj z2 z6 zp zd zy r h)
noncomputable def Z5s (x3 : List Z7) (zn : List Int) (zu : Int) (zb : Int) (zh : Int) (zj : List Zv) (z2 : Int) (z6 : Int) : Option (Z7 × Int × Int × Int × (List Zv) × Int × Int) :=
 (Z4z zn zu zb zh zj z2 z6).bind fun r1 =>
 (lapp x3 ([r1.1] : List Z7)).bind fun a2 =>
 Z3B a2 zn r1.2.1 r1.2.2.1 r1.2.2.2.1 r1.2.2.2.2.1 r1.2.2.2.2.2.1 r1.2.2.2.2.2.2
theorem Zaf (x3 : List Z7) (zn : List Int) (zu : Int) (zb : Int) (zh : Int) (zj : List Zv) (z2 : Int) (z6 : Int) (b1 : Z7) (ox3 : Own) (zp : Own) (zd : Own) (zE : Own) (zB : Own) (hox3 : okApp ox3 = true) (zy : okApp zd = true) (zS : okApp zE = true) (zL : okApp zB = true) : Sim (Z2w zn zp) (Z5s x3 zn zu zb zh zj z2 z6) (ZfO 1 (.ptr 0 0) (.ptr 1 0) (.p (.lst ox3 (x3.map ZG))) [(Zk (Zm.mk zn zu zb zh zj (Zl.mk z2 z6)) zp zd), (Zq b1 zE zB)]) := by
 unfold Z5s
 refine zf (Zhw ..) ?_
 refine ze ?_
 refine zi fun r1 hr1 => ?_
 obtain ⟨qr1, er1, or1_0_4, exr1, hor1_0_4, rfl⟩ := Z8R (zn) (zu) (zb) (zh) (zj) (z2) (z6) zp zd zy r1 hr1
 refine zc [0] (.p (.agg (ZC r1.1 .sh .sh))) [(Zk (Zm.mk zn r1.2.1 r1.2.2.1 r1.2.2.2.1 r1.2.2.2.2.1 (Zl.mk r1.2.2.2.2.2.1 r1.2.2.2.2.2.2)) zp or1_0_4), (Zq b1 zE zB)] er1 ?_
 refine zo (.p (.lst .ex (([r1.1] : List Z7).map ZG))) ?_ (Eq.trans (b := some (.p (.lst .ex [.agg (Z1V r1.1)]))) (by kernel_rfl) (by simp only [List.map_cons, List.map_nil, Z3c]))
 refine zi fun a2 ha2 => ?_
 refine zo (.p (.lst .un (a2.map ZG))) ?_ (Eq.trans (by kernel_rfl) <| xapp_of (n := 7) (o := ox3) (o' := .ex) (e := ZG) (ys := ([r1.1] : List Z7)) ZbH (by decide) hox3 ha2)
 exact zk (Z7w (a2) (zn) (r1.2.1) (r1.2.2.1) (r1.2.2.2.1) (r1.2.2.2.2.1) (r1.2.2.2.2.2.1) (r1.2.2.2.2.2.2) (b1) .un zp or1_0_4 zE zB rfl hor1_0_4 zS zL)
noncomputable def Z4q (x3 : List Z7) (zu : Int) (zb : Int) (zh : Int) (zj : List Zv) (z2 : Int) (z6 : Int) : Option (Z7 × Int × Int × Int × (List Zv) × Int × Int) :=
 (Z6C 3 x3).bind fun r1 =>
 some (r1, zu, zb, zh, zj, z2, z6)
theorem Zai (x3 : List Z7) (zn : List Int) (zu : Int) (zb : Int) (zh : Int) (zj : List Zv) (z2 : Int) (z6 : Int) (b1 : Z7) (ox3 : Own) (zp : Own) (zd : Own) (zE : Own) (zB : Own) (hox3 : okApp ox3 = true) (zy : okApp zd = true) (zS : okApp zE = true) (zL : okApp zB = true) : Sim (Z2w zn zp) (Z4q x3 zu zb zh zj z2 z6) (ZeY 1 (.ptr 1 0) (.p (.lst ox3 (x3.map ZG))) [(Zk (Zm.mk zn zu zb zh zj (Zl.mk z2 z6)) zp zd), (Zq b1 zE zB)]) := by
 unfold Z4q
 refine zf (ZhU ..) ?_
 refine ze ?_
 refine zi fun r1 hr1 => ?_
 obtain ⟨qr1, er1, exr1, rfl⟩ := Za8 (3) (x3) .sh r1 hr1
 refine zc [] (.p (.agg (ZC r1 .sh .sh))) [(Zk (Zm.mk zn zu zb zh zj (Zl.mk z2 z6)) zp zd), (Zq b1 zE zB)] er1 ?_
 refine zt [(Zk (Zm.mk zn zu zb zh zj (Zl.mk z2 z6)) zp zd), (Zq r1 .sh .sh)] ?_
 exact zr ((.p (.agg (ZC r1 .sh .sh))), [(Zk (Zm.mk zn zu zb zh zj (Zl.mk z2 z6)) zp zd), (Zq r1 .sh .sh)]) ⟨zd, _, zy, rfl⟩
noncomputable def Z3D (x3 : List Z7) (zn : List Int) (zu : Int) (zb : Int) (zh : Int) (zj : List Zv) (z2 : Int) (z6 : Int) : Option (Z7 × Int × Int × Int × (List Zv) × Int × Int) :=
 (Z19 ((ByteArray.mk #[124])) zn zu).bind fun r1 =>
 if (r1.1) = true then
 (Z5s x3 zn r1.2 zb zh zj z2 z6)
 else
 (Z4q x3 r1.2 zb zh zj z2 z6)
theorem Zac (x3 : List Z7) (zn : List Int) (zu : Int) (zb : Int) (zh : Int) (zj : List Zv) (z2 : Int) (z6 : Int) (b1 : Z7) (ox3 : Own) (zp : Own) (zd : Own) (zE : Own) (zB : Own) (hox3 : okApp ox3 = true) (zy : okApp zd = true) (zS : okApp zE = true) (zL : okApp zB = true) : Sim (Z2w zn zp) (Z3D x3 zn zu zb zh zj z2 z6) (ZbA 1 (.ptr 0 0) (.ptr 1 0) (.p (.lst ox3 (x3.map ZG))) [(Zk (Zm.mk zn zu zb zh zj (Zl.mk z2 z6)) zp zd), (Zq b1 zE zB)]) := by
 unfold Z3D
 refine zf (Zhu ..) ?_
 refine ze ?_
 refine zi fun r1 hr1 => ?_
 obtain ⟨qr1, er1, exr1, rfl⟩ := Z1e ((ByteArray.mk #[124])) (zn) (zu) (zb) (zh) (zj) (z2) (z6) zp zd zy r1 hr1
 refine zc [0] (bv r1.1) [(Zk (Zm.mk zn r1.2 zb zh zj (Zl.mk z2 z6)) zp zd), (Zq b1 zE zB)] er1 ?_
 refine za (r1.1) ?_ ?_
 ·exact zk (Zaf (x3) (zn) (r1.2) (zb) (zh) (zj) (z2) (z6) (b1) ox3 zp zd zE zB hox3 zy zS zL)
 ·exact zk (Zai (x3) (zn) (r1.2) (zb) (zh) (zj) (z2) (z6) (b1) ox3 zp zd zE zB hox3 zy zS zL)
theorem Z7v (x3 : List Z7) (zn : List Int) (zu : Int) (zb : Int) (zh : Int) (zj : List Zv) (z2 : Int) (z6 : Int) {r} (h : Z3D x3 zn zu zb zh zj z2 z6 = some r) : Z3B x3 zn zu zb zh zj z2 z6 = some r :=
 pick_of (fun _ _ ha hb => RRun.uniq (Z9g _ _) (ha default .ex .ex .ex .ex .ex rfl rfl rfl rfl) (hb default .ex .ex .ex .ex .ex rfl rfl rfl rfl)) (fun b1 ox3 zp zd zE zB hox3 zy zS zL => Zac x3 zn zu zb zh zj z2 z6 b1 ox3 zp zd zE zB hox3 zy zS zL r h)
noncomputable def Z5k (zn : List Int) (zu : Int) (zb : Int) (zh : Int) (zj : List Zv) (z2 : Int) (z6 : Int) : Option (Z7 × Int × Int × Int × (List Zv) × Int × Int) :=
 Z3G (([] : List Z7)) zn zu zb zh zj z2 z6
theorem Zbn (zn : List Int) (zu : Int) (zb : Int) (zh : Int) (zj : List Zv) (z2 : Int) (z6 : Int) (zp : Own) (zd : Own) (zy : okApp zd = true) : Sim (Z2h zn zp) (Z5k zn zu zb zh zj z2 z6) (EE 35 [(.ptr 0 0)] [(Zk (Zm.mk zn zu zb zh zj (Zl.mk z2 z6)) zp zd)]) := by
 unfold Z5k
 refine zf (ZjM ..) ?_
 refine ze ?_
 refine zz (.ptr 1 0) [(Zk (Zm.mk zn zu zb zh zj (Zl.mk z2 z6)) zp zd), (Zq (Z7.mk 0 0 0 0 0 ([] : List Zc) ([] : List Z7)) .nl .nl)] ?_
 refine ze ?_
 exact zk (Z7u (([] : List Z7)) (zn) (zu) (zb) (zh) (zj) (z2) (z6) ((Z7.mk 0 0 0 0 0 ([] : List Zc) ([] : List Z7))) .nl zp zd .nl .nl rfl zy rfl rfl)
theorem Z8M (zn : List Int) (zu : Int) (zb : Int) (zh : Int) (zj : List Zv) (z2 : Int) (z6 : Int) {r} (h : Z5k zn zu zb zh zj z2 z6 = some r) : Z4z zn zu zb zh zj z2 z6 = some r :=
 pick_of (fun _ _ ha hb => RRun.uniq (Z94 _ _) (ha .ex .ex rfl) (hb .ex .ex rfl)) (fun zp zd zy => Zbn zn zu zb zh zj z2 z6 zp zd zy r h)
noncomputable def Z2l (x3 : List Z7) (zu : Int) (zb : Int) (zh : Int) (zj : List Zv) (z2 : Int) (z6 : Int) : Option (Z7 × Int × Int × Int × (List Zv) × Int × Int) :=
 (Z6C 2 x3).bind fun r1 =>
 some (r1, zu, zb, zh, zj, z2, z6)
theorem Z4A (x3 : List Z7) (zn : List Int) (zu : Int) (zb : Int) (zh : Int) (zj : List Zv) (z2 : Int) (z6 : Int) (b1 : Z7) (ox3 : Own) (zp : Own) (zd : Own) (zE : Own) (zB : Own) (hox3 : okApp ox3 = true) (zy : okApp zd = true) (zS : okApp zE = true) (zL : okApp zB = true) : Sim (Z2h zn zp) (Z2l x3 zu zb zh zj z2 z6) (ZbP 1 (.ptr 1 0) (.p (.lst ox3 (x3.map ZG))) [(Zk (Zm.mk zn zu zb zh zj (Zl.mk z2 z6)) zp zd), (Zq b1 zE zB)]) := by
 unfold Z2l
 refine zf (ZhE ..) ?_
 refine ze ?_
 refine zi fun r1 hr1 => ?_
 obtain ⟨qr1, er1, exr1, rfl⟩ := Za8 (2) (x3) .sh r1 hr1
 refine zc [] (.p (.agg (ZC r1 .sh .sh))) [(Zk (Zm.mk zn zu zb zh zj (Zl.mk z2 z6)) zp zd), (Zq b1 zE zB)] er1 ?_
 refine zt [(Zk (Zm.mk zn zu zb zh zj (Zl.mk z2 z6)) zp zd), (Zq r1 .sh .sh)] ?_
 exact zr ((.p (.agg (ZC r1 .sh .sh))), [(Zk (Zm.mk zn zu zb zh zj (Zl.mk z2 z6)) zp zd), (Zq r1 .sh .sh)]) ⟨zd, _, zy, rfl⟩
noncomputable def Z36 (x3 : List Z7) (zn : List Int) (zu : Int) (zb : Int) (zh : Int) (zj : List Zv) (z2 : Int) (z6 : Int) : Option (Z7 × Int × Int × Int × (List Zv) × Int × Int) :=
 (Z60 zn zu zb zh zj z2 z6).bind fun r1 =>
 (Z4s r1.1 r1.2.1 zn r1.2.2.1 r1.2.2.2.1 r1.2.2.2.2.1 r1.2.2.2.2.2.1 r1.2.2.2.2.2.2.1 r1.2.2.2.2.2.2.2).bind fun r2 =>
 (lapp x3 ([r2.1] : List Z7)).bind fun a3 =>
 Z3G a3 zn r2.2.1 r1.2.2.2.1 r1.2.2.2.2.1 r1.2.2.2.2.2.1 r2.2.2.1 r2.2.2.2
theorem Z5M (x3 : List Z7) (zn : List Int) (zu : Int) (zb : Int) (zh : Int) (zj : List Zv) (z2 : Int) (z6 : Int) (b1 : Z7) (ox3 : Own) (zp : Own) (zd : Own) (zE : Own) (zB : Own) (hox3 : okApp ox3 = true) (zy : okApp zd = true) (zS : okApp zE = true) (zL : okApp zB = true) : Sim (Z2h zn zp) (Z36 x3 zn zu zb zh zj z2 z6) (ZcZ 1 (.ptr 0 0) (.ptr 1 0) (.p (.lst ox3 (x3.map ZG))) [(Zk (Zm.mk zn zu zb zh zj (Zl.mk z2 z6)) zp zd), (Zq b1 zE zB)]) := by
 unfold Z36
 refine zf (Ziz ..) ?_
 refine ze ?_
 refine zi fun r1 hr1 => ?_
 obtain ⟨qr1, er1, or1_0_4, exr1, hor1_0_4, rfl⟩ := Zbt (zn) (zu) (zb) (zh) (zj) (z2) (z6) zp zd zy r1 hr1
 refine zc [0] (.p (.tup [(.agg (ZC r1.1 .sh .sh)), (.v (.bool r1.2.1))])) [(Zk (Zm.mk zn r1.2.2.1 r1.2.2.2.1 r1.2.2.2.2.1 r1.2.2.2.2.2.1 (Zl.mk r1.2.2.2.2.2.2.1 r1.2.2.2.2.2.2.2)) zp or1_0_4), (Zq b1 zE zB)] er1 ?_
 refine zo (.p (.agg (ZC r1.1 .sh .sh))) ?_
 refine zo (bv r1.2.1) ?_
 refine zz (.ptr 2 0) [(Zk (Zm.mk zn r1.2.2.1 r1.2.2.2.1 r1.2.2.2.2.1 r1.2.2.2.2.2.1 (Zl.mk r1.2.2.2.2.2.2.1 r1.2.2.2.2.2.2.2)) zp or1_0_4), (Zq b1 zE zB), (Zq (Z7.mk 0 0 0 0 0 ([] : List Zc) ([] : List Z7)) .nl .nl)] ?_
 refine zt [(Zk (Zm.mk zn r1.2.2.1 r1.2.2.2.1 r1.2.2.2.2.1 r1.2.2.2.2.2.1 (Zl.mk r1.2.2.2.2.2.2.1 r1.2.2.2.2.2.2.2)) zp or1_0_4), (Zq b1 zE zB), (Zq r1.1 .sh .sh)] ?_
 refine ze ?_
 refine zo (.p (.agg (ZC r1.1 .sh .sh))) ?_
 refine zi fun r2 hr2 => ?_
 obtain ⟨qr2, er2, exr2, rfl⟩ := ZaO (r1.1) (r1.2.1) (zn) (r1.2.2.1) (r1.2.2.2.1) (r1.2.2.2.2.1) (r1.2.2.2.2.2.1) (r1.2.2.2.2.2.2.1) (r1.2.2.2.2.2.2.2) .sh .sh zp or1_0_4 hor1_0_4 r2 hr2
 refine zc [0] (.p (.agg (ZC r2.1 .sh .sh))) [(Zk (Zm.mk zn r2.2.1 r1.2.2.2.1 r1.2.2.2.2.1 r1.2.2.2.2.2.1 (Zl.mk r2.2.2.1 r2.2.2.2)) zp or1_0_4), (Zq b1 zE zB), (Zq r1.1 .sh .sh)] er2 ?_
 refine zo (.p (.lst .ex (([r2.1] : List Z7).map ZG))) ?_ (Eq.trans (b := some (.p (.lst .ex [.agg (Z1V r2.1)]))) (by kernel_rfl) (by simp only [List.map_cons, List.map_nil, Z3c]))
 refine zi fun a3 ha3 => ?_
 refine zo (.p (.lst .un (a3.map ZG))) ?_ (Eq.trans (by kernel_rfl) <| xapp_of (n := 7) (o := ox3) (o' := .ex) (e := ZG) (ys := ([r2.1] : List Z7)) ZbH (by decide) hox3 ha3)
 exact zk (Z7u (a3) (zn) (r2.2.1) (r1.2.2.2.1) (r1.2.2.2.2.1) (r1.2.2.2.2.2.1) (r2.2.2.1) (r2.2.2.2) (b1) .un zp or1_0_4 zE zB rfl hor1_0_4 zS zL)
noncomputable def Z4n (x3 : List Z7) (zn : List Int) (zu : Int) (zb : Int) (zh : Int) (zj : List Zv) (z2 : Int) (z6 : Int) : Option (Z7 × Int × Int × Int × (List Zv) × Int × Int) :=
 (Z1J ((Zm.mk zn zu zb zh zj (Zl.mk z2 z6)))).bind fun r1 =>
 if ((r1 == (-1))) = true then
 (if ((r1 == (-1))) = true then
 (Z2l x3 zu zb zh zj z2 z6)
 else
 (Z36 x3 zn zu zb zh zj z2 z6))
 else
 (if ((r1 == 124)) = true then
 (if ((r1 == 124)) = true then
 (Z2l x3 zu zb zh zj z2 z6)
 else
 (Z36 x3 zn zu zb zh zj z2 z6))
 else
 (if ((r1 == 41)) = true then
 (Z2l x3 zu zb zh zj z2 z6)
 else
 (Z36 x3 zn zu zb zh zj z2 z6)))
theorem Zam (x3 : List Z7) (zn : List Int) (zu : Int) (zb : Int) (zh : Int) (zj : List Zv) (z2 : Int) (z6 : Int) (b1 : Z7) (ox3 : Own) (zp : Own) (zd : Own) (zE : Own) (zB : Own) (hox3 : okApp ox3 = true) (zy : okApp zd = true) (zS : okApp zE = true) (zL : okApp zB = true) : Sim (Z2h zn zp) (Z4n x3 zn zu zb zh zj z2 z6) (Zgb 1 (.ptr 0 0) (.ptr 1 0) (.p (.lst ox3 (x3.map ZG))) [(Zk (Zm.mk zn zu zb zh zj (Zl.mk z2 z6)) zp zd), (Zq b1 zE zB)]) := by
 unfold Z4n
 refine zf (ZiK ..) ?_
 refine ze ?_
 refine zi fun r1 hr1 => ?_
 obtain ⟨qr1, er1, exr1, rfl⟩ := Z1M ((Zm.mk zn zu zb zh zj (Zl.mk z2 z6))) zp zd zy r1 hr1
 refine zc [0] (iv r1) [(Zk (Zm.mk zn zu zb zh zj (Zl.mk z2 z6)) zp zd), (Zq b1 zE zB)] er1 ?_
 refine ze ?_
 refine zo (bv (r1 == (-1))) ?_
 refine za ((r1 == (-1))) ?_ ?_
 ·refine za ((r1 == (-1))) ?_ ?_
  ·exact zk (Z4A (x3) (zn) (zu) (zb) (zh) (zj) (z2) (z6) (b1) ox3 zp zd zE zB hox3 zy zS zL)
  ·exact zk (Z5M (x3) (zn) (zu) (zb) (zh) (zj) (z2) (z6) (b1) ox3 zp zd zE zB hox3 zy zS zL)
 ·refine ze ?_
  refine zo (bv (r1 == 124)) ?_
  refine za ((r1 == 124)) ?_ ?_
  ·refine za ((r1 == 124)) ?_ ?_
   ·exact zk (Z4A (x3) (zn) (zu) (zb) (zh) (zj) (z2) (z6) (b1) ox3 zp zd zE zB hox3 zy zS zL)
   ·exact zk (Z5M (x3) (zn) (zu) (zb) (zh) (zj) (z2) (z6) (b1) ox3 zp zd zE zB hox3 zy zS zL)
  ·refine ze ?_
   refine zo (bv (r1 == 41)) ?_
   refine za ((r1 == 41)) ?_ ?_
   ·exact zk (Z4A (x3) (zn) (zu) (zb) (zh) (zj) (z2) (z6) (b1) ox3 zp zd zE zB hox3 zy zS zL)
   ·exact zk (Z5M (x3) (zn) (zu) (zb) (zh) (zj) (z2) (z6) (b1) ox3 zp zd zE zB hox3 zy zS zL)
noncomputable def Z4p (x3 : List Z7) (zn : List Int) (zu : Int) (zb : Int) (zh : Int) (zj : List Zv) (z2 : Int) (z6 : Int) : Option (Z7 × Int × Int × Int × (List Zv) × Int × Int) :=
 if ((z2 == 0)) = true then
 (Z4n x3 zn zu zb zh zj z2 z6)
 else
 (Z2l x3 zu zb zh zj z2 z6)
theorem Zap (x3 : List Z7) (zn : List Int) (zu : Int) (zb : Int) (zh : Int) (zj : List Zv) (z2 : Int) (z6 : Int) (b1 : Z7) (ox3 : Own) (zp : Own) (zd : Own) (zE : Own) (zB : Own) (hox3 : okApp ox3 = true) (zy : okApp zd = true) (zS : okApp zE = true) (zL : okApp zB = true) : Sim (Z2h zn zp) (Z4p x3 zn zu zb zh zj z2 z6) (ZbT 1 (.ptr 0 0) (.ptr 1 0) (.p (.lst ox3 (x3.map ZG))) [(Zk (Zm.mk zn zu zb zh zj (Zl.mk z2 z6)) zp zd), (Zq b1 zE zB)]) := by
 unfold Z4p
 refine zf (Zhy ..) ?_
 refine ze ?_
 refine zo (.ptr 0 0) ?_
 refine zo (.ptr 0 5) ?_
 refine zo (.ptr 0 5) ?_
 refine zo (iv z2) ?_
 refine zo (bv (z2 == 0)) ?_
 refine za ((z2 == 0)) ?_ ?_
 ·exact zk (Zam (x3) (zn) (zu) (zb) (zh) (zj) (z2) (z6) (b1) ox3 zp zd zE zB hox3 zy zS zL)
 ·exact zk (Z4A (x3) (zn) (zu) (zb) (zh) (zj) (z2) (z6) (b1) ox3 zp zd zE zB hox3 zy zS zL)
theorem Z7n (x3 : List Z7) (zn : List Int) (zu : Int) (zb : Int) (zh : Int) (zj : List Zv) (z2 : Int) (z6 : Int) {r} (h : Z4p x3 zn zu zb zh zj z2 z6 = some r) : Z3G x3 zn zu zb zh zj z2 z6 = some r :=
 pick_of (fun _ _ ha hb => RRun.uniq (Z94 _ _) (ha default .ex .ex .ex .ex .ex rfl rfl rfl rfl) (hb default .ex .ex .ex .ex .ex rfl rfl rfl rfl)) (fun b1 ox3 zp zd zE zB hox3 zy zS zL => Zap x3 zn zu zb zh zj z2 z6 b1 ox3 zp zd zE zB hox3 zy zS zL r h)
noncomputable def Z5f (b0 : Zm) : Option (Int) :=
 (Z8r b0.b b0.at_).bind fun r1 =>
 some (r1.1)
theorem Za3 (b0 : Zm) (zp : Own) (zd : Own) (zy : okApp zd = true) : Sim (Z4b b0 zp zd) (Z5f b0) (Zfa 1 (.ptr 0 0) [(Zk b0 zp zd)]) := by
 unfold Z5f
 refine zf (Zhz ..) ?_
 refine ze ?_
 refine zo (.ptr 0 0) ?_
 refine zo (.ptr 0 0) ?_
 refine zo (.p (.lst (shrO zp) (b0.b.map (eI .u8)))) ?_
 refine zo (.ptr 0 0) ?_
 refine zo (.ptr 0 1) ?_
 refine zo (iv b0.at_) ?_
 refine zi fun r1 hr1 => ?_
 obtain ⟨qr1, er1, exr1, rfl⟩ := ZbF (b0.b) (b0.at_) .sh r1 hr1
 refine zc [] (.p (.tup [(.v (.int .i64 r1.1)), (.v (.int .i64 r1.2))])) [(Zk b0 zp zd)] er1 ?_
 refine zo (iv r1.1) ?_
 refine zo (iv r1.2) ?_
 refine ze ?_
 exact zr ((iv r1.1), [(Zk b0 zp zd)]) ⟨_, rfl⟩
noncomputable def Z61 (b0 : Zm) : Option (Int) :=
 if ((decide ((b0.b.length : Int) ≤ b0.at_))) = true then
 (some ((-1)))
 else
 (Z5f b0)
theorem Zb4 (b0 : Zm) (zp : Own) (zd : Own) (zy : okApp zd = true) : Sim (Z4b b0 zp zd) (Z61 b0) (EE 41 [(.ptr 0 0)] [(Zk b0 zp zd)]) := by
 unfold Z61
 refine zf (Zjx ..) ?_
 refine ze ?_
 refine ze ?_
 refine zo (.ptr 0 0) ?_
 refine zo (.ptr 0 1) ?_
 refine zo (iv b0.at_) ?_
 refine zo (.ptr 0 0) ?_
 refine zo (.ptr 0 0) ?_
 refine zo (.p (.lst (shrO zp) (b0.b.map (eI .u8)))) ?_
 refine zo (iv (b0.b.length : Int)) ?_ (Eq.trans (by kernel_rfl) (xlen_of (P := PP) (t := 40) (d := 5) (by kernel_rfl) (eI .u8) (shrO zp) b0.b))
 refine zo (bv (decide ((b0.b.length : Int) ≤ b0.at_))) ?_
 refine za ((decide ((b0.b.length : Int) ≤ b0.at_))) ?_ ?_
 ·refine ze ?_
  exact zr ((iv (-1)), [(Zk b0 zp zd)]) ⟨_, rfl⟩
 ·exact zk (Za3 (b0) zp zd zy)
theorem Zbu (b0 : Zm) {r} (h : Z61 b0 = some r) : Z1J b0 = some r :=
 pick_of (fun _ _ ha hb => RRun.uniq (ZbN _ _ _) (ha .ex .ex rfl) (hb .ex .ex rfl)) (fun zp zd zy => Zb4 b0 zp zd zy r h)
noncomputable def Z7L  : Option (Int × Int) :=
 some (0, 0)
theorem Z9V  : Sim (Z5h) (Z7L) (ZdL 0  []) := by
 unfold Z7L
 refine zf (Ziy ..) ?_
 refine ze ?_
 exact zr ((.p (.tup [(.v (.int .i64 0)), (.v (.int .i64 0))])), []) ⟨_, rfl⟩
noncomputable def Z7U (x0 : List Int) (x1 : Int) : Option (Int × Int) :=
 (lget x0 x1).bind fun a1 =>
 some ((IntKind.i64.wrap (1114112 + (IntKind.i64.wrap a1))), 1)
theorem ZcO (x0 : List Int) (x1 : Int) (ox0 : Own) : Sim (Z5h) (Z7U x0 x1) (Zg3 0 (.p (.lst ox0 (x0.map (eI .u8)))) (iv x1) []) := by
 unfold Z7U
 refine zf (ZhC ..) ?_
 refine ze ?_
 refine zi fun a1 ha1 => ?_
 refine zo (.cptr [(.v (.int .u8 a1))]) ?_ (Eq.trans (by kernel_rfl) (xidx_of (o := (shrO ox0)) (k := .i64) (n := 1) (e := (eI .u8)) (cs := (fun a => [(eI .u8) a])) (fun _ => rfl) (fun _ => rfl) (by decide) ha1))
 refine zo (.p (.v (.int .u8 a1))) ?_
 refine zo (iv (IntKind.i64.wrap a1)) ?_
 refine zo (iv (IntKind.i64.wrap (1114112 + (IntKind.i64.wrap a1)))) ?_
 exact zr ((.p (.tup [(.v (.int .i64 (IntKind.i64.wrap (1114112 + (IntKind.i64.wrap a1))))), (.v (.int .i64 1))])), []) ⟨_, rfl⟩
noncomputable def Z5P (x6 : Int) (x7 : Int) : Option (Int × Int) :=
 some ((IntKind.i64.wrap x6), x7)
theorem Z9L (x6 : Int) (x7 : Int) : Sim (Z5h) (Z5P x6 x7) (ZdM 0 (.p (.v (.int .i32 x6))) (iv x7) []) := by
 unfold Z5P
 refine zf (Zie ..) ?_
 refine ze ?_
 refine zo (iv (IntKind.i64.wrap x6)) ?_
 exact zr ((.p (.tup [(.v (.int .i64 (IntKind.i64.wrap x6))), (.v (.int .i64 x7))])), []) ⟨_, rfl⟩
noncomputable def Z7R (x0 : List Int) (x1 : Int) : Option (Int × Int) :=
 (lsl x0 x1 (x0.length : Int)).bind fun a1 =>
 (Z5J a1).bind fun r2 =>
 if ((r2.1 == 65533)) = true then
 (if ((r2.2 == 1)) = true then
 (Z7U x0 x1)
 else
 (Z5P r2.1 r2.2))
 else
 (Z5P r2.1 r2.2)
theorem ZcX (x0 : List Int) (x1 : Int) (ox0 : Own) : Sim (Z5h) (Z7R x0 x1) (Zg0 0 (.p (.lst ox0 (x0.map (eI .u8)))) (iv x1) []) := by
 unfold Z7R
 refine zf (ZiV ..) ?_
 refine ze ?_
 refine zi fun a1 ha1 => ?_
 refine zo (.p (.lst (slO (shrO ox0)) (a1.map (eI .u8)))) ?_ (Eq.trans (by kernel_rfl) <| xsl_of (n := 1) (o := (shrO ox0)) (lo := (some (iv x1))) (hi := none) (e := (eI .u8)) (fun _ => rfl) (by decide) (by kernel_rfl) (by kernel_rfl) ha1)
 refine zi fun r2 hr2 => ?_
 obtain ⟨qr2, er2, exr2, rfl⟩ := Z9q (a1) .sh r2 hr2
 refine zc [] (.p (.tup [(.v (.int .i32 r2.1)), (.v (.int .i64 r2.2))])) [] er2 ?_
 refine zo (.p (.v (.int .i32 r2.1))) ?_
 refine zo (iv r2.2) ?_
 refine ze ?_
 refine zo (bv (r2.1 == 65533)) ?_
 refine za ((r2.1 == 65533)) ?_ ?_
 ·refine zo (bv (r2.2 == 1)) ?_
  refine za ((r2.2 == 1)) ?_ ?_
  ·exact zk (ZcO (x0) (x1) ox0)
  ·exact zk (Z9L (r2.1) (r2.2))
 ·exact zk (Z9L (r2.1) (r2.2))
noncomputable def Z9K (x0 : List Int) (x1 : Int) : Option (Int × Int) :=
 if ((decide (x1 < 0))) = true then
 (Z7L)
 else
 (if ((decide ((x0.length : Int) ≤ x1))) = true then
 (Z7L)
 else
 (Z7R x0 x1))
theorem ZdU (x0 : List Int) (x1 : Int) (ox0 : Own) : Sim (Z5h) (Z9K x0 x1) (EE 45 [(.p (.lst ox0 (x0.map (eI .u8)))), (iv x1)] []) := by
 unfold Z9K
 refine zf (ZkJ ..) ?_
 refine ze ?_
 refine ze ?_
 refine zo (bv (decide (x1 < 0))) ?_
 refine za ((decide (x1 < 0))) ?_ ?_
 ·exact zk (Z9V )
 ·refine zo (iv (x0.length : Int)) ?_ (Eq.trans (by kernel_rfl) (xlen_of (P := PP) (t := 40) (d := 5) (by kernel_rfl) (eI .u8) (shrO ox0) x0))
  refine zo (bv (decide ((x0.length : Int) ≤ x1))) ?_
  refine za ((decide ((x0.length : Int) ≤ x1))) ?_ ?_
  ·exact zk (Z9V )
  ·exact zk (ZcX (x0) (x1) ox0)
theorem ZeJ (x0 : List Int) (x1 : Int) {r} (h : Z9K x0 x1 = some r) : Z8r x0 x1 = some r :=
 pick_of (fun _ _ ha hb => RRun.uniq (ZeR) (ha .ex) (hb .ex)) (fun ox0 => ZdU x0 x1 ox0 r h)
noncomputable def Z8f (x0 : Int) (x1 : List Z7) : Option (Z7) :=
 some ((Z7.mk x0 0 0 0 0 ([] : List Zc) x1))
theorem Zca (x0 : Int) (x1 : List Z7) (b0 : Z7) (ox1 : Own) (z1f : Own) (z15 : Own) (ziX : okApp z1f = true) (zhL : okApp z15 = true) : Sim (Z5O) (Z8f x0 x1) (Zgk 0 (iv x0) (.p (.lst ox1 (x1.map ZG))) (.ptr 0 0) [(Zq b0 z1f z15)]) := by
 unfold Z8f
 refine zf (ZhF ..) ?_
 refine ze ?_
 refine zo (.p (.agg (ZC (Z7.mk x0 0 0 0 0 ([] : List Zc) x1) .nl (shrO (shrO ox1))))) ?_
 refine zt [(Zq (Z7.mk x0 0 0 0 0 ([] : List Zc) x1) .nl (shrO (shrO ox1)))] ?_
 exact zr ((.p (.agg (ZC (Z7.mk x0 0 0 0 0 ([] : List Zc) x1) .sh .sh))), [(Zq (Z7.mk x0 0 0 0 0 ([] : List Zc) x1) .nl (shrO (shrO ox1)))]) ⟨_, rfl⟩
noncomputable def Z7T (x0 : Int) (x1 : List Z7) : Option (Z7) :=
 if (((x1.length : Int) == 0)) = true then
 (some ((Z7.mk 0 0 0 0 0 ([] : List Zc) ([] : List Z7))))
 else
 (if (((x1.length : Int) == 1)) = true then
 ((lget x1 0).bind fun a1 =>
 some (a1))
 else
 (Z8f x0 x1))
theorem Zd2 (x0 : Int) (x1 : List Z7) (ox1 : Own) : Sim (Z5O) (Z7T x0 x1) (EE 36 [(iv x0), (.p (.lst ox1 (x1.map ZG)))] []) := by
 unfold Z7T
 refine zf (Zkx ..) ?_
 refine ze ?_
 refine zz (.ptr 0 0) [(Zq (Z7.mk 0 0 0 0 0 ([] : List Zc) ([] : List Z7)) .nl .nl)] ?_
 refine ze ?_
 refine zo (iv (x1.length : Int)) ?_ (Eq.trans (by kernel_rfl) (xlen_of (P := PP) (t := 25) (d := 27) (by kernel_rfl) ZG (shrO ox1) x1))
 refine ze ?_
 refine zo (bv ((x1.length : Int) == 0)) ?_
 refine za (((x1.length : Int) == 0)) ?_ ?_
 ·refine ze ?_
  refine zo (.p (.agg (ZC (Z7.mk 0 0 0 0 0 ([] : List Zc) ([] : List Z7)) .nl .nl))) ?_
  refine zt [(Zq (Z7.mk 0 0 0 0 0 ([] : List Zc) ([] : List Z7)) .nl .nl)] ?_
  exact zr ((.p (.agg (ZC (Z7.mk 0 0 0 0 0 ([] : List Zc) ([] : List Z7)) .sh .sh))), [(Zq (Z7.mk 0 0 0 0 0 ([] : List Zc) ([] : List Z7)) .nl .nl)]) ⟨_, rfl⟩
 ·refine ze ?_
  refine zo (bv ((x1.length : Int) == 1)) ?_
  refine za (((x1.length : Int) == 1)) ?_ ?_
  ·refine ze ?_
   refine zi fun a1 ha1 => ?_
   refine zo (.cptr (ZC a1 .sh .sh)) ?_ (Eq.trans (by kernel_rfl) (xidx_of (o := (shrO ox1)) (k := .i64) (n := 7) (e := ZG) (cs := Z1V) Z3X (fun _ => rfl) (by decide) ha1))
   refine zo (.p (.agg (ZC a1 .sh .sh))) ?_
   refine zt [(Zq a1 .sh .sh)] ?_
   exact zr ((.p (.agg (ZC a1 .sh .sh))), [(Zq a1 .sh .sh)]) ⟨_, rfl⟩
  ·exact zk (Zca (x0) (x1) ((Z7.mk 0 0 0 0 0 ([] : List Zc) ([] : List Z7))) ox1 .nl .nl rfl rfl)
theorem Zds (x0 : Int) (x1 : List Z7) {r} (h : Z7T x0 x1 = some r) : Z6C x0 x1 = some r :=
 pick_of (fun _ _ ha hb => RRun.uniq (ZdD) (ha .ex) (hb .ex)) (fun ox1 => Zd2 x0 x1 ox1 r h)
end Go.Proofs.YtadodmjdkphddaaDoor.N2
end
section
set_option linter.unusedSimpArgs false
set_option linter.unusedVariables false
namespace Go.Proofs.YtadodmjdkphddaaDoor.N2
open Go Go.Abs
set_option linter.unusedVariables false
set_option maxRecDepth 100000
noncomputable def Z1l (zu : Int) (zb : Int) (zh : Int) (zj : List Zv) (z2 : Int) (z6 : Int) : Option (Z7 × Bool × Int × Int × Int × (List Zv) × Int × Int) :=
 some ((Z7.mk 0 0 0 0 0 ([] : List Zc) ([] : List Z7)), true, zu, zb, zh, zj, z2, z6)
theorem Z1m (zn : List Int) (zu : Int) (zb : Int) (zh : Int) (zj : List Zv) (z2 : Int) (z6 : Int) (b1 : Z7) (zp : Own) (zd : Own) (zE : Own) (zB : Own) (zy : okApp zd = true) (zS : okApp zE = true) (zL : okApp zB = true) : Sim (Z4e zn zp) (Z1l zu zb zh zj z2 z6) (Z5u 1 (.ptr 1 0) [(Zk (Zm.mk zn zu zb zh zj (Zl.mk z2 z6)) zp zd), (Zq b1 zE zB)]) := by
 unfold Z1l
 refine zf (ZgH ..) ?_
 refine ze ?_
 refine zo (.p (.agg (ZC (Z7.mk 0 0 0 0 0 ([] : List Zc) ([] : List Z7)) .nl .nl))) ?_
 refine zt [(Zk (Zm.mk zn zu zb zh zj (Zl.mk z2 z6)) zp zd), (Zq (Z7.mk 0 0 0 0 0 ([] : List Zc) ([] : List Z7)) .nl .nl)] ?_
 exact zr ((.p (.tup [(.agg (ZC (Z7.mk 0 0 0 0 0 ([] : List Zc) ([] : List Z7)) .sh .sh)), (.v (.bool true))])), [(Zk (Zm.mk zn zu zb zh zj (Zl.mk z2 z6)) zp zd), (Zq (Z7.mk 0 0 0 0 0 ([] : List Zc) ([] : List Z7)) .nl .nl)]) ⟨zd, _, zy, rfl⟩
noncomputable def Z52 (zn : List Int) (zu : Int) (zb : Int) (zh : Int) (zj : List Zv) (z2 : Int) (z6 : Int) : Option (Z7 × Bool × Int × Int × Int × (List Zv) × Int × Int) :=
 (Z27 zn zu).bind fun r1 =>
 if ((r1.1 == 46)) = true then
 ((Z1C 10).bind fun r2 =>
 (Z2I true (([r2] : List Zc))).bind fun r3 =>
 some (r3, true, r1.2, zb, zh, zj, z2, z6))
 else
 (if ((r1.1 == 94)) = true then
 (some ((Z7.mk 9 0 0 0 0 ([] : List Zc) ([] : List Z7)), false, r1.2, zb, zh, zj, z2, z6))
 else
 (if ((r1.1 == 36)) = true then
 (some ((Z7.mk 9 0 0 0 1 ([] : List Zc) ([] : List Z7)), false, r1.2, zb, zh, zj, z2, z6))
 else
 (if ((r1.1 == 92)) = true then
 ((Z33 zu zn r1.2 zb zh zj z2 z6).bind fun r4 =>
 some (r4.1, (r4.1.Kind != 9), r4.2.1, zb, zh, r4.2.2.1, r4.2.2.2.1, r4.2.2.2.2))
 else
 (if ((r1.1 == 91)) = true then
 ((Z5K zu zn r1.2 zb zh zj z2 z6).bind fun r5 =>
 some (r5.1, true, r5.2.1, zb, zh, zj, r5.2.2.1, r5.2.2.2))
 else
 (if ((r1.1 == 40)) = true then
 ((Z3d zu zn r1.2 zb zh zj z2 z6).bind fun r6 =>
 some (r6.1, r6.2.1, r6.2.2.1, r6.2.2.2.1, r6.2.2.2.2.1, r6.2.2.2.2.2.1, r6.2.2.2.2.2.2.1, r6.2.2.2.2.2.2.2))
 else
 (if ((r1.1 == 42)) = true then
 (if ((r1.1 == 42)) = true then
 ((ZV 23 zu zn z2 z6).bind fun r7 =>
 Z1l r7.1 zb zh zj r7.2.1 r7.2.2)
 else
 (if ((r1.1 == 93)) = true then
 (if ((r1.1 == 93)) = true then
 ((ZV 20 zu zn z2 z6).bind fun r8 =>
 Z1l r8.1 zb zh zj r8.2.1 r8.2.2)
 else
 ((Z1C r1.1).bind fun r9 =>
 (Z2I false (([r9] : List Zc))).bind fun r10 =>
 some (r10, true, r1.2, zb, zh, zj, z2, z6)))
 else
 (if ((r1.1 == 125)) = true then
 ((ZV 20 zu zn z2 z6).bind fun r11 =>
 Z1l r11.1 zb zh zj r11.2.1 r11.2.2)
 else
 ((Z1C r1.1).bind fun r12 =>
 (Z2I false (([r12] : List Zc))).bind fun r13 =>
 some (r13, true, r1.2, zb, zh, zj, z2, z6)))))
 else
 (if ((r1.1 == 43)) = true then
 (if ((r1.1 == 43)) = true then
 ((ZV 23 zu zn z2 z6).bind fun r14 =>
 Z1l r14.1 zb zh zj r14.2.1 r14.2.2)
 else
 (if ((r1.1 == 93)) = true then
 (if ((r1.1 == 93)) = true then
 ((ZV 20 zu zn z2 z6).bind fun r15 =>
 Z1l r15.1 zb zh zj r15.2.1 r15.2.2)
 else
 ((Z1C r1.1).bind fun r16 =>
 (Z2I false (([r16] : List Zc))).bind fun r17 =>
 some (r17, true, r1.2, zb, zh, zj, z2, z6)))
 else
 (if ((r1.1 == 125)) = true then
 ((ZV 20 zu zn z2 z6).bind fun r18 =>
 Z1l r18.1 zb zh zj r18.2.1 r18.2.2)
 else
 ((Z1C r1.1).bind fun r19 =>
 (Z2I false (([r19] : List Zc))).bind fun r20 =>
 some (r20, true, r1.2, zb, zh, zj, z2, z6)))))
 else
 (if ((r1.1 == 63)) = true then
 (if ((r1.1 == 63)) = true then
 ((ZV 23 zu zn z2 z6).bind fun r21 =>
 Z1l r21.1 zb zh zj r21.2.1 r21.2.2)
 else
 (if ((r1.1 == 93)) = true then
 (if ((r1.1 == 93)) = true then
 ((ZV 20 zu zn z2 z6).bind fun r22 =>
 Z1l r22.1 zb zh zj r22.2.1 r22.2.2)
 else
 ((Z1C r1.1).bind fun r23 =>
 (Z2I false (([r23] : List Zc))).bind fun r24 =>
 some (r24, true, r1.2, zb, zh, zj, z2, z6)))
 else
 (if ((r1.1 == 125)) = true then
 ((ZV 20 zu zn z2 z6).bind fun r25 =>
 Z1l r25.1 zb zh zj r25.2.1 r25.2.2)
 else
 ((Z1C r1.1).bind fun r26 =>
 (Z2I false (([r26] : List Zc))).bind fun r27 =>
 some (r27, true, r1.2, zb, zh, zj, z2, z6)))))
 else
 (if ((r1.1 == 123)) = true then
 ((ZV 23 zu zn z2 z6).bind fun r28 =>
 Z1l r28.1 zb zh zj r28.2.1 r28.2.2)
 else
 (if ((r1.1 == 93)) = true then
 (if ((r1.1 == 93)) = true then
 ((ZV 20 zu zn z2 z6).bind fun r29 =>
 Z1l r29.1 zb zh zj r29.2.1 r29.2.2)
 else
 ((Z1C r1.1).bind fun r30 =>
 (Z2I false (([r30] : List Zc))).bind fun r31 =>
 some (r31, true, r1.2, zb, zh, zj, z2, z6)))
 else
 (if ((r1.1 == 125)) = true then
 ((ZV 20 zu zn z2 z6).bind fun r32 =>
 Z1l r32.1 zb zh zj r32.2.1 r32.2.2)
 else
 ((Z1C r1.1).bind fun r33 =>
 (Z2I false (([r33] : List Zc))).bind fun r34 =>
 some (r34, true, r1.2, zb, zh, zj, z2, z6)))))))))))))
theorem Zb5 (zn : List Int) (zu : Int) (zb : Int) (zh : Int) (zj : List Zv) (z2 : Int) (z6 : Int) (zp : Own) (zd : Own) (zy : okApp zd = true) : Sim (Z4e zn zp) (Z52 zn zu zb zh zj z2 z6) (EE 42 [(.ptr 0 0)] [(Zk (Zm.mk zn zu zb zh zj (Zl.mk z2 z6)) zp zd)]) := by
 unfold Z52
 refine zf (Zkr ..) ?_
 refine ze ?_
 refine zz (.ptr 1 0) [(Zk (Zm.mk zn zu zb zh zj (Zl.mk z2 z6)) zp zd), (Zq (Z7.mk 0 0 0 0 0 ([] : List Zc) ([] : List Z7)) .nl .nl)] ?_
 refine ze ?_
 refine zo (.ptr 0 0) ?_
 refine zo (.ptr 0 1) ?_
 refine zo (iv zu) ?_
 refine ze ?_
 refine zi fun r1 hr1 => ?_
 obtain ⟨qr1, er1, exr1, rfl⟩ := Z2t (zn) (zu) (zb) (zh) (zj) (z2) (z6) zp zd zy r1 hr1
 refine zc [0] (iv r1.1) [(Zk (Zm.mk zn r1.2 zb zh zj (Zl.mk z2 z6)) zp zd), (Zq (Z7.mk 0 0 0 0 0 ([] : List Zc) ([] : List Z7)) .nl .nl)] er1 ?_
 refine ze ?_
 refine ze ?_
 refine zo (bv (r1.1 == 46)) ?_
 refine za ((r1.1 == 46)) ?_ ?_
 ·refine ze ?_
  refine zi fun r2 hr2 => ?_
  obtain ⟨qr2, er2, exr2, rfl⟩ := Z1w (10) r2 hr2
  refine zc [] (.p (.agg (ZH r2))) [(Zk (Zm.mk zn r1.2 zb zh zj (Zl.mk z2 z6)) zp zd), (Zq (Z7.mk 0 0 0 0 0 ([] : List Zc) ([] : List Z7)) .nl .nl)] er2 ?_
  refine zo (.p (.lst .ex (([r2] : List Zc).map Zz))) ?_
  refine zi fun r3 hr3 => ?_
  obtain ⟨qr3, er3, exr3, rfl⟩ := Z2S (true) (([r2] : List Zc)) .sh r3 hr3
  refine zc [] (.p (.agg (ZC r3 .sh .sh))) [(Zk (Zm.mk zn r1.2 zb zh zj (Zl.mk z2 z6)) zp zd), (Zq (Z7.mk 0 0 0 0 0 ([] : List Zc) ([] : List Z7)) .nl .nl)] er3 ?_
  refine zt [(Zk (Zm.mk zn r1.2 zb zh zj (Zl.mk z2 z6)) zp zd), (Zq r3 .sh .sh)] ?_
  exact zr ((.p (.tup [(.agg (ZC r3 .sh .sh)), (.v (.bool true))])), [(Zk (Zm.mk zn r1.2 zb zh zj (Zl.mk z2 z6)) zp zd), (Zq r3 .sh .sh)]) ⟨zd, _, zy, rfl⟩
 ·refine ze ?_
  refine zo (bv (r1.1 == 94)) ?_
  refine za ((r1.1 == 94)) ?_ ?_
  ·refine ze ?_
   refine zo (.p (.agg (ZC (Z7.mk 9 0 0 0 0 ([] : List Zc) ([] : List Z7)) .nl .nl))) ?_
   refine zt [(Zk (Zm.mk zn r1.2 zb zh zj (Zl.mk z2 z6)) zp zd), (Zq (Z7.mk 9 0 0 0 0 ([] : List Zc) ([] : List Z7)) .nl .nl)] ?_
   exact zr ((.p (.tup [(.agg (ZC (Z7.mk 9 0 0 0 0 ([] : List Zc) ([] : List Z7)) .sh .sh)), (.v (.bool false))])), [(Zk (Zm.mk zn r1.2 zb zh zj (Zl.mk z2 z6)) zp zd), (Zq (Z7.mk 9 0 0 0 0 ([] : List Zc) ([] : List Z7)) .nl .nl)]) ⟨zd, _, zy, rfl⟩
  ·refine ze ?_
   refine zo (bv (r1.1 == 36)) ?_
   refine za ((r1.1 == 36)) ?_ ?_
   ·refine ze ?_
    refine zo (.p (.agg (ZC (Z7.mk 9 0 0 0 1 ([] : List Zc) ([] : List Z7)) .nl .nl))) ?_
    refine zt [(Zk (Zm.mk zn r1.2 zb zh zj (Zl.mk z2 z6)) zp zd), (Zq (Z7.mk 9 0 0 0 1 ([] : List Zc) ([] : List Z7)) .nl .nl)] ?_
    exact zr ((.p (.tup [(.agg (ZC (Z7.mk 9 0 0 0 1 ([] : List Zc) ([] : List Z7)) .sh .sh)), (.v (.bool false))])), [(Zk (Zm.mk zn r1.2 zb zh zj (Zl.mk z2 z6)) zp zd), (Zq (Z7.mk 9 0 0 0 1 ([] : List Zc) ([] : List Z7)) .nl .nl)]) ⟨zd, _, zy, rfl⟩
   ·refine ze ?_
    refine zo (bv (r1.1 == 92)) ?_
    refine za ((r1.1 == 92)) ?_ ?_
    ·refine ze ?_
     refine zi fun r4 hr4 => ?_
     obtain ⟨qr4, er4, or4_0_4, exr4, hor4_0_4, rfl⟩ := ZaQ (zu) (zn) (r1.2) (zb) (zh) (zj) (z2) (z6) zp zd zy r4 hr4
     refine zc [0] (.p (.agg (ZC r4.1 .sh .sh))) [(Zk (Zm.mk zn r4.2.1 zb zh r4.2.2.1 (Zl.mk r4.2.2.2.1 r4.2.2.2.2)) zp or4_0_4), (Zq (Z7.mk 0 0 0 0 0 ([] : List Zc) ([] : List Z7)) .nl .nl)] er4 ?_
     refine zz (.ptr 2 0) [(Zk (Zm.mk zn r4.2.1 zb zh r4.2.2.1 (Zl.mk r4.2.2.2.1 r4.2.2.2.2)) zp or4_0_4), (Zq (Z7.mk 0 0 0 0 0 ([] : List Zc) ([] : List Z7)) .nl .nl), (Zq (Z7.mk 0 0 0 0 0 ([] : List Zc) ([] : List Z7)) .nl .nl)] ?_
     refine zt [(Zk (Zm.mk zn r4.2.1 zb zh r4.2.2.1 (Zl.mk r4.2.2.2.1 r4.2.2.2.2)) zp or4_0_4), (Zq (Z7.mk 0 0 0 0 0 ([] : List Zc) ([] : List Z7)) .nl .nl), (Zq r4.1 .sh .sh)] ?_
     refine ze ?_
     refine zo (.p (.agg (ZC r4.1 .sh .sh))) ?_
     refine zo (.ptr 2 0) ?_
     refine zo (iv r4.1.Kind) ?_
     refine zo (bv (r4.1.Kind != 9)) ?_
     refine zt [(Zk (Zm.mk zn r4.2.1 zb zh r4.2.2.1 (Zl.mk r4.2.2.2.1 r4.2.2.2.2)) zp or4_0_4), (Zq r4.1 .sh .sh), (Zq r4.1 .sh .sh)] ?_
     refine zg ?_
     exact zr ((.p (.tup [(.agg (ZC r4.1 .sh .sh)), (.v (.bool (r4.1.Kind != 9)))])), [(Zk (Zm.mk zn r4.2.1 zb zh r4.2.2.1 (Zl.mk r4.2.2.2.1 r4.2.2.2.2)) zp or4_0_4), (Zq r4.1 .sh .sh), (Zq r4.1 .sh .sh)]) ⟨or4_0_4, _, hor4_0_4, rfl⟩
    ·refine ze ?_
     refine zo (bv (r1.1 == 91)) ?_
     refine za ((r1.1 == 91)) ?_ ?_
     ·refine ze ?_
      refine zi fun r5 hr5 => ?_
      obtain ⟨qr5, er5, exr5, rfl⟩ := Zb1 (zu) (zn) (r1.2) (zb) (zh) (zj) (z2) (z6) zp zd zy r5 hr5
      refine zc [0] (.p (.agg (ZC r5.1 .sh .sh))) [(Zk (Zm.mk zn r5.2.1 zb zh zj (Zl.mk r5.2.2.1 r5.2.2.2)) zp zd), (Zq (Z7.mk 0 0 0 0 0 ([] : List Zc) ([] : List Z7)) .nl .nl)] er5 ?_
      refine zt [(Zk (Zm.mk zn r5.2.1 zb zh zj (Zl.mk r5.2.2.1 r5.2.2.2)) zp zd), (Zq r5.1 .sh .sh)] ?_
      exact zr ((.p (.tup [(.agg (ZC r5.1 .sh .sh)), (.v (.bool true))])), [(Zk (Zm.mk zn r5.2.1 zb zh zj (Zl.mk r5.2.2.1 r5.2.2.2)) zp zd), (Zq r5.1 .sh .sh)]) ⟨zd, _, zy, rfl⟩
     ·refine ze ?_
      refine zo (bv (r1.1 == 40)) ?_
      refine za ((r1.1 == 40)) ?_ ?_
      ·refine ze ?_
       refine zi fun r6 hr6 => ?_
       obtain ⟨qr6, er6, or6_0_4, exr6, hor6_0_4, rfl⟩ := ZaW (zu) (zn) (r1.2) (zb) (zh) (zj) (z2) (z6) zp zd zy r6 hr6
       refine zc [0] (.p (.tup [(.agg (ZC r6.1 .sh .sh)), (.v (.bool r6.2.1))])) [(Zk (Zm.mk zn r6.2.2.1 r6.2.2.2.1 r6.2.2.2.2.1 r6.2.2.2.2.2.1 (Zl.mk r6.2.2.2.2.2.2.1 r6.2.2.2.2.2.2.2)) zp or6_0_4), (Zq (Z7.mk 0 0 0 0 0 ([] : List Zc) ([] : List Z7)) .nl .nl)] er6 ?_
       refine zo (.p (.agg (ZC r6.1 .sh .sh))) ?_
       refine zo (bv r6.2.1) ?_
       refine zt [(Zk (Zm.mk zn r6.2.2.1 r6.2.2.2.1 r6.2.2.2.2.1 r6.2.2.2.2.2.1 (Zl.mk r6.2.2.2.2.2.2.1 r6.2.2.2.2.2.2.2)) zp or6_0_4), (Zq r6.1 .sh .sh)] ?_
       exact zr ((.p (.tup [(.agg (ZC r6.1 .sh .sh)), (.v (.bool r6.2.1))])), [(Zk (Zm.mk zn r6.2.2.1 r6.2.2.2.1 r6.2.2.2.2.1 r6.2.2.2.2.2.1 (Zl.mk r6.2.2.2.2.2.2.1 r6.2.2.2.2.2.2.2)) zp or6_0_4), (Zq r6.1 .sh .sh)]) ⟨or6_0_4, _, hor6_0_4, rfl⟩
      ·refine ze ?_
       refine zo (bv (r1.1 == 42)) ?_
       refine za ((r1.1 == 42)) ?_ ?_
       ·refine za ((r1.1 == 42)) ?_ ?_
        ·refine ze ?_
         refine zi fun r7 hr7 => ?_
         obtain ⟨qr7, er7, exr7, rfl⟩ := ZY (23) (zu) (zn) (r1.2) (zb) (zh) (zj) (z2) (z6) zp zd zy r7 hr7
         refine zc [0] (.p (.tup [])) [(Zk (Zm.mk zn r7.1 zb zh zj (Zl.mk r7.2.1 r7.2.2)) zp zd), (Zq (Z7.mk 0 0 0 0 0 ([] : List Zc) ([] : List Z7)) .nl .nl)] er7 ?_
         exact zk (Z1m (zn) (r7.1) (zb) (zh) (zj) (r7.2.1) (r7.2.2) ((Z7.mk 0 0 0 0 0 ([] : List Zc) ([] : List Z7))) zp zd .nl .nl zy rfl rfl)
        ·refine ze ?_
         refine zo (bv (r1.1 == 93)) ?_
         refine za ((r1.1 == 93)) ?_ ?_
         ·refine za ((r1.1 == 93)) ?_ ?_
          ·refine ze ?_
           refine zi fun r8 hr8 => ?_
           obtain ⟨qr8, er8, exr8, rfl⟩ := ZY (20) (zu) (zn) (r1.2) (zb) (zh) (zj) (z2) (z6) zp zd zy r8 hr8
           refine zc [0] (.p (.tup [])) [(Zk (Zm.mk zn r8.1 zb zh zj (Zl.mk r8.2.1 r8.2.2)) zp zd), (Zq (Z7.mk 0 0 0 0 0 ([] : List Zc) ([] : List Z7)) .nl .nl)] er8 ?_
           exact zk (Z1m (zn) (r8.1) (zb) (zh) (zj) (r8.2.1) (r8.2.2) ((Z7.mk 0 0 0 0 0 ([] : List Zc) ([] : List Z7))) zp zd .nl .nl zy rfl rfl)
          ·refine ze ?_
           refine zi fun r9 hr9 => ?_
           obtain ⟨qr9, er9, exr9, rfl⟩ := Z1w (r1.1) r9 hr9
           refine zc [] (.p (.agg (ZH r9))) [(Zk (Zm.mk zn r1.2 zb zh zj (Zl.mk z2 z6)) zp zd), (Zq (Z7.mk 0 0 0 0 0 ([] : List Zc) ([] : List Z7)) .nl .nl)] er9 ?_
           refine zo (.p (.lst .ex (([r9] : List Zc).map Zz))) ?_
           refine zi fun r10 hr10 => ?_
           obtain ⟨qr10, er10, exr10, rfl⟩ := Z2S (false) (([r9] : List Zc)) .sh r10 hr10
           refine zc [] (.p (.agg (ZC r10 .sh .sh))) [(Zk (Zm.mk zn r1.2 zb zh zj (Zl.mk z2 z6)) zp zd), (Zq (Z7.mk 0 0 0 0 0 ([] : List Zc) ([] : List Z7)) .nl .nl)] er10 ?_
           refine zt [(Zk (Zm.mk zn r1.2 zb zh zj (Zl.mk z2 z6)) zp zd), (Zq r10 .sh .sh)] ?_
           exact zr ((.p (.tup [(.agg (ZC r10 .sh .sh)), (.v (.bool true))])), [(Zk (Zm.mk zn r1.2 zb zh zj (Zl.mk z2 z6)) zp zd), (Zq r10 .sh .sh)]) ⟨zd, _, zy, rfl⟩
         ·refine ze ?_
          refine zo (bv (r1.1 == 125)) ?_
          refine za ((r1.1 == 125)) ?_ ?_
          ·refine ze ?_
           refine zi fun r11 hr11 => ?_
           obtain ⟨qr11, er11, exr11, rfl⟩ := ZY (20) (zu) (zn) (r1.2) (zb) (zh) (zj) (z2) (z6) zp zd zy r11 hr11
           refine zc [0] (.p (.tup [])) [(Zk (Zm.mk zn r11.1 zb zh zj (Zl.mk r11.2.1 r11.2.2)) zp zd), (Zq (Z7.mk 0 0 0 0 0 ([] : List Zc) ([] : List Z7)) .nl .nl)] er11 ?_
           exact zk (Z1m (zn) (r11.1) (zb) (zh) (zj) (r11.2.1) (r11.2.2) ((Z7.mk 0 0 0 0 0 ([] : List Zc) ([] : List Z7))) zp zd .nl .nl zy rfl rfl)
          ·refine ze ?_
           refine zi fun r12 hr12 => ?_
           obtain ⟨qr12, er12, exr12, rfl⟩ := Z1w (r1.1) r12 hr12
           refine zc [] (.p (.agg (ZH r12))) [(Zk (Zm.mk zn r1.2 zb zh zj (Zl.mk z2 z6)) zp zd), (Zq (Z7.mk 0 0 0 0 0 ([] : List Zc) ([] : List Z7)) .nl .nl)] er12 ?_
           refine zo (.p (.lst .ex (([r12] : List Zc).map Zz))) ?_
           refine zi fun r13 hr13 => ?_
           obtain ⟨qr13, er13, exr13, rfl⟩ := Z2S (false) (([r12] : List Zc)) .sh r13 hr13
           refine zc [] (.p (.agg (ZC r13 .sh .sh))) [(Zk (Zm.mk zn r1.2 zb zh zj (Zl.mk z2 z6)) zp zd), (Zq (Z7.mk 0 0 0 0 0 ([] : List Zc) ([] : List Z7)) .nl .nl)] er13 ?_
           refine zt [(Zk (Zm.mk zn r1.2 zb zh zj (Zl.mk z2 z6)) zp zd), (Zq r13 .sh .sh)] ?_
           exact zr ((.p (.tup [(.agg (ZC r13 .sh .sh)), (.v (.bool true))])), [(Zk (Zm.mk zn r1.2 zb zh zj (Zl.mk z2 z6)) zp zd), (Zq r13 .sh .sh)]) ⟨zd, _, zy, rfl⟩
       ·refine ze ?_
        refine zo (bv (r1.1 == 43)) ?_
        refine za ((r1.1 == 43)) ?_ ?_
        ·refine za ((r1.1 == 43)) ?_ ?_
         ·refine ze ?_
          refine zi fun r14 hr14 => ?_
          obtain ⟨qr14, er14, exr14, rfl⟩ := ZY (23) (zu) (zn) (r1.2) (zb) (zh) (zj) (z2) (z6) zp zd zy r14 hr14
          refine zc [0] (.p (.tup [])) [(Zk (Zm.mk zn r14.1 zb zh zj (Zl.mk r14.2.1 r14.2.2)) zp zd), (Zq (Z7.mk 0 0 0 0 0 ([] : List Zc) ([] : List Z7)) .nl .nl)] er14 ?_
          exact zk (Z1m (zn) (r14.1) (zb) (zh) (zj) (r14.2.1) (r14.2.2) ((Z7.mk 0 0 0 0 0 ([] : List Zc) ([] : List Z7))) zp zd .nl .nl zy rfl rfl)
         ·refine ze ?_
          refine zo (bv (r1.1 == 93)) ?_
          refine za ((r1.1 == 93)) ?_ ?_
          ·refine za ((r1.1 == 93)) ?_ ?_
           ·refine ze ?_
            refine zi fun r15 hr15 => ?_
            obtain ⟨qr15, er15, exr15, rfl⟩ := ZY (20) (zu) (zn) (r1.2) (zb) (zh) (zj) (z2) (z6) zp zd zy r15 hr15
            refine zc [0] (.p (.tup [])) [(Zk (Zm.mk zn r15.1 zb zh zj (Zl.mk r15.2.1 r15.2.2)) zp zd), (Zq (Z7.mk 0 0 0 0 0 ([] : List Zc) ([] : List Z7)) .nl .nl)] er15 ?_
            exact zk (Z1m (zn) (r15.1) (zb) (zh) (zj) (r15.2.1) (r15.2.2) ((Z7.mk 0 0 0 0 0 ([] : List Zc) ([] : List Z7))) zp zd .nl .nl zy rfl rfl)
           ·refine ze ?_
            refine zi fun r16 hr16 => ?_
            obtain ⟨qr16, er16, exr16, rfl⟩ := Z1w (r1.1) r16 hr16
            refine zc [] (.p (.agg (ZH r16))) [(Zk (Zm.mk zn r1.2 zb zh zj (Zl.mk z2 z6)) zp zd), (Zq (Z7.mk 0 0 0 0 0 ([] : List Zc) ([] : List Z7)) .nl .nl)] er16 ?_
            refine zo (.p (.lst .ex (([r16] : List Zc).map Zz))) ?_
            refine zi fun r17 hr17 => ?_
            obtain ⟨qr17, er17, exr17, rfl⟩ := Z2S (false) (([r16] : List Zc)) .sh r17 hr17
            refine zc [] (.p (.agg (ZC r17 .sh .sh))) [(Zk (Zm.mk zn r1.2 zb zh zj (Zl.mk z2 z6)) zp zd), (Zq (Z7.mk 0 0 0 0 0 ([] : List Zc) ([] : List Z7)) .nl .nl)] er17 ?_
            refine zt [(Zk (Zm.mk zn r1.2 zb zh zj (Zl.mk z2 z6)) zp zd), (Zq r17 .sh .sh)] ?_
            exact zr ((.p (.tup [(.agg (ZC r17 .sh .sh)), (.v (.bool true))])), [(Zk (Zm.mk zn r1.2 zb zh zj (Zl.mk z2 z6)) zp zd), (Zq r17 .sh .sh)]) ⟨zd, _, zy, rfl⟩
          ·refine ze ?_
           refine zo (bv (r1.1 == 125)) ?_
           refine za ((r1.1 == 125)) ?_ ?_
           ·refine ze ?_
            refine zi fun r18 hr18 => ?_
            obtain ⟨qr18, er18, exr18, rfl⟩ := ZY (20) (zu) (zn) (r1.2) (zb) (zh) (zj) (z2) (z6) zp zd zy r18 hr18
            refine zc [0] (.p (.tup [])) [(Zk (Zm.mk zn r18.1 zb zh zj (Zl.mk r18.2.1 r18.2.2)) zp zd), (Zq (Z7.mk 0 0 0 0 0 ([] : List Zc) ([] : List Z7)) .nl .nl)] er18 ?_
            exact zk (Z1m (zn) (r18.1) (zb) (zh) (zj) (r18.2.1) (r18.2.2) ((Z7.mk 0 0 0 0 0 ([] : List Zc) ([] : List Z7))) zp zd .nl .nl zy rfl rfl)
           ·refine ze ?_
            refine zi fun r19 hr19 => ?_
            obtain ⟨qr19, er19, exr19, rfl⟩ := Z1w (r1.1) r19 hr19
            refine zc [] (.p (.agg (ZH r19))) [(Zk (Zm.mk zn r1.2 zb zh zj (Zl.mk z2 z6)) zp zd), (Zq (Z7.mk 0 0 0 0 0 ([] : List Zc) ([] : List Z7)) .nl .nl)] er19 ?_
            refine zo (.p (.lst .ex (([r19] : List Zc).map Zz))) ?_
            refine zi fun r20 hr20 => ?_
            obtain ⟨qr20, er20, exr20, rfl⟩ := Z2S (false) (([r19] : List Zc)) .sh r20 hr20
            refine zc [] (.p (.agg (ZC r20 .sh .sh))) [(Zk (Zm.mk zn r1.2 zb zh zj (Zl.mk z2 z6)) zp zd), (Zq (Z7.mk 0 0 0 0 0 ([] : List Zc) ([] : List Z7)) .nl .nl)] er20 ?_
            refine zt [(Zk (Zm.mk zn r1.2 zb zh zj (Zl.mk z2 z6)) zp zd), (Zq r20 .sh .sh)] ?_
            exact zr ((.p (.tup [(.agg (ZC r20 .sh .sh)), (.v (.bool true))])), [(Zk (Zm.mk zn r1.2 zb zh zj (Zl.mk z2 z6)) zp zd), (Zq r20 .sh .sh)]) ⟨zd, _, zy, rfl⟩
        ·refine ze ?_
         refine zo (bv (r1.1 == 63)) ?_
         refine za ((r1.1 == 63)) ?_ ?_
         ·refine za ((r1.1 == 63)) ?_ ?_
          ·refine ze ?_
           refine zi fun r21 hr21 => ?_
           obtain ⟨qr21, er21, exr21, rfl⟩ := ZY (23) (zu) (zn) (r1.2) (zb) (zh) (zj) (z2) (z6) zp zd zy r21 hr21
           refine zc [0] (.p (.tup [])) [(Zk (Zm.mk zn r21.1 zb zh zj (Zl.mk r21.2.1 r21.2.2)) zp zd), (Zq (Z7.mk 0 0 0 0 0 ([] : List Zc) ([] : List Z7)) .nl .nl)] er21 ?_
           exact zk (Z1m (zn) (r21.1) (zb) (zh) (zj) (r21.2.1) (r21.2.2) ((Z7.mk 0 0 0 0 0 ([] : List Zc) ([] : List Z7))) zp zd .nl .nl zy rfl rfl)
          ·refine ze ?_
           refine zo (bv (r1.1 == 93)) ?_
           refine za ((r1.1 == 93)) ?_ ?_
           ·refine za ((r1.1 == 93)) ?_ ?_
            ·refine ze ?_
             refine zi fun r22 hr22 => ?_
             obtain ⟨qr22, er22, exr22, rfl⟩ := ZY (20) (zu) (zn) (r1.2) (zb) (zh) (zj) (z2) (z6) zp zd zy r22 hr22
             refine zc [0] (.p (.tup [])) [(Zk (Zm.mk zn r22.1 zb zh zj (Zl.mk r22.2.1 r22.2.2)) zp zd), (Zq (Z7.mk 0 0 0 0 0 ([] : List Zc) ([] : List Z7)) .nl .nl)] er22 ?_
             exact zk (Z1m (zn) (r22.1) (zb) (zh) (zj) (r22.2.1) (r22.2.2) ((Z7.mk 0 0 0 0 0 ([] : List Zc) ([] : List Z7))) zp zd .nl .nl zy rfl rfl)
            ·refine ze ?_
             refine zi fun r23 hr23 => ?_
             obtain ⟨qr23, er23, exr23, rfl⟩ := Z1w (r1.1) r23 hr23
             refine zc [] (.p (.agg (ZH r23))) [(Zk (Zm.mk zn r1.2 zb zh zj (Zl.mk z2 z6)) zp zd), (Zq (Z7.mk 0 0 0 0 0 ([] : List Zc) ([] : List Z7)) .nl .nl)] er23 ?_
             refine zo (.p (.lst .ex (([r23] : List Zc).map Zz))) ?_
             refine zi fun r24 hr24 => ?_
             obtain ⟨qr24, er24, exr24, rfl⟩ := Z2S (false) (([r23] : List Zc)) .sh r24 hr24
             refine zc [] (.p (.agg (ZC r24 .sh .sh))) [(Zk (Zm.mk zn r1.2 zb zh zj (Zl.mk z2 z6)) zp zd), (Zq (Z7.mk 0 0 0 0 0 ([] : List Zc) ([] : List Z7)) .nl .nl)] er24 ?_
             refine zt [(Zk (Zm.mk zn r1.2 zb zh zj (Zl.mk z2 z6)) zp zd), (Zq r24 .sh .sh)] ?_
             exact zr ((.p (.tup [(.agg (ZC r24 .sh .sh)), (.v (.bool true))])), [(Zk (Zm.mk zn r1.2 zb zh zj (Zl.mk z2 z6)) zp zd), (Zq r24 .sh .sh)]) ⟨zd, _, zy, rfl⟩
           ·refine ze ?_
            refine zo (bv (r1.1 == 125)) ?_
            refine za ((r1.1 == 125)) ?_ ?_
            ·refine ze ?_
             refine zi fun r25 hr25 => ?_
             obtain ⟨qr25, er25, exr25, rfl⟩ := ZY (20) (zu) (zn) (r1.2) (zb) (zh) (zj) (z2) (z6) zp zd zy r25 hr25
             refine zc [0] (.p (.tup [])) [(Zk (Zm.mk zn r25.1 zb zh zj (Zl.mk r25.2.1 r25.2.2)) zp zd), (Zq (Z7.mk 0 0 0 0 0 ([] : List Zc) ([] : List Z7)) .nl .nl)] er25 ?_
             exact zk (Z1m (zn) (r25.1) (zb) (zh) (zj) (r25.2.1) (r25.2.2) ((Z7.mk 0 0 0 0 0 ([] : List Zc) ([] : List Z7))) zp zd .nl .nl zy rfl rfl)
            ·refine ze ?_
             refine zi fun r26 hr26 => ?_
             obtain ⟨qr26, er26, exr26, rfl⟩ := Z1w (r1.1) r26 hr26
             refine zc [] (.p (.agg (ZH r26))) [(Zk (Zm.mk zn r1.2 zb zh zj (Zl.mk z2 z6)) zp zd), (Zq (Z7.mk 0 0 0 0 0 ([] : List Zc) ([] : List Z7)) .nl .nl)] er26 ?_
             refine zo (.p (.lst .ex (([r26] : List Zc).map Zz))) ?_
             refine zi fun r27 hr27 => ?_
             obtain ⟨qr27, er27, exr27, rfl⟩ := Z2S (false) (([r26] : List Zc)) .sh r27 hr27
             refine zc [] (.p (.agg (ZC r27 .sh .sh))) [(Zk (Zm.mk zn r1.2 zb zh zj (Zl.mk z2 z6)) zp zd), (Zq (Z7.mk 0 0 0 0 0 ([] : List Zc) ([] : List Z7)) .nl .nl)] er27 ?_
             refine zt [(Zk (Zm.mk zn r1.2 zb zh zj (Zl.mk z2 z6)) zp zd), (Zq r27 .sh .sh)] ?_
             exact zr ((.p (.tup [(.agg (ZC r27 .sh .sh)), (.v (.bool true))])), [(Zk (Zm.mk zn r1.2 zb zh zj (Zl.mk z2 z6)) zp zd), (Zq r27 .sh .sh)]) ⟨zd, _, zy, rfl⟩
         ·refine ze ?_
          refine zo (bv (r1.1 == 123)) ?_
          refine za ((r1.1 == 123)) ?_ ?_
          ·refine ze ?_
           refine zi fun r28 hr28 => ?_
           obtain ⟨qr28, er28, exr28, rfl⟩ := ZY (23) (zu) (zn) (r1.2) (zb) (zh) (zj) (z2) (z6) zp zd zy r28 hr28
           refine zc [0] (.p (.tup [])) [(Zk (Zm.mk zn r28.1 zb zh zj (Zl.mk r28.2.1 r28.2.2)) zp zd), (Zq (Z7.mk 0 0 0 0 0 ([] : List Zc) ([] : List Z7)) .nl .nl)] er28 ?_
           exact zk (Z1m (zn) (r28.1) (zb) (zh) (zj) (r28.2.1) (r28.2.2) ((Z7.mk 0 0 0 0 0 ([] : List Zc) ([] : List Z7))) zp zd .nl .nl zy rfl rfl)
          ·refine ze ?_
           refine zo (bv (r1.1 == 93)) ?_
           refine za ((r1.1 == 93)) ?_ ?_
           ·refine za ((r1.1 == 93)) ?_ ?_
            ·refine ze ?_
             refine zi fun r29 hr29 => ?_
             obtain ⟨qr29, er29, exr29, rfl⟩ := ZY (20) (zu) (zn) (r1.2) (zb) (zh) (zj) (z2) (z6) zp zd zy r29 hr29
             refine zc [0] (.p (.tup [])) [(Zk (Zm.mk zn r29.1 zb zh zj (Zl.mk r29.2.1 r29.2.2)) zp zd), (Zq (Z7.mk 0 0 0 0 0 ([] : List Zc) ([] : List Z7)) .nl .nl)] er29 ?_
             exact zk (Z1m (zn) (r29.1) (zb) (zh) (zj) (r29.2.1) (r29.2.2) ((Z7.mk 0 0 0 0 0 ([] : List Zc) ([] : List Z7))) zp zd .nl .nl zy rfl rfl)
            ·refine ze ?_
             refine zi fun r30 hr30 => ?_
             obtain ⟨qr30, er30, exr30, rfl⟩ := Z1w (r1.1) r30 hr30
             refine zc [] (.p (.agg (ZH r30))) [(Zk (Zm.mk zn r1.2 zb zh zj (Zl.mk z2 z6)) zp zd), (Zq (Z7.mk 0 0 0 0 0 ([] : List Zc) ([] : List Z7)) .nl .nl)] er30 ?_
             refine zo (.p (.lst .ex (([r30] : List Zc).map Zz))) ?_
             refine zi fun r31 hr31 => ?_
             obtain ⟨qr31, er31, exr31, rfl⟩ := Z2S (false) (([r30] : List Zc)) .sh r31 hr31
             refine zc [] (.p (.agg (ZC r31 .sh .sh))) [(Zk (Zm.mk zn r1.2 zb zh zj (Zl.mk z2 z6)) zp zd), (Zq (Z7.mk 0 0 0 0 0 ([] : List Zc) ([] : List Z7)) .nl .nl)] er31 ?_
             refine zt [(Zk (Zm.mk zn r1.2 zb zh zj (Zl.mk z2 z6)) zp zd), (Zq r31 .sh .sh)] ?_
             exact zr ((.p (.tup [(.agg (ZC r31 .sh .sh)), (.v (.bool true))])), [(Zk (Zm.mk zn r1.2 zb zh zj (Zl.mk z2 z6)) zp zd), (Zq r31 .sh .sh)]) ⟨zd, _, zy, rfl⟩
           ·refine ze ?_
            refine zo (bv (r1.1 == 125)) ?_
            refine za ((r1.1 == 125)) ?_ ?_
            ·refine ze ?_
             refine zi fun r32 hr32 => ?_
             obtain ⟨qr32, er32, exr32, rfl⟩ := ZY (20) (zu) (zn) (r1.2) (zb) (zh) (zj) (z2) (z6) zp zd zy r32 hr32
             refine zc [0] (.p (.tup [])) [(Zk (Zm.mk zn r32.1 zb zh zj (Zl.mk r32.2.1 r32.2.2)) zp zd), (Zq (Z7.mk 0 0 0 0 0 ([] : List Zc) ([] : List Z7)) .nl .nl)] er32 ?_
             exact zk (Z1m (zn) (r32.1) (zb) (zh) (zj) (r32.2.1) (r32.2.2) ((Z7.mk 0 0 0 0 0 ([] : List Zc) ([] : List Z7))) zp zd .nl .nl zy rfl rfl)
            ·refine ze ?_
             refine zi fun r33 hr33 => ?_
             obtain ⟨qr33, er33, exr33, rfl⟩ := Z1w (r1.1) r33 hr33
             refine zc [] (.p (.agg (ZH r33))) [(Zk (Zm.mk zn r1.2 zb zh zj (Zl.mk z2 z6)) zp zd), (Zq (Z7.mk 0 0 0 0 0 ([] : List Zc) ([] : List Z7)) .nl .nl)] er33 ?_
             refine zo (.p (.lst .ex (([r33] : List Zc).map Zz))) ?_
             refine zi fun r34 hr34 => ?_
             obtain ⟨qr34, er34, exr34, rfl⟩ := Z2S (false) (([r33] : List Zc)) .sh r34 hr34
             refine zc [] (.p (.agg (ZC r34 .sh .sh))) [(Zk (Zm.mk zn r1.2 zb zh zj (Zl.mk z2 z6)) zp zd), (Zq (Z7.mk 0 0 0 0 0 ([] : List Zc) ([] : List Z7)) .nl .nl)] er34 ?_
             refine zt [(Zk (Zm.mk zn r1.2 zb zh zj (Zl.mk z2 z6)) zp zd), (Zq r34 .sh .sh)] ?_
             exact zr ((.p (.tup [(.agg (ZC r34 .sh .sh)), (.v (.bool true))])), [(Zk (Zm.mk zn r1.2 zb zh zj (Zl.mk z2 z6)) zp zd), (Zq r34 .sh .sh)]) ⟨zd, _, zy, rfl⟩
theorem Zby (zn : List Int) (zu : Int) (zb : Int) (zh : Int) (zj : List Zv) (z2 : Int) (z6 : Int) {r} (h : Z52 zn zu zb zh zj z2 z6 = some r) : Z60 zn zu zb zh zj z2 z6 = some r :=
 pick_of (fun _ _ ha hb => RRun.uniq (ZbD _ _) (ha .ex .ex rfl) (hb .ex .ex rfl)) (fun zp zd zy => Zb5 zn zu zb zh zj z2 z6 zp zd zy r h)
noncomputable def Z5X (zn : List Int) (zu : Int) : Option (Int × Int) :=
 (Z8r zn zu).bind fun r1 =>
 some (r1.1, (IntKind.i64.wrap (zu + r1.2)))
theorem ZaV (zn : List Int) (zu : Int) (zb : Int) (zh : Int) (zj : List Zv) (z2 : Int) (z6 : Int) (zp : Own) (zd : Own) (zy : okApp zd = true) : Sim (Z51 zn zb zh zj z2 z6 zp zd) (Z5X zn zu) (EE 46 [(.ptr 0 0)] [(Zk (Zm.mk zn zu zb zh zj (Zl.mk z2 z6)) zp zd)]) := by
 unfold Z5X
 refine zf (Zkj ..) ?_
 refine ze ?_
 refine ze ?_
 refine zo (.ptr 0 0) ?_
 refine zo (.ptr 0 0) ?_
 refine zo (.p (.lst (shrO zp) (zn.map (eI .u8)))) ?_
 refine zo (.ptr 0 0) ?_
 refine zo (.ptr 0 1) ?_
 refine zo (iv zu) ?_
 refine zi fun r1 hr1 => ?_
 obtain ⟨qr1, er1, exr1, rfl⟩ := ZbF (zn) (zu) .sh r1 hr1
 refine zc [] (.p (.tup [(.v (.int .i64 r1.1)), (.v (.int .i64 r1.2))])) [(Zk (Zm.mk zn zu zb zh zj (Zl.mk z2 z6)) zp zd)] er1 ?_
 refine zo (iv r1.1) ?_
 refine zo (iv r1.2) ?_
 refine ze ?_
 refine zo (.ptr 0 0) ?_
 refine zo (.ptr 0 1) ?_
 refine zo (iv zu) ?_
 refine zo (iv (IntKind.i64.wrap (zu + r1.2))) ?_
 refine zo (.ptr 0 0) ?_
 refine zo (.ptr 0 1) ?_
 refine zt [(Zk (Zm.mk zn (IntKind.i64.wrap (zu + r1.2)) zb zh zj (Zl.mk z2 z6)) zp zd)] ?_
 refine ze ?_
 exact zr ((iv r1.1), [(Zk (Zm.mk zn (IntKind.i64.wrap (zu + r1.2)) zb zh zj (Zl.mk z2 z6)) zp zd)]) ⟨_, rfl⟩
theorem Zbj (zn : List Int) (zu : Int) {r} (h : Z5X zn zu = some r) : Z27 zn zu = some r :=
 pick_of (fun _ _ ha hb => RRun.uniq (Zcg _ _ _ _ _ _ _ _) (ha default default default default default .ex .ex rfl) (hb default default default default default .ex .ex rfl)) (fun zb zh zj z2 z6 zp zd zy => ZaV zn zu zb zh zj z2 z6 zp zd zy r h)
noncomputable def Zbx (x0 : Int) : Option (Zc) :=
 some ((Zc.mk x0 x0))
theorem Zeg (x0 : Int) : Sim (Z8o) (Zbx x0) (EE 48 [(iv x0)] []) := by
 unfold Zbx
 refine zf (Zkb ..) ?_
 refine ze ?_
 refine zz (.ptr 0 0) [(Z1E (Zc.mk 0 0))] ?_
 refine ze ?_
 refine zo (.p (.agg (ZH (Zc.mk x0 x0)))) ?_
 refine zt [(Z1E (Zc.mk x0 x0))] ?_
 exact zr ((.p (.agg (ZH (Zc.mk x0 x0)))), [(Z1E (Zc.mk x0 x0))]) ⟨_, rfl⟩
theorem ZeG (x0 : Int) {r} (h : Zbx x0 = some r) : Z1C x0 = some r :=
 pick_of (fun _ _ ha hb => RRun.uniq (ZeS) (ha ) (hb )) (Zeg x0 r h)
noncomputable def Z7Q (x5 : List Zc) : Option (Z7) :=
 some ((Z7.mk 1 0 0 0 0 x5 ([] : List Z7)))
theorem Z9W (x5 : List Zc) (b0 : Z7) (ox5 : Own) (z1f : Own) (z15 : Own) (ziX : okApp z1f = true) (zhL : okApp z15 = true) : Sim (Z72) (Z7Q x5) (Zei 0 (.ptr 0 0) (.p (.lst ox5 (x5.map Zz))) [(Zq b0 z1f z15)]) := by
 unfold Z7Q
 refine zf (ZhP ..) ?_
 refine ze ?_
 refine zo (.p (.agg (ZC (Z7.mk 1 0 0 0 0 x5 ([] : List Z7)) (shrO (shrO ox5)) .nl))) ?_
 refine zt [(Zq (Z7.mk 1 0 0 0 0 x5 ([] : List Z7)) (shrO (shrO ox5)) .nl)] ?_
 exact zr ((.p (.agg (ZC (Z7.mk 1 0 0 0 0 x5 ([] : List Z7)) .sh .sh))), [(Zq (Z7.mk 1 0 0 0 0 x5 ([] : List Z7)) (shrO (shrO ox5)) .nl)]) ⟨_, rfl⟩
noncomputable def Z9J (x0 : Bool) (x1 : List Zc) : Option (Z7) :=
 (Z96 x1).bind fun r1 =>
 if (x0) = true then
 ((Z6h r1.1).bind fun r2 =>
 Z7Q r2.1)
 else
 (Z7Q r1.1)
theorem Ze9 (x0 : Bool) (x1 : List Zc) (ox1 : Own) : Sim (Z72) (Z9J x0 x1) (EE 47 [(bv x0), (.p (.lst ox1 (x1.map Zz)))] []) := by
 unfold Z9J
 refine zf (Zjn ..) ?_
 refine ze ?_
 refine zz (.ptr 0 0) [(Zq (Z7.mk 0 0 0 0 0 ([] : List Zc) ([] : List Z7)) .nl .nl)] ?_
 refine ze ?_
 refine zi fun r1 hr1 => ?_
 obtain ⟨qr1, er1, exr1, rfl⟩ := Zec (x1) .sh r1 hr1
 refine zc [] (.p (.tup [(.lst .sh (r1.1.map Zz)), (.v (.int .i64 r1.2))])) [(Zq (Z7.mk 0 0 0 0 0 ([] : List Zc) ([] : List Z7)) .nl .nl)] er1 ?_
 refine zo (.p (.lst .sh (r1.1.map Zz))) ?_
 refine zo (iv r1.2) ?_
 refine ze ?_
 refine za (x0) ?_ ?_
 ·refine ze ?_
  refine zi fun r2 hr2 => ?_
  obtain ⟨qr2, er2, exr2, rfl⟩ := Z9X (r1.1) .sh r2 hr2
  refine zc [] (.p (.tup [(.lst .sh (r2.1.map Zz)), (.v (.int .i64 r2.2))])) [(Zq (Z7.mk 0 0 0 0 0 ([] : List Zc) ([] : List Z7)) .nl .nl)] er2 ?_
  refine zo (.p (.lst .sh (r2.1.map Zz))) ?_
  refine zo (iv r2.2) ?_
  exact zk (Z9W (r2.1) ((Z7.mk 0 0 0 0 0 ([] : List Zc) ([] : List Z7))) .sh .nl .nl rfl rfl)
 ·exact zk (Z9W (r1.1) ((Z7.mk 0 0 0 0 0 ([] : List Zc) ([] : List Z7))) .sh .nl .nl rfl rfl)
theorem ZeC (x0 : Bool) (x1 : List Zc) {r} (h : Z9J x0 x1 = some r) : Z2I x0 x1 = some r :=
 pick_of (fun _ _ ha hb => RRun.uniq (ZeO) (ha .ex) (hb .ex)) (fun ox1 => Ze9 x0 x1 ox1 r h)
noncomputable def Z7d (x0 : List Zc) : Option ((List Zc) × Int) :=
 (Z7G x0).bind fun r1 =>
 some (r1, 0)
theorem ZcE (x0 : List Zc) (ox0 : Own) : Sim (Z6D) (Z7d x0) (Zf5 0 (.p (.lst ox0 (x0.map Zz))) []) := by
 unfold Z7d
 refine zf (Zia ..) ?_
 refine ze ?_
 refine zi fun r1 hr1 => ?_
 obtain ⟨qr1, er1, exr1, rfl⟩ := Za7 (x0) .sh r1 hr1
 refine zc [] (.p (.lst .sh (r1.map Zz))) [] er1 ?_
 exact zr ((.p (.tup [(.lst .sh (r1.map Zz)), (.v (.int .i64 0))])), []) ⟨_, rfl⟩
noncomputable def Z9d (x0 : List Zc) : Option ((List Zc) × Int) :=
 (Z3k x0).bind fun r1 =>
 if (r1) = true then
 (some (([] : List Zc), 13))
 else
 (Z7d x0)
theorem Zdx (x0 : List Zc) (ox0 : Own) : Sim (Z6D) (Z9d x0) (EE 54 [(.p (.lst ox0 (x0.map Zz)))] []) := by
 unfold Z9d
 refine zf (Zkc ..) ?_
 refine ze ?_
 refine ze ?_
 refine zi fun r1 hr1 => ?_
 obtain ⟨qr1, er1, exr1, rfl⟩ := Z82 (x0) .sh r1 hr1
 refine zc [] (bv r1) [] er1 ?_
 refine za (r1) ?_ ?_
 ·refine ze ?_
  exact zr ((.p (.tup [(.lst .sh []), (.v (.int .i64 13))])), []) ⟨_, rfl⟩
 ·exact zk (ZcE (x0) ox0)
theorem ZdQ (x0 : List Zc) {r} (h : Z9d x0 = some r) : Z96 x0 = some r :=
 pick_of (fun _ _ ha hb => RRun.uniq (ZeL) (ha .ex) (hb .ex)) (fun ox0 => Zdx x0 ox0 r h)
noncomputable def Z3m (x0 : List Zc) : Option (Bool) :=
 (Z3T x0).bind fun r1 =>
 some ((decide (0 ≤ r1)))
theorem Z7W (x0 : List Zc) (ox0 : Own) : Sim (Z2O) (Z3m x0) (EE 65 [(.p (.lst ox0 (x0.map Zz))), (.clo 66 [] [])] []) := by
 unfold Z3m
 refine zf (Zkf ..) ?_
 refine ze ?_
 refine ze ?_
 refine zi fun r1 hr1 => ?_
 obtain ⟨qr1, er1, exr1, rfl⟩ := Z8Y (x0) .sh r1 hr1
 refine zc [] (iv r1) [] er1 ?_
 refine zo (bv (decide (0 ≤ r1))) ?_
 exact zr ((bv (decide (0 ≤ r1))), []) ⟨_, rfl⟩
theorem Z8e (x0 : List Zc) {r} (h : Z3m x0 = some r) : Z3k x0 = some r :=
 pick_of (fun _ _ ha hb => RRun.uniq (Z8p) (ha .ex) (hb .ex)) (fun ox0 => Z7W x0 ox0 r h)
noncomputable def Z3Q (x0 : List Zc) : Option (Int) :=
 Z2M x0 ((x0.length : Int)) 0
theorem Z8K (x0 : List Zc) (ox0 : Own) : Sim (Z1q) (Z3Q x0) (EE 73 [(.p (.lst ox0 (x0.map Zz))), (.clo 66 [] [])] []) := by
 unfold Z3Q
 refine zf (Zjw ..) ?_
 refine ze ?_
 refine ze ?_
 refine zo (iv (x0.length : Int)) ?_ (Eq.trans (by kernel_rfl) (xlen_of (P := PP) (t := 23) (d := 39) (by kernel_rfl) Zz (shrO ox0) x0))
 exact zk (Z5C (x0) ((x0.length : Int)) (0) ox0)
theorem Z8X (x0 : List Zc) {r} (h : Z3Q x0 = some r) : Z3T x0 = some r :=
 pick_of (fun _ _ ha hb => RRun.uniq (Z6g) (ha .ex) (hb .ex)) (fun ox0 => Z8K x0 ox0 r h)
noncomputable def Z3l (x0 : List Zc) (x7 : Int) (x8 : Int) : Option (Int) :=
 Z2M x0 x7 ((IntKind.i64.wrap (x8 + 1)))
theorem Z7F (x0 : List Zc) (x7 : Int) (x8 : Int) (ox0 : Own) : Sim (Z1q) (Z3l x0 x7 x8) (Zg8 0 (.p (.lst ox0 (x0.map Zz))) (.clo 66 [] []) (iv x7) (iv x8) []) := by
 unfold Z3l
 refine zf (ZhM ..) ?_
 refine ze ?_
 refine zo (iv (IntKind.i64.wrap (x8 + 1))) ?_
 exact zk (Z5C (x0) (x7) ((IntKind.i64.wrap (x8 + 1))) ox0)
noncomputable def Z3j (x0 : List Zc) (x7 : Int) (x8 : Int) : Option (Int) :=
 (lget x0 x8).bind fun a1 =>
 (Z7V a1).bind fun r2 =>
 if (r2) = true then
 (some (x8))
 else
 (Z3l x0 x7 x8)
theorem Z7N (x0 : List Zc) (x7 : Int) (x8 : Int) (ox0 : Own) : Sim (Z1q) (Z3j x0 x7 x8) (Zfl 0 (.p (.lst ox0 (x0.map Zz))) (.clo 66 [] []) (iv x7) (iv x8) []) := by
 unfold Z3j
 refine zf (Zhv ..) ?_
 refine ze ?_
 refine ze ?_
 refine zi fun a1 ha1 => ?_
 refine zo (.cptr (ZH a1)) ?_ (Eq.trans (by kernel_rfl) (xidx_of (o := (shrO ox0)) (k := .i64) (n := 2) (e := Zz) (cs := Z57) (fun _ => rfl) (fun _ => rfl) (by decide) ha1))
 refine zo (.p (.agg (ZH a1))) ?_
 refine zi fun r2 hr2 => ?_
 obtain ⟨qr2, er2, exr2, rfl⟩ := Zdr (a1) r2 hr2
 refine zv [] (bv r2) [] er2 ?_
 refine za (r2) ?_ ?_
 ·refine ze ?_
  exact zr ((iv x8), []) ⟨_, rfl⟩
 ·exact zk (Z7F (x0) (x7) (x8) ox0)
noncomputable def Z4E  : Option (Int) :=
 some ((-1))
theorem Z7B  : Sim (Z1q) (Z4E) (Zf8 0  []) := by
 unfold Z4E
 refine zf (ZiB ..) ?_
 refine ze ?_
 exact zr ((iv (-1)), []) ⟨_, rfl⟩
noncomputable def Z2N (x0 : List Zc) (x7 : Int) (x8 : Int) : Option (Int) :=
 if ((decide (x8 < x7))) = true then
 (Z3j x0 x7 x8)
 else
 (Z4E)
theorem Z7D (x0 : List Zc) (x7 : Int) (x8 : Int) (ox0 : Own) : Sim (Z1q) (Z2N x0 x7 x8) (Zce 0 (.p (.lst ox0 (x0.map Zz))) (.clo 66 [] []) (iv x7) (iv x8) []) := by
 unfold Z2N
 refine zf (Zib ..) ?_
 refine ze ?_
 refine zo (bv (decide (x8 < x7))) ?_
 refine za ((decide (x8 < x7))) ?_ ?_
 ·exact zk (Z7N (x0) (x7) (x8) ox0)
 ·exact zk (Z7B )
theorem Z5H (x0 : List Zc) (x7 : Int) (x8 : Int) {r} (h : Z2N x0 x7 x8 = some r) : Z2M x0 x7 x8 = some r :=
 pick_of (fun _ _ ha hb => RRun.uniq (Z6g) (ha .ex) (hb .ex)) (fun ox0 => Z7D x0 x7 x8 ox0 r h)
noncomputable def Z7P (x0 : Zc) : Option (Bool) :=
 (Z4Y x0).bind fun r1 =>
 some ((!r1))
theorem ZcP (x0 : Zc) : Sim (Z6K) (Z7P x0) (EE 66 [(.p (.agg (ZH x0)))] []) := by
 unfold Z7P
 refine zf (Zjy ..) ?_
 refine ze ?_
 refine zx (.ptr 0 0) [(Z1E x0)] ?_
 refine ze ?_
 refine zo (.p (.agg (ZH x0))) ?_
 refine zi fun r1 hr1 => ?_
 obtain ⟨qr1, er1, exr1, rfl⟩ := Z8j (x0) r1 hr1
 refine zc [] (bv r1) [(Z1E x0)] er1 ?_
 refine zo (bv (!r1)) ?_
 exact zr ((bv (!r1)), [(Z1E x0)]) ⟨_, rfl⟩
theorem Zdq (x0 : Zc) {r} (h : Z7P x0 = some r) : Z7V x0 = some r :=
 pick_of (fun _ _ ha hb => RRun.uniq (ZdE) (ha ) (hb )) (ZcP x0 r h)
noncomputable def Z63 (x0 : Zc) : Option (Bool) :=
 if ((decide (0 ≤ x0.Lo))) = true then
 (if ((decide (x0.Lo ≤ x0.Hi))) = true then
 (some ((decide (x0.Hi ≤ 1114367))))
 else
 (some (false)))
 else
 (some (false))
theorem Zb6 (x0 : Zc) : Sim (Z4Z) (Z63 x0) (EE 67 [(.p (.agg (ZH x0)))] []) := by
 unfold Z63
 refine zf (ZjE ..) ?_
 refine ze ?_
 refine zx (.ptr 0 0) [(Z1E x0)] ?_
 refine ze ?_
 refine zo (.ptr 0 0) ?_
 refine zo (iv x0.Lo) ?_
 refine zo (bv (decide (0 ≤ x0.Lo))) ?_
 refine za ((decide (0 ≤ x0.Lo))) ?_ ?_
 ·refine zo (.ptr 0 0) ?_
  refine zo (iv x0.Lo) ?_
  refine zo (.ptr 0 1) ?_
  refine zo (iv x0.Hi) ?_
  refine zo (bv (decide (x0.Lo ≤ x0.Hi))) ?_
  refine za ((decide (x0.Lo ≤ x0.Hi))) ?_ ?_
  ·refine zo (.ptr 0 1) ?_
   refine zo (iv x0.Hi) ?_
   refine zo (bv (decide (x0.Hi ≤ 1114367))) ?_
   exact zr ((bv (decide (x0.Hi ≤ 1114367))), [(Z1E x0)]) ⟨_, rfl⟩
  ·exact zr ((bv false), [(Z1E x0)]) ⟨_, rfl⟩
 ·exact zr ((bv false), [(Z1E x0)]) ⟨_, rfl⟩
theorem Zbw (x0 : Zc) {r} (h : Z63 x0 = some r) : Z4Y x0 = some r :=
 pick_of (fun _ _ ha hb => RRun.uniq (ZbY) (ha ) (hb )) (Zb6 x0 r h)
noncomputable def Z6i (x0 : List Zc) : Option ((List Zc) × Int) :=
 (Z78 x0).bind fun r1 =>
 some (r1, 0)
theorem Zbp (x0 : List Zc) (ox0 : Own) : Sim (Z5p) (Z6i x0) (Zg6 0 (.p (.lst ox0 (x0.map Zz))) []) := by
 unfold Z6i
 refine zf (ZiJ ..) ?_
 refine ze ?_
 refine zi fun r1 hr1 => ?_
 obtain ⟨qr1, er1, exr1, rfl⟩ := ZcV (x0) .sh r1 hr1
 refine zc [] (.p (.lst .sh (r1.map Zz))) [] er1 ?_
 exact zr ((.p (.tup [(.lst .sh (r1.map Zz)), (.v (.int .i64 0))])), []) ⟨_, rfl⟩
noncomputable def Z7b (x0 : List Zc) : Option ((List Zc) × Int) :=
 (Z4w x0).bind fun r1 =>
 if ((!r1)) = true then
 (some (([] : List Zc), 10))
 else
 (Z6i x0)
theorem ZcA (x0 : List Zc) (ox0 : Own) : Sim (Z5p) (Z7b x0) (EE 55 [(.p (.lst ox0 (x0.map Zz)))] []) := by
 unfold Z7b
 refine zf (Zkq ..) ?_
 refine ze ?_
 refine ze ?_
 refine zi fun r1 hr1 => ?_
 obtain ⟨qr1, er1, exr1, rfl⟩ := Z6z (x0) .sh r1 hr1
 refine zc [] (bv r1) [] er1 ?_
 refine zo (bv (!r1)) ?_
 refine za ((!r1)) ?_ ?_
 ·refine ze ?_
  exact zr ((.p (.tup [(.lst .sh []), (.v (.int .i64 10))])), []) ⟨_, rfl⟩
 ·exact zk (Zbp (x0) ox0)
theorem ZcS (x0 : List Zc) {r} (h : Z7b x0 = some r) : Z6h x0 = some r :=
 pick_of (fun _ _ ha hb => RRun.uniq (Zdo) (ha .ex) (hb .ex)) (fun ox0 => ZcA x0 ox0 r h)
noncomputable def Z6k (x0 : List Zc) : Option (Bool) :=
 Z4o ((-2)) x0 ((x0.length : Int)) 0
theorem Zbr (x0 : List Zc) (ox0 : Own) : Sim (Z1R) (Z6k x0) (EE 69 [(.p (.lst ox0 (x0.map Zz)))] []) := by
 unfold Z6k
 refine zf (Zk8 ..) ?_
 refine ze ?_
 refine ze ?_
 refine ze ?_
 refine zo (iv (x0.length : Int)) ?_ (Eq.trans (by kernel_rfl) (xlen_of (P := PP) (t := 24) (d := 39) (by kernel_rfl) Zz (shrO ox0) x0))
 exact zk (Z7o ((-2)) (x0) ((x0.length : Int)) (0) (shrO ox0))
theorem Zc8 (x0 : List Zc) {r} (h : Z6k x0 = some r) : Z4w x0 = some r :=
 pick_of (fun _ _ ha hb => RRun.uniq (Z95) (ha .ex) (hb .ex)) (fun ox0 => Zbr x0 ox0 r h)
noncomputable def Z5r  : Option (Bool) :=
 some (false)
theorem Z74  : Sim (Z1R) (Z5r) (ZdR 0  []) := by
 unfold Z5r
 refine zf (Zhq ..) ?_
 refine ze ?_
 exact zr ((bv false), []) ⟨_, rfl⟩
noncomputable def Z5t (x3 : Int) (x6 : List Zc) (x7 : Int) (x8 : Int) : Option (Bool) :=
 Z4o x3 x6 x7 ((IntKind.i64.wrap (x8 + 1)))
theorem Zaj (x3 : Int) (x6 : List Zc) (x7 : Int) (x8 : Int) (ox6 : Own) : Sim (Z1R) (Z5t x3 x6 x7 x8) (Zgh 0 (iv x3) (.p (.lst ox6 (x6.map Zz))) (iv x7) (iv x8) []) := by
 unfold Z5t
 refine zf (Zhx ..) ?_
 refine ze ?_
 refine zo (iv (IntKind.i64.wrap (x8 + 1))) ?_
 exact zk (Z7o (x3) (x6) (x7) ((IntKind.i64.wrap (x8 + 1))) ox6)
noncomputable def Z5v (x6 : List Zc) (x7 : Int) (x8 : Int) (b0 : Zc) : Option (Bool) :=
 Z5t b0.Hi x6 x7 x8
theorem Zad (x6 : List Zc) (x7 : Int) (x8 : Int) (b0 : Zc) (ox6 : Own) : Sim (Z1R) (Z5v x6 x7 x8 b0) (ZfK 0 (.ptr 0 0) (.p (.lst ox6 (x6.map Zz))) (iv x7) (iv x8) [(Z1E b0)]) := by
 unfold Z5v
 refine zf (Zhn ..) ?_
 refine ze ?_
 refine zo (.ptr 0 1) ?_
 refine zo (iv b0.Hi) ?_
 exact zk (Zaj (b0.Hi) (x6) (x7) (x8) ox6)
noncomputable def Z5x (x3 : Int) (x6 : List Zc) (x7 : Int) (x8 : Int) : Option (Bool) :=
 (lget x6 x8).bind fun a1 =>
 (Z4Y a1).bind fun r2 =>
 if ((!r2)) = true then
 (Z5r)
 else
 (if ((decide (a1.Lo < (IntKind.i64.wrap (x3 + 2))))) = true then
 (Z5r)
 else
 (Z5v x6 x7 x8 a1))
theorem Zaq (x3 : Int) (x6 : List Zc) (x7 : Int) (x8 : Int) (ox6 : Own) : Sim (Z1R) (Z5x x3 x6 x7 x8) (ZfG 0 (iv x3) (.p (.lst ox6 (x6.map Zz))) (iv x7) (iv x8) []) := by
 unfold Z5x
 refine zf (ZhV ..) ?_
 refine ze ?_
 refine zi fun a1 ha1 => ?_
 refine zo (.cptr (ZH a1)) ?_ (Eq.trans (by kernel_rfl) (xidx_of (o := ox6) (k := .i64) (n := 2) (e := Zz) (cs := Z57) (fun _ => rfl) (fun _ => rfl) (by decide) ha1))
 refine zo (.p (.agg (ZH a1))) ?_
 refine zz (.ptr 0 0) [(Z1E (Zc.mk 0 0))] ?_
 refine zt [(Z1E a1)] ?_
 refine ze ?_
 refine zo (.p (.agg (ZH a1))) ?_
 refine zi fun r2 hr2 => ?_
 obtain ⟨qr2, er2, exr2, rfl⟩ := Z8j (a1) r2 hr2
 refine zc [] (bv r2) [(Z1E a1)] er2 ?_
 refine zo (bv (!r2)) ?_
 refine za ((!r2)) ?_ ?_
 ·exact zk (Z74 )
 ·refine zo (.ptr 0 0) ?_
  refine zo (iv a1.Lo) ?_
  refine zo (iv (IntKind.i64.wrap (x3 + 2))) ?_
  refine zo (bv (decide (a1.Lo < (IntKind.i64.wrap (x3 + 2))))) ?_
  refine za ((decide (a1.Lo < (IntKind.i64.wrap (x3 + 2))))) ?_ ?_
  ·exact zk (Z74 )
  ·exact zk (Zad (x6) (x7) (x8) (a1) ox6)
noncomputable def Z6I  : Option (Bool) :=
 some (true)
theorem Zan  : Sim (Z1R) (Z6I) (Zff 0  []) := by
 unfold Z6I
 refine zf (ZhO ..) ?_
 refine ze ?_
 exact zr ((bv true), []) ⟨_, rfl⟩
noncomputable def Z4u (x3 : Int) (x6 : List Zc) (x7 : Int) (x8 : Int) : Option (Bool) :=
 if ((decide (x8 < x7))) = true then
 (Z5x x3 x6 x7 x8)
 else
 (Z6I)
theorem Zat (x3 : Int) (x6 : List Zc) (x7 : Int) (x8 : Int) (ox6 : Own) : Sim (Z1R) (Z4u x3 x6 x7 x8) (ZbC 0 (iv x3) (.p (.lst ox6 (x6.map Zz))) (iv x7) (iv x8) []) := by
 unfold Z4u
 refine zf (ZhD ..) ?_
 refine ze ?_
 refine zo (bv (decide (x8 < x7))) ?_
 refine za ((decide (x8 < x7))) ?_ ?_
 ·exact zk (Zaq (x3) (x6) (x7) (x8) ox6)
 ·exact zk (Zan )
theorem Z7A (x3 : Int) (x6 : List Zc) (x7 : Int) (x8 : Int) {r} (h : Z4u x3 x6 x7 x8 = some r) : Z4o x3 x6 x7 x8 = some r :=
 pick_of (fun _ _ ha hb => RRun.uniq (Z95) (ha .ex) (hb .ex)) (fun ox6 => Zat x3 x6 x7 x8 ox6 r h)
noncomputable def Z79 (x0 : List Zc) : Option ((List Zc)) :=
 Z5n (([] : List Zc)) 0 x0 ((x0.length : Int)) 0
theorem ZcD (x0 : List Zc) (ox0 : Own) : Sim (Z2k) (Z79 x0) (EE 70 [(.p (.lst ox0 (x0.map Zz)))] []) := by
 unfold Z79
 refine zf (ZjL ..) ?_
 refine ze ?_
 refine ze ?_
 refine ze ?_
 refine ze ?_
 refine zo (iv (x0.length : Int)) ?_ (Eq.trans (by kernel_rfl) (xlen_of (P := PP) (t := 24) (d := 39) (by kernel_rfl) Zz (shrO ox0) x0))
 exact zk (Z8T (([] : List Zc)) (0) (x0) ((x0.length : Int)) (0) .nl (shrO ox0) rfl)
theorem ZcU (x0 : List Zc) {r} (h : Z79 x0 = some r) : Z78 x0 = some r :=
 pick_of (fun _ _ ha hb => RRun.uniq (Zab) (ha .ex) (hb .ex)) (fun ox0 => ZcD x0 ox0 r h)
noncomputable def Z6d (x3 : List Zc) (x4 : Int) (x7 : List Zc) (x8 : Int) (x9 : Int) : Option ((List Zc)) :=
 Z5n x3 x4 x7 x8 ((IntKind.i64.wrap (x9 + 1)))
theorem Zbo (x3 : List Zc) (x4 : Int) (x7 : List Zc) (x8 : Int) (x9 : Int) (ox3 : Own) (ox7 : Own) (hox3 : okApp ox3 = true) : Sim (Z2k) (Z6d x3 x4 x7 x8 x9) (ZeZ 0 (.p (.lst ox3 (x3.map Zz))) (iv x4) (.p (.lst ox7 (x7.map Zz))) (iv x8) (iv x9) []) := by
 unfold Z6d
 refine zf (Zik ..) ?_
 refine ze ?_
 refine zo (iv (IntKind.i64.wrap (x9 + 1))) ?_
 exact zk (Z8T (x3) (x4) (x7) (x8) ((IntKind.i64.wrap (x9 + 1))) ox3 ox7 hox3)
noncomputable def Z4y (x3 : List Zc) (x7 : List Zc) (x8 : Int) (x9 : Int) (b0 : Zc) : Option ((List Zc)) :=
 Z6d x3 ((IntKind.i64.wrap (b0.Hi + 1))) x7 x8 x9
theorem Z8k (x3 : List Zc) (x7 : List Zc) (x8 : Int) (x9 : Int) (b0 : Zc) (ox3 : Own) (ox7 : Own) (hox3 : okApp ox3 = true) : Sim (Z2k) (Z4y x3 x7 x8 x9 b0) (Zeb 0 (.p (.lst ox3 (x3.map Zz))) (.ptr 0 0) (.p (.lst ox7 (x7.map Zz))) (iv x8) (iv x9) [(Z1E b0)]) := by
 unfold Z4y
 refine zf (ZiD ..) ?_
 refine ze ?_
 refine zo (.ptr 0 1) ?_
 refine zo (iv b0.Hi) ?_
 refine zo (iv (IntKind.i64.wrap (b0.Hi + 1))) ?_
 exact zk (Zbo (x3) ((IntKind.i64.wrap (b0.Hi + 1))) (x7) (x8) (x9) ox3 ox7 hox3)
noncomputable def Z6c (x3 : List Zc) (x4 : Int) (x7 : List Zc) (x8 : Int) (x9 : Int) : Option ((List Zc)) :=
 (lget x7 x9).bind fun a1 =>
 if ((decide (x4 < a1.Lo))) = true then
 ((lapp x3 ([(Zc.mk x4 (IntKind.i64.wrap (a1.Lo - 1)))] : List Zc)).bind fun a2 =>
 Z4y a2 x7 x8 x9 a1)
 else
 (Z4y x3 x7 x8 x9 a1)
theorem Zbv (x3 : List Zc) (x4 : Int) (x7 : List Zc) (x8 : Int) (x9 : Int) (ox3 : Own) (ox7 : Own) (hox3 : okApp ox3 = true) : Sim (Z2k) (Z6c x3 x4 x7 x8 x9) (Zfz 0 (.p (.lst ox3 (x3.map Zz))) (iv x4) (.p (.lst ox7 (x7.map Zz))) (iv x8) (iv x9) []) := by
 unfold Z6c
 refine zf (ZiN ..) ?_
 refine ze ?_
 refine zi fun a1 ha1 => ?_
 refine zo (.cptr (ZH a1)) ?_ (Eq.trans (by kernel_rfl) (xidx_of (o := ox7) (k := .i64) (n := 2) (e := Zz) (cs := Z57) (fun _ => rfl) (fun _ => rfl) (by decide) ha1))
 refine zo (.p (.agg (ZH a1))) ?_
 refine zz (.ptr 0 0) [(Z1E (Zc.mk 0 0))] ?_
 refine zt [(Z1E a1)] ?_
 refine ze ?_
 refine zo (.ptr 0 0) ?_
 refine zo (iv a1.Lo) ?_
 refine zo (bv (decide (x4 < a1.Lo))) ?_
 refine za ((decide (x4 < a1.Lo))) ?_ ?_
 ·refine ze ?_
  refine zo (.ptr 0 0) ?_
  refine zo (iv a1.Lo) ?_
  refine zo (iv (IntKind.i64.wrap (a1.Lo - 1))) ?_
  refine zo (.p (.agg (ZH (Zc.mk x4 (IntKind.i64.wrap (a1.Lo - 1)))))) ?_
  refine zo (.p (.lst .ex (([(Zc.mk x4 (IntKind.i64.wrap (a1.Lo - 1)))] : List Zc).map Zz))) ?_
  refine zi fun a2 ha2 => ?_
  refine zo (.p (.lst .un (a2.map Zz))) ?_ (Eq.trans (by kernel_rfl) <| xapp_of (n := 2) (o := ox3) (o' := .ex) (e := Zz) (ys := ([(Zc.mk x4 (IntKind.i64.wrap (a1.Lo - 1)))] : List Zc)) (fun _ => rfl) (by decide) hox3 ha2)
  exact zk (Z8k (a2) (x7) (x8) (x9) (a1) .un ox7 rfl)
 ·exact zk (Z8k (x3) (x7) (x8) (x9) (a1) ox3 ox7 hox3)
noncomputable def Z4c (x3 : List Zc) : Option ((List Zc)) :=
 some (x3)
theorem Z7Z (x3 : List Zc) (ox3 : Own) (hox3 : okApp ox3 = true) : Sim (Z2k) (Z4c x3) (Zdd 0 (.p (.lst ox3 (x3.map Zz))) []) := by
 unfold Z4c
 refine zf (ZgJ ..) ?_
 refine ze ?_
 exact zr ((.p (.lst .sh (x3.map Zz))), []) ⟨_, rfl⟩
noncomputable def Z5Z (x3 : List Zc) (x4 : Int) : Option ((List Zc)) :=
 if ((decide (x4 ≤ 1114367))) = true then
 ((lapp x3 ([(Zc.mk x4 1114367)] : List Zc)).bind fun a1 =>
 Z4c a1)
 else
 (Z4c x3)
theorem ZaT (x3 : List Zc) (x4 : Int) (ox3 : Own) (hox3 : okApp ox3 = true) : Sim (Z2k) (Z5Z x3 x4) (ZeA 0 (.p (.lst ox3 (x3.map Zz))) (iv x4) []) := by
 unfold Z5Z
 refine zf (ZgX ..) ?_
 refine ze ?_
 refine zo (bv (decide (x4 ≤ 1114367))) ?_
 refine za ((decide (x4 ≤ 1114367))) ?_ ?_
 ·refine ze ?_
  refine zo (.p (.agg (ZH (Zc.mk x4 1114367)))) ?_
  refine zo (.p (.lst .ex (([(Zc.mk x4 1114367)] : List Zc).map Zz))) ?_
  refine zi fun a1 ha1 => ?_
  refine zo (.p (.lst .un (a1.map Zz))) ?_ (Eq.trans (by kernel_rfl) <| xapp_of (n := 2) (o := ox3) (o' := .ex) (e := Zz) (ys := ([(Zc.mk x4 1114367)] : List Zc)) (fun _ => rfl) (by decide) hox3 ha1)
  exact zk (Z7Z (a1) .un rfl)
 ·exact zk (Z7Z (x3) ox3 hox3)
noncomputable def Z5o (x3 : List Zc) (x4 : Int) (x7 : List Zc) (x8 : Int) (x9 : Int) : Option ((List Zc)) :=
 if ((decide (x9 < x8))) = true then
 (Z6c x3 x4 x7 x8 x9)
 else
 (Z5Z x3 x4)
theorem Zbm (x3 : List Zc) (x4 : Int) (x7 : List Zc) (x8 : Int) (x9 : Int) (ox3 : Own) (ox7 : Own) (hox3 : okApp ox3 = true) : Sim (Z2k) (Z5o x3 x4 x7 x8 x9) (Zcc 0 (.p (.lst ox3 (x3.map Zz))) (iv x4) (.p (.lst ox7 (x7.map Zz))) (iv x8) (iv x9) []) := by
 unfold Z5o
 refine zf (Zio ..) ?_
 refine ze ?_
 refine zo (bv (decide (x9 < x8))) ?_
 refine za ((decide (x9 < x8))) ?_ ?_
 ·exact zk (Zbv (x3) (x4) (x7) (x8) (x9) ox3 ox7 hox3)
 ·exact zk (ZaT (x3) (x4) ox3 hox3)
theorem Z8O (x3 : List Zc) (x4 : Int) (x7 : List Zc) (x8 : Int) (x9 : Int) {r} (h : Z5o x3 x4 x7 x8 x9 = some r) : Z5n x3 x4 x7 x8 x9 = some r :=
 pick_of (fun _ _ ha hb => RRun.uniq (Zab) (ha .ex .ex rfl) (hb .ex .ex rfl)) (fun ox3 ox7 hox3 => Zbm x3 x4 x7 x8 x9 ox3 ox7 hox3 r h)
noncomputable def Z3t (x1 : Int) (x5 : Int) (zu : Int) (zj : List Zv) (z2 : Int) (z6 : Int) : Option (Z7 × Int × (List Zv) × Int × Int) :=
 (lapp zj ([(Zv.mk (IntKind.i64.wrap (x5 - 48)) x1)] : List Zv)).bind fun a1 =>
 some ((Z7.mk 6 0 0 0 (IntKind.i64.wrap (x5 - 48)) ([] : List Zc) ([] : List Z7)), zu, a1, z2, z6)
theorem Z9j (x1 : Int) (x5 : Int) (zn : List Int) (zu : Int) (zb : Int) (zh : Int) (zj : List Zv) (z2 : Int) (z6 : Int) (b1 : Z7) (zp : Own) (zd : Own) (zE : Own) (zB : Own) (zy : okApp zd = true) (zS : okApp zE = true) (zL : okApp zB = true) : Sim (Z2F zn zb zh zp) (Z3t x1 x5 zu zj z2 z6) (Zeu 1 (.ptr 0 0) (iv x1) (.ptr 1 0) (iv x5) [(Zk (Zm.mk zn zu zb zh zj (Zl.mk z2 z6)) zp zd), (Zq b1 zE zB)]) := by
 unfold Z3t
 refine zf (Zhh ..) ?_
 refine ze ?_
 refine zo (.ptr 0 0) ?_
 refine zo (.ptr 0 4) ?_
 refine zw (.p (.lst zd (zj.map Z1G))) [(Zk (Zm.mk zn zu zb zh zj (Zl.mk z2 z6)) zp (shrO zd)), (Zq b1 zE zB)] ?_
 refine zo (iv (IntKind.i64.wrap (x5 - 48))) ?_
 refine zo (.p (.agg (Z8G (Zv.mk (IntKind.i64.wrap (x5 - 48)) x1)))) ?_
 refine zo (.p (.lst .ex (([(Zv.mk (IntKind.i64.wrap (x5 - 48)) x1)] : List Zv).map Z1G))) ?_
 refine zi fun a1 ha1 => ?_
 refine zo (.p (.lst .un (a1.map Z1G))) ?_ (Eq.trans (by kernel_rfl) <| xapp_of (n := 2) (o := zd) (o' := .ex) (e := Z1G) (ys := ([(Zv.mk (IntKind.i64.wrap (x5 - 48)) x1)] : List Zv)) (fun _ => rfl) (by decide) zy ha1)
 refine zo (.ptr 0 0) ?_
 refine zo (.ptr 0 4) ?_
 refine zt [(Zk (Zm.mk zn zu zb zh a1 (Zl.mk z2 z6)) zp .un), (Zq b1 zE zB)] ?_
 refine ze ?_
 refine zo (iv (IntKind.i64.wrap (x5 - 48))) ?_
 refine zo (.p (.agg (ZC (Z7.mk 6 0 0 0 (IntKind.i64.wrap (x5 - 48)) ([] : List Zc) ([] : List Z7)) .nl .nl))) ?_
 refine zt [(Zk (Zm.mk zn zu zb zh a1 (Zl.mk z2 z6)) zp .un), (Zq (Z7.mk 6 0 0 0 (IntKind.i64.wrap (x5 - 48)) ([] : List Zc) ([] : List Z7)) .nl .nl)] ?_
 exact zr ((.p (.agg (ZC (Z7.mk 6 0 0 0 (IntKind.i64.wrap (x5 - 48)) ([] : List Zc) ([] : List Z7)) .sh .sh))), [(Zk (Zm.mk zn zu zb zh a1 (Zl.mk z2 z6)) zp .un), (Zq (Z7.mk 6 0 0 0 (IntKind.i64.wrap (x5 - 48)) ([] : List Zc) ([] : List Z7)) .nl .nl)]) ⟨.un, _, rfl, rfl⟩
noncomputable def Z29 (x1 : Int) (x5 : Int) (zn : List Int) (zu : Int) (zb : Int) (zh : Int) (zj : List Zv) (z2 : Int) (z6 : Int) : Option (Z7 × Int × (List Zv) × Int × Int) :=
 (Z4O x5 x1 zn zu zb zh zj z2 z6).bind fun r1 =>
 (Z1C r1.1).bind fun r2 =>
 (Z2I false (([r2] : List Zc))).bind fun r3 =>
 some (r3, r1.2.1, zj, r1.2.2.1, r1.2.2.2)
theorem Z6n (x1 : Int) (x5 : Int) (zn : List Int) (zu : Int) (zb : Int) (zh : Int) (zj : List Zv) (z2 : Int) (z6 : Int) (b1 : Z7) (zp : Own) (zd : Own) (zE : Own) (zB : Own) (zy : okApp zd = true) (zS : okApp zE = true) (zL : okApp zB = true) : Sim (Z2F zn zb zh zp) (Z29 x1 x5 zn zu zb zh zj z2 z6) (Zdg 1 (.ptr 0 0) (iv x1) (.ptr 1 0) (iv x5) [(Zk (Zm.mk zn zu zb zh zj (Zl.mk z2 z6)) zp zd), (Zq b1 zE zB)]) := by
 unfold Z29
 refine zf (Zh9 ..) ?_
 refine ze ?_
 refine zi fun r1 hr1 => ?_
 obtain ⟨qr1, er1, exr1, rfl⟩ := Z80 (x5) (x1) (zn) (zu) (zb) (zh) (zj) (z2) (z6) zp zd zy r1 hr1
 refine zc [0] (iv r1.1) [(Zk (Zm.mk zn r1.2.1 zb zh zj (Zl.mk r1.2.2.1 r1.2.2.2)) zp zd), (Zq b1 zE zB)] er1 ?_
 refine zi fun r2 hr2 => ?_
 obtain ⟨qr2, er2, exr2, rfl⟩ := Z1w (r1.1) r2 hr2
 refine zc [] (.p (.agg (ZH r2))) [(Zk (Zm.mk zn r1.2.1 zb zh zj (Zl.mk r1.2.2.1 r1.2.2.2)) zp zd), (Zq b1 zE zB)] er2 ?_
 refine zo (.p (.lst .ex (([r2] : List Zc).map Zz))) ?_
 refine zi fun r3 hr3 => ?_
 obtain ⟨qr3, er3, exr3, rfl⟩ := Z2S (false) (([r2] : List Zc)) .sh r3 hr3
 refine zc [] (.p (.agg (ZC r3 .sh .sh))) [(Zk (Zm.mk zn r1.2.1 zb zh zj (Zl.mk r1.2.2.1 r1.2.2.2)) zp zd), (Zq b1 zE zB)] er3 ?_
 refine zt [(Zk (Zm.mk zn r1.2.1 zb zh zj (Zl.mk r1.2.2.1 r1.2.2.2)) zp zd), (Zq r3 .sh .sh)] ?_
 exact zr ((.p (.agg (ZC r3 .sh .sh))), [(Zk (Zm.mk zn r1.2.1 zb zh zj (Zl.mk r1.2.2.1 r1.2.2.2)) zp zd), (Zq r3 .sh .sh)]) ⟨zd, _, zy, rfl⟩
noncomputable def Z2f (x1 : Int) (x5 : Int) (zn : List Int) (zu : Int) (zb : Int) (zh : Int) (zj : List Zv) (z2 : Int) (z6 : Int) : Option (Z7 × Int × (List Zv) × Int × Int) :=
 (Z27 zn zu).bind fun r1 =>
 (Z4W x5).bind fun r2 =>
 (nilO r2.1 r2.2).bind fun a3 =>
 if ((!a3)) = true then
 ((Z4W x5).bind fun r4 =>
 (Z2I ((decide (x5 < 97))) r4.2).bind fun r5 =>
 some (r5, r1.2, zj, z2, z6))
 else
 (if ((x5 == 98)) = true then
 (some ((Z7.mk 9 0 0 0 2 ([] : List Zc) ([] : List Z7)), r1.2, zj, z2, z6))
 else
 (if ((x5 == 66)) = true then
 (some ((Z7.mk 9 0 0 0 3 ([] : List Zc) ([] : List Z7)), r1.2, zj, z2, z6))
 else
 (if ((decide (49 ≤ x5))) = true then
 (if ((decide (x5 ≤ 57))) = true then
 (Z3t x1 x5 r1.2 zj z2 z6)
 else
 (Z29 x1 x5 zn r1.2 zb zh zj z2 z6))
 else
 (Z29 x1 x5 zn r1.2 zb zh zj z2 z6))))
theorem Z9E (x1 : Int) (x5 : Int) (zn : List Int) (zu : Int) (zb : Int) (zh : Int) (zj : List Zv) (z2 : Int) (z6 : Int) (b1 : Z7) (zp : Own) (zd : Own) (zE : Own) (zB : Own) (zy : okApp zd = true) (zS : okApp zE = true) (zL : okApp zB = true) : Sim (Z2F zn zb zh zp) (Z2f x1 x5 zn zu zb zh zj z2 z6) (Zgj 1 (.ptr 0 0) (iv x1) (.ptr 1 0) (iv x5) [(Zk (Zm.mk zn zu zb zh zj (Zl.mk z2 z6)) zp zd), (Zq b1 zE zB)]) := by
 unfold Z2f
 refine zf (ZhQ ..) ?_
 refine ze ?_
 refine zi fun r1 hr1 => ?_
 obtain ⟨qr1, er1, exr1, rfl⟩ := Z2t (zn) (zu) (zb) (zh) (zj) (z2) (z6) zp zd zy r1 hr1
 refine zc [0] (iv r1.1) [(Zk (Zm.mk zn r1.2 zb zh zj (Zl.mk z2 z6)) zp zd), (Zq b1 zE zB)] er1 ?_
 refine ze ?_
 refine zi fun r2 hr2 => ?_
 obtain ⟨qr2, er2, exr2, rfl⟩ := Z6U (x5) r2 hr2
 refine zc [] (.p (.lst r2.1 (r2.2.map Zz))) [(Zk (Zm.mk zn r1.2 zb zh zj (Zl.mk z2 z6)) zp zd), (Zq b1 zE zB)] er2 ?_
 refine zi fun a3 ha3 => ?_
 refine zo (bv (!a3)) ?_ (Eq.trans (by kernel_rfl) (xnil_neq (P := PP) (t := 23) (c := .slice none 0 0) (e := Zz) (by kernel_rfl) ha3))
 refine za ((!a3)) ?_ ?_
 ·refine ze ?_
  refine zo (bv (decide (x5 < 97))) ?_
  refine zi fun r4 hr4 => ?_
  obtain ⟨qr4, er4, exr4, rfl⟩ := Z6U (x5) r4 hr4
  refine zc [] (.p (.lst r4.1 (r4.2.map Zz))) [(Zk (Zm.mk zn r1.2 zb zh zj (Zl.mk z2 z6)) zp zd), (Zq b1 zE zB)] er4 ?_
  refine zi fun r5 hr5 => ?_
  obtain ⟨qr5, er5, exr5, rfl⟩ := Z2S ((decide (x5 < 97))) (r4.2) .sh r5 hr5
  refine zc [] (.p (.agg (ZC r5 .sh .sh))) [(Zk (Zm.mk zn r1.2 zb zh zj (Zl.mk z2 z6)) zp zd), (Zq b1 zE zB)] er5 ?_
  refine zt [(Zk (Zm.mk zn r1.2 zb zh zj (Zl.mk z2 z6)) zp zd), (Zq r5 .sh .sh)] ?_
  exact zr ((.p (.agg (ZC r5 .sh .sh))), [(Zk (Zm.mk zn r1.2 zb zh zj (Zl.mk z2 z6)) zp zd), (Zq r5 .sh .sh)]) ⟨zd, _, zy, rfl⟩
 ·refine ze ?_
  refine zo (bv (x5 == 98)) ?_
  refine za ((x5 == 98)) ?_ ?_
  ·refine ze ?_
   refine zo (.p (.agg (ZC (Z7.mk 9 0 0 0 2 ([] : List Zc) ([] : List Z7)) .nl .nl))) ?_
   refine zt [(Zk (Zm.mk zn r1.2 zb zh zj (Zl.mk z2 z6)) zp zd), (Zq (Z7.mk 9 0 0 0 2 ([] : List Zc) ([] : List Z7)) .nl .nl)] ?_
   exact zr ((.p (.agg (ZC (Z7.mk 9 0 0 0 2 ([] : List Zc) ([] : List Z7)) .sh .sh))), [(Zk (Zm.mk zn r1.2 zb zh zj (Zl.mk z2 z6)) zp zd), (Zq (Z7.mk 9 0 0 0 2 ([] : List Zc) ([] : List Z7)) .nl .nl)]) ⟨zd, _, zy, rfl⟩
  ·refine ze ?_
   refine zo (bv (x5 == 66)) ?_
   refine za ((x5 == 66)) ?_ ?_
   ·refine ze ?_
    refine zo (.p (.agg (ZC (Z7.mk 9 0 0 0 3 ([] : List Zc) ([] : List Z7)) .nl .nl))) ?_
    refine zt [(Zk (Zm.mk zn r1.2 zb zh zj (Zl.mk z2 z6)) zp zd), (Zq (Z7.mk 9 0 0 0 3 ([] : List Zc) ([] : List Z7)) .nl .nl)] ?_
    exact zr ((.p (.agg (ZC (Z7.mk 9 0 0 0 3 ([] : List Zc) ([] : List Z7)) .sh .sh))), [(Zk (Zm.mk zn r1.2 zb zh zj (Zl.mk z2 z6)) zp zd), (Zq (Z7.mk 9 0 0 0 3 ([] : List Zc) ([] : List Z7)) .nl .nl)]) ⟨zd, _, zy, rfl⟩
   ·refine ze ?_
    refine zo (bv (decide (49 ≤ x5))) ?_
    refine za ((decide (49 ≤ x5))) ?_ ?_
    ·refine zo (bv (decide (x5 ≤ 57))) ?_
     refine za ((decide (x5 ≤ 57))) ?_ ?_
     ·exact zk (Z9j (x1) (x5) (zn) (r1.2) (zb) (zh) (zj) (z2) (z6) (b1) zp zd zE zB zy zS zL)
     ·exact zk (Z6n (x1) (x5) (zn) (r1.2) (zb) (zh) (zj) (z2) (z6) (b1) zp zd zE zB zy zS zL)
    ·exact zk (Z6n (x1) (x5) (zn) (r1.2) (zb) (zh) (zj) (z2) (z6) (b1) zp zd zE zB zy zS zL)
noncomputable def Z3F (x1 : Int) (zn : List Int) (zu : Int) (zb : Int) (zh : Int) (zj : List Zv) (z2 : Int) (z6 : Int) : Option (Z7 × Int × (List Zv) × Int × Int) :=
 (Z1J ((Zm.mk zn zu zb zh zj (Zl.mk z2 z6)))).bind fun r1 =>
 if ((decide (r1 < 0))) = true then
 ((ZV 21 x1 zn z2 z6).bind fun r2 =>
 some ((Z7.mk 0 0 0 0 0 ([] : List Zc) ([] : List Z7)), r2.1, zj, r2.2.1, r2.2.2))
 else
 (Z2f x1 r1 zn zu zb zh zj z2 z6)
theorem Zao (x1 : Int) (zn : List Int) (zu : Int) (zb : Int) (zh : Int) (zj : List Zv) (z2 : Int) (z6 : Int) (zp : Own) (zd : Own) (zy : okApp zd = true) : Sim (Z2F zn zb zh zp) (Z3F x1 zn zu zb zh zj z2 z6) (EE 49 [(.ptr 0 0), (iv x1)] [(Zk (Zm.mk zn zu zb zh zj (Zl.mk z2 z6)) zp zd)]) := by
 unfold Z3F
 refine zf (ZkS ..) ?_
 refine ze ?_
 refine zz (.ptr 1 0) [(Zk (Zm.mk zn zu zb zh zj (Zl.mk z2 z6)) zp zd), (Zq (Z7.mk 0 0 0 0 0 ([] : List Zc) ([] : List Z7)) .nl .nl)] ?_
 refine ze ?_
 refine zi fun r1 hr1 => ?_
 obtain ⟨qr1, er1, exr1, rfl⟩ := Z1M ((Zm.mk zn zu zb zh zj (Zl.mk z2 z6))) zp zd zy r1 hr1
 refine zc [0] (iv r1) [(Zk (Zm.mk zn zu zb zh zj (Zl.mk z2 z6)) zp zd), (Zq (Z7.mk 0 0 0 0 0 ([] : List Zc) ([] : List Z7)) .nl .nl)] er1 ?_
 refine ze ?_
 refine zo (bv (decide (r1 < 0))) ?_
 refine za ((decide (r1 < 0))) ?_ ?_
 ·refine ze ?_
  refine zi fun r2 hr2 => ?_
  obtain ⟨qr2, er2, exr2, rfl⟩ := ZY (21) (x1) (zn) (zu) (zb) (zh) (zj) (z2) (z6) zp zd zy r2 hr2
  refine zc [0] (.p (.tup [])) [(Zk (Zm.mk zn r2.1 zb zh zj (Zl.mk r2.2.1 r2.2.2)) zp zd), (Zq (Z7.mk 0 0 0 0 0 ([] : List Zc) ([] : List Z7)) .nl .nl)] er2 ?_
  refine ze ?_
  refine zo (.p (.agg (ZC (Z7.mk 0 0 0 0 0 ([] : List Zc) ([] : List Z7)) .nl .nl))) ?_
  refine zt [(Zk (Zm.mk zn r2.1 zb zh zj (Zl.mk r2.2.1 r2.2.2)) zp zd), (Zq (Z7.mk 0 0 0 0 0 ([] : List Zc) ([] : List Z7)) .nl .nl)] ?_
  exact zr ((.p (.agg (ZC (Z7.mk 0 0 0 0 0 ([] : List Zc) ([] : List Z7)) .sh .sh))), [(Zk (Zm.mk zn r2.1 zb zh zj (Zl.mk r2.2.1 r2.2.2)) zp zd), (Zq (Z7.mk 0 0 0 0 0 ([] : List Zc) ([] : List Z7)) .nl .nl)]) ⟨zd, _, zy, rfl⟩
 ·exact zk (Z9E (x1) (r1) (zn) (zu) (zb) (zh) (zj) (z2) (z6) ((Z7.mk 0 0 0 0 0 ([] : List Zc) ([] : List Z7))) zp zd .nl .nl zy rfl rfl)
theorem ZaM (x1 : Int) (zn : List Int) (zu : Int) (zb : Int) (zh : Int) (zj : List Zv) (z2 : Int) (z6 : Int) {r} (h : Z3F x1 zn zu zb zh zj z2 z6 = some r) : Z33 x1 zn zu zb zh zj z2 z6 = some r :=
 pick_of (fun _ _ ha hb => RRun.uniq (Zb7 _ _ _ _) (ha .ex .ex rfl) (hb .ex .ex rfl)) (fun zp zd zy => Zao x1 zn zu zb zh zj z2 z6 zp zd zy r h)
end Go.Proofs.YtadodmjdkphddaaDoor.N2
end
section
set_option linter.unusedSimpArgs false
set_option linter.unusedVariables false
namespace Go.Proofs.YtadodmjdkphddaaDoor.N2
open Go Go.Abs
set_option linter.unusedVariables false
set_option maxRecDepth 100000
noncomputable def Z3o (zn : List Int) (z2 : Int) (z6 : Int) : Option (Int × Int × Int) :=
 some ((zn.length : Int), z2, z6)
theorem Z6Y (zn : List Int) (zu : Int) (zb : Int) (zh : Int) (zj : List Zv) (z2 : Int) (z6 : Int) (zp : Own) (zd : Own) (zy : okApp zd = true) : Sim (Z4d zn zb zh zj zp zd) (Z3o zn z2 z6) (Zee 1 (.ptr 0 0) [(Zk (Zm.mk zn zu zb zh zj (Zl.mk z2 z6)) zp zd)]) := by
 unfold Z3o
 refine zf (Zi8 ..) ?_
 refine ze ?_
 refine zo (.ptr 0 0) ?_
 refine zo (.ptr 0 0) ?_
 refine zo (.p (.lst (shrO zp) (zn.map (eI .u8)))) ?_
 refine zo (iv (zn.length : Int)) ?_ (Eq.trans (by kernel_rfl) (xlen_of (P := PP) (t := 40) (d := 5) (by kernel_rfl) (eI .u8) (shrO zp) zn))
 refine zo (.ptr 0 0) ?_
 refine zo (.ptr 0 1) ?_
 refine zt [(Zk (Zm.mk zn (zn.length : Int) zb zh zj (Zl.mk z2 z6)) zp zd)] ?_
 exact zr ((.p (.tup [])), [(Zk (Zm.mk zn (zn.length : Int) zb zh zj (Zl.mk z2 z6)) zp zd)]) ⟨_, rfl⟩
noncomputable def Z50 (x1 : Int) (x2 : Int) (zn : List Int) (z2 : Int) (z6 : Int) : Option (Int × Int × Int) :=
 if ((z2 == 0)) = true then
 (Z3o zn x1 x2)
 else
 (Z3o zn z2 z6)
theorem ZaX (x1 : Int) (x2 : Int) (zn : List Int) (zu : Int) (zb : Int) (zh : Int) (zj : List Zv) (z2 : Int) (z6 : Int) (zp : Own) (zd : Own) (zy : okApp zd = true) : Sim (Z4d zn zb zh zj zp zd) (Z50 x1 x2 zn z2 z6) (EE 29 [(.ptr 0 0), (iv x1), (iv x2)] [(Zk (Zm.mk zn zu zb zh zj (Zl.mk z2 z6)) zp zd)]) := by
 unfold Z50
 refine zf (Zk3 ..) ?_
 refine ze ?_
 refine zo (.ptr 0 0) ?_
 refine zo (.ptr 0 5) ?_
 refine zo (.ptr 0 5) ?_
 refine zo (iv z2) ?_
 refine zo (bv (z2 == 0)) ?_
 refine za ((z2 == 0)) ?_ ?_
 ·refine ze ?_
  refine zo (.p (.agg (Z2m (Zl.mk x1 x2)))) ?_
  refine zo (.ptr 0 0) ?_
  refine zo (.ptr 0 5) ?_
  refine zt [(Zk (Zm.mk zn zu zb zh zj (Zl.mk x1 x2)) zp zd)] ?_
  exact zk (Z6Y (zn) (zu) (zb) (zh) (zj) (x1) (x2) zp zd zy)
 ·exact zk (Z6Y (zn) (zu) (zb) (zh) (zj) (z2) (z6) zp zd zy)
theorem Z8s (x1 : Int) (x2 : Int) (zn : List Int) (z2 : Int) (z6 : Int) {r} (h : Z50 x1 x2 zn z2 z6 = some r) : ZV x1 x2 zn z2 z6 = some r :=
 pick_of (fun _ _ ha hb => RRun.uniq (Zc1 _ _ _ _ _ _) (ha default default default default .ex .ex rfl) (hb default default default default .ex .ex rfl)) (fun zu zb zh zj zp zd zy => ZaX x1 x2 zn zu zb zh zj z2 z6 zp zd zy r h)
noncomputable def Z1S  : Option ((Own × (List Zc))) :=
 some ((.nl, ([] : List Zc)))
theorem Z2a  : Sim (Z4T) (Z1S) (Z73 0  []) := by
 unfold Z1S
 refine zf (ZgQ ..) ?_
 refine ze ?_
 exact zr ((.p (.lst .nl [])), []) ⟨_, rfl⟩
noncomputable def Z2H (x0 : Int) : Option ((Own × (List Zc))) :=
 if ((x0 == 100)) = true then
 (if ((x0 == 100)) = true then
 (some ((.ex, ([(Zc.mk 48 57)] : List Zc))))
 else
 (if ((x0 == 119)) = true then
 (if ((x0 == 119)) = true then
 ((Z1C 95).bind fun r1 =>
 some ((.ex, ([(Zc.mk 48 57), (Zc.mk 65 90), r1, (Zc.mk 97 122)] : List Zc))))
 else
 (if ((x0 == 115)) = true then
 (if ((x0 == 115)) = true then
 ((Z1C 32).bind fun r2 =>
 some ((.ex, ([(Zc.mk 9 13), r2] : List Zc))))
 else
 (Z1S))
 else
 (if ((x0 == 83)) = true then
 ((Z1C 32).bind fun r3 =>
 some ((.ex, ([(Zc.mk 9 13), r3] : List Zc))))
 else
 (Z1S))))
 else
 (if ((x0 == 87)) = true then
 ((Z1C 95).bind fun r4 =>
 some ((.ex, ([(Zc.mk 48 57), (Zc.mk 65 90), r4, (Zc.mk 97 122)] : List Zc))))
 else
 (if ((x0 == 115)) = true then
 (if ((x0 == 115)) = true then
 ((Z1C 32).bind fun r5 =>
 some ((.ex, ([(Zc.mk 9 13), r5] : List Zc))))
 else
 (Z1S))
 else
 (if ((x0 == 83)) = true then
 ((Z1C 32).bind fun r6 =>
 some ((.ex, ([(Zc.mk 9 13), r6] : List Zc))))
 else
 (Z1S))))))
 else
 (if ((x0 == 68)) = true then
 (some ((.ex, ([(Zc.mk 48 57)] : List Zc))))
 else
 (if ((x0 == 119)) = true then
 (if ((x0 == 119)) = true then
 ((Z1C 95).bind fun r7 =>
 some ((.ex, ([(Zc.mk 48 57), (Zc.mk 65 90), r7, (Zc.mk 97 122)] : List Zc))))
 else
 (if ((x0 == 115)) = true then
 (if ((x0 == 115)) = true then
 ((Z1C 32).bind fun r8 =>
 some ((.ex, ([(Zc.mk 9 13), r8] : List Zc))))
 else
 (Z1S))
 else
 (if ((x0 == 83)) = true then
 ((Z1C 32).bind fun r9 =>
 some ((.ex, ([(Zc.mk 9 13), r9] : List Zc))))
 else
 (Z1S))))
 else
 (if ((x0 == 87)) = true then
 ((Z1C 95).bind fun r10 =>
 some ((.ex, ([(Zc.mk 48 57), (Zc.mk 65 90), r10, (Zc.mk 97 122)] : List Zc))))
 else
 (if ((x0 == 115)) = true then
 (if ((x0 == 115)) = true then
 ((Z1C 32).bind fun r11 =>
 some ((.ex, ([(Zc.mk 9 13), r11] : List Zc))))
 else
 (Z1S))
 else
 (if ((x0 == 83)) = true then
 ((Z1C 32).bind fun r12 =>
 some ((.ex, ([(Zc.mk 9 13), r12] : List Zc))))
 else
 (Z1S))))))
theorem Zc2 (x0 : Int) : Sim (Z4T) (Z2H x0) (EE 56 [(iv x0)] []) := by
 unfold Z2H
 refine zf (Zke ..) ?_
 refine ze ?_
 refine ze ?_
 refine ze ?_
 refine zo (bv (x0 == 100)) ?_
 refine za ((x0 == 100)) ?_ ?_
 ·refine za ((x0 == 100)) ?_ ?_
  ·refine ze ?_
   refine zo (.p (.agg (ZH (Zc.mk 48 57)))) ?_
   refine zo (.p (.lst .ex (([(Zc.mk 48 57)] : List Zc).map Zz))) ?_
   exact zr ((.p (.lst .ex (([(Zc.mk 48 57)] : List Zc).map Zz))), []) ⟨_, rfl⟩
  ·refine ze ?_
   refine zo (bv (x0 == 119)) ?_
   refine za ((x0 == 119)) ?_ ?_
   ·refine za ((x0 == 119)) ?_ ?_
    ·refine ze ?_
     refine zo (.p (.agg (ZH (Zc.mk 48 57)))) ?_
     refine zo (.p (.agg (ZH (Zc.mk 65 90)))) ?_
     refine zi fun r1 hr1 => ?_
     obtain ⟨qr1, er1, exr1, rfl⟩ := Z1w (95) r1 hr1
     refine zc [] (.p (.agg (ZH r1))) [] er1 ?_
     refine zo (.p (.agg (ZH (Zc.mk 97 122)))) ?_
     refine zo (.p (.lst .ex (([(Zc.mk 48 57), (Zc.mk 65 90), r1, (Zc.mk 97 122)] : List Zc).map Zz))) ?_
     exact zr ((.p (.lst .ex (([(Zc.mk 48 57), (Zc.mk 65 90), r1, (Zc.mk 97 122)] : List Zc).map Zz))), []) ⟨_, rfl⟩
    ·refine ze ?_
     refine zo (bv (x0 == 115)) ?_
     refine za ((x0 == 115)) ?_ ?_
     ·refine za ((x0 == 115)) ?_ ?_
      ·refine ze ?_
       refine zo (.p (.agg (ZH (Zc.mk 9 13)))) ?_
       refine zi fun r2 hr2 => ?_
       obtain ⟨qr2, er2, exr2, rfl⟩ := Z1w (32) r2 hr2
       refine zc [] (.p (.agg (ZH r2))) [] er2 ?_
       refine zo (.p (.lst .ex (([(Zc.mk 9 13), r2] : List Zc).map Zz))) ?_
       exact zr ((.p (.lst .ex (([(Zc.mk 9 13), r2] : List Zc).map Zz))), []) ⟨_, rfl⟩
      ·exact zk (Z2a )
     ·refine ze ?_
      refine zo (bv (x0 == 83)) ?_
      refine za ((x0 == 83)) ?_ ?_
      ·refine ze ?_
       refine zo (.p (.agg (ZH (Zc.mk 9 13)))) ?_
       refine zi fun r3 hr3 => ?_
       obtain ⟨qr3, er3, exr3, rfl⟩ := Z1w (32) r3 hr3
       refine zc [] (.p (.agg (ZH r3))) [] er3 ?_
       refine zo (.p (.lst .ex (([(Zc.mk 9 13), r3] : List Zc).map Zz))) ?_
       exact zr ((.p (.lst .ex (([(Zc.mk 9 13), r3] : List Zc).map Zz))), []) ⟨_, rfl⟩
      ·exact zk (Z2a )
   ·refine ze ?_
    refine zo (bv (x0 == 87)) ?_
    refine za ((x0 == 87)) ?_ ?_
    ·refine ze ?_
     refine zo (.p (.agg (ZH (Zc.mk 48 57)))) ?_
     refine zo (.p (.agg (ZH (Zc.mk 65 90)))) ?_
     refine zi fun r4 hr4 => ?_
     obtain ⟨qr4, er4, exr4, rfl⟩ := Z1w (95) r4 hr4
     refine zc [] (.p (.agg (ZH r4))) [] er4 ?_
     refine zo (.p (.agg (ZH (Zc.mk 97 122)))) ?_
     refine zo (.p (.lst .ex (([(Zc.mk 48 57), (Zc.mk 65 90), r4, (Zc.mk 97 122)] : List Zc).map Zz))) ?_
     exact zr ((.p (.lst .ex (([(Zc.mk 48 57), (Zc.mk 65 90), r4, (Zc.mk 97 122)] : List Zc).map Zz))), []) ⟨_, rfl⟩
    ·refine ze ?_
     refine zo (bv (x0 == 115)) ?_
     refine za ((x0 == 115)) ?_ ?_
     ·refine za ((x0 == 115)) ?_ ?_
      ·refine ze ?_
       refine zo (.p (.agg (ZH (Zc.mk 9 13)))) ?_
       refine zi fun r5 hr5 => ?_
       obtain ⟨qr5, er5, exr5, rfl⟩ := Z1w (32) r5 hr5
       refine zc [] (.p (.agg (ZH r5))) [] er5 ?_
       refine zo (.p (.lst .ex (([(Zc.mk 9 13), r5] : List Zc).map Zz))) ?_
       exact zr ((.p (.lst .ex (([(Zc.mk 9 13), r5] : List Zc).map Zz))), []) ⟨_, rfl⟩
      ·exact zk (Z2a )
     ·refine ze ?_
      refine zo (bv (x0 == 83)) ?_
      refine za ((x0 == 83)) ?_ ?_
      ·refine ze ?_
       refine zo (.p (.agg (ZH (Zc.mk 9 13)))) ?_
       refine zi fun r6 hr6 => ?_
       obtain ⟨qr6, er6, exr6, rfl⟩ := Z1w (32) r6 hr6
       refine zc [] (.p (.agg (ZH r6))) [] er6 ?_
       refine zo (.p (.lst .ex (([(Zc.mk 9 13), r6] : List Zc).map Zz))) ?_
       exact zr ((.p (.lst .ex (([(Zc.mk 9 13), r6] : List Zc).map Zz))), []) ⟨_, rfl⟩
      ·exact zk (Z2a )
 ·refine ze ?_
  refine zo (bv (x0 == 68)) ?_
  refine za ((x0 == 68)) ?_ ?_
  ·refine ze ?_
   refine zo (.p (.agg (ZH (Zc.mk 48 57)))) ?_
   refine zo (.p (.lst .ex (([(Zc.mk 48 57)] : List Zc).map Zz))) ?_
   exact zr ((.p (.lst .ex (([(Zc.mk 48 57)] : List Zc).map Zz))), []) ⟨_, rfl⟩
  ·refine ze ?_
   refine zo (bv (x0 == 119)) ?_
   refine za ((x0 == 119)) ?_ ?_
   ·refine za ((x0 == 119)) ?_ ?_
    ·refine ze ?_
     refine zo (.p (.agg (ZH (Zc.mk 48 57)))) ?_
     refine zo (.p (.agg (ZH (Zc.mk 65 90)))) ?_
     refine zi fun r7 hr7 => ?_
     obtain ⟨qr7, er7, exr7, rfl⟩ := Z1w (95) r7 hr7
     refine zc [] (.p (.agg (ZH r7))) [] er7 ?_
     refine zo (.p (.agg (ZH (Zc.mk 97 122)))) ?_
     refine zo (.p (.lst .ex (([(Zc.mk 48 57), (Zc.mk 65 90), r7, (Zc.mk 97 122)] : List Zc).map Zz))) ?_
     exact zr ((.p (.lst .ex (([(Zc.mk 48 57), (Zc.mk 65 90), r7, (Zc.mk 97 122)] : List Zc).map Zz))), []) ⟨_, rfl⟩
    ·refine ze ?_
     refine zo (bv (x0 == 115)) ?_
     refine za ((x0 == 115)) ?_ ?_
     ·refine za ((x0 == 115)) ?_ ?_
      ·refine ze ?_
       refine zo (.p (.agg (ZH (Zc.mk 9 13)))) ?_
       refine zi fun r8 hr8 => ?_
       obtain ⟨qr8, er8, exr8, rfl⟩ := Z1w (32) r8 hr8
       refine zc [] (.p (.agg (ZH r8))) [] er8 ?_
       refine zo (.p (.lst .ex (([(Zc.mk 9 13), r8] : List Zc).map Zz))) ?_
       exact zr ((.p (.lst .ex (([(Zc.mk 9 13), r8] : List Zc).map Zz))), []) ⟨_, rfl⟩
      ·exact zk (Z2a )
     ·refine ze ?_
      refine zo (bv (x0 == 83)) ?_
      refine za ((x0 == 83)) ?_ ?_
      ·refine ze ?_
       refine zo (.p (.agg (ZH (Zc.mk 9 13)))) ?_
       refine zi fun r9 hr9 => ?_
       obtain ⟨qr9, er9, exr9, rfl⟩ := Z1w (32) r9 hr9
       refine zc [] (.p (.agg (ZH r9))) [] er9 ?_
       refine zo (.p (.lst .ex (([(Zc.mk 9 13), r9] : List Zc).map Zz))) ?_
       exact zr ((.p (.lst .ex (([(Zc.mk 9 13), r9] : List Zc).map Zz))), []) ⟨_, rfl⟩
      ·exact zk (Z2a )
   ·refine ze ?_
    refine zo (bv (x0 == 87)) ?_
    refine za ((x0 == 87)) ?_ ?_
    ·refine ze ?_
     refine zo (.p (.agg (ZH (Zc.mk 48 57)))) ?_
     refine zo (.p (.agg (ZH (Zc.mk 65 90)))) ?_
     refine zi fun r10 hr10 => ?_
     obtain ⟨qr10, er10, exr10, rfl⟩ := Z1w (95) r10 hr10
     refine zc [] (.p (.agg (ZH r10))) [] er10 ?_
     refine zo (.p (.agg (ZH (Zc.mk 97 122)))) ?_
     refine zo (.p (.lst .ex (([(Zc.mk 48 57), (Zc.mk 65 90), r10, (Zc.mk 97 122)] : List Zc).map Zz))) ?_
     exact zr ((.p (.lst .ex (([(Zc.mk 48 57), (Zc.mk 65 90), r10, (Zc.mk 97 122)] : List Zc).map Zz))), []) ⟨_, rfl⟩
    ·refine ze ?_
     refine zo (bv (x0 == 115)) ?_
     refine za ((x0 == 115)) ?_ ?_
     ·refine za ((x0 == 115)) ?_ ?_
      ·refine ze ?_
       refine zo (.p (.agg (ZH (Zc.mk 9 13)))) ?_
       refine zi fun r11 hr11 => ?_
       obtain ⟨qr11, er11, exr11, rfl⟩ := Z1w (32) r11 hr11
       refine zc [] (.p (.agg (ZH r11))) [] er11 ?_
       refine zo (.p (.lst .ex (([(Zc.mk 9 13), r11] : List Zc).map Zz))) ?_
       exact zr ((.p (.lst .ex (([(Zc.mk 9 13), r11] : List Zc).map Zz))), []) ⟨_, rfl⟩
      ·exact zk (Z2a )
     ·refine ze ?_
      refine zo (bv (x0 == 83)) ?_
      refine za ((x0 == 83)) ?_ ?_
      ·refine ze ?_
       refine zo (.p (.agg (ZH (Zc.mk 9 13)))) ?_
       refine zi fun r12 hr12 => ?_
       obtain ⟨qr12, er12, exr12, rfl⟩ := Z1w (32) r12 hr12
       refine zc [] (.p (.agg (ZH r12))) [] er12 ?_
       refine zo (.p (.lst .ex (([(Zc.mk 9 13), r12] : List Zc).map Zz))) ?_
       exact zr ((.p (.lst .ex (([(Zc.mk 9 13), r12] : List Zc).map Zz))), []) ⟨_, rfl⟩
      ·exact zk (Z2a )
theorem Zcs (x0 : Int) {r} (h : Z2H x0 = some r) : Z4W x0 = some r :=
 pick_of (fun _ _ ha hb => RRun.uniq (ZcG) (ha ) (hb )) (Zc2 x0 r h)
noncomputable def Z1X (x2 : Int) (zn : List Int) (z2 : Int) (z6 : Int) : Option (Int × Int × Int × Int) :=
 (ZV 21 x2 zn z2 z6).bind fun r1 =>
 some (0, r1.1, r1.2.1, r1.2.2)
theorem Z34 (x2 : Int) (zn : List Int) (zu : Int) (zb : Int) (zh : Int) (zj : List Zv) (z2 : Int) (z6 : Int) (zp : Own) (zd : Own) (zy : okApp zd = true) : Sim (Z3e zn zb zh zj zp zd) (Z1X x2 zn z2 z6) (Z9B 1 (.ptr 0 0) (iv x2) [(Zk (Zm.mk zn zu zb zh zj (Zl.mk z2 z6)) zp zd)]) := by
 unfold Z1X
 refine zf (Zhk ..) ?_
 refine ze ?_
 refine zi fun r1 hr1 => ?_
 obtain ⟨qr1, er1, exr1, rfl⟩ := ZY (21) (x2) (zn) (zu) (zb) (zh) (zj) (z2) (z6) zp zd zy r1 hr1
 refine zc [0] (.p (.tup [])) [(Zk (Zm.mk zn r1.1 zb zh zj (Zl.mk r1.2.1 r1.2.2)) zp zd)] er1 ?_
 refine ze ?_
 exact zr ((iv 0), [(Zk (Zm.mk zn r1.1 zb zh zj (Zl.mk r1.2.1 r1.2.2)) zp zd)]) ⟨_, rfl⟩
noncomputable def Z5W (x1 : Int) (zu : Int) (z2 : Int) (z6 : Int) : Option (Int × Int × Int × Int) :=
 some (x1, zu, z2, z6)
theorem Z9v (x1 : Int) (zn : List Int) (zu : Int) (zb : Int) (zh : Int) (zj : List Zv) (z2 : Int) (z6 : Int) (zp : Own) (zd : Own) (zy : okApp zd = true) : Sim (Z3e zn zb zh zj zp zd) (Z5W x1 zu z2 z6) (Zej 1 (iv x1) [(Zk (Zm.mk zn zu zb zh zj (Zl.mk z2 z6)) zp zd)]) := by
 unfold Z5W
 refine zf (ZgE ..) ?_
 refine ze ?_
 exact zr ((iv x1), [(Zk (Zm.mk zn zu zb zh zj (Zl.mk z2 z6)) zp zd)]) ⟨_, rfl⟩
noncomputable def Z5I (x1 : Int) (x2 : Int) (zn : List Int) (zu : Int) (zb : Int) (zh : Int) (zj : List Zv) (z2 : Int) (z6 : Int) : Option (Int × Int × Int × Int) :=
 if ((x1 == 110)) = true then
 (some (10, zu, z2, z6))
 else
 (if ((x1 == 116)) = true then
 (some (9, zu, z2, z6))
 else
 (if ((x1 == 114)) = true then
 (some (13, zu, z2, z6))
 else
 (if ((x1 == 120)) = true then
 ((Z1J ((Zm.mk zn zu zb zh zj (Zl.mk z2 z6)))).bind fun r1 =>
 (Z8q r1).bind fun r2 =>
 if ((decide (0 ≤ r2))) = true then
 ((Z27 zn zu).bind fun r3 =>
 (Z1J ((Zm.mk zn r3.2 zb zh zj (Zl.mk z2 z6)))).bind fun r4 =>
 (Z8q r4).bind fun r5 =>
 if ((decide (0 ≤ r5))) = true then
 ((Z27 zn r3.2).bind fun r6 =>
 some ((IntKind.i64.wrap ((IntKind.i64.wrap (16 * r2)) + r5)), r6.2, z2, z6))
 else
 (Z1X x2 zn z2 z6))
 else
 (Z1X x2 zn z2 z6))
 else
 (if ((decide (32 < x1))) = true then
 (if ((decide (x1 < 127))) = true then
 ((Z6j (([(Zc.mk 48 57), (Zc.mk 65 90), (Zc.mk 97 122)] : List Zc)) x1).bind fun r7 =>
 if ((!r7)) = true then
 (Z5W x1 zu z2 z6)
 else
 (Z1X x2 zn z2 z6))
 else
 (Z1X x2 zn z2 z6))
 else
 (Z1X x2 zn z2 z6)))))
theorem ZaI (x1 : Int) (x2 : Int) (zn : List Int) (zu : Int) (zb : Int) (zh : Int) (zj : List Zv) (z2 : Int) (z6 : Int) (zp : Own) (zd : Own) (zy : okApp zd = true) : Sim (Z3e zn zb zh zj zp zd) (Z5I x1 x2 zn zu zb zh zj z2 z6) (EE 57 [(.ptr 0 0), (iv x1), (iv x2)] [(Zk (Zm.mk zn zu zb zh zj (Zl.mk z2 z6)) zp zd)]) := by
 unfold Z5I
 refine zf (Zks ..) ?_
 refine ze ?_
 refine ze ?_
 refine zo (bv (x1 == 110)) ?_
 refine za ((x1 == 110)) ?_ ?_
 ·refine ze ?_
  exact zr ((iv 10), [(Zk (Zm.mk zn zu zb zh zj (Zl.mk z2 z6)) zp zd)]) ⟨_, rfl⟩
 ·refine ze ?_
  refine zo (bv (x1 == 116)) ?_
  refine za ((x1 == 116)) ?_ ?_
  ·refine ze ?_
   exact zr ((iv 9), [(Zk (Zm.mk zn zu zb zh zj (Zl.mk z2 z6)) zp zd)]) ⟨_, rfl⟩
  ·refine ze ?_
   refine zo (bv (x1 == 114)) ?_
   refine za ((x1 == 114)) ?_ ?_
   ·refine ze ?_
    exact zr ((iv 13), [(Zk (Zm.mk zn zu zb zh zj (Zl.mk z2 z6)) zp zd)]) ⟨_, rfl⟩
   ·refine ze ?_
    refine zo (bv (x1 == 120)) ?_
    refine za ((x1 == 120)) ?_ ?_
    ·refine ze ?_
     refine zi fun r1 hr1 => ?_
     obtain ⟨qr1, er1, exr1, rfl⟩ := Z1M ((Zm.mk zn zu zb zh zj (Zl.mk z2 z6))) zp zd zy r1 hr1
     refine zc [0] (iv r1) [(Zk (Zm.mk zn zu zb zh zj (Zl.mk z2 z6)) zp zd)] er1 ?_
     refine zi fun r2 hr2 => ?_
     obtain ⟨qr2, er2, exr2, rfl⟩ := Zc3 (r1) r2 hr2
     refine zc [] (iv r2) [(Zk (Zm.mk zn zu zb zh zj (Zl.mk z2 z6)) zp zd)] er2 ?_
     refine ze ?_
     refine zo (bv (decide (0 ≤ r2))) ?_
     refine za ((decide (0 ≤ r2))) ?_ ?_
     ·refine ze ?_
      refine zi fun r3 hr3 => ?_
      obtain ⟨qr3, er3, exr3, rfl⟩ := Z2t (zn) (zu) (zb) (zh) (zj) (z2) (z6) zp zd zy r3 hr3
      refine zc [0] (iv r3.1) [(Zk (Zm.mk zn r3.2 zb zh zj (Zl.mk z2 z6)) zp zd)] er3 ?_
      refine ze ?_
      refine zi fun r4 hr4 => ?_
      obtain ⟨qr4, er4, exr4, rfl⟩ := Z1M ((Zm.mk zn r3.2 zb zh zj (Zl.mk z2 z6))) zp zd zy r4 hr4
      refine zc [0] (iv r4) [(Zk (Zm.mk zn r3.2 zb zh zj (Zl.mk z2 z6)) zp zd)] er4 ?_
      refine zi fun r5 hr5 => ?_
      obtain ⟨qr5, er5, exr5, rfl⟩ := Zc3 (r4) r5 hr5
      refine zc [] (iv r5) [(Zk (Zm.mk zn r3.2 zb zh zj (Zl.mk z2 z6)) zp zd)] er5 ?_
      refine ze ?_
      refine zo (bv (decide (0 ≤ r5))) ?_
      refine za ((decide (0 ≤ r5))) ?_ ?_
      ·refine ze ?_
       refine zi fun r6 hr6 => ?_
       obtain ⟨qr6, er6, exr6, rfl⟩ := Z2t (zn) (r3.2) (zb) (zh) (zj) (z2) (z6) zp zd zy r6 hr6
       refine zc [0] (iv r6.1) [(Zk (Zm.mk zn r6.2 zb zh zj (Zl.mk z2 z6)) zp zd)] er6 ?_
       refine ze ?_
       refine zo (iv (IntKind.i64.wrap (16 * r2))) ?_
       refine zo (iv (IntKind.i64.wrap ((IntKind.i64.wrap (16 * r2)) + r5))) ?_
       exact zr ((iv (IntKind.i64.wrap ((IntKind.i64.wrap (16 * r2)) + r5))), [(Zk (Zm.mk zn r6.2 zb zh zj (Zl.mk z2 z6)) zp zd)]) ⟨_, rfl⟩
      ·exact zk (Z34 (x2) (zn) (r3.2) (zb) (zh) (zj) (z2) (z6) zp zd zy)
     ·exact zk (Z34 (x2) (zn) (zu) (zb) (zh) (zj) (z2) (z6) zp zd zy)
    ·refine ze ?_
     refine zo (bv (decide (32 < x1))) ?_
     refine za ((decide (32 < x1))) ?_ ?_
     ·refine zo (bv (decide (x1 < 127))) ?_
      refine za ((decide (x1 < 127))) ?_ ?_
      ·refine zo (.p (.agg (ZH (Zc.mk 48 57)))) ?_
       refine zo (.p (.agg (ZH (Zc.mk 65 90)))) ?_
       refine zo (.p (.agg (ZH (Zc.mk 97 122)))) ?_
       refine zo (.p (.lst .ex (([(Zc.mk 48 57), (Zc.mk 65 90), (Zc.mk 97 122)] : List Zc).map Zz))) ?_
       refine zi fun r7 hr7 => ?_
       obtain ⟨qr7, er7, exr7, rfl⟩ := ZcQ (([(Zc.mk 48 57), (Zc.mk 65 90), (Zc.mk 97 122)] : List Zc)) (x1) .sh r7 hr7
       refine zc [] (bv r7) [(Zk (Zm.mk zn zu zb zh zj (Zl.mk z2 z6)) zp zd)] er7 ?_
       refine zo (bv (!r7)) ?_
       refine za ((!r7)) ?_ ?_
       ·exact zk (Z9v (x1) (zn) (zu) (zb) (zh) (zj) (z2) (z6) zp zd zy)
       ·exact zk (Z34 (x2) (zn) (zu) (zb) (zh) (zj) (z2) (z6) zp zd zy)
      ·exact zk (Z34 (x2) (zn) (zu) (zb) (zh) (zj) (z2) (z6) zp zd zy)
     ·exact zk (Z34 (x2) (zn) (zu) (zb) (zh) (zj) (z2) (z6) zp zd zy)
theorem Zb0 (x1 : Int) (x2 : Int) (zn : List Int) (zu : Int) (zb : Int) (zh : Int) (zj : List Zv) (z2 : Int) (z6 : Int) {r} (h : Z5I x1 x2 zn zu zb zh zj z2 z6 = some r) : Z4O x1 x2 zn zu zb zh zj z2 z6 = some r :=
 pick_of (fun _ _ ha hb => RRun.uniq (Zbk _ _ _ _ _ _) (ha .ex .ex rfl) (hb .ex .ex rfl)) (fun zp zd zy => ZaI x1 x2 zn zu zb zh zj z2 z6 zp zd zy r h)
noncomputable def Z7E (x0 : Int) : Option (Int) :=
 some ((IntKind.i64.wrap (x0 - 48)))
theorem ZcR (x0 : Int) : Sim (Z5i) (Z7E x0) (ZfF 0 (iv x0) []) := by
 unfold Z7E
 refine zf (Zhr ..) ?_
 refine ze ?_
 refine zo (iv (IntKind.i64.wrap (x0 - 48))) ?_
 exact zr ((iv (IntKind.i64.wrap (x0 - 48))), []) ⟨_, rfl⟩
noncomputable def Z7O (x0 : Int) : Option (Int) :=
 some ((IntKind.i64.wrap ((IntKind.i64.wrap (x0 - 97)) + 10)))
theorem ZcW (x0 : Int) : Sim (Z5i) (Z7O x0) (ZfJ 0 (iv x0) []) := by
 unfold Z7O
 refine zf (Zic ..) ?_
 refine ze ?_
 refine zo (iv (IntKind.i64.wrap (x0 - 97))) ?_
 refine zo (iv (IntKind.i64.wrap ((IntKind.i64.wrap (x0 - 97)) + 10))) ?_
 exact zr ((iv (IntKind.i64.wrap ((IntKind.i64.wrap (x0 - 97)) + 10))), []) ⟨_, rfl⟩
noncomputable def Z6A  : Option (Int) :=
 some ((-1))
theorem Z9M  : Sim (Z5i) (Z6A) (Ze3 0  []) := by
 unfold Z6A
 refine zf (ZhJ ..) ?_
 refine ze ?_
 exact zr ((iv (-1)), []) ⟨_, rfl⟩
noncomputable def Z6E (x0 : Int) : Option (Int) :=
 if ((decide (97 ≤ x0))) = true then
 (if ((decide (x0 ≤ 102))) = true then
 (Z7O x0)
 else
 (Z6A))
 else
 (Z6A)
theorem Z9Q (x0 : Int) : Sim (Z5i) (Z6E x0) (ZdV 0 (iv x0) []) := by
 unfold Z6E
 refine zf (Zi5 ..) ?_
 refine ze ?_
 refine zo (bv (decide (97 ≤ x0))) ?_
 refine za ((decide (97 ≤ x0))) ?_ ?_
 ·refine zo (bv (decide (x0 ≤ 102))) ?_
  refine za ((decide (x0 ≤ 102))) ?_ ?_
  ·exact zk (ZcW (x0))
  ·exact zk (Z9M )
 ·exact zk (Z9M )
noncomputable def Z9F (x0 : Int) : Option (Int) :=
 if ((decide (48 ≤ x0))) = true then
 (if ((decide (x0 ≤ 57))) = true then
 (Z7E x0)
 else
 (Z6E x0))
 else
 (Z6E x0)
theorem ZdS (x0 : Int) : Sim (Z5i) (Z9F x0) (EE 71 [(iv x0)] []) := by
 unfold Z9F
 refine zf (Zkw ..) ?_
 refine ze ?_
 refine ze ?_
 refine zo (bv (decide (48 ≤ x0))) ?_
 refine za ((decide (48 ≤ x0))) ?_ ?_
 ·refine zo (bv (decide (x0 ≤ 57))) ?_
  refine za ((decide (x0 ≤ 57))) ?_ ?_
  ·exact zk (ZcR (x0))
  ·exact zk (Z9Q (x0))
 ·exact zk (Z9Q (x0))
theorem ZeF (x0 : Int) {r} (h : Z9F x0 = some r) : Z8q x0 = some r :=
 pick_of (fun _ _ ha hb => RRun.uniq (ZeP) (ha ) (hb )) (ZdS x0 r h)
noncomputable def Z7c (x0 : List Zc) (x1 : Int) : Option (Bool) :=
 (Z3h x0 x1).bind fun r1 =>
 some (r1)
theorem ZcB (x0 : List Zc) (x1 : Int) (ox0 : Own) : Sim (Z6e) (Z7c x0 x1) (EE 19 [(.p (.lst ox0 (x0.map Zz))), (iv x1)] []) := by
 unfold Z7c
 refine zf (Zkl ..) ?_
 refine ze ?_
 refine zx (.ptr 0 0) [[(iv x1)]] ?_
 refine ze ?_
 refine zi fun r1 hr1 => ?_
 obtain ⟨qr1, er1, exr1, rfl⟩ := Z8d (x0) (x1) .sh r1 hr1
 refine zc [0] (bv r1) [[(iv x1)]] er1 ?_
 exact zr ((bv r1), [[(iv x1)]]) ⟨_, rfl⟩
theorem ZcT (x0 : List Zc) (x1 : Int) {r} (h : Z7c x0 x1 = some r) : Z6j x0 x1 = some r :=
 pick_of (fun _ _ ha hb => RRun.uniq (Zdl) (ha .ex) (hb .ex)) (fun ox0 => ZcB x0 x1 ox0 r h)
noncomputable def Z3n (x0 : List Zc) (z12 : Int) : Option (Bool) :=
 (Z3W x0 z12).bind fun r1 =>
 some ((decide (0 ≤ r1)))
theorem Z7Y (x0 : List Zc) (z12 : Int) (ox0 : Own) : Sim (Z2P z12) (Z3n x0 z12) (EE 30 [(.p (.lst ox0 (x0.map Zz))), (.clo 31 [] [(.ptr 0 0)])] [[(iv z12)]]) := by
 unfold Z3n
 refine zf (Zko ..) ?_
 refine ze ?_
 refine ze ?_
 refine zi fun r1 hr1 => ?_
 obtain ⟨qr1, er1, exr1, rfl⟩ := Z90 (x0) (z12) .sh r1 hr1
 refine zc [0] (iv r1) [[(iv z12)]] er1 ?_
 refine zo (bv (decide (0 ≤ r1))) ?_
 exact zr ((bv (decide (0 ≤ r1))), [[(iv z12)]]) ⟨_, rfl⟩
theorem Z89 (x0 : List Zc) (z12 : Int) {r} (h : Z3n x0 z12 = some r) : Z3h x0 z12 = some r :=
 pick_of (fun _ _ ha hb => RRun.uniq (Z8h _) (ha .ex) (hb .ex)) (fun ox0 => Z7Y x0 z12 ox0 r h)
noncomputable def Z3Y (x0 : List Zc) (z12 : Int) : Option (Int) :=
 Z2L x0 ((x0.length : Int)) 0 z12
theorem Z8A (x0 : List Zc) (z12 : Int) (ox0 : Own) : Sim (Z1s z12) (Z3Y x0 z12) (EE 37 [(.p (.lst ox0 (x0.map Zz))), (.clo 31 [] [(.ptr 0 0)])] [[(iv z12)]]) := by
 unfold Z3Y
 refine zf (Zk5 ..) ?_
 refine ze ?_
 refine ze ?_
 refine zo (iv (x0.length : Int)) ?_ (Eq.trans (by kernel_rfl) (xlen_of (P := PP) (t := 24) (d := 39) (by kernel_rfl) Zz (shrO ox0) x0))
 exact zk (Z5G (x0) ((x0.length : Int)) (0) (z12) ox0)
theorem Z91 (x0 : List Zc) (z12 : Int) {r} (h : Z3Y x0 z12 = some r) : Z3W x0 z12 = some r :=
 pick_of (fun _ _ ha hb => RRun.uniq (Z6f _) (ha .ex) (hb .ex)) (fun ox0 => Z8A x0 z12 ox0 r h)
noncomputable def Z3i (x0 : List Zc) (x7 : Int) (x8 : Int) (z12 : Int) : Option (Int) :=
 Z2L x0 x7 ((IntKind.i64.wrap (x8 + 1))) z12
theorem Z7K (x0 : List Zc) (x7 : Int) (x8 : Int) (z12 : Int) (ox0 : Own) : Sim (Z1s z12) (Z3i x0 x7 x8 z12) (Zfe 1 (.p (.lst ox0 (x0.map Zz))) (.clo 31 [] [(.ptr 0 0)]) (iv x7) (iv x8) [[(iv z12)]]) := by
 unfold Z3i
 refine zf (ZhR ..) ?_
 refine ze ?_
 refine zo (iv (IntKind.i64.wrap (x8 + 1))) ?_
 exact zk (Z5G (x0) (x7) ((IntKind.i64.wrap (x8 + 1))) (z12) ox0)
noncomputable def Z2K (x0 : List Zc) (x7 : Int) (x8 : Int) (z12 : Int) : Option (Int) :=
 (lget x0 x8).bind fun a1 =>
 (Z6w a1 z12).bind fun r2 =>
 if (r2) = true then
 (some (x8))
 else
 (Z3i x0 x7 x8 z12)
theorem Z7H (x0 : List Zc) (x7 : Int) (x8 : Int) (z12 : Int) (ox0 : Own) : Sim (Z1s z12) (Z2K x0 x7 x8 z12) (Zg4 1 (.p (.lst ox0 (x0.map Zz))) (.clo 31 [] [(.ptr 0 0)]) (iv x7) (iv x8) [[(iv z12)]]) := by
 unfold Z2K
 refine zf (Zi4 ..) ?_
 refine ze ?_
 refine ze ?_
 refine zi fun a1 ha1 => ?_
 refine zo (.cptr (ZH a1)) ?_ (Eq.trans (by kernel_rfl) (xidx_of (o := (shrO ox0)) (k := .i64) (n := 2) (e := Zz) (cs := Z57) (fun _ => rfl) (fun _ => rfl) (by decide) ha1))
 refine zo (.p (.agg (ZH a1))) ?_
 refine zi fun r2 hr2 => ?_
 obtain ⟨qr2, er2, exr2, rfl⟩ := Zcr (a1) (z12) r2 hr2
 refine zv [0] (bv r2) [[(iv z12)]] er2 ?_
 refine za (r2) ?_ ?_
 ·refine ze ?_
  exact zr ((iv x8), [[(iv z12)]]) ⟨_, rfl⟩
 ·exact zk (Z7K (x0) (x7) (x8) (z12) ox0)
noncomputable def Z4F  : Option (Int) :=
 some ((-1))
theorem Z7X (z12 : Int) : Sim (Z1s z12) (Z4F) (Zf4 1  [[(iv z12)]]) := by
 unfold Z4F
 refine zf (ZiM ..) ?_
 refine ze ?_
 exact zr ((iv (-1)), [[(iv z12)]]) ⟨_, rfl⟩
noncomputable def Z2e (x0 : List Zc) (x7 : Int) (x8 : Int) (z12 : Int) : Option (Int) :=
 if ((decide (x8 < x7))) = true then
 (Z2K x0 x7 x8 z12)
 else
 (Z4F)
theorem Z7C (x0 : List Zc) (x7 : Int) (x8 : Int) (z12 : Int) (ox0 : Own) : Sim (Z1s z12) (Z2e x0 x7 x8 z12) (Zc6 1 (.p (.lst ox0 (x0.map Zz))) (.clo 31 [] [(.ptr 0 0)]) (iv x7) (iv x8) [[(iv z12)]]) := by
 unfold Z2e
 refine zf (Zhp ..) ?_
 refine ze ?_
 refine zo (bv (decide (x8 < x7))) ?_
 refine za ((decide (x8 < x7))) ?_ ?_
 ·exact zk (Z7H (x0) (x7) (x8) (z12) ox0)
 ·exact zk (Z7X (z12))
theorem Z46 (x0 : List Zc) (x7 : Int) (x8 : Int) (z12 : Int) {r} (h : Z2e x0 x7 x8 z12 = some r) : Z2L x0 x7 x8 z12 = some r :=
 pick_of (fun _ _ ha hb => RRun.uniq (Z6f _) (ha .ex) (hb .ex)) (fun ox0 => Z7C x0 x7 x8 z12 ox0 r h)
noncomputable def Z6r (x0 : Zc) (z12 : Int) : Option (Bool) :=
 if ((decide (x0.Lo ≤ z12))) = true then
 (some ((decide (z12 ≤ x0.Hi))))
 else
 (some (false))
theorem ZbB (x0 : Zc) (z12 : Int) : Sim (Z5A z12) (Z6r x0 z12) (EE 31 [(.p (.agg (ZH x0))), (.ptr 0 0)] [[(iv z12)]]) := by
 unfold Z6r
 refine zf (ZjD ..) ?_
 refine ze ?_
 refine zx (.ptr 1 0) [[(iv z12)], (Z1E x0)] ?_
 refine ze ?_
 refine zo (.ptr 1 0) ?_
 refine zo (iv x0.Lo) ?_
 refine zo (iv z12) ?_
 refine zo (bv (decide (x0.Lo ≤ z12))) ?_
 refine za ((decide (x0.Lo ≤ z12))) ?_ ?_
 ·refine zo (iv z12) ?_
  refine zo (.ptr 1 1) ?_
  refine zo (iv x0.Hi) ?_
  refine zo (bv (decide (z12 ≤ x0.Hi))) ?_
  exact zr ((bv (decide (z12 ≤ x0.Hi))), [[(iv z12)], (Z1E x0)]) ⟨_, rfl⟩
 ·exact zr ((bv false), [[(iv z12)], (Z1E x0)]) ⟨_, rfl⟩
theorem Zcn (x0 : Zc) (z12 : Int) {r} (h : Z6r x0 z12 = some r) : Z6w x0 z12 = some r :=
 pick_of (fun _ _ ha hb => RRun.uniq (ZcC _) (ha ) (hb )) (ZbB x0 z12 r h)
noncomputable def Z4H (x1 : Int) (zn : List Int) (zu : Int) (zb : Int) (zh : Int) (zj : List Zv) (z2 : Int) (z6 : Int) : Option (Z7 × Int × Int × Int) :=
 (Z19 ((ByteArray.mk #[94])) zn zu).bind fun r1 =>
 Z2Q x1 r1.1 0 zn r1.2 zb zh zj z2 z6 (([] : List Zc))
theorem ZaG (x1 : Int) (zn : List Int) (zu : Int) (zb : Int) (zh : Int) (zj : List Zv) (z2 : Int) (z6 : Int) (zp : Own) (zd : Own) (zy : okApp zd = true) : Sim (Z1c zn zb zh zj zp zd) (Z4H x1 zn zu zb zh zj z2 z6) (EE 50 [(.ptr 0 0), (iv x1)] [(Zk (Zm.mk zn zu zb zh zj (Zl.mk z2 z6)) zp zd)]) := by
 unfold Z4H
 refine zf (ZjJ ..) ?_
 refine ze ?_
 refine zz (.ptr 1 0) [(Zk (Zm.mk zn zu zb zh zj (Zl.mk z2 z6)) zp zd), (Zq (Z7.mk 0 0 0 0 0 ([] : List Zc) ([] : List Z7)) .nl .nl)] ?_
 refine ze ?_
 refine zi fun r1 hr1 => ?_
 obtain ⟨qr1, er1, exr1, rfl⟩ := Z1e ((ByteArray.mk #[94])) (zn) (zu) (zb) (zh) (zj) (z2) (z6) zp zd zy r1 hr1
 refine zc [0] (bv r1.1) [(Zk (Zm.mk zn r1.2 zb zh zj (Zl.mk z2 z6)) zp zd), (Zq (Z7.mk 0 0 0 0 0 ([] : List Zc) ([] : List Z7)) .nl .nl)] er1 ?_
 refine ze ?_
 refine zz (.ptr 2 0) [(Zk (Zm.mk zn r1.2 zb zh zj (Zl.mk z2 z6)) zp zd), (Zq (Z7.mk 0 0 0 0 0 ([] : List Zc) ([] : List Z7)) .nl .nl), [(.p (.lst .nl []))]] ?_
 refine ze ?_
 refine ze ?_
 exact zk (Z6X (x1) (r1.1) (0) (zn) (r1.2) (zb) (zh) (zj) (z2) (z6) ((Z7.mk 0 0 0 0 0 ([] : List Zc) ([] : List Z7))) (([] : List Zc)) zp zd .nl .nl .nl zy rfl rfl)
theorem ZaZ (x1 : Int) (zn : List Int) (zu : Int) (zb : Int) (zh : Int) (zj : List Zv) (z2 : Int) (z6 : Int) {r} (h : Z4H x1 zn zu zb zh zj z2 z6 = some r) : Z5K x1 zn zu zb zh zj z2 z6 = some r :=
 pick_of (fun _ _ ha hb => RRun.uniq (Z8n _ _ _ _ _ _) (ha .ex .ex rfl) (hb .ex .ex rfl)) (fun zp zd zy => ZaG x1 zn zu zb zh zj z2 z6 zp zd zy r h)
noncomputable def Z1h (x1 : Int) (x5 : Bool) (x8 : Int) (zn : List Int) (zu : Int) (zb : Int) (zh : Int) (zj : List Zv) (z2 : Int) (z6 : Int) (z13 : List Zc) : Option (Z7 × Int × Int × Int) :=
 Z2Q x1 x5 ((IntKind.i64.wrap (x8 + 1))) zn zu zb zh zj z2 z6 z13
theorem Z1K (x1 : Int) (x5 : Bool) (x8 : Int) (zn : List Int) (zu : Int) (zb : Int) (zh : Int) (zj : List Zv) (z2 : Int) (z6 : Int) (b1 : Z7) (z13 : List Zc) (zp : Own) (zd : Own) (zE : Own) (zB : Own) (z1i : Own) (zy : okApp zd = true) (zS : okApp zE = true) (zL : okApp zB = true) : Sim (Z1c zn zb zh zj zp zd) (Z1h x1 x5 x8 zn zu zb zh zj z2 z6 z13) (Z7t 1 (.ptr 0 0) (iv x1) (.ptr 1 0) (bv x5) (.ptr 2 0) (.clo 58 [] [(.ptr 2 0)]) (iv x8) [(Zk (Zm.mk zn zu zb zh zj (Zl.mk z2 z6)) zp zd), (Zq b1 zE zB), [(.p (.lst z1i (z13.map Zz)))]]) := by
 unfold Z1h
 refine zf (ZiT ..) ?_
 refine ze ?_
 refine zo (iv (IntKind.i64.wrap (x8 + 1))) ?_
 exact zk (Z6X (x1) (x5) ((IntKind.i64.wrap (x8 + 1))) (zn) (zu) (zb) (zh) (zj) (z2) (z6) (b1) (z13) zp zd zE zB z1i zy zS zL)
noncomputable def Z3L (zu : Int) (z2 : Int) (z6 : Int) (z13 : List Zc) : Option (Z7 × Int × Int × Int) :=
 some ((Z7.mk 1 0 0 0 0 z13 ([] : List Z7)), zu, z2, z6)
theorem Z6y (zn : List Int) (zu : Int) (zb : Int) (zh : Int) (zj : List Zv) (z2 : Int) (z6 : Int) (b1 : Z7) (z13 : List Zc) (zp : Own) (zd : Own) (zE : Own) (zB : Own) (z1i : Own) (zy : okApp zd = true) (zS : okApp zE = true) (zL : okApp zB = true) : Sim (Z1c zn zb zh zj zp zd) (Z3L zu z2 z6 z13) (Zd4 1 (.ptr 1 0) (.ptr 2 0) [(Zk (Zm.mk zn zu zb zh zj (Zl.mk z2 z6)) zp zd), (Zq b1 zE zB), [(.p (.lst z1i (z13.map Zz)))]]) := by
 unfold Z3L
 refine zf (ZgZ ..) ?_
 refine ze ?_
 refine zo (.p (.lst (shrO z1i) (z13.map Zz))) ?_
 refine zo (.p (.agg (ZC (Z7.mk 1 0 0 0 0 z13 ([] : List Z7)) (shrO (shrO z1i)) .nl))) ?_
 refine zt [(Zk (Zm.mk zn zu zb zh zj (Zl.mk z2 z6)) zp zd), (Zq (Z7.mk 1 0 0 0 0 z13 ([] : List Z7)) (shrO (shrO z1i)) .nl), [(.p (.lst z1i (z13.map Zz)))]] ?_
 exact zr ((.p (.agg (ZC (Z7.mk 1 0 0 0 0 z13 ([] : List Z7)) .sh .sh))), [(Zk (Zm.mk zn zu zb zh zj (Zl.mk z2 z6)) zp zd), (Zq (Z7.mk 1 0 0 0 0 z13 ([] : List Z7)) (shrO (shrO z1i)) .nl), [(.p (.lst z1i (z13.map Zz)))]]) ⟨_, rfl⟩
noncomputable def Z4M (x5 : Bool) (zn : List Int) (zu : Int) (z2 : Int) (z6 : Int) (z13 : List Zc) : Option (Z7 × Int × Int × Int) :=
 (Z27 zn zu).bind fun r1 =>
 if (x5) = true then
 ((Z6h z13).bind fun r2 =>
 Z3L r1.2 z2 z6 r2.1)
 else
 (Z3L r1.2 z2 z6 z13)
theorem Z9x (x5 : Bool) (zn : List Int) (zu : Int) (zb : Int) (zh : Int) (zj : List Zv) (z2 : Int) (z6 : Int) (b1 : Z7) (z13 : List Zc) (zp : Own) (zd : Own) (zE : Own) (zB : Own) (z1i : Own) (zy : okApp zd = true) (zS : okApp zE = true) (zL : okApp zB = true) : Sim (Z1c zn zb zh zj zp zd) (Z4M x5 zn zu z2 z6 z13) (Zeq 1 (.ptr 0 0) (.ptr 1 0) (bv x5) (.ptr 2 0) [(Zk (Zm.mk zn zu zb zh zj (Zl.mk z2 z6)) zp zd), (Zq b1 zE zB), [(.p (.lst z1i (z13.map Zz)))]]) := by
 unfold Z4M
 refine zf (Zha ..) ?_
 refine ze ?_
 refine zi fun r1 hr1 => ?_
 obtain ⟨qr1, er1, exr1, rfl⟩ := Z2t (zn) (zu) (zb) (zh) (zj) (z2) (z6) zp zd zy r1 hr1
 refine zc [0] (iv r1.1) [(Zk (Zm.mk zn r1.2 zb zh zj (Zl.mk z2 z6)) zp zd), (Zq b1 zE zB), [(.p (.lst z1i (z13.map Zz)))]] er1 ?_
 refine ze ?_
 refine za (x5) ?_ ?_
 ·refine ze ?_
  refine zo (.p (.lst (shrO z1i) (z13.map Zz))) ?_
  refine zi fun r2 hr2 => ?_
  obtain ⟨qr2, er2, exr2, rfl⟩ := Z9X (z13) .sh r2 hr2
  refine zc [] (.p (.tup [(.lst .sh (r2.1.map Zz)), (.v (.int .i64 r2.2))])) [(Zk (Zm.mk zn r1.2 zb zh zj (Zl.mk z2 z6)) zp zd), (Zq b1 zE zB), [(.p (.lst z1i (z13.map Zz)))]] er2 ?_
  refine zo (.p (.lst .sh (r2.1.map Zz))) ?_
  refine zo (iv r2.2) ?_
  refine zt [(Zk (Zm.mk zn r1.2 zb zh zj (Zl.mk z2 z6)) zp zd), (Zq b1 zE zB), [(.p (.lst .sh (r2.1.map Zz)))]] ?_
  exact zk (Z6y (zn) (r1.2) (zb) (zh) (zj) (z2) (z6) (b1) (r2.1) zp zd zE zB .sh zy zS zL)
 ·exact zk (Z6y (zn) (r1.2) (zb) (zh) (zj) (z2) (z6) (b1) (z13) zp zd zE zB z1i zy zS zL)
noncomputable def Z2A (x1 : Int) (x5 : Bool) (x8 : Int) (x9 : Int) (zn : List Int) (zb : Int) (zh : Int) (zj : List Zv) (z2 : Int) (z6 : Int) (z13 : List Zc) : Option (Z7 × Int × Int × Int) :=
 (ZV 22 x9 zn z2 z6).bind fun r1 =>
 Z1h x1 x5 x8 zn r1.1 zb zh zj r1.2.1 r1.2.2 z13
theorem Z3R (x1 : Int) (x5 : Bool) (x8 : Int) (x9 : Int) (zn : List Int) (zu : Int) (zb : Int) (zh : Int) (zj : List Zv) (z2 : Int) (z6 : Int) (b1 : Z7) (z13 : List Zc) (zp : Own) (zd : Own) (zE : Own) (zB : Own) (z1i : Own) (zy : okApp zd = true) (zS : okApp zE = true) (zL : okApp zB = true) : Sim (Z1c zn zb zh zj zp zd) (Z2A x1 x5 x8 x9 zn zb zh zj z2 z6 z13) (Zay 1 (.ptr 0 0) (iv x1) (.ptr 1 0) (bv x5) (.ptr 2 0) (.clo 58 [] [(.ptr 2 0)]) (iv x8) (iv x9) [(Zk (Zm.mk zn zu zb zh zj (Zl.mk z2 z6)) zp zd), (Zq b1 zE zB), [(.p (.lst z1i (z13.map Zz)))]]) := by
 unfold Z2A
 refine zf (Zhc ..) ?_
 refine ze ?_
 refine zi fun r1 hr1 => ?_
 obtain ⟨qr1, er1, exr1, rfl⟩ := ZY (22) (x9) (zn) (zu) (zb) (zh) (zj) (z2) (z6) zp zd zy r1 hr1
 refine zc [0] (.p (.tup [])) [(Zk (Zm.mk zn r1.1 zb zh zj (Zl.mk r1.2.1 r1.2.2)) zp zd), (Zq b1 zE zB), [(.p (.lst z1i (z13.map Zz)))]] er1 ?_
 exact zk (Z1K (x1) (x5) (x8) (zn) (r1.1) (zb) (zh) (zj) (r1.2.1) (r1.2.2) (b1) (z13) zp zd zE zB z1i zy zS zL)
noncomputable def Z1F (x1 : Int) (x5 : Bool) (x8 : Int) (x11 : Int) (x15 : Int) (zn : List Int) (zu : Int) (zb : Int) (zh : Int) (zj : List Zv) (z2 : Int) (z6 : Int) (z13 : List Zc) : Option (Z7 × Int × Int × Int) :=
 if ((z2 == 0)) = true then
 ((Z4f (([(Zc.mk x11 x15)] : List Zc)) z13).bind fun r1 =>
 Z1h x1 x5 x8 zn zu zb zh zj z2 z6 r1)
 else
 (Z1h x1 x5 x8 zn zu zb zh zj z2 z6 z13)
theorem Z3S (x1 : Int) (x5 : Bool) (x8 : Int) (x11 : Int) (x15 : Int) (zn : List Int) (zu : Int) (zb : Int) (zh : Int) (zj : List Zv) (z2 : Int) (z6 : Int) (b1 : Z7) (z13 : List Zc) (zp : Own) (zd : Own) (zE : Own) (zB : Own) (z1i : Own) (zy : okApp zd = true) (zS : okApp zE = true) (zL : okApp zB = true) : Sim (Z1c zn zb zh zj zp zd) (Z1F x1 x5 x8 x11 x15 zn zu zb zh zj z2 z6 z13) (Zax 1 (.ptr 0 0) (iv x1) (.ptr 1 0) (bv x5) (.ptr 2 0) (.clo 58 [] [(.ptr 2 0)]) (iv x8) (iv x11) (iv x15) [(Zk (Zm.mk zn zu zb zh zj (Zl.mk z2 z6)) zp zd), (Zq b1 zE zB), [(.p (.lst z1i (z13.map Zz)))]]) := by
 unfold Z1F
 refine zf (Zh4 ..) ?_
 refine ze ?_
 refine zo (.ptr 0 0) ?_
 refine zo (.ptr 0 5) ?_
 refine zo (.ptr 0 5) ?_
 refine zo (iv z2) ?_
 refine zo (bv (z2 == 0)) ?_
 refine za ((z2 == 0)) ?_ ?_
 ·refine ze ?_
  refine zo (.p (.agg (ZH (Zc.mk x11 x15)))) ?_
  refine zo (.p (.lst .ex (([(Zc.mk x11 x15)] : List Zc).map Zz))) ?_
  refine zi fun r1 hr1 => ?_
  obtain ⟨qr1, er1, or1_0_0, exr1, rfl⟩ := Z7e (([(Zc.mk x11 x15)] : List Zc)) (z13) .sh z1i r1 hr1
  refine zv [2] (.p (.tup [])) [(Zk (Zm.mk zn zu zb zh zj (Zl.mk z2 z6)) zp zd), (Zq b1 zE zB), [(.p (.lst or1_0_0 (r1.map Zz)))]] er1 ?_
  exact zk (Z1K (x1) (x5) (x8) (zn) (zu) (zb) (zh) (zj) (z2) (z6) (b1) (r1) zp zd zE zB or1_0_0 zy zS zL)
 ·exact zk (Z1K (x1) (x5) (x8) (zn) (zu) (zb) (zh) (zj) (z2) (z6) (b1) (z13) zp zd zE zB z1i zy zS zL)
noncomputable def Z38 (x1 : Int) (x5 : Bool) (x8 : Int) (x9 : Int) (x11 : Int) (x15 : Int) (zn : List Int) (zb : Int) (zh : Int) (zj : List Zv) (z2 : Int) (z6 : Int) (z13 : List Zc) : Option (Z7 × Int × Int × Int) :=
 (ZV 22 x9 zn z2 z6).bind fun r1 =>
 Z1F x1 x5 x8 x11 x15 zn r1.1 zb zh zj r1.2.1 r1.2.2 z13
theorem Z6G (x1 : Int) (x5 : Bool) (x8 : Int) (x9 : Int) (x11 : Int) (x15 : Int) (zn : List Int) (zu : Int) (zb : Int) (zh : Int) (zj : List Zv) (z2 : Int) (z6 : Int) (b1 : Z7) (z13 : List Zc) (zp : Own) (zd : Own) (zE : Own) (zB : Own) (z1i : Own) (zy : okApp zd = true) (zS : okApp zE = true) (zL : okApp zB = true) : Sim (Z1c zn zb zh zj zp zd) (Z38 x1 x5 x8 x9 x11 x15 zn zb zh zj z2 z6 z13) (Zd6 1 (.ptr 0 0) (iv x1) (.ptr 1 0) (bv x5) (.ptr 2 0) (.clo 58 [] [(.ptr 2 0)]) (iv x8) (iv x9) (iv x11) (iv x15) [(Zk (Zm.mk zn zu zb zh zj (Zl.mk z2 z6)) zp zd), (Zq b1 zE zB), [(.p (.lst z1i (z13.map Zz)))]]) := by
 unfold Z38
 refine zf (ZgW ..) ?_
 refine ze ?_
 refine zi fun r1 hr1 => ?_
 obtain ⟨qr1, er1, exr1, rfl⟩ := ZY (22) (x9) (zn) (zu) (zb) (zh) (zj) (z2) (z6) zp zd zy r1 hr1
 refine zc [0] (.p (.tup [])) [(Zk (Zm.mk zn r1.1 zb zh zj (Zl.mk r1.2.1 r1.2.2)) zp zd), (Zq b1 zE zB), [(.p (.lst z1i (z13.map Zz)))]] er1 ?_
 exact zk (Z3S (x1) (x5) (x8) (x11) (x15) (zn) (r1.1) (zb) (zh) (zj) (r1.2.1) (r1.2.2) (b1) (z13) zp zd zE zB z1i zy zS zL)
noncomputable def Z4K (x1 : Int) (x5 : Bool) (x8 : Int) (x9 : Int) (x11 : Int) (zn : List Int) (zu : Int) (zb : Int) (zh : Int) (zj : List Zv) (z2 : Int) (z6 : Int) (z13 : List Zc) : Option (Z7 × Int × Int × Int) :=
 (Z3C zn zu zb zh zj z2 z6).bind fun r1 =>
 if ((r1.2.2.2.2.1 == 0)) = true then
 ((nilO (shrO (shrO (shrO (shrO r1.2.1.1)))) r1.2.1.2).bind fun a2 =>
 if ((!a2)) = true then
 (Z38 x1 x5 x8 x9 x11 r1.1 zn zb zh zj r1.2.2.2.2.1 r1.2.2.2.2.2 z13)
 else
 (if ((decide (r1.1 < x11))) = true then
 (Z38 x1 x5 x8 x9 x11 r1.1 zn zb zh zj r1.2.2.2.2.1 r1.2.2.2.2.2 z13)
 else
 (Z1F x1 x5 x8 x11 r1.1 zn r1.2.2.2.1 zb zh zj r1.2.2.2.2.1 r1.2.2.2.2.2 z13)))
 else
 (Z1F x1 x5 x8 x11 r1.1 zn r1.2.2.2.1 zb zh zj r1.2.2.2.2.1 r1.2.2.2.2.2 z13)
theorem Z9y (x1 : Int) (x5 : Bool) (x8 : Int) (x9 : Int) (x11 : Int) (zn : List Int) (zu : Int) (zb : Int) (zh : Int) (zj : List Zv) (z2 : Int) (z6 : Int) (b1 : Z7) (z13 : List Zc) (zp : Own) (zd : Own) (zE : Own) (zB : Own) (z1i : Own) (zy : okApp zd = true) (zS : okApp zE = true) (zL : okApp zB = true) : Sim (Z1c zn zb zh zj zp zd) (Z4K x1 x5 x8 x9 x11 zn zu zb zh zj z2 z6 z13) (Zep 1 (.ptr 0 0) (iv x1) (.ptr 1 0) (bv x5) (.ptr 2 0) (.clo 58 [] [(.ptr 2 0)]) (iv x8) (iv x9) (iv x11) [(Zk (Zm.mk zn zu zb zh zj (Zl.mk z2 z6)) zp zd), (Zq b1 zE zB), [(.p (.lst z1i (z13.map Zz)))]]) := by
 unfold Z4K
 refine zf (Zhe ..) ?_
 refine ze ?_
 refine zi fun r1 hr1 => ?_
 obtain ⟨qr1, er1, exr1, rfl⟩ := Z7y (zn) (zu) (zb) (zh) (zj) (z2) (z6) zp zd zy r1 hr1
 refine zc [0] (.p (.tup [(.v (.int .i64 r1.1)), (.lst r1.2.1.1 (r1.2.1.2.map Zz)), (.v (.bool r1.2.2.1))])) [(Zk (Zm.mk zn r1.2.2.2.1 zb zh zj (Zl.mk r1.2.2.2.2.1 r1.2.2.2.2.2)) zp zd), (Zq b1 zE zB), [(.p (.lst z1i (z13.map Zz)))]] er1 ?_
 refine zo (iv r1.1) ?_
 refine zo (.p (.lst (shrO r1.2.1.1) (r1.2.1.2.map Zz))) ?_
 refine zo (bv r1.2.2.1) ?_
 refine ze ?_
 refine zo (.ptr 0 0) ?_
 refine zo (.ptr 0 5) ?_
 refine zo (.ptr 0 5) ?_
 refine zo (iv r1.2.2.2.2.1) ?_
 refine zo (bv (r1.2.2.2.2.1 == 0)) ?_
 refine za ((r1.2.2.2.2.1 == 0)) ?_ ?_
 ·refine zi fun a2 ha2 => ?_
  refine zo (bv (!a2)) ?_ (Eq.trans (by kernel_rfl) (xnil_neq (P := PP) (t := 23) (c := .slice none 0 0) (e := Zz) (by kernel_rfl) ha2))
  refine za ((!a2)) ?_ ?_
  ·exact zk (Z6G (x1) (x5) (x8) (x9) (x11) (r1.1) (zn) (r1.2.2.2.1) (zb) (zh) (zj) (r1.2.2.2.2.1) (r1.2.2.2.2.2) (b1) (z13) zp zd zE zB z1i zy zS zL)
  ·refine zo (bv (decide (r1.1 < x11))) ?_
   refine za ((decide (r1.1 < x11))) ?_ ?_
   ·exact zk (Z6G (x1) (x5) (x8) (x9) (x11) (r1.1) (zn) (r1.2.2.2.1) (zb) (zh) (zj) (r1.2.2.2.2.1) (r1.2.2.2.2.2) (b1) (z13) zp zd zE zB z1i zy zS zL)
   ·exact zk (Z3S (x1) (x5) (x8) (x11) (r1.1) (zn) (r1.2.2.2.1) (zb) (zh) (zj) (r1.2.2.2.2.1) (r1.2.2.2.2.2) (b1) (z13) zp zd zE zB z1i zy zS zL)
 ·exact zk (Z3S (x1) (x5) (x8) (x11) (r1.1) (zn) (r1.2.2.2.1) (zb) (zh) (zj) (r1.2.2.2.2.1) (r1.2.2.2.2.2) (b1) (z13) zp zd zE zB z1i zy zS zL)
noncomputable def Z3N (x1 : Int) (x5 : Bool) (x8 : Int) (x9 : Int) (x11 : Int) (zn : List Int) (zu : Int) (zb : Int) (zh : Int) (zj : List Zv) (z2 : Int) (z6 : Int) (z13 : List Zc) : Option (Z7 × Int × Int × Int) :=
 (Z19 ((ByteArray.mk #[45])) zn zu).bind fun r1 =>
 if (r1.1) = true then
 ((Z1J ((Zm.mk zn r1.2 zb zh zj (Zl.mk z2 z6)))).bind fun r2 =>
 if ((r2 == 93)) = true then
 (Z2A x1 x5 x8 x9 zn zb zh zj z2 z6 z13)
 else
 (if ((r2 == 91)) = true then
 (Z2A x1 x5 x8 x9 zn zb zh zj z2 z6 z13)
 else
 (if ((r2 == 45)) = true then
 (Z2A x1 x5 x8 x9 zn zb zh zj z2 z6 z13)
 else
 (if ((decide (r2 < 0))) = true then
 (Z2A x1 x5 x8 x9 zn zb zh zj z2 z6 z13)
 else
 (Z4K x1 x5 x8 x9 x11 zn r1.2 zb zh zj z2 z6 z13)))))
 else
 (Z1F x1 x5 x8 x11 x11 zn r1.2 zb zh zj z2 z6 z13)
theorem Z9s (x1 : Int) (x5 : Bool) (x8 : Int) (x9 : Int) (x11 : Int) (zn : List Int) (zu : Int) (zb : Int) (zh : Int) (zj : List Zv) (z2 : Int) (z6 : Int) (b1 : Z7) (z13 : List Zc) (zp : Own) (zd : Own) (zE : Own) (zB : Own) (z1i : Own) (zy : okApp zd = true) (zS : okApp zE = true) (zL : okApp zB = true) : Sim (Z1c zn zb zh zj zp zd) (Z3N x1 x5 x8 x9 x11 zn zu zb zh zj z2 z6 z13) (Zex 1 (.ptr 0 0) (iv x1) (.ptr 1 0) (bv x5) (.ptr 2 0) (.clo 58 [] [(.ptr 2 0)]) (iv x8) (iv x9) (iv x11) [(Zk (Zm.mk zn zu zb zh zj (Zl.mk z2 z6)) zp zd), (Zq b1 zE zB), [(.p (.lst z1i (z13.map Zz)))]]) := by
 unfold Z3N
 refine zf (ZgS ..) ?_
 refine ze ?_
 refine ze ?_
 refine zi fun r1 hr1 => ?_
 obtain ⟨qr1, er1, exr1, rfl⟩ := Z1e ((ByteArray.mk #[45])) (zn) (zu) (zb) (zh) (zj) (z2) (z6) zp zd zy r1 hr1
 refine zc [0] (bv r1.1) [(Zk (Zm.mk zn r1.2 zb zh zj (Zl.mk z2 z6)) zp zd), (Zq b1 zE zB), [(.p (.lst z1i (z13.map Zz)))]] er1 ?_
 refine za (r1.1) ?_ ?_
 ·refine ze ?_
  refine zi fun r2 hr2 => ?_
  obtain ⟨qr2, er2, exr2, rfl⟩ := Z1M ((Zm.mk zn r1.2 zb zh zj (Zl.mk z2 z6))) zp zd zy r2 hr2
  refine zc [0] (iv r2) [(Zk (Zm.mk zn r1.2 zb zh zj (Zl.mk z2 z6)) zp zd), (Zq b1 zE zB), [(.p (.lst z1i (z13.map Zz)))]] er2 ?_
  refine ze ?_
  refine zo (bv (r2 == 93)) ?_
  refine za ((r2 == 93)) ?_ ?_
  ·exact zk (Z3R (x1) (x5) (x8) (x9) (zn) (r1.2) (zb) (zh) (zj) (z2) (z6) (b1) (z13) zp zd zE zB z1i zy zS zL)
  ·refine zo (bv (r2 == 91)) ?_
   refine za ((r2 == 91)) ?_ ?_
   ·exact zk (Z3R (x1) (x5) (x8) (x9) (zn) (r1.2) (zb) (zh) (zj) (z2) (z6) (b1) (z13) zp zd zE zB z1i zy zS zL)
   ·refine zo (bv (r2 == 45)) ?_
    refine za ((r2 == 45)) ?_ ?_
    ·exact zk (Z3R (x1) (x5) (x8) (x9) (zn) (r1.2) (zb) (zh) (zj) (z2) (z6) (b1) (z13) zp zd zE zB z1i zy zS zL)
    ·refine zo (bv (decide (r2 < 0))) ?_
     refine za ((decide (r2 < 0))) ?_ ?_
     ·exact zk (Z3R (x1) (x5) (x8) (x9) (zn) (r1.2) (zb) (zh) (zj) (z2) (z6) (b1) (z13) zp zd zE zB z1i zy zS zL)
     ·exact zk (Z9y (x1) (x5) (x8) (x9) (x11) (zn) (r1.2) (zb) (zh) (zj) (z2) (z6) (b1) (z13) zp zd zE zB z1i zy zS zL)
 ·exact zk (Z3S (x1) (x5) (x8) (x11) (x11) (zn) (r1.2) (zb) (zh) (zj) (z2) (z6) (b1) (z13) zp zd zE zB z1i zy zS zL)
noncomputable def Z3O (x1 : Int) (x5 : Bool) (x8 : Int) (x9 : Int) (zn : List Int) (zu : Int) (zb : Int) (zh : Int) (zj : List Zv) (z2 : Int) (z6 : Int) (z13 : List Zc) : Option (Z7 × Int × Int × Int) :=
 (Z3C zn zu zb zh zj z2 z6).bind fun r1 =>
 (nilO (shrO (shrO (shrO (shrO r1.2.1.1)))) r1.2.1.2).bind fun a2 =>
 if ((!a2)) = true then
 ((Z2I r1.2.2.1 r1.2.1.2).bind fun r3 =>
 (Z4f r3.Set z13).bind fun r4 =>
 (Z1J ((Zm.mk zn r1.2.2.2.1 zb zh zj (Zl.mk r1.2.2.2.2.1 r1.2.2.2.2.2)))).bind fun r5 =>
 if ((r5 == 45)) = true then
 ((ZV 22 r1.2.2.2.1 zn r1.2.2.2.2.1 r1.2.2.2.2.2).bind fun r6 =>
 Z1h x1 x5 x8 zn r6.1 zb zh zj r6.2.1 r6.2.2 r4)
 else
 (Z1h x1 x5 x8 zn r1.2.2.2.1 zb zh zj r1.2.2.2.2.1 r1.2.2.2.2.2 r4))
 else
 (Z3N x1 x5 x8 x9 r1.1 zn r1.2.2.2.1 zb zh zj r1.2.2.2.2.1 r1.2.2.2.2.2 z13)
theorem Z6F (x1 : Int) (x5 : Bool) (x8 : Int) (x9 : Int) (zn : List Int) (zu : Int) (zb : Int) (zh : Int) (zj : List Zv) (z2 : Int) (z6 : Int) (b1 : Z7) (z13 : List Zc) (zp : Own) (zd : Own) (zE : Own) (zB : Own) (z1i : Own) (zy : okApp zd = true) (zS : okApp zE = true) (zL : okApp zB = true) : Sim (Z1c zn zb zh zj zp zd) (Z3O x1 x5 x8 x9 zn zu zb zh zj z2 z6 z13) (Zdb 1 (.ptr 0 0) (iv x1) (.ptr 1 0) (bv x5) (.ptr 2 0) (.clo 58 [] [(.ptr 2 0)]) (iv x8) (iv x9) [(Zk (Zm.mk zn zu zb zh zj (Zl.mk z2 z6)) zp zd), (Zq b1 zE zB), [(.p (.lst z1i (z13.map Zz)))]]) := by
 unfold Z3O
 refine zf (Zh8 ..) ?_
 refine ze ?_
 refine zi fun r1 hr1 => ?_
 obtain ⟨qr1, er1, exr1, rfl⟩ := Z7y (zn) (zu) (zb) (zh) (zj) (z2) (z6) zp zd zy r1 hr1
 refine zc [0] (.p (.tup [(.v (.int .i64 r1.1)), (.lst r1.2.1.1 (r1.2.1.2.map Zz)), (.v (.bool r1.2.2.1))])) [(Zk (Zm.mk zn r1.2.2.2.1 zb zh zj (Zl.mk r1.2.2.2.2.1 r1.2.2.2.2.2)) zp zd), (Zq b1 zE zB), [(.p (.lst z1i (z13.map Zz)))]] er1 ?_
 refine zo (iv r1.1) ?_
 refine zo (.p (.lst (shrO r1.2.1.1) (r1.2.1.2.map Zz))) ?_
 refine zo (bv r1.2.2.1) ?_
 refine ze ?_
 refine zi fun a2 ha2 => ?_
 refine zo (bv (!a2)) ?_ (Eq.trans (by kernel_rfl) (xnil_neq (P := PP) (t := 23) (c := .slice none 0 0) (e := Zz) (by kernel_rfl) ha2))
 refine za ((!a2)) ?_ ?_
 ·refine ze ?_
  refine zi fun r3 hr3 => ?_
  obtain ⟨qr3, er3, exr3, rfl⟩ := Z2S (r1.2.2.1) (r1.2.1.2) .sh r3 hr3
  refine zc [] (.p (.agg (ZC r3 .sh .sh))) [(Zk (Zm.mk zn r1.2.2.2.1 zb zh zj (Zl.mk r1.2.2.2.2.1 r1.2.2.2.2.2)) zp zd), (Zq b1 zE zB), [(.p (.lst z1i (z13.map Zz)))]] er3 ?_
  refine zz (.ptr 3 0) [(Zk (Zm.mk zn r1.2.2.2.1 zb zh zj (Zl.mk r1.2.2.2.2.1 r1.2.2.2.2.2)) zp zd), (Zq b1 zE zB), [(.p (.lst z1i (z13.map Zz)))], (Zq (Z7.mk 0 0 0 0 0 ([] : List Zc) ([] : List Z7)) .nl .nl)] ?_
  refine zt [(Zk (Zm.mk zn r1.2.2.2.1 zb zh zj (Zl.mk r1.2.2.2.2.1 r1.2.2.2.2.2)) zp zd), (Zq b1 zE zB), [(.p (.lst z1i (z13.map Zz)))], (Zq r3 .sh .sh)] ?_
  refine ze ?_
  refine zo (.ptr 3 5) ?_
  refine zo (.p (.lst .sh (r3.Set.map Zz))) ?_
  refine zi fun r4 hr4 => ?_
  obtain ⟨qr4, er4, or4_0_0, exr4, rfl⟩ := Z7e (r3.Set) (z13) .sh z1i r4 hr4
  refine zv [2] (.p (.tup [])) [(Zk (Zm.mk zn r1.2.2.2.1 zb zh zj (Zl.mk r1.2.2.2.2.1 r1.2.2.2.2.2)) zp zd), (Zq b1 zE zB), [(.p (.lst or4_0_0 (r4.map Zz)))], (Zq r3 .sh .sh)] er4 ?_
  refine ze ?_
  refine zi fun r5 hr5 => ?_
  obtain ⟨qr5, er5, exr5, rfl⟩ := Z1M ((Zm.mk zn r1.2.2.2.1 zb zh zj (Zl.mk r1.2.2.2.2.1 r1.2.2.2.2.2))) zp zd zy r5 hr5
  refine zc [0] (iv r5) [(Zk (Zm.mk zn r1.2.2.2.1 zb zh zj (Zl.mk r1.2.2.2.2.1 r1.2.2.2.2.2)) zp zd), (Zq b1 zE zB), [(.p (.lst or4_0_0 (r4.map Zz)))], (Zq r3 .sh .sh)] er5 ?_
  refine zo (bv (r5 == 45)) ?_
  refine za ((r5 == 45)) ?_ ?_
  ·refine ze ?_
   refine zo (.ptr 0 0) ?_
   refine zo (.ptr 0 1) ?_
   refine zo (iv r1.2.2.2.1) ?_
   refine zi fun r6 hr6 => ?_
   obtain ⟨qr6, er6, exr6, rfl⟩ := ZY (22) (r1.2.2.2.1) (zn) (r1.2.2.2.1) (zb) (zh) (zj) (r1.2.2.2.2.1) (r1.2.2.2.2.2) zp zd zy r6 hr6
   refine zc [0] (.p (.tup [])) [(Zk (Zm.mk zn r6.1 zb zh zj (Zl.mk r6.2.1 r6.2.2)) zp zd), (Zq b1 zE zB), [(.p (.lst or4_0_0 (r4.map Zz)))], (Zq r3 .sh .sh)] er6 ?_
   exact zk (Z1K (x1) (x5) (x8) (zn) (r6.1) (zb) (zh) (zj) (r6.2.1) (r6.2.2) (b1) (r4) zp zd zE zB or4_0_0 zy zS zL)
  ·exact zk (Z1K (x1) (x5) (x8) (zn) (r1.2.2.2.1) (zb) (zh) (zj) (r1.2.2.2.2.1) (r1.2.2.2.2.2) (b1) (r4) zp zd zE zB or4_0_0 zy zS zL)
 ·exact zk (Z9s (x1) (x5) (x8) (x9) (r1.1) (zn) (r1.2.2.2.1) (zb) (zh) (zj) (r1.2.2.2.2.1) (r1.2.2.2.2.2) (b1) (z13) zp zd zE zB z1i zy zS zL)
noncomputable def Z3a (x1 : Int) (x5 : Bool) (x8 : Int) (zn : List Int) (zu : Int) (zb : Int) (zh : Int) (zj : List Zv) (z2 : Int) (z6 : Int) (z13 : List Zc) : Option (Z7 × Int × Int × Int) :=
 (Z1J ((Zm.mk zn zu zb zh zj (Zl.mk z2 z6)))).bind fun r1 =>
 if ((r1 == (-1))) = true then
 ((ZV 22 x1 zn z2 z6).bind fun r2 =>
 Z1h x1 x5 x8 zn r2.1 zb zh zj r2.2.1 r2.2.2 z13)
 else
 (if ((r1 == 93)) = true then
 (if ((x8 == 0)) = true then
 ((ZV 22 x1 zn z2 z6).bind fun r3 =>
 Z1h x1 x5 x8 zn r3.1 zb zh zj r3.2.1 r3.2.2 z13)
 else
 (Z4M x5 zn zu z2 z6 z13))
 else
 (if ((r1 == 91)) = true then
 (if ((r1 == 91)) = true then
 ((ZV 22 zu zn z2 z6).bind fun r4 =>
 Z1h x1 x5 x8 zn r4.1 zb zh zj r4.2.1 r4.2.2 z13)
 else
 (Z3O x1 x5 x8 zu zn zu zb zh zj z2 z6 z13))
 else
 (if ((r1 == 45)) = true then
 ((ZV 22 zu zn z2 z6).bind fun r5 =>
 Z1h x1 x5 x8 zn r5.1 zb zh zj r5.2.1 r5.2.2 z13)
 else
 (Z3O x1 x5 x8 zu zn zu zb zh zj z2 z6 z13))))
theorem Z9S (x1 : Int) (x5 : Bool) (x8 : Int) (zn : List Int) (zu : Int) (zb : Int) (zh : Int) (zj : List Zv) (z2 : Int) (z6 : Int) (b1 : Z7) (z13 : List Zc) (zp : Own) (zd : Own) (zE : Own) (zB : Own) (z1i : Own) (zy : okApp zd = true) (zS : okApp zE = true) (zL : okApp zB = true) : Sim (Z1c zn zb zh zj zp zd) (Z3a x1 x5 x8 zn zu zb zh zj z2 z6 z13) (Zfx 1 (.ptr 0 0) (iv x1) (.ptr 1 0) (bv x5) (.ptr 2 0) (.clo 58 [] [(.ptr 2 0)]) (iv x8) [(Zk (Zm.mk zn zu zb zh zj (Zl.mk z2 z6)) zp zd), (Zq b1 zE zB), [(.p (.lst z1i (z13.map Zz)))]]) := by
 unfold Z3a
 refine zf (ZhH ..) ?_
 refine ze ?_
 refine zo (.ptr 0 0) ?_
 refine zo (.ptr 0 1) ?_
 refine zo (iv zu) ?_
 refine ze ?_
 refine zi fun r1 hr1 => ?_
 obtain ⟨qr1, er1, exr1, rfl⟩ := Z1M ((Zm.mk zn zu zb zh zj (Zl.mk z2 z6))) zp zd zy r1 hr1
 refine zc [0] (iv r1) [(Zk (Zm.mk zn zu zb zh zj (Zl.mk z2 z6)) zp zd), (Zq b1 zE zB), [(.p (.lst z1i (z13.map Zz)))]] er1 ?_
 refine ze ?_
 refine ze ?_
 refine zo (bv (r1 == (-1))) ?_
 refine za ((r1 == (-1))) ?_ ?_
 ·refine ze ?_
  refine zi fun r2 hr2 => ?_
  obtain ⟨qr2, er2, exr2, rfl⟩ := ZY (22) (x1) (zn) (zu) (zb) (zh) (zj) (z2) (z6) zp zd zy r2 hr2
  refine zc [0] (.p (.tup [])) [(Zk (Zm.mk zn r2.1 zb zh zj (Zl.mk r2.2.1 r2.2.2)) zp zd), (Zq b1 zE zB), [(.p (.lst z1i (z13.map Zz)))]] er2 ?_
  exact zk (Z1K (x1) (x5) (x8) (zn) (r2.1) (zb) (zh) (zj) (r2.2.1) (r2.2.2) (b1) (z13) zp zd zE zB z1i zy zS zL)
 ·refine ze ?_
  refine zo (bv (r1 == 93)) ?_
  refine za ((r1 == 93)) ?_ ?_
  ·refine ze ?_
   refine zo (bv (x8 == 0)) ?_
   refine za ((x8 == 0)) ?_ ?_
   ·refine ze ?_
    refine zi fun r3 hr3 => ?_
    obtain ⟨qr3, er3, exr3, rfl⟩ := ZY (22) (x1) (zn) (zu) (zb) (zh) (zj) (z2) (z6) zp zd zy r3 hr3
    refine zc [0] (.p (.tup [])) [(Zk (Zm.mk zn r3.1 zb zh zj (Zl.mk r3.2.1 r3.2.2)) zp zd), (Zq b1 zE zB), [(.p (.lst z1i (z13.map Zz)))]] er3 ?_
    exact zk (Z1K (x1) (x5) (x8) (zn) (r3.1) (zb) (zh) (zj) (r3.2.1) (r3.2.2) (b1) (z13) zp zd zE zB z1i zy zS zL)
   ·exact zk (Z9x (x5) (zn) (zu) (zb) (zh) (zj) (z2) (z6) (b1) (z13) zp zd zE zB z1i zy zS zL)
  ·refine ze ?_
   refine zo (bv (r1 == 91)) ?_
   refine za ((r1 == 91)) ?_ ?_
   ·refine za ((r1 == 91)) ?_ ?_
    ·refine ze ?_
     refine zi fun r4 hr4 => ?_
     obtain ⟨qr4, er4, exr4, rfl⟩ := ZY (22) (zu) (zn) (zu) (zb) (zh) (zj) (z2) (z6) zp zd zy r4 hr4
     refine zc [0] (.p (.tup [])) [(Zk (Zm.mk zn r4.1 zb zh zj (Zl.mk r4.2.1 r4.2.2)) zp zd), (Zq b1 zE zB), [(.p (.lst z1i (z13.map Zz)))]] er4 ?_
     exact zk (Z1K (x1) (x5) (x8) (zn) (r4.1) (zb) (zh) (zj) (r4.2.1) (r4.2.2) (b1) (z13) zp zd zE zB z1i zy zS zL)
    ·exact zk (Z6F (x1) (x5) (x8) (zu) (zn) (zu) (zb) (zh) (zj) (z2) (z6) (b1) (z13) zp zd zE zB z1i zy zS zL)
   ·refine ze ?_
    refine zo (bv (r1 == 45)) ?_
    refine za ((r1 == 45)) ?_ ?_
    ·refine ze ?_
     refine zi fun r5 hr5 => ?_
     obtain ⟨qr5, er5, exr5, rfl⟩ := ZY (22) (zu) (zn) (zu) (zb) (zh) (zj) (z2) (z6) zp zd zy r5 hr5
     refine zc [0] (.p (.tup [])) [(Zk (Zm.mk zn r5.1 zb zh zj (Zl.mk r5.2.1 r5.2.2)) zp zd), (Zq b1 zE zB), [(.p (.lst z1i (z13.map Zz)))]] er5 ?_
     exact zk (Z1K (x1) (x5) (x8) (zn) (r5.1) (zb) (zh) (zj) (r5.2.1) (r5.2.2) (b1) (z13) zp zd zE zB z1i zy zS zL)
    ·exact zk (Z6F (x1) (x5) (x8) (zu) (zn) (zu) (zb) (zh) (zj) (z2) (z6) (b1) (z13) zp zd zE zB z1i zy zS zL)
noncomputable def Z5R (zu : Int) (z2 : Int) (z6 : Int) : Option (Z7 × Int × Int × Int) :=
 some ((Z7.mk 0 0 0 0 0 ([] : List Zc) ([] : List Z7)), zu, z2, z6)
theorem Z9D (zn : List Int) (zu : Int) (zb : Int) (zh : Int) (zj : List Zv) (z2 : Int) (z6 : Int) (b1 : Z7) (zp : Own) (zd : Own) (zE : Own) (zB : Own) (zy : okApp zd = true) (zS : okApp zE = true) (zL : okApp zB = true) : Sim (Z1c zn zb zh zj zp zd) (Z5R zu z2 z6) (Zeo 1 (.ptr 1 0) [(Zk (Zm.mk zn zu zb zh zj (Zl.mk z2 z6)) zp zd), (Zq b1 zE zB)]) := by
 unfold Z5R
 refine zf (ZgN ..) ?_
 refine ze ?_
 refine zo (.p (.agg (ZC (Z7.mk 0 0 0 0 0 ([] : List Zc) ([] : List Z7)) .nl .nl))) ?_
 refine zt [(Zk (Zm.mk zn zu zb zh zj (Zl.mk z2 z6)) zp zd), (Zq (Z7.mk 0 0 0 0 0 ([] : List Zc) ([] : List Z7)) .nl .nl)] ?_
 exact zr ((.p (.agg (ZC (Z7.mk 0 0 0 0 0 ([] : List Zc) ([] : List Z7)) .sh .sh))), [(Zk (Zm.mk zn zu zb zh zj (Zl.mk z2 z6)) zp zd), (Zq (Z7.mk 0 0 0 0 0 ([] : List Zc) ([] : List Z7)) .nl .nl)]) ⟨_, rfl⟩
noncomputable def Z42 (x1 : Int) (x5 : Bool) (x8 : Int) (zn : List Int) (zu : Int) (zb : Int) (zh : Int) (zj : List Zv) (z2 : Int) (z6 : Int) (z13 : List Zc) : Option (Z7 × Int × Int × Int) :=
 if ((z2 == 0)) = true then
 (Z3a x1 x5 x8 zn zu zb zh zj z2 z6 z13)
 else
 (Z5R zu z2 z6)
theorem Za1 (x1 : Int) (x5 : Bool) (x8 : Int) (zn : List Int) (zu : Int) (zb : Int) (zh : Int) (zj : List Zv) (z2 : Int) (z6 : Int) (b1 : Z7) (z13 : List Zc) (zp : Own) (zd : Own) (zE : Own) (zB : Own) (z1i : Own) (zy : okApp zd = true) (zS : okApp zE = true) (zL : okApp zB = true) : Sim (Z1c zn zb zh zj zp zd) (Z42 x1 x5 x8 zn zu zb zh zj z2 z6 z13) (ZbL 1 (.ptr 0 0) (iv x1) (.ptr 1 0) (bv x5) (.ptr 2 0) (.clo 58 [] [(.ptr 2 0)]) (iv x8) [(Zk (Zm.mk zn zu zb zh zj (Zl.mk z2 z6)) zp zd), (Zq b1 zE zB), [(.p (.lst z1i (z13.map Zz)))]]) := by
 unfold Z42
 refine zf (Zip ..) ?_
 refine ze ?_
 refine zo (.ptr 0 0) ?_
 refine zo (.ptr 0 5) ?_
 refine zo (.ptr 0 5) ?_
 refine zo (iv z2) ?_
 refine zo (bv (z2 == 0)) ?_
 refine za ((z2 == 0)) ?_ ?_
 ·exact zk (Z9S (x1) (x5) (x8) (zn) (zu) (zb) (zh) (zj) (z2) (z6) (b1) (z13) zp zd zE zB z1i zy zS zL)
 ·exact zk (Z9D (zn) (zu) (zb) (zh) (zj) (z2) (z6) (b1) zp zd zE zB zy zS zL)
theorem Z6V (x1 : Int) (x5 : Bool) (x8 : Int) (zn : List Int) (zu : Int) (zb : Int) (zh : Int) (zj : List Zv) (z2 : Int) (z6 : Int) (z13 : List Zc) {r} (h : Z42 x1 x5 x8 zn zu zb zh zj z2 z6 z13 = some r) : Z2Q x1 x5 x8 zn zu zb zh zj z2 z6 z13 = some r :=
 pick_of (fun _ _ ha hb => RRun.uniq (Z8n _ _ _ _ _ _) (ha default .ex .ex .ex .ex .ex rfl rfl rfl) (hb default .ex .ex .ex .ex .ex rfl rfl rfl)) (fun b1 zp zd zE zB z1i zy zS zL => Za1 x1 x5 x8 zn zu zb zh zj z2 z6 b1 z13 zp zd zE zB z1i zy zS zL r h)
noncomputable def Z3x (x2 : Int) (x5 : Int) (zn : List Int) (zu : Int) (zb : Int) (zh : Int) (zj : List Zv) (z2 : Int) (z6 : Int) : Option (Int × (Own × (List Zc)) × Bool × Int × Int × Int) :=
 (Z4O x2 x5 zn zu zb zh zj z2 z6).bind fun r1 =>
 some (r1.1, (.nl, ([] : List Zc)), false, r1.2.1, r1.2.2.1, r1.2.2.2)
theorem Z9k (x2 : Int) (x5 : Int) (zn : List Int) (zu : Int) (zb : Int) (zh : Int) (zj : List Zv) (z2 : Int) (z6 : Int) (zp : Own) (zd : Own) (zy : okApp zd = true) : Sim (Z2G zn zb zh zj zp zd) (Z3x x2 x5 zn zu zb zh zj z2 z6) (Zey 1 (.ptr 0 0) (iv x2) (iv x5) [(Zk (Zm.mk zn zu zb zh zj (Zl.mk z2 z6)) zp zd)]) := by
 unfold Z3x
 refine zf (Zh7 ..) ?_
 refine ze ?_
 refine zi fun r1 hr1 => ?_
 obtain ⟨qr1, er1, exr1, rfl⟩ := Z80 (x2) (x5) (zn) (zu) (zb) (zh) (zj) (z2) (z6) zp zd zy r1 hr1
 refine zc [0] (iv r1.1) [(Zk (Zm.mk zn r1.2.1 zb zh zj (Zl.mk r1.2.2.1 r1.2.2.2)) zp zd)] er1 ?_
 exact zr ((.p (.tup [(.v (.int .i64 r1.1)), (.lst .nl []), (.v (.bool false))])), [(Zk (Zm.mk zn r1.2.1 zb zh zj (Zl.mk r1.2.2.1 r1.2.2.2)) zp zd)]) ⟨_, rfl⟩
noncomputable def Z4L (x2 : Int) (x5 : Int) (zn : List Int) (zu : Int) (zb : Int) (zh : Int) (zj : List Zv) (z2 : Int) (z6 : Int) : Option (Int × (Own × (List Zc)) × Bool × Int × Int × Int) :=
 (Z27 zn zu).bind fun r1 =>
 (Z4W x2).bind fun r2 =>
 (nilO (shrO r2.1) r2.2).bind fun a3 =>
 if ((!a3)) = true then
 (some (0, ((shrO r2.1), r2.2), (decide (x2 < 97)), r1.2, z2, z6))
 else
 (Z3x x2 x5 zn r1.2 zb zh zj z2 z6)
theorem Z9t (x2 : Int) (x5 : Int) (zn : List Int) (zu : Int) (zb : Int) (zh : Int) (zj : List Zv) (z2 : Int) (z6 : Int) (zp : Own) (zd : Own) (zy : okApp zd = true) : Sim (Z2G zn zb zh zj zp zd) (Z4L x2 x5 zn zu zb zh zj z2 z6) (Zfc 1 (.ptr 0 0) (iv x2) (iv x5) [(Zk (Zm.mk zn zu zb zh zj (Zl.mk z2 z6)) zp zd)]) := by
 unfold Z4L
 refine zf (ZhB ..) ?_
 refine ze ?_
 refine zi fun r1 hr1 => ?_
 obtain ⟨qr1, er1, exr1, rfl⟩ := Z2t (zn) (zu) (zb) (zh) (zj) (z2) (z6) zp zd zy r1 hr1
 refine zc [0] (iv r1.1) [(Zk (Zm.mk zn r1.2 zb zh zj (Zl.mk z2 z6)) zp zd)] er1 ?_
 refine ze ?_
 refine zi fun r2 hr2 => ?_
 obtain ⟨qr2, er2, exr2, rfl⟩ := Z6U (x2) r2 hr2
 refine zc [] (.p (.lst r2.1 (r2.2.map Zz))) [(Zk (Zm.mk zn r1.2 zb zh zj (Zl.mk z2 z6)) zp zd)] er2 ?_
 refine ze ?_
 refine zi fun a3 ha3 => ?_
 refine zo (bv (!a3)) ?_ (Eq.trans (by kernel_rfl) (xnil_neq (P := PP) (t := 23) (c := .slice none 0 0) (e := Zz) (by kernel_rfl) ha3))
 refine za ((!a3)) ?_ ?_
 ·refine ze ?_
  refine zo (bv (decide (x2 < 97))) ?_
  exact zr ((.p (.tup [(.v (.int .i64 0)), (.lst (shrO r2.1) (r2.2.map Zz)), (.v (.bool (decide (x2 < 97))))])), [(Zk (Zm.mk zn r1.2 zb zh zj (Zl.mk z2 z6)) zp zd)]) ⟨_, rfl⟩
 ·exact zk (Z9k (x2) (x5) (zn) (r1.2) (zb) (zh) (zj) (z2) (z6) zp zd zy)
noncomputable def Z4Q (x5 : Int) (zn : List Int) (zu : Int) (zb : Int) (zh : Int) (zj : List Zv) (z2 : Int) (z6 : Int) : Option (Int × (Own × (List Zc)) × Bool × Int × Int × Int) :=
 (Z1J ((Zm.mk zn zu zb zh zj (Zl.mk z2 z6)))).bind fun r1 =>
 if ((decide (r1 < 0))) = true then
 ((ZV 21 x5 zn z2 z6).bind fun r2 =>
 some (0, (.nl, ([] : List Zc)), false, r2.1, r2.2.1, r2.2.2))
 else
 (Z4L r1 x5 zn zu zb zh zj z2 z6)
theorem Z9A (x5 : Int) (zn : List Int) (zu : Int) (zb : Int) (zh : Int) (zj : List Zv) (z2 : Int) (z6 : Int) (zp : Own) (zd : Own) (zy : okApp zd = true) : Sim (Z2G zn zb zh zj zp zd) (Z4Q x5 zn zu zb zh zj z2 z6) (Zgc 1 (.ptr 0 0) (iv x5) [(Zk (Zm.mk zn zu zb zh zj (Zl.mk z2 z6)) zp zd)]) := by
 unfold Z4Q
 refine zf (Zi2 ..) ?_
 refine ze ?_
 refine zi fun r1 hr1 => ?_
 obtain ⟨qr1, er1, exr1, rfl⟩ := Z1M ((Zm.mk zn zu zb zh zj (Zl.mk z2 z6))) zp zd zy r1 hr1
 refine zc [0] (iv r1) [(Zk (Zm.mk zn zu zb zh zj (Zl.mk z2 z6)) zp zd)] er1 ?_
 refine ze ?_
 refine zo (bv (decide (r1 < 0))) ?_
 refine za ((decide (r1 < 0))) ?_ ?_
 ·refine ze ?_
  refine zi fun r2 hr2 => ?_
  obtain ⟨qr2, er2, exr2, rfl⟩ := ZY (21) (x5) (zn) (zu) (zb) (zh) (zj) (z2) (z6) zp zd zy r2 hr2
  refine zc [0] (.p (.tup [])) [(Zk (Zm.mk zn r2.1 zb zh zj (Zl.mk r2.2.1 r2.2.2)) zp zd)] er2 ?_
  refine ze ?_
  exact zr ((.p (.tup [(.v (.int .i64 0)), (.lst .nl []), (.v (.bool false))])), [(Zk (Zm.mk zn r2.1 zb zh zj (Zl.mk r2.2.1 r2.2.2)) zp zd)]) ⟨_, rfl⟩
 ·exact zk (Z9t (r1) (x5) (zn) (zu) (zb) (zh) (zj) (z2) (z6) zp zd zy)
noncomputable def Z4t (zn : List Int) (zu : Int) (zb : Int) (zh : Int) (zj : List Zv) (z2 : Int) (z6 : Int) : Option (Int × (Own × (List Zc)) × Bool × Int × Int × Int) :=
 (Z27 zn zu).bind fun r1 =>
 if ((r1.1 != 92)) = true then
 (some (r1.1, (.nl, ([] : List Zc)), false, r1.2, z2, z6))
 else
 (Z4Q zu zn r1.2 zb zh zj z2 z6)
theorem Zak (zn : List Int) (zu : Int) (zb : Int) (zh : Int) (zj : List Zv) (z2 : Int) (z6 : Int) (zp : Own) (zd : Own) (zy : okApp zd = true) : Sim (Z2G zn zb zh zj zp zd) (Z4t zn zu zb zh zj z2 z6) (EE 60 [(.ptr 0 0)] [(Zk (Zm.mk zn zu zb zh zj (Zl.mk z2 z6)) zp zd)]) := by
 unfold Z4t
 refine zf (ZjI ..) ?_
 refine ze ?_
 refine ze ?_
 refine zo (.ptr 0 0) ?_
 refine zo (.ptr 0 1) ?_
 refine zo (iv zu) ?_
 refine ze ?_
 refine zi fun r1 hr1 => ?_
 obtain ⟨qr1, er1, exr1, rfl⟩ := Z2t (zn) (zu) (zb) (zh) (zj) (z2) (z6) zp zd zy r1 hr1
 refine zc [0] (iv r1.1) [(Zk (Zm.mk zn r1.2 zb zh zj (Zl.mk z2 z6)) zp zd)] er1 ?_
 refine ze ?_
 refine zo (bv (r1.1 != 92)) ?_
 refine za ((r1.1 != 92)) ?_ ?_
 ·refine ze ?_
  exact zr ((.p (.tup [(.v (.int .i64 r1.1)), (.lst .nl []), (.v (.bool false))])), [(Zk (Zm.mk zn r1.2 zb zh zj (Zl.mk z2 z6)) zp zd)]) ⟨_, rfl⟩
 ·exact zk (Z9A (zu) (zn) (r1.2) (zb) (zh) (zj) (z2) (z6) zp zd zy)
theorem Z7x (zn : List Int) (zu : Int) (zb : Int) (zh : Int) (zj : List Zv) (z2 : Int) (z6 : Int) {r} (h : Z4t zn zu zb zh zj z2 z6 = some r) : Z3C zn zu zb zh zj z2 z6 = some r :=
 pick_of (fun _ _ ha hb => RRun.uniq (Zb2 _ _ _ _ _ _) (ha .ex .ex rfl) (hb .ex .ex rfl)) (fun zp zd zy => Zak zn zu zb zh zj z2 z6 zp zd zy r h)
end Go.Proofs.YtadodmjdkphddaaDoor.N2
end
