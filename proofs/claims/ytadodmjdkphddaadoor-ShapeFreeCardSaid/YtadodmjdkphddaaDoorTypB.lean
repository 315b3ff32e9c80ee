/- The functions' typed texts. No condition. -/
import Derived.Test.YtadodmjdkphddaaDoorTypA

section
set_option linter.unusedSimpArgs false
set_option linter.unusedVariables false
namespace Go.Proofs.YtadodmjdkphddaaDoor.N2
open Go Go.Abs
set_option linter.unusedVariables false
set_option maxRecDepth 100000
noncomputable def Z2y  : Option (Bool) :=
 some (true)
theorem Z4l  : Sim (Z1s) (Z2y) (ZcT 0  []) := by
 unfold Z2y
 refine zf (ZhQ ..) ?_
 refine ze ?_
 exact zr ((bv true), []) ⟨_, rfl⟩
noncomputable def Z2w  : Option (Bool) :=
 some (true)
theorem Z4k  : Sim (Z1s) (Z2w) (ZcY 0  []) := by
 unfold Z2w
 refine zf (ZhJ ..) ?_
 refine ze ?_
 exact zr ((bv true), []) ⟨_, rfl⟩
noncomputable def Z2p (x9 : Int) (x10 : Int) (x11 : Int) (x12 : Int) (x13 : Int) (b0 : ZC) (b2 : ZC) : Option (Bool) :=
 if ((x9 == x11)) = true then
 (if ((x10 == x12)) = true then
 ((Z25 b2.Root).bind fun r1 =>
 (Z25 b0.Root).bind fun r2 =>
 some ((r1 == (min (IntKind.i64.wrap (r2 + x13)) 1048576))))
 else
 (some (false)))
 else
 (some (false))
theorem Z5S (x9 : Int) (x10 : Int) (x11 : Int) (x12 : Int) (x13 : Int) (b0 : ZC) (b1 : Zj) (b2 : ZC) (zH : Own) (zG : Own) (z27 : Own) (z1U : Own) : Sim (Z1s) (Z2p x9 x10 x11 x12 x13 b0 b2) (Zdd 0 (.ptr 0 0) (.ptr 2 0) (iv x9) (iv x10) (iv x11) (iv x12) (iv x13) [(Zw b0 zH zG), (ZE b1), (Zw b2 z27 z1U)]) := by
 unfold Z2p
 refine zf (Zhx ..) ?_
 refine ze ?_
 refine zo (bv (x9 == x11)) ?_
 refine za ((x9 == x11)) ?_ ?_
 ·refine zo (bv (x10 == x12)) ?_
  refine za ((x10 == x12)) ?_ ?_
  ·refine zo (.ptr 2 0) ?_
   refine zo (.p (.agg (Zz b2.Root (shrO z27) (shrO z1U)))) ?_
   refine zi fun r1 hr1 => ?_
   obtain ⟨qr1, er1, exr1, rfl⟩ := Z6q (b2.Root) .sh .sh r1 hr1
   refine zc [] (iv r1) [(Zw b0 zH zG), (ZE b1), (Zw b2 z27 z1U)] er1 ?_
   refine zo (.ptr 0 0) ?_
   refine zo (.p (.agg (Zz b0.Root (shrO zH) (shrO zG)))) ?_
   refine zi fun r2 hr2 => ?_
   obtain ⟨qr2, er2, exr2, rfl⟩ := Z6q (b0.Root) .sh .sh r2 hr2
   refine zc [] (iv r2) [(Zw b0 zH zG), (ZE b1), (Zw b2 z27 z1U)] er2 ?_
   refine zo (iv (IntKind.i64.wrap (r2 + x13))) ?_
   refine zo (iv (min (IntKind.i64.wrap (r2 + x13)) 1048576)) ?_ (xminmax2_min _ _)
   refine zo (bv (r1 == (min (IntKind.i64.wrap (r2 + x13)) 1048576))) ?_
   refine zg ?_
   exact zr ((bv (r1 == (min (IntKind.i64.wrap (r2 + x13)) 1048576))), [(Zw b0 zH zG), (ZE b1), (Zw b2 z27 z1U)]) ⟨_, rfl⟩
  ·refine zg ?_
   exact zr ((bv false), [(Zw b0 zH zG), (ZE b1), (Zw b2 z27 z1U)]) ⟨_, rfl⟩
 ·refine zg ?_
  exact zr ((bv false), [(Zw b0 zH zG), (ZE b1), (Zw b2 z27 z1U)]) ⟨_, rfl⟩
noncomputable def Z30 (x1 : Int) (x9 : Int) (x10 : Int) (x11 : Int) (x12 : Int) (x13 : Int) (b0 : ZC) (b2 : ZC) : Option (Bool) :=
 if ((x1 == 3)) = true then
 (Z2p 0 0 x11 x12 x13 b0 b2)
 else
 (Z2p x9 x10 x11 x12 x13 b0 b2)
theorem Z5R (x1 : Int) (x9 : Int) (x10 : Int) (x11 : Int) (x12 : Int) (x13 : Int) (b0 : ZC) (b1 : Zj) (b2 : ZC) (zH : Own) (zG : Own) (z27 : Own) (z1U : Own) : Sim (Z1s) (Z30 x1 x9 x10 x11 x12 x13 b0 b2) (Zdk 0 (iv x1) (.ptr 0 0) (.ptr 2 0) (iv x9) (iv x10) (iv x11) (iv x12) (iv x13) [(Zw b0 zH zG), (ZE b1), (Zw b2 z27 z1U)]) := by
 unfold Z30
 refine zf (Zha ..) ?_
 refine ze ?_
 refine zo (bv (x1 == 3)) ?_
 refine za ((x1 == 3)) ?_ ?_
 ·refine ze ?_
  exact zk (Z5S (0) (0) (x11) (x12) (x13) (b0) (b1) (b2) zH zG z27 z1U)
 ·exact zk (Z5S (x9) (x10) (x11) (x12) (x13) (b0) (b1) (b2) zH zG z27 z1U)
noncomputable def Z38 (x1 : Int) (b0 : ZC) (b2 : ZC) : Option (Bool) :=
 (Z1n b0.Root).bind fun r1 =>
 (Z1n b2.Root).bind fun r2 =>
 if ((x1 == 0)) = true then
 (Z30 x1 r1.1 r1.2 r2.1 r2.2 0 b0 b2)
 else
 (Z30 x1 r1.1 r1.2 r2.1 r2.2 2 b0 b2)
theorem Z8K (x1 : Int) (b0 : ZC) (b1 : Zj) (b2 : ZC) (zH : Own) (zG : Own) (z27 : Own) (z1U : Own) : Sim (Z1s) (Z38 x1 b0 b2) (Zfc 0 (iv x1) (.ptr 0 0) (.ptr 2 0) [(Zw b0 zH zG), (ZE b1), (Zw b2 z27 z1U)]) := by
 unfold Z38
 refine zf (Zi5 ..) ?_
 refine ze ?_
 refine zo (.ptr 0 0) ?_
 refine zo (.p (.agg (Zz b0.Root (shrO zH) (shrO zG)))) ?_
 refine zi fun r1 hr1 => ?_
 obtain ⟨qr1, er1, exr1, rfl⟩ := Z3g (b0.Root) .sh .sh r1 hr1
 refine zc [] (.p (.tup [(.v (.int .i64 r1.1)), (.v (.int .i64 r1.2))])) [(Zw b0 zH zG), (ZE b1), (Zw b2 z27 z1U)] er1 ?_
 refine zo (iv r1.1) ?_
 refine zo (iv r1.2) ?_
 refine ze ?_
 refine zo (.ptr 2 0) ?_
 refine zo (.p (.agg (Zz b2.Root (shrO z27) (shrO z1U)))) ?_
 refine zi fun r2 hr2 => ?_
 obtain ⟨qr2, er2, exr2, rfl⟩ := Z3g (b2.Root) .sh .sh r2 hr2
 refine zc [] (.p (.tup [(.v (.int .i64 r2.1)), (.v (.int .i64 r2.2))])) [(Zw b0 zH zG), (ZE b1), (Zw b2 z27 z1U)] er2 ?_
 refine zo (iv r2.1) ?_
 refine zo (iv r2.2) ?_
 refine ze ?_
 refine ze ?_
 refine zo (bv (x1 == 0)) ?_
 refine za ((x1 == 0)) ?_ ?_
 ·refine ze ?_
  exact zk (Z5R (x1) (r1.1) (r1.2) (r2.1) (r2.2) (0) (b0) (b1) (b2) zH zG z27 z1U)
 ·exact zk (Z5R (x1) (r1.1) (r1.2) (r2.1) (r2.2) (2) (b0) (b1) (b2) zH zG z27 z1U)
noncomputable def Z40 (x0 : ByteArray) (x1 : Int) : Option (Bool) :=
 (Z50 x0).bind fun r1 =>
 (lget ([(ByteArray.mk #[40, 63, 58]), (ByteArray.mk #[40, 63, 62]), (ByteArray.mk #[40]), (ByteArray.mk #[40, 63, 61])] : List ByteArray) x1).bind fun a2 =>
 (sadd a2 x0).bind fun a3 =>
 (sadd a3 (ByteArray.mk #[41])).bind fun a4 =>
 (Z50 a4).bind fun r5 =>
 if ((r1.2.Code != 0)) = true then
 (Z2w)
 else
 (if ((r5.2.Code != 0)) = true then
 (Z2w)
 else
 (if (r1.1.Fold) = true then
 (Z2w)
 else
 (Z38 x1 r1.1 r5.1)))
theorem Z8N (x0 : ByteArray) (x1 : Int) : Sim (Z1s) (Z40 x0 x1) (ZfT 0 (.p (.v (.string x0))) (iv x1) []) := by
 unfold Z40
 refine zf (Zid ..) ?_
 refine ze ?_
 refine zi fun r1 hr1 => ?_
 obtain ⟨qr1, er1, exr1, rfl⟩ := Z6X (x0) r1 hr1
 refine zc [] (.p (.tup [(.agg (Z1q r1.1 .sh .sh)), (.agg (Z1Y r1.2))])) [] er1 ?_
 refine zo (.p (.agg (Z1q r1.1 .sh .sh))) ?_
 refine zo (.p (.agg (Z1Y r1.2))) ?_
 refine zz (.ptr 0 0) [(Zw (ZC.mk (Z3.mk 0 0 0 0 0 ([] : List Z8) ([] : List Z3)) 0 false) .nl .nl)] ?_
 refine zz (.ptr 1 0) [(Zw (ZC.mk (Z3.mk 0 0 0 0 0 ([] : List Z8) ([] : List Z3)) 0 false) .nl .nl), (ZE (Zj.mk 0 0))] ?_
 refine zt [(Zw r1.1 .sh .sh), (ZE (Zj.mk 0 0))] ?_
 refine zt [(Zw r1.1 .sh .sh), (ZE r1.2)] ?_
 refine ze ?_
 refine zo (.p (.lst .ex (([(ByteArray.mk #[40, 63, 58]), (ByteArray.mk #[40, 63, 62]), (ByteArray.mk #[40]), (ByteArray.mk #[40, 63, 61])] : List ByteArray).map eS))) ?_
 refine zi fun a2 ha2 => ?_
 refine zo (.cptr [(.v (.string a2))]) ?_ (Eq.trans (by kernel_rfl) (xidx_of (o := .ex) (k := .i64) (n := 1) (e := eS) (cs := (fun a => [eS a])) (fun _ => rfl) (fun _ => rfl) (by decide) ha2))
 refine zo (.p (.v (.string a2))) ?_
 refine zi fun a3 ha3 => ?_
 refine zo (.p (.v (.string a3))) ?_ (Eq.trans (by kernel_rfl) (xsadd_of (P := PP) (t := 9) ha3))
 refine zi fun a4 ha4 => ?_
 refine zo (.p (.v (.string a4))) ?_ (Eq.trans (by kernel_rfl) (xsadd_of (P := PP) (t := 9) ha4))
 refine zi fun r5 hr5 => ?_
 obtain ⟨qr5, er5, exr5, rfl⟩ := Z6X (a4) r5 hr5
 refine zc [] (.p (.tup [(.agg (Z1q r5.1 .sh .sh)), (.agg (Z1Y r5.2))])) [(Zw r1.1 .sh .sh), (ZE r1.2)] er5 ?_
 refine zo (.p (.agg (Z1q r5.1 .sh .sh))) ?_
 refine zo (.p (.agg (Z1Y r5.2))) ?_
 refine zz (.ptr 2 0) [(Zw r1.1 .sh .sh), (ZE r1.2), (Zw (ZC.mk (Z3.mk 0 0 0 0 0 ([] : List Z8) ([] : List Z3)) 0 false) .nl .nl)] ?_
 refine zz (.ptr 3 0) [(Zw r1.1 .sh .sh), (ZE r1.2), (Zw (ZC.mk (Z3.mk 0 0 0 0 0 ([] : List Z8) ([] : List Z3)) 0 false) .nl .nl), (ZE (Zj.mk 0 0))] ?_
 refine zt [(Zw r1.1 .sh .sh), (ZE r1.2), (Zw r5.1 .sh .sh), (ZE (Zj.mk 0 0))] ?_
 refine zt [(Zw r1.1 .sh .sh), (ZE r1.2), (Zw r5.1 .sh .sh), (ZE r5.2)] ?_
 refine ze ?_
 refine zo (.ptr 1 0) ?_
 refine zo (iv r1.2.Code) ?_
 refine zo (bv (r1.2.Code != 0)) ?_
 refine za ((r1.2.Code != 0)) ?_ ?_
 ·exact zk (Z4k )
 ·refine zo (.ptr 3 0) ?_
  refine zo (iv r5.2.Code) ?_
  refine zo (bv (r5.2.Code != 0)) ?_
  refine za ((r5.2.Code != 0)) ?_ ?_
  ·exact zk (Z4k )
  ·refine zo (.ptr 0 8) ?_
   refine zo (bv r1.1.Fold) ?_
   refine za (r1.1.Fold) ?_ ?_
   ·exact zk (Z4k )
   ·exact zk (Z8K (x1) (r1.1) (r1.2) (r5.1) .sh .sh .sh .sh)
noncomputable def Z42 (x0 : ByteArray) (x1 : Int) : Option (Bool) :=
 if ((decide (100 < (x0.size : Int)))) = true then
 (Z2y)
 else
 (if ((decide (x1 < 0))) = true then
 (Z2y)
 else
 (if ((decide (3 < x1))) = true then
 (Z2y)
 else
 (Z40 x0 x1)))
theorem Z8C (x0 : ByteArray) (x1 : Int) : Sim (Z1s) (Z42 x0 x1) (Zfw 0 (.p (.v (.string x0))) (iv x1) []) := by
 unfold Z42
 refine zf (Zj4 ..) ?_
 refine ze ?_
 refine zo (iv (x0.size : Int)) ?_
 refine zo (bv (decide (100 < (x0.size : Int)))) ?_
 refine za ((decide (100 < (x0.size : Int)))) ?_ ?_
 ·exact zk (Z4l )
 ·refine zo (bv (decide (x1 < 0))) ?_
  refine za ((decide (x1 < 0))) ?_ ?_
  ·exact zk (Z4l )
  ·refine zo (bv (decide (3 < x1))) ?_
   refine za ((decide (3 < x1))) ?_ ?_
   ·exact zk (Z4l )
   ·exact zk (Z8N (x0) (x1))
noncomputable def Z4C (x0 : ByteArray) (x1 : Int) : Option (Bool) :=
 (Z5f).bind fun r1 =>
 if ((!r1)) = true then
 (some (false))
 else
 (Z42 x0 x1)
theorem Z9m (x0 : ByteArray) (x1 : Int) : Sim (Z1s) (Z4C x0 x1) (EE 14 [(.p (.v (.string x0))), (iv x1)] []) := by
 unfold Z4C
 refine zf (Zl9 ..) ?_
 refine ze ?_
 refine ze ?_
 refine zi fun r1 hr1 => ?_
 obtain ⟨qr1, er1, exr1, rfl⟩ := Zam  r1 hr1
 refine zc [] (bv r1) [] er1 ?_
 refine zo (bv (!r1)) ?_
 refine za ((!r1)) ?_ ?_
 ·refine ze ?_
  exact zr ((bv false), []) ⟨_, rfl⟩
 ·exact zk (Z8C (x0) (x1))
theorem Z9D (x0 : ByteArray) (x1 : Int) {r} (h : Z4C x0 x1 = some r) : Z5Q x0 x1 = some r :=
 pick_of (fun _ _ ha hb => RRun.uniq (Z9T) (ha ) (hb )) (Z9m x0 x1 r h)
noncomputable def Z5m  : Option (Bool) :=
 (Z50 ((ByteArray.mk #[97, 123, 50, 44, 51, 125, 124, 98, 42]))).bind fun r1 =>
 (Z1n r1.1.Root).bind fun r2 =>
 (Z50 ((ByteArray.mk #[97, 42]))).bind fun r3 =>
 if ((r1.2.Code == 0)) = true then
 (if ((r3.2.Code == 0)) = true then
 (if ((r2.1 == 0)) = true then
 (if ((r2.2 == (-1))) = true then
 ((Z25 r1.1.Root).bind fun r4 =>
 if ((r4 == 11)) = true then
 ((Z8z r1.1).bind fun r5 =>
 some ((r5 == 0)))
 else
 (some (false)))
 else
 (some (false)))
 else
 (some (false)))
 else
 (some (false)))
 else
 (some (false))
theorem Za8  : Sim (Z4f) (Z5m) (EE 23 [] []) := by
 unfold Z5m
 refine zf (Zju ..) ?_
 refine ze ?_
 refine ze ?_
 refine zi fun r1 hr1 => ?_
 obtain ⟨qr1, er1, exr1, rfl⟩ := Z6X ((ByteArray.mk #[97, 123, 50, 44, 51, 125, 124, 98, 42])) r1 hr1
 refine zc [] (.p (.tup [(.agg (Z1q r1.1 .sh .sh)), (.agg (Z1Y r1.2))])) [] er1 ?_
 refine zo (.p (.agg (Z1q r1.1 .sh .sh))) ?_
 refine zo (.p (.agg (Z1Y r1.2))) ?_
 refine zz (.ptr 0 0) [(Zw (ZC.mk (Z3.mk 0 0 0 0 0 ([] : List Z8) ([] : List Z3)) 0 false) .nl .nl)] ?_
 refine zz (.ptr 1 0) [(Zw (ZC.mk (Z3.mk 0 0 0 0 0 ([] : List Z8) ([] : List Z3)) 0 false) .nl .nl), (ZE (Zj.mk 0 0))] ?_
 refine zt [(Zw r1.1 .sh .sh), (ZE (Zj.mk 0 0))] ?_
 refine zt [(Zw r1.1 .sh .sh), (ZE r1.2)] ?_
 refine ze ?_
 refine zo (.ptr 0 0) ?_
 refine zo (.p (.agg (Zz r1.1.Root .sh .sh))) ?_
 refine zi fun r2 hr2 => ?_
 obtain ⟨qr2, er2, exr2, rfl⟩ := Z3g (r1.1.Root) .sh .sh r2 hr2
 refine zc [] (.p (.tup [(.v (.int .i64 r2.1)), (.v (.int .i64 r2.2))])) [(Zw r1.1 .sh .sh), (ZE r1.2)] er2 ?_
 refine zo (iv r2.1) ?_
 refine zo (iv r2.2) ?_
 refine ze ?_
 refine zi fun r3 hr3 => ?_
 obtain ⟨qr3, er3, exr3, rfl⟩ := Z6X ((ByteArray.mk #[97, 42])) r3 hr3
 refine zc [] (.p (.tup [(.agg (Z1q r3.1 .sh .sh)), (.agg (Z1Y r3.2))])) [(Zw r1.1 .sh .sh), (ZE r1.2)] er3 ?_
 refine zo (.p (.agg (Z1q r3.1 .sh .sh))) ?_
 refine zo (.p (.agg (Z1Y r3.2))) ?_
 refine zz (.ptr 2 0) [(Zw r1.1 .sh .sh), (ZE r1.2), (Zw (ZC.mk (Z3.mk 0 0 0 0 0 ([] : List Z8) ([] : List Z3)) 0 false) .nl .nl)] ?_
 refine zz (.ptr 3 0) [(Zw r1.1 .sh .sh), (ZE r1.2), (Zw (ZC.mk (Z3.mk 0 0 0 0 0 ([] : List Z8) ([] : List Z3)) 0 false) .nl .nl), (ZE (Zj.mk 0 0))] ?_
 refine zt [(Zw r1.1 .sh .sh), (ZE r1.2), (Zw r3.1 .sh .sh), (ZE (Zj.mk 0 0))] ?_
 refine zt [(Zw r1.1 .sh .sh), (ZE r1.2), (Zw r3.1 .sh .sh), (ZE r3.2)] ?_
 refine ze ?_
 refine zo (.ptr 1 0) ?_
 refine zo (iv r1.2.Code) ?_
 refine zo (bv (r1.2.Code == 0)) ?_
 refine za ((r1.2.Code == 0)) ?_ ?_
 ·refine zo (.ptr 3 0) ?_
  refine zo (iv r3.2.Code) ?_
  refine zo (bv (r3.2.Code == 0)) ?_
  refine za ((r3.2.Code == 0)) ?_ ?_
  ·refine zo (bv (r2.1 == 0)) ?_
   refine za ((r2.1 == 0)) ?_ ?_
   ·refine zo (bv (r2.2 == (-1))) ?_
    refine za ((r2.2 == (-1))) ?_ ?_
    ·refine zo (.ptr 0 0) ?_
     refine zo (.p (.agg (Zz r1.1.Root .sh .sh))) ?_
     refine zi fun r4 hr4 => ?_
     obtain ⟨qr4, er4, exr4, rfl⟩ := Z6q (r1.1.Root) .sh .sh r4 hr4
     refine zc [] (iv r4) [(Zw r1.1 .sh .sh), (ZE r1.2), (Zw r3.1 .sh .sh), (ZE r3.2)] er4 ?_
     refine zo (bv (r4 == 11)) ?_
     refine za ((r4 == 11)) ?_ ?_
     ·refine zo (.p (.agg (Z1q r1.1 .sh .sh))) ?_
      refine zi fun r5 hr5 => ?_
      obtain ⟨qr5, er5, exr5, rfl⟩ := ZdK (r1.1) .sh .sh r5 hr5
      refine zc [] (iv r5) [(Zw r1.1 .sh .sh), (ZE r1.2), (Zw r3.1 .sh .sh), (ZE r3.2)] er5 ?_
      refine zo (bv (r5 == 0)) ?_
      exact zr ((bv (r5 == 0)), [(Zw r1.1 .sh .sh), (ZE r1.2), (Zw r3.1 .sh .sh), (ZE r3.2)]) ⟨_, rfl⟩
     ·exact zr ((bv false), [(Zw r1.1 .sh .sh), (ZE r1.2), (Zw r3.1 .sh .sh), (ZE r3.2)]) ⟨_, rfl⟩
    ·exact zr ((bv false), [(Zw r1.1 .sh .sh), (ZE r1.2), (Zw r3.1 .sh .sh), (ZE r3.2)]) ⟨_, rfl⟩
   ·exact zr ((bv false), [(Zw r1.1 .sh .sh), (ZE r1.2), (Zw r3.1 .sh .sh), (ZE r3.2)]) ⟨_, rfl⟩
  ·exact zr ((bv false), [(Zw r1.1 .sh .sh), (ZE r1.2), (Zw r3.1 .sh .sh), (ZE r3.2)]) ⟨_, rfl⟩
 ·exact zr ((bv false), [(Zw r1.1 .sh .sh), (ZE r1.2), (Zw r3.1 .sh .sh), (ZE r3.2)]) ⟨_, rfl⟩
theorem Zar  {r} (h : Z5m = some r) : Z5f = some r :=
 pick_of (fun _ _ ha hb => RRun.uniq (ZaM) (ha ) (hb )) (Za8  r h)
noncomputable def Z3e (z1S : List Int) (zQ : Int) (z1h : List Zq) (zI : Int) (zR : Int) (zL : Int) (zT : Int) (zU : Int) (zM : Int) (zN : Int) (zO : List Z8) (zK : List Z3) (z13 : Bool) : Option (ZC × Zj) :=
 Z59 z1h ((z1h.length : Int)) 0 z1S zQ zI zR zL zT zU zM zN zO zK z13
theorem Z6Z (b0 : ZC) (b1 : Zj) (z1S : List Int) (z1L : Int) (zQ : Int) (z1C : Int) (z1h : List Zq) (zI : Int) (zR : Int) (zL : Int) (zT : Int) (zU : Int) (zM : Int) (zN : Int) (zO : List Z8) (zK : List Z3) (z1u : Int) (z13 : Bool) (zH : Own) (zG : Own) (z2i : Own) (z18 : Own) (z11 : Own) (zX : Own) (z1x : okApp zH = true) (z1r : okApp zG = true) (z2u : okApp z18 = true) : Sim (Z2l) (Z3e z1S zQ z1h zI zR zL zT zU zM zN zO zK z13) (Zd9 0 (.ptr 0 0) (.ptr 1 0) (.ptr 2 0) (.ptr 3 0) [(Zw b0 zH zG), (ZE b1), (Zi (Zk.mk z1S z1L zQ z1C z1h (Zj.mk zI zR)) z2i z18), (Zw (ZC.mk (Z3.mk zL zT zU zM zN zO zK) z1u z13) z11 zX)]) := by
 unfold Z3e
 refine zf (ZhU ..) ?_
 refine ze ?_
 refine zo (.ptr 2 0) ?_
 refine zo (.ptr 2 4) ?_
 refine zo (.p (.lst (shrO z18) (z1h.map Z1E))) ?_
 refine zo (iv (z1h.length : Int)) ?_ (Eq.trans (by kernel_rfl) (xlen_of (P := PP) (t := 56) (d := 62) (by kernel_rfl) Z1E (shrO z18) z1h))
 exact zk (Z9p (z1h) ((z1h.length : Int)) (0) (b0) (b1) (z1S) (z1L) (zQ) (z1C) (z1h) (zI) (zR) (zL) (zT) (zU) (zM) (zN) (zO) (zK) (z1u) (z13) (shrO z18) zH zG z2i z18 z11 zX z1x z1r z2u)
noncomputable def Z61 (z1S : List Int) (z1L : Int) (zQ : Int) (z1h : List Zq) (zI : Int) (zR : Int) (zL : Int) (zT : Int) (zU : Int) (zM : Int) (zN : Int) (zO : List Z8) (zK : List Z3) (z13 : Bool) : Option (ZC × Zj) :=
 (ZS 20 z1L z1S zI zR).bind fun r1 =>
 Z3e z1S zQ z1h r1.2.1 r1.2.2 zL zT zU zM zN zO zK z13
theorem Zct (b0 : ZC) (b1 : Zj) (z1S : List Int) (z1L : Int) (zQ : Int) (z1C : Int) (z1h : List Zq) (zI : Int) (zR : Int) (zL : Int) (zT : Int) (zU : Int) (zM : Int) (zN : Int) (zO : List Z8) (zK : List Z3) (z1u : Int) (z13 : Bool) (zH : Own) (zG : Own) (z2i : Own) (z18 : Own) (z11 : Own) (zX : Own) (z1x : okApp zH = true) (z1r : okApp zG = true) (z2u : okApp z18 = true) : Sim (Z2l) (Z61 z1S z1L zQ z1h zI zR zL zT zU zM zN zO zK z13) (ZfS 0 (.ptr 0 0) (.ptr 1 0) (.ptr 2 0) (.ptr 3 0) [(Zw b0 zH zG), (ZE b1), (Zi (Zk.mk z1S z1L zQ z1C z1h (Zj.mk zI zR)) z2i z18), (Zw (ZC.mk (Z3.mk zL zT zU zM zN zO zK) z1u z13) z11 zX)]) := by
 unfold Z61
 refine zf (ZiZ ..) ?_
 refine ze ?_
 refine zo (.ptr 2 0) ?_
 refine zo (.ptr 2 1) ?_
 refine zo (iv z1L) ?_
 refine zi fun r1 hr1 => ?_
 obtain ⟨qr1, er1, exr1, rfl⟩ := ZV (20) (z1L) (z1S) (z1L) (zQ) (z1C) (z1h) (zI) (zR) z2i z18 z2u r1 hr1
 refine zc [2] (.p (.tup [])) [(Zw b0 zH zG), (ZE b1), (Zi (Zk.mk z1S r1.1 zQ z1C z1h (Zj.mk r1.2.1 r1.2.2)) z2i z18), (Zw (ZC.mk (Z3.mk zL zT zU zM zN zO zK) z1u z13) z11 zX)] er1 ?_
 exact zk (Z6Z (b0) (b1) (z1S) (r1.1) (zQ) (z1C) (z1h) (r1.2.1) (r1.2.2) (zL) (zT) (zU) (zM) (zN) (zO) (zK) (z1u) (z13) zH zG z2i z18 z11 zX z1x z1r z2u)
noncomputable def Z70 (x0 : ByteArray) : Option (ZC × Zj) :=
 (Z16 ((ByteArray.mk #[40, 63, 105, 41])) ((bytesI x0)) 0).bind fun r1 =>
 (Z2Y ((bytesI x0)) r1.2 0 0 (([] : List Zq)) 0 0).bind fun r2 =>
 if ((r2.2.2.2.2.2.1 == 0)) = true then
 (if ((decide (r2.2.1 < ((bytesI x0).length : Int)))) = true then
 (Z61 ((bytesI x0)) r2.2.1 r2.2.2.1 r2.2.2.2.2.1 r2.2.2.2.2.2.1 r2.2.2.2.2.2.2 r2.1.Kind r2.1.Lo r2.1.Hi r2.1.Mode r2.1.Ref r2.1.Set r2.1.Kids r1.1)
 else
 (Z3e ((bytesI x0)) r2.2.2.1 r2.2.2.2.2.1 r2.2.2.2.2.2.1 r2.2.2.2.2.2.2 r2.1.Kind r2.1.Lo r2.1.Hi r2.1.Mode r2.1.Ref r2.1.Set r2.1.Kids r1.1))
 else
 (Z3e ((bytesI x0)) r2.2.2.1 r2.2.2.2.2.1 r2.2.2.2.2.2.1 r2.2.2.2.2.2.2 r2.1.Kind r2.1.Lo r2.1.Hi r2.1.Mode r2.1.Ref r2.1.Set r2.1.Kids r1.1)
theorem Zcz (x0 : ByteArray) (b0 : ZC) (b1 : Zj) (zH : Own) (zG : Own) (z1x : okApp zH = true) (z1r : okApp zG = true) : Sim (Z2l) (Z70 x0) (Zfi 0 (.p (.v (.string x0))) (.ptr 0 0) (.ptr 1 0) [(Zw b0 zH zG), (ZE b1)]) := by
 unfold Z70
 refine zf (ZiS ..) ?_
 refine ze ?_
 refine zo (.p (.lst .sh ((bytesI x0).map (eI .u8)))) ?_ (Eq.trans (by kernel_rfl) (xcnv_byt (P := PP) (s := 9) (d := 40) (by kernel_rfl) (by kernel_rfl) x0))
 refine zo (.p (.agg (Ze7 (Zk.mk (bytesI x0) 0 0 0 ([] : List Zq) (Zj.mk 0 0)) .sh .nl))) ?_
 refine zx (.ptr 2 0) [(Zw b0 zH zG), (ZE b1), (Zi (Zk.mk (bytesI x0) 0 0 0 ([] : List Zq) (Zj.mk 0 0)) .sh .nl)] ?_
 refine ze ?_
 refine zi fun r1 hr1 => ?_
 obtain ⟨qr1, er1, exr1, rfl⟩ := Z1b ((ByteArray.mk #[40, 63, 105, 41])) ((bytesI x0)) (0) (0) (0) (([] : List Zq)) (0) (0) .sh .nl rfl r1 hr1
 refine zc [2] (bv r1.1) [(Zw b0 zH zG), (ZE b1), (Zi (Zk.mk (bytesI x0) r1.2 0 0 ([] : List Zq) (Zj.mk 0 0)) .sh .nl)] er1 ?_
 refine zo (.p (.agg (Z1q (ZC.mk (Z3.mk 0 0 0 0 0 ([] : List Z8) ([] : List Z3)) 0 r1.1) .nl .nl))) ?_
 refine zz (.ptr 3 0) [(Zw b0 zH zG), (ZE b1), (Zi (Zk.mk (bytesI x0) r1.2 0 0 ([] : List Zq) (Zj.mk 0 0)) .sh .nl), (Zw (ZC.mk (Z3.mk 0 0 0 0 0 ([] : List Z8) ([] : List Z3)) 0 false) .nl .nl)] ?_
 refine zt [(Zw b0 zH zG), (ZE b1), (Zi (Zk.mk (bytesI x0) r1.2 0 0 ([] : List Zq) (Zj.mk 0 0)) .sh .nl), (Zw (ZC.mk (Z3.mk 0 0 0 0 0 ([] : List Z8) ([] : List Z3)) 0 r1.1) .nl .nl)] ?_
 refine ze ?_
 refine zi fun r2 hr2 => ?_
 obtain ⟨qr2, er2, or2_0_4, exr2, hor2_0_4, rfl⟩ := Z8V ((bytesI x0)) (r1.2) (0) (0) (([] : List Zq)) (0) (0) .sh .nl rfl r2 hr2
 refine zc [2] (.p (.agg (Zz r2.1 .sh .sh))) [(Zw b0 zH zG), (ZE b1), (Zi (Zk.mk (bytesI x0) r2.2.1 r2.2.2.1 r2.2.2.2.1 r2.2.2.2.2.1 (Zj.mk r2.2.2.2.2.2.1 r2.2.2.2.2.2.2)) .sh or2_0_4), (Zw (ZC.mk (Z3.mk 0 0 0 0 0 ([] : List Z8) ([] : List Z3)) 0 r1.1) .nl .nl)] er2 ?_
 refine zo (.ptr 3 0) ?_
 refine zt [(Zw b0 zH zG), (ZE b1), (Zi (Zk.mk (bytesI x0) r2.2.1 r2.2.2.1 r2.2.2.2.1 r2.2.2.2.2.1 (Zj.mk r2.2.2.2.2.2.1 r2.2.2.2.2.2.2)) .sh or2_0_4), (Zw (ZC.mk (Z3.mk r2.1.Kind r2.1.Lo r2.1.Hi r2.1.Mode r2.1.Ref r2.1.Set r2.1.Kids) 0 r1.1) .sh .sh)] ?_
 refine ze ?_
 refine zo (.ptr 2 0) ?_
 refine zo (.ptr 2 5) ?_
 refine zo (.ptr 2 5) ?_
 refine zo (iv r2.2.2.2.2.2.1) ?_
 refine zo (bv (r2.2.2.2.2.2.1 == 0)) ?_
 refine za ((r2.2.2.2.2.2.1 == 0)) ?_ ?_
 ·refine zo (.ptr 2 0) ?_
  refine zo (.ptr 2 1) ?_
  refine zo (iv r2.2.1) ?_
  refine zo (.ptr 2 0) ?_
  refine zo (.ptr 2 0) ?_
  refine zo (.p (.lst .sh ((bytesI x0).map (eI .u8)))) ?_
  refine zo (iv ((bytesI x0).length : Int)) ?_ (Eq.trans (by kernel_rfl) (xlen_of (P := PP) (t := 40) (d := 5) (by kernel_rfl) (eI .u8) .sh (bytesI x0)))
  refine zo (bv (decide (r2.2.1 < ((bytesI x0).length : Int)))) ?_
  refine za ((decide (r2.2.1 < ((bytesI x0).length : Int)))) ?_ ?_
  ·exact zk (Zct (b0) (b1) ((bytesI x0)) (r2.2.1) (r2.2.2.1) (r2.2.2.2.1) (r2.2.2.2.2.1) (r2.2.2.2.2.2.1) (r2.2.2.2.2.2.2) (r2.1.Kind) (r2.1.Lo) (r2.1.Hi) (r2.1.Mode) (r2.1.Ref) (r2.1.Set) (r2.1.Kids) (0) (r1.1) zH zG .sh or2_0_4 .sh .sh z1x z1r hor2_0_4)
  ·exact zk (Z6Z (b0) (b1) ((bytesI x0)) (r2.2.1) (r2.2.2.1) (r2.2.2.2.1) (r2.2.2.2.2.1) (r2.2.2.2.2.2.1) (r2.2.2.2.2.2.2) (r2.1.Kind) (r2.1.Lo) (r2.1.Hi) (r2.1.Mode) (r2.1.Ref) (r2.1.Set) (r2.1.Kids) (0) (r1.1) zH zG .sh or2_0_4 .sh .sh z1x z1r hor2_0_4)
 ·exact zk (Z6Z (b0) (b1) ((bytesI x0)) (r2.2.1) (r2.2.2.1) (r2.2.2.2.1) (r2.2.2.2.2.1) (r2.2.2.2.2.2.1) (r2.2.2.2.2.2.2) (r2.1.Kind) (r2.1.Lo) (r2.1.Hi) (r2.1.Mode) (r2.1.Ref) (r2.1.Set) (r2.1.Kids) (0) (r1.1) zH zG .sh or2_0_4 .sh .sh z1x z1r hor2_0_4)
noncomputable def Z8x (x0 : ByteArray) : Option (ZC × Zj) :=
 if ((decide (256 < (x0.size : Int)))) = true then
 (some ((ZC.mk (Z3.mk 0 0 0 0 0 ([] : List Z8) ([] : List Z3)) 0 false), (Zj.mk 12 0)))
 else
 (Z70 x0)
theorem Zdu (x0 : ByteArray) : Sim (Z2l) (Z8x x0) (EE 16 [(.p (.v (.string x0)))] []) := by
 unfold Z8x
 refine zf (Zk6 ..) ?_
 refine ze ?_
 refine zz (.ptr 0 0) [(Zw (ZC.mk (Z3.mk 0 0 0 0 0 ([] : List Z8) ([] : List Z3)) 0 false) .nl .nl)] ?_
 refine zz (.ptr 1 0) [(Zw (ZC.mk (Z3.mk 0 0 0 0 0 ([] : List Z8) ([] : List Z3)) 0 false) .nl .nl), (ZE (Zj.mk 0 0))] ?_
 refine ze ?_
 refine zo (iv (x0.size : Int)) ?_
 refine zo (bv (decide (256 < (x0.size : Int)))) ?_
 refine za ((decide (256 < (x0.size : Int)))) ?_ ?_
 ·refine ze ?_
  refine zo (.p (.agg (Z1q (ZC.mk (Z3.mk 0 0 0 0 0 ([] : List Z8) ([] : List Z3)) 0 false) .nl .nl))) ?_
  refine zo (.p (.agg (Z1Y (Zj.mk 12 0)))) ?_
  refine zt [(Zw (ZC.mk (Z3.mk 0 0 0 0 0 ([] : List Z8) ([] : List Z3)) 0 false) .nl .nl), (ZE (Zj.mk 0 0))] ?_
  refine zt [(Zw (ZC.mk (Z3.mk 0 0 0 0 0 ([] : List Z8) ([] : List Z3)) 0 false) .nl .nl), (ZE (Zj.mk 12 0))] ?_
  exact zr ((.p (.tup [(.agg (Z1q (ZC.mk (Z3.mk 0 0 0 0 0 ([] : List Z8) ([] : List Z3)) 0 false) .sh .sh)), (.agg (Z1Y (Zj.mk 12 0)))])), [(Zw (ZC.mk (Z3.mk 0 0 0 0 0 ([] : List Z8) ([] : List Z3)) 0 false) .nl .nl), (ZE (Zj.mk 12 0))]) ⟨_, rfl⟩
 ·exact zk (Zcz (x0) ((ZC.mk (Z3.mk 0 0 0 0 0 ([] : List Z8) ([] : List Z3)) 0 false)) ((Zj.mk 0 0)) .nl .nl rfl rfl)
theorem ZdM (x0 : ByteArray) {r} (h : Z8x x0 = some r) : Z50 x0 = some r :=
 pick_of (fun _ _ ha hb => RRun.uniq (Zbo) (ha ) (hb )) (Zdu x0 r h)
noncomputable def Z3r (x50 : List Zq) (x51 : Int) (x52 : Int) (z1S : List Int) (zQ : Int) (zI : Int) (zR : Int) (zL : Int) (zT : Int) (zU : Int) (zM : Int) (zN : Int) (zO : List Z8) (zK : List Z3) (z13 : Bool) : Option (ZC × Zj) :=
 Z59 x50 x51 ((IntKind.i64.wrap (x52 + 1))) z1S zQ zI zR zL zT zU zM zN zO zK z13
theorem Z8R (x50 : List Zq) (x51 : Int) (x52 : Int) (b0 : ZC) (b1 : Zj) (z1S : List Int) (z1L : Int) (zQ : Int) (z1C : Int) (z1h : List Zq) (zI : Int) (zR : Int) (zL : Int) (zT : Int) (zU : Int) (zM : Int) (zN : Int) (zO : List Z8) (zK : List Z3) (z1u : Int) (z13 : Bool) (ox50 : Own) (zH : Own) (zG : Own) (z2i : Own) (z18 : Own) (z11 : Own) (zX : Own) (z1x : okApp zH = true) (z1r : okApp zG = true) (z2u : okApp z18 = true) : Sim (Z2l) (Z3r x50 x51 x52 z1S zQ zI zR zL zT zU zM zN zO zK z13) (Zdm 0 (.ptr 0 0) (.ptr 1 0) (.ptr 2 0) (.ptr 3 0) (.p (.lst ox50 (x50.map Z1E))) (iv x51) (iv x52) [(Zw b0 zH zG), (ZE b1), (Zi (Zk.mk z1S z1L zQ z1C z1h (Zj.mk zI zR)) z2i z18), (Zw (ZC.mk (Z3.mk zL zT zU zM zN zO zK) z1u z13) z11 zX)]) := by
 unfold Z3r
 refine zf (Zhd ..) ?_
 refine ze ?_
 refine zo (iv (IntKind.i64.wrap (x52 + 1))) ?_
 exact zk (Z9p (x50) (x51) ((IntKind.i64.wrap (x52 + 1))) (b0) (b1) (z1S) (z1L) (zQ) (z1C) (z1h) (zI) (zR) (zL) (zT) (zU) (zM) (zN) (zO) (zK) (z1u) (z13) ox50 zH zG z2i z18 z11 zX z1x z1r z2u)
noncomputable def Z5I (x50 : List Zq) (x51 : Int) (x52 : Int) (z1S : List Int) (zQ : Int) (zI : Int) (zR : Int) (zL : Int) (zT : Int) (zU : Int) (zM : Int) (zN : Int) (zO : List Z8) (zK : List Z3) (z13 : Bool) : Option (ZC × Zj) :=
 (lget x50 x52).bind fun a1 =>
 if ((decide (zQ < a1.group))) = true then
 ((ZS 26 a1.at_ z1S zI zR).bind fun r2 =>
 Z3r x50 x51 x52 z1S zQ r2.2.1 r2.2.2 zL zT zU zM zN zO zK z13)
 else
 (Z3r x50 x51 x52 z1S zQ zI zR zL zT zU zM zN zO zK z13)
theorem Zc8 (x50 : List Zq) (x51 : Int) (x52 : Int) (b0 : ZC) (b1 : Zj) (z1S : List Int) (z1L : Int) (zQ : Int) (z1C : Int) (z1h : List Zq) (zI : Int) (zR : Int) (zL : Int) (zT : Int) (zU : Int) (zM : Int) (zN : Int) (zO : List Z8) (zK : List Z3) (z1u : Int) (z13 : Bool) (ox50 : Own) (zH : Own) (zG : Own) (z2i : Own) (z18 : Own) (z11 : Own) (zX : Own) (z1x : okApp zH = true) (z1r : okApp zG = true) (z2u : okApp z18 = true) : Sim (Z2l) (Z5I x50 x51 x52 z1S zQ zI zR zL zT zU zM zN zO zK z13) (ZeK 0 (.ptr 0 0) (.ptr 1 0) (.ptr 2 0) (.ptr 3 0) (.p (.lst ox50 (x50.map Z1E))) (iv x51) (iv x52) [(Zw b0 zH zG), (ZE b1), (Zi (Zk.mk z1S z1L zQ z1C z1h (Zj.mk zI zR)) z2i z18), (Zw (ZC.mk (Z3.mk zL zT zU zM zN zO zK) z1u z13) z11 zX)]) := by
 unfold Z5I
 refine zf (ZgW ..) ?_
 refine ze ?_
 refine zi fun a1 ha1 => ?_
 refine zo (.cptr (Z8L a1)) ?_ (Eq.trans (by kernel_rfl) (xidx_of (o := ox50) (k := .i64) (n := 2) (e := Z1E) (cs := Z71) (fun _ => rfl) (fun _ => rfl) (by decide) ha1))
 refine zo (.p (.agg (Z8L a1))) ?_
 refine zz (.ptr 4 0) [(Zw b0 zH zG), (ZE b1), (Zi (Zk.mk z1S z1L zQ z1C z1h (Zj.mk zI zR)) z2i z18), (Zw (ZC.mk (Z3.mk zL zT zU zM zN zO zK) z1u z13) z11 zX), (Z8M (Zq.mk 0 0))] ?_
 refine zt [(Zw b0 zH zG), (ZE b1), (Zi (Zk.mk z1S z1L zQ z1C z1h (Zj.mk zI zR)) z2i z18), (Zw (ZC.mk (Z3.mk zL zT zU zM zN zO zK) z1u z13) z11 zX), (Z8M a1)] ?_
 refine ze ?_
 refine zo (.ptr 4 0) ?_
 refine zo (iv a1.group) ?_
 refine zo (.ptr 2 0) ?_
 refine zo (.ptr 2 2) ?_
 refine zo (iv zQ) ?_
 refine zo (bv (decide (zQ < a1.group))) ?_
 refine za ((decide (zQ < a1.group))) ?_ ?_
 ·refine ze ?_
  refine zo (.ptr 4 1) ?_
  refine zo (iv a1.at_) ?_
  refine zi fun r2 hr2 => ?_
  obtain ⟨qr2, er2, exr2, rfl⟩ := ZV (26) (a1.at_) (z1S) (z1L) (zQ) (z1C) (z1h) (zI) (zR) z2i z18 z2u r2 hr2
  refine zc [2] (.p (.tup [])) [(Zw b0 zH zG), (ZE b1), (Zi (Zk.mk z1S r2.1 zQ z1C z1h (Zj.mk r2.2.1 r2.2.2)) z2i z18), (Zw (ZC.mk (Z3.mk zL zT zU zM zN zO zK) z1u z13) z11 zX), (Z8M a1)] er2 ?_
  exact zk (Z8R (x50) (x51) (x52) (b0) (b1) (z1S) (r2.1) (zQ) (z1C) (z1h) (r2.2.1) (r2.2.2) (zL) (zT) (zU) (zM) (zN) (zO) (zK) (z1u) (z13) ox50 zH zG z2i z18 z11 zX z1x z1r z2u)
 ·exact zk (Z8R (x50) (x51) (x52) (b0) (b1) (z1S) (z1L) (zQ) (z1C) (z1h) (zI) (zR) (zL) (zT) (zU) (zM) (zN) (zO) (zK) (z1u) (z13) ox50 zH zG z2i z18 z11 zX z1x z1r z2u)
noncomputable def Z8h (zQ : Int) (zL : Int) (zT : Int) (zU : Int) (zM : Int) (zN : Int) (zO : List Z8) (zK : List Z3) (z13 : Bool) : Option (ZC × Zj) :=
 some ((ZC.mk (Z3.mk zL zT zU zM zN zO zK) zQ z13), (Zj.mk 0 0))
theorem Zc6 (b0 : ZC) (b1 : Zj) (z1S : List Int) (z1L : Int) (zQ : Int) (z1C : Int) (z1h : List Zq) (zI : Int) (zR : Int) (zL : Int) (zT : Int) (zU : Int) (zM : Int) (zN : Int) (zO : List Z8) (zK : List Z3) (z1u : Int) (z13 : Bool) (zH : Own) (zG : Own) (z2i : Own) (z18 : Own) (z11 : Own) (zX : Own) (z1x : okApp zH = true) (z1r : okApp zG = true) (z2u : okApp z18 = true) : Sim (Z2l) (Z8h zQ zL zT zU zM zN zO zK z13) (ZeS 0 (.ptr 0 0) (.ptr 1 0) (.ptr 2 0) (.ptr 3 0) [(Zw b0 zH zG), (ZE b1), (Zi (Zk.mk z1S z1L zQ z1C z1h (Zj.mk zI zR)) z2i z18), (Zw (ZC.mk (Z3.mk zL zT zU zM zN zO zK) z1u z13) z11 zX)]) := by
 unfold Z8h
 refine zf (Zhj ..) ?_
 refine ze ?_
 refine zo (.ptr 2 0) ?_
 refine zo (.ptr 2 2) ?_
 refine zo (iv zQ) ?_
 refine zo (.ptr 3 7) ?_
 refine zt [(Zw b0 zH zG), (ZE b1), (Zi (Zk.mk z1S z1L zQ z1C z1h (Zj.mk zI zR)) z2i z18), (Zw (ZC.mk (Z3.mk zL zT zU zM zN zO zK) zQ z13) z11 zX)] ?_
 refine ze ?_
 refine zo (.p (.agg (Z1q (ZC.mk (Z3.mk zL zT zU zM zN zO zK) zQ z13) (shrO z11) (shrO zX)))) ?_
 refine zo (.p (.agg (Z1Y (Zj.mk 0 0)))) ?_
 refine zt [(Zw (ZC.mk (Z3.mk zL zT zU zM zN zO zK) zQ z13) (shrO z11) (shrO zX)), (ZE b1), (Zi (Zk.mk z1S z1L zQ z1C z1h (Zj.mk zI zR)) z2i z18), (Zw (ZC.mk (Z3.mk zL zT zU zM zN zO zK) zQ z13) z11 zX)] ?_
 refine zt [(Zw (ZC.mk (Z3.mk zL zT zU zM zN zO zK) zQ z13) (shrO z11) (shrO zX)), (ZE (Zj.mk 0 0)), (Zi (Zk.mk z1S z1L zQ z1C z1h (Zj.mk zI zR)) z2i z18), (Zw (ZC.mk (Z3.mk zL zT zU zM zN zO zK) zQ z13) z11 zX)] ?_
 exact zr ((.p (.tup [(.agg (Z1q (ZC.mk (Z3.mk zL zT zU zM zN zO zK) zQ z13) .sh .sh)), (.agg (Z1Y (Zj.mk 0 0)))])), [(Zw (ZC.mk (Z3.mk zL zT zU zM zN zO zK) zQ z13) (shrO z11) (shrO zX)), (ZE (Zj.mk 0 0)), (Zi (Zk.mk z1S z1L zQ z1C z1h (Zj.mk zI zR)) z2i z18), (Zw (ZC.mk (Z3.mk zL zT zU zM zN zO zK) zQ z13) z11 zX)]) ⟨_, rfl⟩
noncomputable def Z5J (zQ : Int) (zI : Int) (zR : Int) (zL : Int) (zT : Int) (zU : Int) (zM : Int) (zN : Int) (zO : List Z8) (zK : List Z3) (z13 : Bool) : Option (ZC × Zj) :=
 if ((zI != 0)) = true then
 (some ((ZC.mk (Z3.mk 0 0 0 0 0 ([] : List Z8) ([] : List Z3)) 0 false), (Zj.mk zI zR)))
 else
 (Z8h zQ zL zT zU zM zN zO zK z13)
theorem Zcj (b0 : ZC) (b1 : Zj) (z1S : List Int) (z1L : Int) (zQ : Int) (z1C : Int) (z1h : List Zq) (zI : Int) (zR : Int) (zL : Int) (zT : Int) (zU : Int) (zM : Int) (zN : Int) (zO : List Z8) (zK : List Z3) (z1u : Int) (z13 : Bool) (zH : Own) (zG : Own) (z2i : Own) (z18 : Own) (z11 : Own) (zX : Own) (z1x : okApp zH = true) (z1r : okApp zG = true) (z2u : okApp z18 = true) : Sim (Z2l) (Z5J zQ zI zR zL zT zU zM zN zO zK z13) (ZeD 0 (.ptr 0 0) (.ptr 1 0) (.ptr 2 0) (.ptr 3 0) [(Zw b0 zH zG), (ZE b1), (Zi (Zk.mk z1S z1L zQ z1C z1h (Zj.mk zI zR)) z2i z18), (Zw (ZC.mk (Z3.mk zL zT zU zM zN zO zK) z1u z13) z11 zX)]) := by
 unfold Z5J
 refine zf (Zh4 ..) ?_
 refine ze ?_
 refine zo (.ptr 2 0) ?_
 refine zo (.ptr 2 5) ?_
 refine zo (.ptr 2 5) ?_
 refine zo (iv zI) ?_
 refine zo (bv (zI != 0)) ?_
 refine za ((zI != 0)) ?_ ?_
 ·refine ze ?_
  refine zo (.p (.agg (Z1q (ZC.mk (Z3.mk 0 0 0 0 0 ([] : List Z8) ([] : List Z3)) 0 false) .nl .nl))) ?_
  refine zo (.ptr 2 0) ?_
  refine zo (.ptr 2 5) ?_
  refine zo (.p (.agg (Z1Y (Zj.mk zI zR)))) ?_
  refine zt [(Zw (ZC.mk (Z3.mk 0 0 0 0 0 ([] : List Z8) ([] : List Z3)) 0 false) .nl .nl), (ZE b1), (Zi (Zk.mk z1S z1L zQ z1C z1h (Zj.mk zI zR)) z2i z18), (Zw (ZC.mk (Z3.mk zL zT zU zM zN zO zK) z1u z13) z11 zX)] ?_
  refine zt [(Zw (ZC.mk (Z3.mk 0 0 0 0 0 ([] : List Z8) ([] : List Z3)) 0 false) .nl .nl), (ZE (Zj.mk zI zR)), (Zi (Zk.mk z1S z1L zQ z1C z1h (Zj.mk zI zR)) z2i z18), (Zw (ZC.mk (Z3.mk zL zT zU zM zN zO zK) z1u z13) z11 zX)] ?_
  refine zg ?_
  exact zr ((.p (.tup [(.agg (Z1q (ZC.mk (Z3.mk 0 0 0 0 0 ([] : List Z8) ([] : List Z3)) 0 false) .sh .sh)), (.agg (Z1Y (Zj.mk zI zR)))])), [(Zw (ZC.mk (Z3.mk 0 0 0 0 0 ([] : List Z8) ([] : List Z3)) 0 false) .nl .nl), (ZE (Zj.mk zI zR)), (Zi (Zk.mk z1S z1L zQ z1C z1h (Zj.mk zI zR)) z2i z18), (Zw (ZC.mk (Z3.mk zL zT zU zM zN zO zK) z1u z13) z11 zX)]) ⟨_, rfl⟩
 ·exact zk (Zc6 (b0) (b1) (z1S) (z1L) (zQ) (z1C) (z1h) (zI) (zR) (zL) (zT) (zU) (zM) (zN) (zO) (zK) (z1u) (z13) zH zG z2i z18 z11 zX z1x z1r z2u)
noncomputable def Z4n (x50 : List Zq) (x51 : Int) (x52 : Int) (z1S : List Int) (zQ : Int) (zI : Int) (zR : Int) (zL : Int) (zT : Int) (zU : Int) (zM : Int) (zN : Int) (zO : List Z8) (zK : List Z3) (z13 : Bool) : Option (ZC × Zj) :=
 if ((decide (x52 < x51))) = true then
 (Z5I x50 x51 x52 z1S zQ zI zR zL zT zU zM zN zO zK z13)
 else
 (Z5J zQ zI zR zL zT zU zM zN zO zK z13)
theorem ZcD (x50 : List Zq) (x51 : Int) (x52 : Int) (b0 : ZC) (b1 : Zj) (z1S : List Int) (z1L : Int) (zQ : Int) (z1C : Int) (z1h : List Zq) (zI : Int) (zR : Int) (zL : Int) (zT : Int) (zU : Int) (zM : Int) (zN : Int) (zO : List Z8) (zK : List Z3) (z1u : Int) (z13 : Bool) (ox50 : Own) (zH : Own) (zG : Own) (z2i : Own) (z18 : Own) (z11 : Own) (zX : Own) (z1x : okApp zH = true) (z1r : okApp zG = true) (z2u : okApp z18 = true) : Sim (Z2l) (Z4n x50 x51 x52 z1S zQ zI zR zL zT zU zM zN zO zK z13) (Zcl 0 (.ptr 0 0) (.ptr 1 0) (.ptr 2 0) (.ptr 3 0) (.p (.lst ox50 (x50.map Z1E))) (iv x51) (iv x52) [(Zw b0 zH zG), (ZE b1), (Zi (Zk.mk z1S z1L zQ z1C z1h (Zj.mk zI zR)) z2i z18), (Zw (ZC.mk (Z3.mk zL zT zU zM zN zO zK) z1u z13) z11 zX)]) := by
 unfold Z4n
 refine zf (ZiI ..) ?_
 refine ze ?_
 refine zo (bv (decide (x52 < x51))) ?_
 refine za ((decide (x52 < x51))) ?_ ?_
 ·exact zk (Zc8 (x50) (x51) (x52) (b0) (b1) (z1S) (z1L) (zQ) (z1C) (z1h) (zI) (zR) (zL) (zT) (zU) (zM) (zN) (zO) (zK) (z1u) (z13) ox50 zH zG z2i z18 z11 zX z1x z1r z2u)
 ·exact zk (Zcj (b0) (b1) (z1S) (z1L) (zQ) (z1C) (z1h) (zI) (zR) (zL) (zT) (zU) (zM) (zN) (zO) (zK) (z1u) (z13) zH zG z2i z18 z11 zX z1x z1r z2u)
theorem Z65 (x50 : List Zq) (x51 : Int) (x52 : Int) (z1S : List Int) (zQ : Int) (zI : Int) (zR : Int) (zL : Int) (zT : Int) (zU : Int) (zM : Int) (zN : Int) (zO : List Z8) (zK : List Z3) (z13 : Bool) {r} (h : Z4n x50 x51 x52 z1S zQ zI zR zL zT zU zM zN zO zK z13 = some r) : Z59 x50 x51 x52 z1S zQ zI zR zL zT zU zM zN zO zK z13 = some r :=
 pick_of (fun _ _ ha hb => RRun.uniq (Zbo) (ha default default default default default default .ex .ex .ex .ex .ex .ex .ex rfl rfl rfl) (hb default default default default default default .ex .ex .ex .ex .ex .ex .ex rfl rfl rfl)) (fun b0 b1 z1L z1C z1h z1u ox50 zH zG z2i z18 z11 zX z1x z1r z2u => ZcD x50 x51 x52 b0 b1 z1S z1L zQ z1C z1h zI zR zL zT zU zM zN zO zK z1u z13 ox50 zH zG z2i z18 z11 zX z1x z1r z2u r h)
noncomputable def Z5k (zp : Int) : Option (Bool × Int) :=
 some (false, zp)
theorem Z77 (zl : List Int) (zp : Int) (z7 : Int) (zd : Int) (zh : List Zq) (z2 : Int) (z6 : Int) (zn : Own) (zb : Own) (zu : okApp zb = true) : Sim (Z3s zl z7 zd zh z2 z6 zn zb) (Z5k zp) (Zeg 1  [(Zi (Zk.mk zl zp z7 zd zh (Zj.mk z2 z6)) zn zb)]) := by
 unfold Z5k
 refine zf (Zi8 ..) ?_
 refine ze ?_
 exact zr ((bv false), [(Zi (Zk.mk zl zp z7 zd zh (Zj.mk z2 z6)) zn zb)]) ⟨_, rfl⟩
noncomputable def Z5h (x1 : ByteArray) (zp : Int) : Option (Bool × Int) :=
 some (true, (IntKind.i64.wrap (zp + (x1.size : Int))))
theorem Zab (x1 : ByteArray) (zl : List Int) (zp : Int) (z7 : Int) (zd : Int) (zh : List Zq) (z2 : Int) (z6 : Int) (zn : Own) (zb : Own) (zu : okApp zb = true) : Sim (Z3s zl z7 zd zh z2 z6 zn zb) (Z5h x1 zp) (Zge 1 (.ptr 0 0) (.p (.v (.string x1))) [(Zi (Zk.mk zl zp z7 zd zh (Zj.mk z2 z6)) zn zb)]) := by
 unfold Z5h
 refine zf (ZiG ..) ?_
 refine ze ?_
 refine zo (.ptr 0 0) ?_
 refine zo (.ptr 0 1) ?_
 refine zo (iv zp) ?_
 refine zo (iv (x1.size : Int)) ?_
 refine zo (iv (IntKind.i64.wrap (zp + (x1.size : Int)))) ?_
 refine zo (.ptr 0 0) ?_
 refine zo (.ptr 0 1) ?_
 refine zt [(Zi (Zk.mk zl (IntKind.i64.wrap (zp + (x1.size : Int))) z7 zd zh (Zj.mk z2 z6)) zn zb)] ?_
 refine ze ?_
 exact zr ((bv true), [(Zi (Zk.mk zl (IntKind.i64.wrap (zp + (x1.size : Int))) z7 zd zh (Zj.mk z2 z6)) zn zb)]) ⟨_, rfl⟩
noncomputable def Z66 (x1 : ByteArray) (zl : List Int) (zp : Int) : Option (Bool × Int) :=
 if ((decide ((IntKind.i64.wrap ((zl.length : Int) - zp)) < (x1.size : Int)))) = true then
 (Z5k zp)
 else
 ((lsl zl zp (IntKind.i64.wrap (zp + (x1.size : Int)))).bind fun a1 =>
 if ((!(seq (strI a1) x1))) = true then
 (Z5k zp)
 else
 (Z5h x1 zp))
theorem Zbd (x1 : ByteArray) (zl : List Int) (zp : Int) (z7 : Int) (zd : Int) (zh : List Zq) (z2 : Int) (z6 : Int) (zn : Own) (zb : Own) (zu : okApp zb = true) : Sim (Z3s zl z7 zd zh z2 z6 zn zb) (Z66 x1 zl zp) (EE 27 [(.ptr 0 0), (.p (.v (.string x1)))] [(Zi (Zk.mk zl zp z7 zd zh (Zj.mk z2 z6)) zn zb)]) := by
 unfold Z66
 refine zf (Zky ..) ?_
 refine ze ?_
 refine ze ?_
 refine zo (.ptr 0 0) ?_
 refine zo (.ptr 0 0) ?_
 refine zo (.p (.lst (shrO zn) (zl.map (eI .u8)))) ?_
 refine zo (iv (zl.length : Int)) ?_ (Eq.trans (by kernel_rfl) (xlen_of (P := PP) (t := 40) (d := 5) (by kernel_rfl) (eI .u8) (shrO zn) zl))
 refine zo (.ptr 0 0) ?_
 refine zo (.ptr 0 1) ?_
 refine zo (iv zp) ?_
 refine zo (iv (IntKind.i64.wrap ((zl.length : Int) - zp))) ?_
 refine zo (iv (x1.size : Int)) ?_
 refine zo (bv (decide ((IntKind.i64.wrap ((zl.length : Int) - zp)) < (x1.size : Int)))) ?_
 refine za ((decide ((IntKind.i64.wrap ((zl.length : Int) - zp)) < (x1.size : Int)))) ?_ ?_
 ·exact zk (Z77 (zl) (zp) (z7) (zd) (zh) (z2) (z6) zn zb zu)
 ·refine zo (.ptr 0 0) ?_
  refine zo (.ptr 0 0) ?_
  refine zo (.p (.lst (shrO zn) (zl.map (eI .u8)))) ?_
  refine zo (.ptr 0 0) ?_
  refine zo (.ptr 0 1) ?_
  refine zo (iv zp) ?_
  refine zo (.ptr 0 0) ?_
  refine zo (.ptr 0 1) ?_
  refine zo (iv zp) ?_
  refine zo (iv (x1.size : Int)) ?_
  refine zo (iv (IntKind.i64.wrap (zp + (x1.size : Int)))) ?_
  refine zi fun a1 ha1 => ?_
  refine zo (.p (.lst (slO (shrO zn)) (a1.map (eI .u8)))) ?_ (Eq.trans (by kernel_rfl) <| xsl_of (n := 1) (o := (shrO zn)) (lo := (some (iv zp))) (hi := (some (iv (IntKind.i64.wrap (zp + (x1.size : Int)))))) (e := (eI .u8)) (fun _ => rfl) (by decide) (by kernel_rfl) (by kernel_rfl) ha1)
  refine zo (.p (.v (.string (strI a1)))) ?_ (Eq.trans (by kernel_rfl) (xcnv_str (P := PP) (s := 40) (d := 9) (by kernel_rfl) (slO (shrO zn)) a1))
  refine zo (bv (!(seq (strI a1) x1))) ?_
  refine za ((!(seq (strI a1) x1))) ?_ ?_
  ·exact zk (Z77 (zl) (zp) (z7) (zd) (zh) (z2) (z6) zn zb zu)
  ·exact zk (Zab (x1) (zl) (zp) (z7) (zd) (zh) (z2) (z6) zn zb zu)
theorem Zbs (x1 : ByteArray) (zl : List Int) (zp : Int) {r} (h : Z66 x1 zl zp = some r) : Z16 x1 zl zp = some r :=
 pick_of (fun _ _ ha hb => RRun.uniq (ZbL _ _ _ _ _ _ _ _) (ha default default default default default .ex .ex rfl) (hb default default default default default .ex .ex rfl)) (fun z7 zd zh z2 z6 zn zb zu => Zbd x1 zl zp z7 zd zh z2 z6 zn zb zu r h)
noncomputable def Z4p (zl : List Int) (zp : Int) (z7 : Int) (zd : Int) (zh : List Zq) (z2 : Int) (z6 : Int) : Option (Z3 × Int × Int × Int × (List Zq) × Int × Int) :=
 (Z4x zl zp z7 zd zh z2 z6).bind fun r1 =>
 Z3A (([r1.1] : List Z3)) zl r1.2.1 r1.2.2.1 r1.2.2.2.1 r1.2.2.2.2.1 r1.2.2.2.2.2.1 r1.2.2.2.2.2.2
theorem Zby (zl : List Int) (zp : Int) (z7 : Int) (zd : Int) (zh : List Zq) (z2 : Int) (z6 : Int) (zn : Own) (zb : Own) (zu : okApp zb = true) : Sim (Z2r zl zn) (Z4p zl zp z7 zd zh z2 z6) (EE 28 [(.ptr 0 0)] [(Zi (Zk.mk zl zp z7 zd zh (Zj.mk z2 z6)) zn zb)]) := by
 unfold Z4p
 refine zf (ZjV ..) ?_
 refine ze ?_
 refine zz (.ptr 1 0) [(Zi (Zk.mk zl zp z7 zd zh (Zj.mk z2 z6)) zn zb), (Zo (Z3.mk 0 0 0 0 0 ([] : List Z8) ([] : List Z3)) .nl .nl)] ?_
 refine ze ?_
 refine zi fun r1 hr1 => ?_
 obtain ⟨qr1, er1, or1_0_4, exr1, hor1_0_4, rfl⟩ := Z8X (zl) (zp) (z7) (zd) (zh) (z2) (z6) zn zb zu r1 hr1
 refine zc [0] (.p (.agg (Zz r1.1 .sh .sh))) [(Zi (Zk.mk zl r1.2.1 r1.2.2.1 r1.2.2.2.1 r1.2.2.2.2.1 (Zj.mk r1.2.2.2.2.2.1 r1.2.2.2.2.2.2)) zn or1_0_4), (Zo (Z3.mk 0 0 0 0 0 ([] : List Z8) ([] : List Z3)) .nl .nl)] er1 ?_
 refine zo (.p (.lst .ex (([r1.1] : List Z3).map ZD))) ?_ (Eq.trans (b := some (.p (.lst .ex [.agg (Z1T r1.1)]))) (by kernel_rfl) (by simp only [List.map_cons, List.map_nil, Z3f]))
 exact zk (Z7s (([r1.1] : List Z3)) (zl) (r1.2.1) (r1.2.2.1) (r1.2.2.2.1) (r1.2.2.2.2.1) (r1.2.2.2.2.2.1) (r1.2.2.2.2.2.2) ((Z3.mk 0 0 0 0 0 ([] : List Z8) ([] : List Z3))) .ex zn or1_0_4 .nl .nl rfl hor1_0_4 rfl rfl)
theorem Z8S (zl : List Int) (zp : Int) (z7 : Int) (zd : Int) (zh : List Zq) (z2 : Int) (z6 : Int) {r} (h : Z4p zl zp z7 zd zh z2 z6 = some r) : Z2Y zl zp z7 zd zh z2 z6 = some r :=
 pick_of (fun _ _ ha hb => RRun.uniq (Z9d _ _) (ha .ex .ex rfl) (hb .ex .ex rfl)) (fun zn zb zu => Zby zl zp z7 zd zh z2 z6 zn zb zu r h)
noncomputable def Z5z (x3 : List Z3) (zl : List Int) (zp : Int) (z7 : Int) (zd : Int) (zh : List Zq) (z2 : Int) (z6 : Int) : Option (Z3 × Int × Int × Int × (List Zq) × Int × Int) :=
 (Z4x zl zp z7 zd zh z2 z6).bind fun r1 =>
 (lapp x3 ([r1.1] : List Z3)).bind fun a2 =>
 Z3A a2 zl r1.2.1 r1.2.2.1 r1.2.2.2.1 r1.2.2.2.2.1 r1.2.2.2.2.2.1 r1.2.2.2.2.2.2
theorem Zaz (x3 : List Z3) (zl : List Int) (zp : Int) (z7 : Int) (zd : Int) (zh : List Zq) (z2 : Int) (z6 : Int) (b1 : Z3) (ox3 : Own) (zn : Own) (zb : Own) (zB : Own) (zy : Own) (hox3 : okApp ox3 = true) (zu : okApp zb = true) (zP : okApp zB = true) (zJ : okApp zy = true) : Sim (Z2r zl zn) (Z5z x3 zl zp z7 zd zh z2 z6) (Zfa 1 (.ptr 0 0) (.ptr 1 0) (.p (.lst ox3 (x3.map ZD))) [(Zi (Zk.mk zl zp z7 zd zh (Zj.mk z2 z6)) zn zb), (Zo b1 zB zy)]) := by
 unfold Z5z
 refine zf (ZiT ..) ?_
 refine ze ?_
 refine zi fun r1 hr1 => ?_
 obtain ⟨qr1, er1, or1_0_4, exr1, hor1_0_4, rfl⟩ := Z8X (zl) (zp) (z7) (zd) (zh) (z2) (z6) zn zb zu r1 hr1
 refine zc [0] (.p (.agg (Zz r1.1 .sh .sh))) [(Zi (Zk.mk zl r1.2.1 r1.2.2.1 r1.2.2.2.1 r1.2.2.2.2.1 (Zj.mk r1.2.2.2.2.2.1 r1.2.2.2.2.2.2)) zn or1_0_4), (Zo b1 zB zy)] er1 ?_
 refine zo (.p (.lst .ex (([r1.1] : List Z3).map ZD))) ?_ (Eq.trans (b := some (.p (.lst .ex [.agg (Z1T r1.1)]))) (by kernel_rfl) (by simp only [List.map_cons, List.map_nil, Z3f]))
 refine zi fun a2 ha2 => ?_
 refine zo (.p (.lst .un (a2.map ZD))) ?_ (Eq.trans (by kernel_rfl) <| xapp_of (n := 7) (o := ox3) (o' := .ex) (e := ZD) (ys := ([r1.1] : List Z3)) ZbG (by decide) hox3 ha2)
 exact zk (Z7s (a2) (zl) (r1.2.1) (r1.2.2.1) (r1.2.2.2.1) (r1.2.2.2.2.1) (r1.2.2.2.2.2.1) (r1.2.2.2.2.2.2) (b1) .un zn or1_0_4 zB zy rfl hor1_0_4 zP zJ)
noncomputable def Z4w (x3 : List Z3) (zp : Int) (z7 : Int) (zd : Int) (zh : List Zq) (z2 : Int) (z6 : Int) : Option (Z3 × Int × Int × Int × (List Zq) × Int × Int) :=
 (Z6N 3 x3).bind fun r1 =>
 some (r1, zp, z7, zd, zh, z2, z6)
theorem Zai (x3 : List Z3) (zl : List Int) (zp : Int) (z7 : Int) (zd : Int) (zh : List Zq) (z2 : Int) (z6 : Int) (b1 : Z3) (ox3 : Own) (zn : Own) (zb : Own) (zB : Own) (zy : Own) (hox3 : okApp ox3 = true) (zu : okApp zb = true) (zP : okApp zB = true) (zJ : okApp zy = true) : Sim (Z2r zl zn) (Z4w x3 zp z7 zd zh z2 z6) (ZfP 1 (.ptr 1 0) (.p (.lst ox3 (x3.map ZD))) [(Zi (Zk.mk zl zp z7 zd zh (Zj.mk z2 z6)) zn zb), (Zo b1 zB zy)]) := by
 unfold Z4w
 refine zf (ZiC ..) ?_
 refine ze ?_
 refine zi fun r1 hr1 => ?_
 obtain ⟨qr1, er1, exr1, rfl⟩ := Zah (3) (x3) .sh r1 hr1
 refine zc [] (.p (.agg (Zz r1 .sh .sh))) [(Zi (Zk.mk zl zp z7 zd zh (Zj.mk z2 z6)) zn zb), (Zo b1 zB zy)] er1 ?_
 refine zt [(Zi (Zk.mk zl zp z7 zd zh (Zj.mk z2 z6)) zn zb), (Zo r1 .sh .sh)] ?_
 exact zr ((.p (.agg (Zz r1 .sh .sh))), [(Zi (Zk.mk zl zp z7 zd zh (Zj.mk z2 z6)) zn zb), (Zo r1 .sh .sh)]) ⟨zb, _, zu, rfl⟩
noncomputable def Z3B (x3 : List Z3) (zl : List Int) (zp : Int) (z7 : Int) (zd : Int) (zh : List Zq) (z2 : Int) (z6 : Int) : Option (Z3 × Int × Int × Int × (List Zq) × Int × Int) :=
 (Z16 ((ByteArray.mk #[124])) zl zp).bind fun r1 =>
 if (r1.1) = true then
 (Z5z x3 zl r1.2 z7 zd zh z2 z6)
 else
 (Z4w x3 r1.2 z7 zd zh z2 z6)
theorem Zav (x3 : List Z3) (zl : List Int) (zp : Int) (z7 : Int) (zd : Int) (zh : List Zq) (z2 : Int) (z6 : Int) (b1 : Z3) (ox3 : Own) (zn : Own) (zb : Own) (zB : Own) (zy : Own) (hox3 : okApp ox3 = true) (zu : okApp zb = true) (zP : okApp zB = true) (zJ : okApp zy = true) : Sim (Z2r zl zn) (Z3B x3 zl zp z7 zd zh z2 z6) (ZbZ 1 (.ptr 0 0) (.ptr 1 0) (.p (.lst ox3 (x3.map ZD))) [(Zi (Zk.mk zl zp z7 zd zh (Zj.mk z2 z6)) zn zb), (Zo b1 zB zy)]) := by
 unfold Z3B
 refine zf (Zj3 ..) ?_
 refine ze ?_
 refine zi fun r1 hr1 => ?_
 obtain ⟨qr1, er1, exr1, rfl⟩ := Z1b ((ByteArray.mk #[124])) (zl) (zp) (z7) (zd) (zh) (z2) (z6) zn zb zu r1 hr1
 refine zc [0] (bv r1.1) [(Zi (Zk.mk zl r1.2 z7 zd zh (Zj.mk z2 z6)) zn zb), (Zo b1 zB zy)] er1 ?_
 refine za (r1.1) ?_ ?_
 ·exact zk (Zaz (x3) (zl) (r1.2) (z7) (zd) (zh) (z2) (z6) (b1) ox3 zn zb zB zy hox3 zu zP zJ)
 ·exact zk (Zai (x3) (zl) (r1.2) (z7) (zd) (zh) (z2) (z6) (b1) ox3 zn zb zB zy hox3 zu zP zJ)
theorem Z7z (x3 : List Z3) (zl : List Int) (zp : Int) (z7 : Int) (zd : Int) (zh : List Zq) (z2 : Int) (z6 : Int) {r} (h : Z3B x3 zl zp z7 zd zh z2 z6 = some r) : Z3A x3 zl zp z7 zd zh z2 z6 = some r :=
 pick_of (fun _ _ ha hb => RRun.uniq (Z9d _ _) (ha default .ex .ex .ex .ex .ex rfl rfl rfl rfl) (hb default .ex .ex .ex .ex .ex rfl rfl rfl rfl)) (fun b1 ox3 zn zb zB zy hox3 zu zP zJ => Zav x3 zl zp z7 zd zh z2 z6 b1 ox3 zn zb zB zy hox3 zu zP zJ r h)
noncomputable def Z5o (zl : List Int) (zp : Int) (z7 : Int) (zd : Int) (zh : List Zq) (z2 : Int) (z6 : Int) : Option (Z3 × Int × Int × Int × (List Zq) × Int × Int) :=
 Z3z (([] : List Z3)) zl zp z7 zd zh z2 z6
theorem Zbq (zl : List Int) (zp : Int) (z7 : Int) (zd : Int) (zh : List Zq) (z2 : Int) (z6 : Int) (zn : Own) (zb : Own) (zu : okApp zb = true) : Sim (Z2g zl zn) (Z5o zl zp z7 zd zh z2 z6) (EE 35 [(.ptr 0 0)] [(Zi (Zk.mk zl zp z7 zd zh (Zj.mk z2 z6)) zn zb)]) := by
 unfold Z5o
 refine zf (Zkl ..) ?_
 refine ze ?_
 refine zz (.ptr 1 0) [(Zi (Zk.mk zl zp z7 zd zh (Zj.mk z2 z6)) zn zb), (Zo (Z3.mk 0 0 0 0 0 ([] : List Z8) ([] : List Z3)) .nl .nl)] ?_
 refine ze ?_
 exact zk (Z7r (([] : List Z3)) (zl) (zp) (z7) (zd) (zh) (z2) (z6) ((Z3.mk 0 0 0 0 0 ([] : List Z8) ([] : List Z3))) .nl zn zb .nl .nl rfl zu rfl rfl)
theorem Z8Q (zl : List Int) (zp : Int) (z7 : Int) (zd : Int) (zh : List Zq) (z2 : Int) (z6 : Int) {r} (h : Z5o zl zp z7 zd zh z2 z6 = some r) : Z4x zl zp z7 zd zh z2 z6 = some r :=
 pick_of (fun _ _ ha hb => RRun.uniq (Z97 _ _) (ha .ex .ex rfl) (hb .ex .ex rfl)) (fun zn zb zu => Zbq zl zp z7 zd zh z2 z6 zn zb zu r h)
noncomputable def Z2k (x3 : List Z3) (zp : Int) (z7 : Int) (zd : Int) (zh : List Zq) (z2 : Int) (z6 : Int) : Option (Z3 × Int × Int × Int × (List Zq) × Int × Int) :=
 (Z6N 2 x3).bind fun r1 =>
 some (r1, zp, z7, zd, zh, z2, z6)
theorem Z4G (x3 : List Z3) (zl : List Int) (zp : Int) (z7 : Int) (zd : Int) (zh : List Zq) (z2 : Int) (z6 : Int) (b1 : Z3) (ox3 : Own) (zn : Own) (zb : Own) (zB : Own) (zy : Own) (hox3 : okApp ox3 = true) (zu : okApp zb = true) (zP : okApp zB = true) (zJ : okApp zy = true) : Sim (Z2g zl zn) (Z2k x3 zp z7 zd zh z2 z6) (Zc4 1 (.ptr 1 0) (.p (.lst ox3 (x3.map ZD))) [(Zi (Zk.mk zl zp z7 zd zh (Zj.mk z2 z6)) zn zb), (Zo b1 zB zy)]) := by
 unfold Z2k
 refine zf (Zim ..) ?_
 refine ze ?_
 refine zi fun r1 hr1 => ?_
 obtain ⟨qr1, er1, exr1, rfl⟩ := Zah (2) (x3) .sh r1 hr1
 refine zc [] (.p (.agg (Zz r1 .sh .sh))) [(Zi (Zk.mk zl zp z7 zd zh (Zj.mk z2 z6)) zn zb), (Zo b1 zB zy)] er1 ?_
 refine zt [(Zi (Zk.mk zl zp z7 zd zh (Zj.mk z2 z6)) zn zb), (Zo r1 .sh .sh)] ?_
 exact zr ((.p (.agg (Zz r1 .sh .sh))), [(Zi (Zk.mk zl zp z7 zd zh (Zj.mk z2 z6)) zn zb), (Zo r1 .sh .sh)]) ⟨zb, _, zu, rfl⟩
noncomputable def Z36 (x3 : List Z3) (zl : List Int) (zp : Int) (z7 : Int) (zd : Int) (zh : List Zq) (z2 : Int) (z6 : Int) : Option (Z3 × Int × Int × Int × (List Zq) × Int × Int) :=
 (Z68 zl zp z7 zd zh z2 z6).bind fun r1 =>
 (Z4A r1.1 r1.2.1 zl r1.2.2.1 r1.2.2.2.1 r1.2.2.2.2.1 r1.2.2.2.2.2.1 r1.2.2.2.2.2.2.1 r1.2.2.2.2.2.2.2).bind fun r2 =>
 (lapp x3 ([r2.1] : List Z3)).bind fun a3 =>
 Z3z a3 zl r2.2.1 r1.2.2.2.1 r1.2.2.2.2.1 r1.2.2.2.2.2.1 r2.2.2.1 r2.2.2.2
theorem Z5P (x3 : List Z3) (zl : List Int) (zp : Int) (z7 : Int) (zd : Int) (zh : List Zq) (z2 : Int) (z6 : Int) (b1 : Z3) (ox3 : Own) (zn : Own) (zb : Own) (zB : Own) (zy : Own) (hox3 : okApp ox3 = true) (zu : okApp zb = true) (zP : okApp zB = true) (zJ : okApp zy = true) : Sim (Z2g zl zn) (Z36 x3 zl zp z7 zd zh z2 z6) (ZcW 1 (.ptr 0 0) (.ptr 1 0) (.p (.lst ox3 (x3.map ZD))) [(Zi (Zk.mk zl zp z7 zd zh (Zj.mk z2 z6)) zn zb), (Zo b1 zB zy)]) := by
 unfold Z36
 refine zf (ZhD ..) ?_
 refine ze ?_
 refine zi fun r1 hr1 => ?_
 obtain ⟨qr1, er1, or1_0_4, exr1, hor1_0_4, rfl⟩ := Zbx (zl) (zp) (z7) (zd) (zh) (z2) (z6) zn zb zu r1 hr1
 refine zc [0] (.p (.tup [(.agg (Zz r1.1 .sh .sh)), (.v (.bool r1.2.1))])) [(Zi (Zk.mk zl r1.2.2.1 r1.2.2.2.1 r1.2.2.2.2.1 r1.2.2.2.2.2.1 (Zj.mk r1.2.2.2.2.2.2.1 r1.2.2.2.2.2.2.2)) zn or1_0_4), (Zo b1 zB zy)] er1 ?_
 refine zo (.p (.agg (Zz r1.1 .sh .sh))) ?_
 refine zo (bv r1.2.1) ?_
 refine zz (.ptr 2 0) [(Zi (Zk.mk zl r1.2.2.1 r1.2.2.2.1 r1.2.2.2.2.1 r1.2.2.2.2.2.1 (Zj.mk r1.2.2.2.2.2.2.1 r1.2.2.2.2.2.2.2)) zn or1_0_4), (Zo b1 zB zy), (Zo (Z3.mk 0 0 0 0 0 ([] : List Z8) ([] : List Z3)) .nl .nl)] ?_
 refine zt [(Zi (Zk.mk zl r1.2.2.1 r1.2.2.2.1 r1.2.2.2.2.1 r1.2.2.2.2.2.1 (Zj.mk r1.2.2.2.2.2.2.1 r1.2.2.2.2.2.2.2)) zn or1_0_4), (Zo b1 zB zy), (Zo r1.1 .sh .sh)] ?_
 refine ze ?_
 refine zo (.p (.agg (Zz r1.1 .sh .sh))) ?_
 refine zi fun r2 hr2 => ?_
 obtain ⟨qr2, er2, exr2, rfl⟩ := ZaY (r1.1) (r1.2.1) (zl) (r1.2.2.1) (r1.2.2.2.1) (r1.2.2.2.2.1) (r1.2.2.2.2.2.1) (r1.2.2.2.2.2.2.1) (r1.2.2.2.2.2.2.2) .sh .sh zn or1_0_4 hor1_0_4 r2 hr2
 refine zc [0] (.p (.agg (Zz r2.1 .sh .sh))) [(Zi (Zk.mk zl r2.2.1 r1.2.2.2.1 r1.2.2.2.2.1 r1.2.2.2.2.2.1 (Zj.mk r2.2.2.1 r2.2.2.2)) zn or1_0_4), (Zo b1 zB zy), (Zo r1.1 .sh .sh)] er2 ?_
 refine zo (.p (.lst .ex (([r2.1] : List Z3).map ZD))) ?_ (Eq.trans (b := some (.p (.lst .ex [.agg (Z1T r2.1)]))) (by kernel_rfl) (by simp only [List.map_cons, List.map_nil, Z3f]))
 refine zi fun a3 ha3 => ?_
 refine zo (.p (.lst .un (a3.map ZD))) ?_ (Eq.trans (by kernel_rfl) <| xapp_of (n := 7) (o := ox3) (o' := .ex) (e := ZD) (ys := ([r2.1] : List Z3)) ZbG (by decide) hox3 ha3)
 exact zk (Z7r (a3) (zl) (r2.2.1) (r1.2.2.2.1) (r1.2.2.2.2.1) (r1.2.2.2.2.2.1) (r2.2.2.1) (r2.2.2.2) (b1) .un zn or1_0_4 zB zy rfl hor1_0_4 zP zJ)
noncomputable def Z4s (x3 : List Z3) (zl : List Int) (zp : Int) (z7 : Int) (zd : Int) (zh : List Zq) (z2 : Int) (z6 : Int) : Option (Z3 × Int × Int × Int × (List Zq) × Int × Int) :=
 (Z1F ((Zk.mk zl zp z7 zd zh (Zj.mk z2 z6)))).bind fun r1 =>
 if ((r1 == (-1))) = true then
 (if ((r1 == (-1))) = true then
 (Z2k x3 zp z7 zd zh z2 z6)
 else
 (Z36 x3 zl zp z7 zd zh z2 z6))
 else
 (if ((r1 == 124)) = true then
 (if ((r1 == 124)) = true then
 (Z2k x3 zp z7 zd zh z2 z6)
 else
 (Z36 x3 zl zp z7 zd zh z2 z6))
 else
 (if ((r1 == 41)) = true then
 (Z2k x3 zp z7 zd zh z2 z6)
 else
 (Z36 x3 zl zp z7 zd zh z2 z6)))
theorem Zao (x3 : List Z3) (zl : List Int) (zp : Int) (z7 : Int) (zd : Int) (zh : List Zq) (z2 : Int) (z6 : Int) (b1 : Z3) (ox3 : Own) (zn : Own) (zb : Own) (zB : Own) (zy : Own) (hox3 : okApp ox3 = true) (zu : okApp zb = true) (zP : okApp zB = true) (zJ : okApp zy = true) : Sim (Z2g zl zn) (Z4s x3 zl zp z7 zd zh z2 z6) (Zfz 1 (.ptr 0 0) (.ptr 1 0) (.p (.lst ox3 (x3.map ZD))) [(Zi (Zk.mk zl zp z7 zd zh (Zj.mk z2 z6)) zn zb), (Zo b1 zB zy)]) := by
 unfold Z4s
 refine zf (ZiV ..) ?_
 refine ze ?_
 refine zi fun r1 hr1 => ?_
 obtain ⟨qr1, er1, exr1, rfl⟩ := Z1K ((Zk.mk zl zp z7 zd zh (Zj.mk z2 z6))) zn zb zu r1 hr1
 refine zc [0] (iv r1) [(Zi (Zk.mk zl zp z7 zd zh (Zj.mk z2 z6)) zn zb), (Zo b1 zB zy)] er1 ?_
 refine ze ?_
 refine zo (bv (r1 == (-1))) ?_
 refine za ((r1 == (-1))) ?_ ?_
 ·refine za ((r1 == (-1))) ?_ ?_
  ·exact zk (Z4G (x3) (zl) (zp) (z7) (zd) (zh) (z2) (z6) (b1) ox3 zn zb zB zy hox3 zu zP zJ)
  ·exact zk (Z5P (x3) (zl) (zp) (z7) (zd) (zh) (z2) (z6) (b1) ox3 zn zb zB zy hox3 zu zP zJ)
 ·refine ze ?_
  refine zo (bv (r1 == 124)) ?_
  refine za ((r1 == 124)) ?_ ?_
  ·refine za ((r1 == 124)) ?_ ?_
   ·exact zk (Z4G (x3) (zl) (zp) (z7) (zd) (zh) (z2) (z6) (b1) ox3 zn zb zB zy hox3 zu zP zJ)
   ·exact zk (Z5P (x3) (zl) (zp) (z7) (zd) (zh) (z2) (z6) (b1) ox3 zn zb zB zy hox3 zu zP zJ)
  ·refine ze ?_
   refine zo (bv (r1 == 41)) ?_
   refine za ((r1 == 41)) ?_ ?_
   ·exact zk (Z4G (x3) (zl) (zp) (z7) (zd) (zh) (z2) (z6) (b1) ox3 zn zb zB zy hox3 zu zP zJ)
   ·exact zk (Z5P (x3) (zl) (zp) (z7) (zd) (zh) (z2) (z6) (b1) ox3 zn zb zB zy hox3 zu zP zJ)
noncomputable def Z4z (x3 : List Z3) (zl : List Int) (zp : Int) (z7 : Int) (zd : Int) (zh : List Zq) (z2 : Int) (z6 : Int) : Option (Z3 × Int × Int × Int × (List Zq) × Int × Int) :=
 if ((z2 == 0)) = true then
 (Z4s x3 zl zp z7 zd zh z2 z6)
 else
 (Z2k x3 zp z7 zd zh z2 z6)
theorem Zas (x3 : List Z3) (zl : List Int) (zp : Int) (z7 : Int) (zd : Int) (zh : List Zq) (z2 : Int) (z6 : Int) (b1 : Z3) (ox3 : Own) (zn : Own) (zb : Own) (zB : Own) (zy : Own) (hox3 : okApp ox3 = true) (zu : okApp zb = true) (zP : okApp zB = true) (zJ : okApp zy = true) : Sim (Z2g zl zn) (Z4z x3 zl zp z7 zd zh z2 z6) (ZbO 1 (.ptr 0 0) (.ptr 1 0) (.p (.lst ox3 (x3.map ZD))) [(Zi (Zk.mk zl zp z7 zd zh (Zj.mk z2 z6)) zn zb), (Zo b1 zB zy)]) := by
 unfold Z4z
 refine zf (Zif ..) ?_
 refine ze ?_
 refine zo (.ptr 0 0) ?_
 refine zo (.ptr 0 5) ?_
 refine zo (.ptr 0 5) ?_
 refine zo (iv z2) ?_
 refine zo (bv (z2 == 0)) ?_
 refine za ((z2 == 0)) ?_ ?_
 ·exact zk (Zao (x3) (zl) (zp) (z7) (zd) (zh) (z2) (z6) (b1) ox3 zn zb zB zy hox3 zu zP zJ)
 ·exact zk (Z4G (x3) (zl) (zp) (z7) (zd) (zh) (z2) (z6) (b1) ox3 zn zb zB zy hox3 zu zP zJ)
theorem Z7p (x3 : List Z3) (zl : List Int) (zp : Int) (z7 : Int) (zd : Int) (zh : List Zq) (z2 : Int) (z6 : Int) {r} (h : Z4z x3 zl zp z7 zd zh z2 z6 = some r) : Z3z x3 zl zp z7 zd zh z2 z6 = some r :=
 pick_of (fun _ _ ha hb => RRun.uniq (Z97 _ _) (ha default .ex .ex .ex .ex .ex rfl rfl rfl rfl) (hb default .ex .ex .ex .ex .ex rfl rfl rfl rfl)) (fun b1 ox3 zn zb zB zy hox3 zu zP zJ => Zas x3 zl zp z7 zd zh z2 z6 b1 ox3 zn zb zB zy hox3 zu zP zJ r h)
noncomputable def Z5i (b0 : Zk) : Option (Int) :=
 (Z8u b0.b b0.at_).bind fun r1 =>
 some (r1.1)
theorem Zaa (b0 : Zk) (zn : Own) (zb : Own) (zu : okApp zb = true) : Sim (Z4d b0 zn zb) (Z5i b0) (Zfm 1 (.ptr 0 0) [(Zi b0 zn zb)]) := by
 unfold Z5i
 refine zf (ZiD ..) ?_
 refine ze ?_
 refine zo (.ptr 0 0) ?_
 refine zo (.ptr 0 0) ?_
 refine zo (.p (.lst (shrO zn) (b0.b.map (eI .u8)))) ?_
 refine zo (.ptr 0 0) ?_
 refine zo (.ptr 0 1) ?_
 refine zo (iv b0.at_) ?_
 refine zi fun r1 hr1 => ?_
 obtain ⟨qr1, er1, exr1, rfl⟩ := Zcc (b0.b) (b0.at_) .sh r1 hr1
 refine zc [] (.p (.tup [(.v (.int .i64 r1.1)), (.v (.int .i64 r1.2))])) [(Zi b0 zn zb)] er1 ?_
 refine zo (iv r1.1) ?_
 refine zo (iv r1.2) ?_
 refine ze ?_
 exact zr ((iv r1.1), [(Zi b0 zn zb)]) ⟨_, rfl⟩
noncomputable def Z63 (b0 : Zk) : Option (Int) :=
 if ((decide ((b0.b.length : Int) ≤ b0.at_))) = true then
 (some ((-1)))
 else
 (Z5i b0)
theorem Zbf (b0 : Zk) (zn : Own) (zb : Own) (zu : okApp zb = true) : Sim (Z4d b0 zn zb) (Z63 b0) (EE 41 [(.ptr 0 0)] [(Zi b0 zn zb)]) := by
 unfold Z63
 refine zf (Zl7 ..) ?_
 refine ze ?_
 refine ze ?_
 refine zo (.ptr 0 0) ?_
 refine zo (.ptr 0 1) ?_
 refine zo (iv b0.at_) ?_
 refine zo (.ptr 0 0) ?_
 refine zo (.ptr 0 0) ?_
 refine zo (.p (.lst (shrO zn) (b0.b.map (eI .u8)))) ?_
 refine zo (iv (b0.b.length : Int)) ?_ (Eq.trans (by kernel_rfl) (xlen_of (P := PP) (t := 40) (d := 5) (by kernel_rfl) (eI .u8) (shrO zn) b0.b))
 refine zo (bv (decide ((b0.b.length : Int) ≤ b0.at_))) ?_
 refine za ((decide ((b0.b.length : Int) ≤ b0.at_))) ?_ ?_
 ·refine ze ?_
  exact zr ((iv (-1)), [(Zi b0 zn zb)]) ⟨_, rfl⟩
 ·exact zk (Zaa (b0) zn zb zu)
theorem Zbw (b0 : Zk) {r} (h : Z63 b0 = some r) : Z1F b0 = some r :=
 pick_of (fun _ _ ha hb => RRun.uniq (ZbX _ _ _) (ha .ex .ex rfl) (hb .ex .ex rfl)) (fun zn zb zu => Zbf b0 zn zb zu r h)
noncomputable def Z7O  : Option (Int × Int) :=
 some (0, 0)
theorem Z9R  : Sim (Z5g) (Z7O) (Zeo 0  []) := by
 unfold Z7O
 refine zf (Zj1 ..) ?_
 refine ze ?_
 exact zr ((.p (.tup [(.v (.int .i64 0)), (.v (.int .i64 0))])), []) ⟨_, rfl⟩
noncomputable def Z7M (x0 : List Int) (x1 : Int) : Option (Int × Int) :=
 (lget x0 x1).bind fun a1 =>
 some ((IntKind.i64.wrap (1114112 + (IntKind.i64.wrap a1))), 1)
theorem Zdb (x0 : List Int) (x1 : Int) (ox0 : Own) : Sim (Z5g) (Z7M x0 x1) (Zg5 0 (.p (.lst ox0 (x0.map (eI .u8)))) (iv x1) []) := by
 unfold Z7M
 refine zf (Zj2 ..) ?_
 refine ze ?_
 refine zi fun a1 ha1 => ?_
 refine zo (.cptr [(.v (.int .u8 a1))]) ?_ (Eq.trans (by kernel_rfl) (xidx_of (o := (shrO ox0)) (k := .i64) (n := 1) (e := (eI .u8)) (cs := (fun a => [(eI .u8) a])) (fun _ => rfl) (fun _ => rfl) (by decide) ha1))
 refine zo (.p (.v (.int .u8 a1))) ?_
 refine zo (iv (IntKind.i64.wrap a1)) ?_
 refine zo (iv (IntKind.i64.wrap (1114112 + (IntKind.i64.wrap a1)))) ?_
 exact zr ((.p (.tup [(.v (.int .i64 (IntKind.i64.wrap (1114112 + (IntKind.i64.wrap a1))))), (.v (.int .i64 1))])), []) ⟨_, rfl⟩
noncomputable def Z5V (x6 : Int) (x7 : Int) : Option (Int × Int) :=
 some ((IntKind.i64.wrap x6), x7)
theorem Za3 (x6 : Int) (x7 : Int) : Sim (Z5g) (Z5V x6 x7) (Zei 0 (.p (.v (.int .i32 x6))) (iv x7) []) := by
 unfold Z5V
 refine zf (Zj0 ..) ?_
 refine ze ?_
 refine zo (iv (IntKind.i64.wrap x6)) ?_
 exact zr ((.p (.tup [(.v (.int .i64 (IntKind.i64.wrap x6))), (.v (.int .i64 x7))])), []) ⟨_, rfl⟩
noncomputable def Z7Y (x0 : List Int) (x1 : Int) : Option (Int × Int) :=
 (lsl x0 x1 (x0.length : Int)).bind fun a1 =>
 (Z5L a1).bind fun r2 =>
 if ((r2.1 == 65533)) = true then
 (if ((r2.2 == 1)) = true then
 (Z7M x0 x1)
 else
 (Z5V r2.1 r2.2))
 else
 (Z5V r2.1 r2.2)
theorem Zd5 (x0 : List Int) (x1 : Int) (ox0 : Own) : Sim (Z5g) (Z7Y x0 x1) (Zg1 0 (.p (.lst ox0 (x0.map (eI .u8)))) (iv x1) []) := by
 unfold Z7Y
 refine zf (Zit ..) ?_
 refine ze ?_
 refine zi fun a1 ha1 => ?_
 refine zo (.p (.lst (slO (shrO ox0)) (a1.map (eI .u8)))) ?_ (Eq.trans (by kernel_rfl) <| xsl_of (n := 1) (o := (shrO ox0)) (lo := (some (iv x1))) (hi := none) (e := (eI .u8)) (fun _ => rfl) (by decide) (by kernel_rfl) (by kernel_rfl) ha1)
 refine zi fun r2 hr2 => ?_
 obtain ⟨qr2, er2, exr2, rfl⟩ := Z9t (a1) .sh r2 hr2
 refine zc [] (.p (.tup [(.v (.int .i32 r2.1)), (.v (.int .i64 r2.2))])) [] er2 ?_
 refine zo (.p (.v (.int .i32 r2.1))) ?_
 refine zo (iv r2.2) ?_
 refine ze ?_
 refine zo (bv (r2.1 == 65533)) ?_
 refine za ((r2.1 == 65533)) ?_ ?_
 ·refine zo (bv (r2.2 == 1)) ?_
  refine za ((r2.2 == 1)) ?_ ?_
  ·exact zk (Zdb (x0) (x1) ox0)
  ·exact zk (Za3 (r2.1) (r2.2))
 ·exact zk (Za3 (r2.1) (r2.2))
noncomputable def Z9K (x0 : List Int) (x1 : Int) : Option (Int × Int) :=
 if ((decide (x1 < 0))) = true then
 (Z7O)
 else
 (if ((decide ((x0.length : Int) ≤ x1))) = true then
 (Z7O)
 else
 (Z7Y x0 x1))
theorem Zen (x0 : List Int) (x1 : Int) (ox0 : Own) : Sim (Z5g) (Z9K x0 x1) (EE 45 [(.p (.lst ox0 (x0.map (eI .u8)))), (iv x1)] []) := by
 unfold Z9K
 refine zf (ZjI ..) ?_
 refine ze ?_
 refine ze ?_
 refine zo (bv (decide (x1 < 0))) ?_
 refine za ((decide (x1 < 0))) ?_ ?_
 ·exact zk (Z9R )
 ·refine zo (iv (x0.length : Int)) ?_ (Eq.trans (by kernel_rfl) (xlen_of (P := PP) (t := 40) (d := 5) (by kernel_rfl) (eI .u8) (shrO ox0) x0))
  refine zo (bv (decide ((x0.length : Int) ≤ x1))) ?_
  refine za ((decide ((x0.length : Int) ≤ x1))) ?_ ?_
  ·exact zk (Z9R )
  ·exact zk (Zd5 (x0) (x1) ox0)
theorem ZeT (x0 : List Int) (x1 : Int) {r} (h : Z9K x0 x1 = some r) : Z8u x0 x1 = some r :=
 pick_of (fun _ _ ha hb => RRun.uniq (Zf0) (ha .ex) (hb .ex)) (fun ox0 => Zen x0 x1 ox0 r h)
end Go.Proofs.YtadodmjdkphddaaDoor.N2
end
section
set_option linter.unusedSimpArgs false
set_option linter.unusedVariables false
namespace Go.Proofs.YtadodmjdkphddaaDoor.N2
open Go Go.Abs
set_option linter.unusedVariables false
set_option maxRecDepth 100000
noncomputable def Z8c (x0 : Int) (x1 : List Z3) : Option (Z3) :=
 some ((Z3.mk x0 0 0 0 0 ([] : List Z8) x1))
theorem Zci (x0 : Int) (x1 : List Z3) (b0 : Z3) (ox1 : Own) (z1d : Own) (z12 : Own) (zjd : okApp z1d = true) (zhF : okApp z12 = true) : Sim (Z5U) (Z8c x0 x1) (ZfH 0 (iv x0) (.p (.lst ox1 (x1.map ZD))) (.ptr 0 0) [(Zo b0 z1d z12)]) := by
 unfold Z8c
 refine zf (ZiN ..) ?_
 refine ze ?_
 refine zo (.p (.agg (Zz (Z3.mk x0 0 0 0 0 ([] : List Z8) x1) .nl (shrO (shrO ox1))))) ?_
 refine zt [(Zo (Z3.mk x0 0 0 0 0 ([] : List Z8) x1) .nl (shrO (shrO ox1)))] ?_
 exact zr ((.p (.agg (Zz (Z3.mk x0 0 0 0 0 ([] : List Z8) x1) .sh .sh))), [(Zo (Z3.mk x0 0 0 0 0 ([] : List Z8) x1) .nl (shrO (shrO ox1)))]) ⟨_, rfl⟩
noncomputable def Z7X (x0 : Int) (x1 : List Z3) : Option (Z3) :=
 if (((x1.length : Int) == 0)) = true then
 (some ((Z3.mk 0 0 0 0 0 ([] : List Z8) ([] : List Z3))))
 else
 (if (((x1.length : Int) == 1)) = true then
 ((lget x1 0).bind fun a1 =>
 some (a1))
 else
 (Z8c x0 x1))
theorem Zd7 (x0 : Int) (x1 : List Z3) (ox1 : Own) : Sim (Z5U) (Z7X x0 x1) (EE 36 [(iv x0), (.p (.lst ox1 (x1.map ZD)))] []) := by
 unfold Z7X
 refine zf (ZjN ..) ?_
 refine ze ?_
 refine zz (.ptr 0 0) [(Zo (Z3.mk 0 0 0 0 0 ([] : List Z8) ([] : List Z3)) .nl .nl)] ?_
 refine ze ?_
 refine zo (iv (x1.length : Int)) ?_ (Eq.trans (by kernel_rfl) (xlen_of (P := PP) (t := 25) (d := 27) (by kernel_rfl) ZD (shrO ox1) x1))
 refine ze ?_
 refine zo (bv ((x1.length : Int) == 0)) ?_
 refine za (((x1.length : Int) == 0)) ?_ ?_
 ·refine ze ?_
  refine zo (.p (.agg (Zz (Z3.mk 0 0 0 0 0 ([] : List Z8) ([] : List Z3)) .nl .nl))) ?_
  refine zt [(Zo (Z3.mk 0 0 0 0 0 ([] : List Z8) ([] : List Z3)) .nl .nl)] ?_
  exact zr ((.p (.agg (Zz (Z3.mk 0 0 0 0 0 ([] : List Z8) ([] : List Z3)) .sh .sh))), [(Zo (Z3.mk 0 0 0 0 0 ([] : List Z8) ([] : List Z3)) .nl .nl)]) ⟨_, rfl⟩
 ·refine ze ?_
  refine zo (bv ((x1.length : Int) == 1)) ?_
  refine za (((x1.length : Int) == 1)) ?_ ?_
  ·refine ze ?_
   refine zi fun a1 ha1 => ?_
   refine zo (.cptr (Zz a1 .sh .sh)) ?_ (Eq.trans (by kernel_rfl) (xidx_of (o := (shrO ox1)) (k := .i64) (n := 7) (e := ZD) (cs := Z1T) Z3Y (fun _ => rfl) (by decide) ha1))
   refine zo (.p (.agg (Zz a1 .sh .sh))) ?_
   refine zt [(Zo a1 .sh .sh)] ?_
   exact zr ((.p (.agg (Zz a1 .sh .sh))), [(Zo a1 .sh .sh)]) ⟨_, rfl⟩
  ·exact zk (Zci (x0) (x1) ((Z3.mk 0 0 0 0 0 ([] : List Z8) ([] : List Z3))) ox1 .nl .nl rfl rfl)
theorem Zdy (x0 : Int) (x1 : List Z3) {r} (h : Z7X x0 x1 = some r) : Z6N x0 x1 = some r :=
 pick_of (fun _ _ ha hb => RRun.uniq (ZdJ) (ha .ex) (hb .ex)) (fun ox1 => Zd7 x0 x1 ox1 r h)
noncomputable def Z1i (zp : Int) (z7 : Int) (zd : Int) (zh : List Zq) (z2 : Int) (z6 : Int) : Option (Z3 × Bool × Int × Int × Int × (List Zq) × Int × Int) :=
 some ((Z3.mk 0 0 0 0 0 ([] : List Z8) ([] : List Z3)), true, zp, z7, zd, zh, z2, z6)
theorem Z1j (zl : List Int) (zp : Int) (z7 : Int) (zd : Int) (zh : List Zq) (z2 : Int) (z6 : Int) (b1 : Z3) (zn : Own) (zb : Own) (zB : Own) (zy : Own) (zu : okApp zb = true) (zP : okApp zB = true) (zJ : okApp zy = true) : Sim (Z4e zl zn) (Z1i zp z7 zd zh z2 z6) (Z5t 1 (.ptr 1 0) [(Zi (Zk.mk zl zp z7 zd zh (Zj.mk z2 z6)) zn zb), (Zo b1 zB zy)]) := by
 unfold Z1i
 refine zf (ZgX ..) ?_
 refine ze ?_
 refine zo (.p (.agg (Zz (Z3.mk 0 0 0 0 0 ([] : List Z8) ([] : List Z3)) .nl .nl))) ?_
 refine zt [(Zi (Zk.mk zl zp z7 zd zh (Zj.mk z2 z6)) zn zb), (Zo (Z3.mk 0 0 0 0 0 ([] : List Z8) ([] : List Z3)) .nl .nl)] ?_
 exact zr ((.p (.tup [(.agg (Zz (Z3.mk 0 0 0 0 0 ([] : List Z8) ([] : List Z3)) .sh .sh)), (.v (.bool true))])), [(Zi (Zk.mk zl zp z7 zd zh (Zj.mk z2 z6)) zn zb), (Zo (Z3.mk 0 0 0 0 0 ([] : List Z8) ([] : List Z3)) .nl .nl)]) ⟨zb, _, zu, rfl⟩
noncomputable def Z52 (zl : List Int) (zp : Int) (z7 : Int) (zd : Int) (zh : List Zq) (z2 : Int) (z6 : Int) : Option (Z3 × Bool × Int × Int × Int × (List Zq) × Int × Int) :=
 (Z26 zl zp).bind fun r1 =>
 if ((r1.1 == 46)) = true then
 ((Z1A 10).bind fun r2 =>
 (Z2J true (([r2] : List Z8))).bind fun r3 =>
 some (r3, true, r1.2, z7, zd, zh, z2, z6))
 else
 (if ((r1.1 == 94)) = true then
 (some ((Z3.mk 9 0 0 0 0 ([] : List Z8) ([] : List Z3)), false, r1.2, z7, zd, zh, z2, z6))
 else
 (if ((r1.1 == 36)) = true then
 (some ((Z3.mk 9 0 0 0 1 ([] : List Z8) ([] : List Z3)), false, r1.2, z7, zd, zh, z2, z6))
 else
 (if ((r1.1 == 92)) = true then
 ((Z3a zp zl r1.2 z7 zd zh z2 z6).bind fun r4 =>
 some (r4.1, (r4.1.Kind != 9), r4.2.1, z7, zd, r4.2.2.1, r4.2.2.2.1, r4.2.2.2.2))
 else
 (if ((r1.1 == 91)) = true then
 ((Z5O zp zl r1.2 z7 zd zh z2 z6).bind fun r5 =>
 some (r5.1, true, r5.2.1, z7, zd, zh, r5.2.2.1, r5.2.2.2))
 else
 (if ((r1.1 == 40)) = true then
 ((Z3h zp zl r1.2 z7 zd zh z2 z6).bind fun r6 =>
 some (r6.1, r6.2.1, r6.2.2.1, r6.2.2.2.1, r6.2.2.2.2.1, r6.2.2.2.2.2.1, r6.2.2.2.2.2.2.1, r6.2.2.2.2.2.2.2))
 else
 (if ((r1.1 == 42)) = true then
 (if ((r1.1 == 42)) = true then
 ((ZS 23 zp zl z2 z6).bind fun r7 =>
 Z1i r7.1 z7 zd zh r7.2.1 r7.2.2)
 else
 (if ((r1.1 == 93)) = true then
 (if ((r1.1 == 93)) = true then
 ((ZS 20 zp zl z2 z6).bind fun r8 =>
 Z1i r8.1 z7 zd zh r8.2.1 r8.2.2)
 else
 ((Z1A r1.1).bind fun r9 =>
 (Z2J false (([r9] : List Z8))).bind fun r10 =>
 some (r10, true, r1.2, z7, zd, zh, z2, z6)))
 else
 (if ((r1.1 == 125)) = true then
 ((ZS 20 zp zl z2 z6).bind fun r11 =>
 Z1i r11.1 z7 zd zh r11.2.1 r11.2.2)
 else
 ((Z1A r1.1).bind fun r12 =>
 (Z2J false (([r12] : List Z8))).bind fun r13 =>
 some (r13, true, r1.2, z7, zd, zh, z2, z6)))))
 else
 (if ((r1.1 == 43)) = true then
 (if ((r1.1 == 43)) = true then
 ((ZS 23 zp zl z2 z6).bind fun r14 =>
 Z1i r14.1 z7 zd zh r14.2.1 r14.2.2)
 else
 (if ((r1.1 == 93)) = true then
 (if ((r1.1 == 93)) = true then
 ((ZS 20 zp zl z2 z6).bind fun r15 =>
 Z1i r15.1 z7 zd zh r15.2.1 r15.2.2)
 else
 ((Z1A r1.1).bind fun r16 =>
 (Z2J false (([r16] : List Z8))).bind fun r17 =>
 some (r17, true, r1.2, z7, zd, zh, z2, z6)))
 else
 (if ((r1.1 == 125)) = true then
 ((ZS 20 zp zl z2 z6).bind fun r18 =>
 Z1i r18.1 z7 zd zh r18.2.1 r18.2.2)
 else
 ((Z1A r1.1).bind fun r19 =>
 (Z2J false (([r19] : List Z8))).bind fun r20 =>
 some (r20, true, r1.2, z7, zd, zh, z2, z6)))))
 else
 (if ((r1.1 == 63)) = true then
 (if ((r1.1 == 63)) = true then
 ((ZS 23 zp zl z2 z6).bind fun r21 =>
 Z1i r21.1 z7 zd zh r21.2.1 r21.2.2)
 else
 (if ((r1.1 == 93)) = true then
 (if ((r1.1 == 93)) = true then
 ((ZS 20 zp zl z2 z6).bind fun r22 =>
 Z1i r22.1 z7 zd zh r22.2.1 r22.2.2)
 else
 ((Z1A r1.1).bind fun r23 =>
 (Z2J false (([r23] : List Z8))).bind fun r24 =>
 some (r24, true, r1.2, z7, zd, zh, z2, z6)))
 else
 (if ((r1.1 == 125)) = true then
 ((ZS 20 zp zl z2 z6).bind fun r25 =>
 Z1i r25.1 z7 zd zh r25.2.1 r25.2.2)
 else
 ((Z1A r1.1).bind fun r26 =>
 (Z2J false (([r26] : List Z8))).bind fun r27 =>
 some (r27, true, r1.2, z7, zd, zh, z2, z6)))))
 else
 (if ((r1.1 == 123)) = true then
 ((ZS 23 zp zl z2 z6).bind fun r28 =>
 Z1i r28.1 z7 zd zh r28.2.1 r28.2.2)
 else
 (if ((r1.1 == 93)) = true then
 (if ((r1.1 == 93)) = true then
 ((ZS 20 zp zl z2 z6).bind fun r29 =>
 Z1i r29.1 z7 zd zh r29.2.1 r29.2.2)
 else
 ((Z1A r1.1).bind fun r30 =>
 (Z2J false (([r30] : List Z8))).bind fun r31 =>
 some (r31, true, r1.2, z7, zd, zh, z2, z6)))
 else
 (if ((r1.1 == 125)) = true then
 ((ZS 20 zp zl z2 z6).bind fun r32 =>
 Z1i r32.1 z7 zd zh r32.2.1 r32.2.2)
 else
 ((Z1A r1.1).bind fun r33 =>
 (Z2J false (([r33] : List Z8))).bind fun r34 =>
 some (r34, true, r1.2, z7, zd, zh, z2, z6)))))))))))))
theorem Zba (zl : List Int) (zp : Int) (z7 : Int) (zd : Int) (zh : List Zq) (z2 : Int) (z6 : Int) (zn : Own) (zb : Own) (zu : okApp zb = true) : Sim (Z4e zl zn) (Z52 zl zp z7 zd zh z2 z6) (EE 42 [(.ptr 0 0)] [(Zi (Zk.mk zl zp z7 zd zh (Zj.mk z2 z6)) zn zb)]) := by
 unfold Z52
 refine zf (Zla ..) ?_
 refine ze ?_
 refine zz (.ptr 1 0) [(Zi (Zk.mk zl zp z7 zd zh (Zj.mk z2 z6)) zn zb), (Zo (Z3.mk 0 0 0 0 0 ([] : List Z8) ([] : List Z3)) .nl .nl)] ?_
 refine ze ?_
 refine zo (.ptr 0 0) ?_
 refine zo (.ptr 0 1) ?_
 refine zo (iv zp) ?_
 refine ze ?_
 refine zi fun r1 hr1 => ?_
 obtain ⟨qr1, er1, exr1, rfl⟩ := Z2t (zl) (zp) (z7) (zd) (zh) (z2) (z6) zn zb zu r1 hr1
 refine zc [0] (iv r1.1) [(Zi (Zk.mk zl r1.2 z7 zd zh (Zj.mk z2 z6)) zn zb), (Zo (Z3.mk 0 0 0 0 0 ([] : List Z8) ([] : List Z3)) .nl .nl)] er1 ?_
 refine ze ?_
 refine ze ?_
 refine zo (bv (r1.1 == 46)) ?_
 refine za ((r1.1 == 46)) ?_ ?_
 ·refine ze ?_
  refine zi fun r2 hr2 => ?_
  obtain ⟨qr2, er2, exr2, rfl⟩ := Z1v (10) r2 hr2
  refine zc [] (.p (.agg (ZF r2))) [(Zi (Zk.mk zl r1.2 z7 zd zh (Zj.mk z2 z6)) zn zb), (Zo (Z3.mk 0 0 0 0 0 ([] : List Z8) ([] : List Z3)) .nl .nl)] er2 ?_
  refine zo (.p (.lst .ex (([r2] : List Z8).map Zv))) ?_
  refine zi fun r3 hr3 => ?_
  obtain ⟨qr3, er3, exr3, rfl⟩ := Z2S (true) (([r2] : List Z8)) .sh r3 hr3
  refine zc [] (.p (.agg (Zz r3 .sh .sh))) [(Zi (Zk.mk zl r1.2 z7 zd zh (Zj.mk z2 z6)) zn zb), (Zo (Z3.mk 0 0 0 0 0 ([] : List Z8) ([] : List Z3)) .nl .nl)] er3 ?_
  refine zt [(Zi (Zk.mk zl r1.2 z7 zd zh (Zj.mk z2 z6)) zn zb), (Zo r3 .sh .sh)] ?_
  exact zr ((.p (.tup [(.agg (Zz r3 .sh .sh)), (.v (.bool true))])), [(Zi (Zk.mk zl r1.2 z7 zd zh (Zj.mk z2 z6)) zn zb), (Zo r3 .sh .sh)]) ⟨zb, _, zu, rfl⟩
 ·refine ze ?_
  refine zo (bv (r1.1 == 94)) ?_
  refine za ((r1.1 == 94)) ?_ ?_
  ·refine ze ?_
   refine zo (.p (.agg (Zz (Z3.mk 9 0 0 0 0 ([] : List Z8) ([] : List Z3)) .nl .nl))) ?_
   refine zt [(Zi (Zk.mk zl r1.2 z7 zd zh (Zj.mk z2 z6)) zn zb), (Zo (Z3.mk 9 0 0 0 0 ([] : List Z8) ([] : List Z3)) .nl .nl)] ?_
   exact zr ((.p (.tup [(.agg (Zz (Z3.mk 9 0 0 0 0 ([] : List Z8) ([] : List Z3)) .sh .sh)), (.v (.bool false))])), [(Zi (Zk.mk zl r1.2 z7 zd zh (Zj.mk z2 z6)) zn zb), (Zo (Z3.mk 9 0 0 0 0 ([] : List Z8) ([] : List Z3)) .nl .nl)]) ⟨zb, _, zu, rfl⟩
  ·refine ze ?_
   refine zo (bv (r1.1 == 36)) ?_
   refine za ((r1.1 == 36)) ?_ ?_
   ·refine ze ?_
    refine zo (.p (.agg (Zz (Z3.mk 9 0 0 0 1 ([] : List Z8) ([] : List Z3)) .nl .nl))) ?_
    refine zt [(Zi (Zk.mk zl r1.2 z7 zd zh (Zj.mk z2 z6)) zn zb), (Zo (Z3.mk 9 0 0 0 1 ([] : List Z8) ([] : List Z3)) .nl .nl)] ?_
    exact zr ((.p (.tup [(.agg (Zz (Z3.mk 9 0 0 0 1 ([] : List Z8) ([] : List Z3)) .sh .sh)), (.v (.bool false))])), [(Zi (Zk.mk zl r1.2 z7 zd zh (Zj.mk z2 z6)) zn zb), (Zo (Z3.mk 9 0 0 0 1 ([] : List Z8) ([] : List Z3)) .nl .nl)]) ⟨zb, _, zu, rfl⟩
   ·refine ze ?_
    refine zo (bv (r1.1 == 92)) ?_
    refine za ((r1.1 == 92)) ?_ ?_
    ·refine ze ?_
     refine zi fun r4 hr4 => ?_
     obtain ⟨qr4, er4, or4_0_4, exr4, hor4_0_4, rfl⟩ := ZaQ (zp) (zl) (r1.2) (z7) (zd) (zh) (z2) (z6) zn zb zu r4 hr4
     refine zc [0] (.p (.agg (Zz r4.1 .sh .sh))) [(Zi (Zk.mk zl r4.2.1 z7 zd r4.2.2.1 (Zj.mk r4.2.2.2.1 r4.2.2.2.2)) zn or4_0_4), (Zo (Z3.mk 0 0 0 0 0 ([] : List Z8) ([] : List Z3)) .nl .nl)] er4 ?_
     refine zz (.ptr 2 0) [(Zi (Zk.mk zl r4.2.1 z7 zd r4.2.2.1 (Zj.mk r4.2.2.2.1 r4.2.2.2.2)) zn or4_0_4), (Zo (Z3.mk 0 0 0 0 0 ([] : List Z8) ([] : List Z3)) .nl .nl), (Zo (Z3.mk 0 0 0 0 0 ([] : List Z8) ([] : List Z3)) .nl .nl)] ?_
     refine zt [(Zi (Zk.mk zl r4.2.1 z7 zd r4.2.2.1 (Zj.mk r4.2.2.2.1 r4.2.2.2.2)) zn or4_0_4), (Zo (Z3.mk 0 0 0 0 0 ([] : List Z8) ([] : List Z3)) .nl .nl), (Zo r4.1 .sh .sh)] ?_
     refine ze ?_
     refine zo (.p (.agg (Zz r4.1 .sh .sh))) ?_
     refine zo (.ptr 2 0) ?_
     refine zo (iv r4.1.Kind) ?_
     refine zo (bv (r4.1.Kind != 9)) ?_
     refine zt [(Zi (Zk.mk zl r4.2.1 z7 zd r4.2.2.1 (Zj.mk r4.2.2.2.1 r4.2.2.2.2)) zn or4_0_4), (Zo r4.1 .sh .sh), (Zo r4.1 .sh .sh)] ?_
     refine zg ?_
     exact zr ((.p (.tup [(.agg (Zz r4.1 .sh .sh)), (.v (.bool (r4.1.Kind != 9)))])), [(Zi (Zk.mk zl r4.2.1 z7 zd r4.2.2.1 (Zj.mk r4.2.2.2.1 r4.2.2.2.2)) zn or4_0_4), (Zo r4.1 .sh .sh), (Zo r4.1 .sh .sh)]) ⟨or4_0_4, _, hor4_0_4, rfl⟩
    ·refine ze ?_
     refine zo (bv (r1.1 == 91)) ?_
     refine za ((r1.1 == 91)) ?_ ?_
     ·refine ze ?_
      refine zi fun r5 hr5 => ?_
      obtain ⟨qr5, er5, exr5, rfl⟩ := Zbb (zp) (zl) (r1.2) (z7) (zd) (zh) (z2) (z6) zn zb zu r5 hr5
      refine zc [0] (.p (.agg (Zz r5.1 .sh .sh))) [(Zi (Zk.mk zl r5.2.1 z7 zd zh (Zj.mk r5.2.2.1 r5.2.2.2)) zn zb), (Zo (Z3.mk 0 0 0 0 0 ([] : List Z8) ([] : List Z3)) .nl .nl)] er5 ?_
      refine zt [(Zi (Zk.mk zl r5.2.1 z7 zd zh (Zj.mk r5.2.2.1 r5.2.2.2)) zn zb), (Zo r5.1 .sh .sh)] ?_
      exact zr ((.p (.tup [(.agg (Zz r5.1 .sh .sh)), (.v (.bool true))])), [(Zi (Zk.mk zl r5.2.1 z7 zd zh (Zj.mk r5.2.2.1 r5.2.2.2)) zn zb), (Zo r5.1 .sh .sh)]) ⟨zb, _, zu, rfl⟩
     ·refine ze ?_
      refine zo (bv (r1.1 == 40)) ?_
      refine za ((r1.1 == 40)) ?_ ?_
      ·refine ze ?_
       refine zi fun r6 hr6 => ?_
       obtain ⟨qr6, er6, or6_0_4, exr6, hor6_0_4, rfl⟩ := Zb1 (zp) (zl) (r1.2) (z7) (zd) (zh) (z2) (z6) zn zb zu r6 hr6
       refine zc [0] (.p (.tup [(.agg (Zz r6.1 .sh .sh)), (.v (.bool r6.2.1))])) [(Zi (Zk.mk zl r6.2.2.1 r6.2.2.2.1 r6.2.2.2.2.1 r6.2.2.2.2.2.1 (Zj.mk r6.2.2.2.2.2.2.1 r6.2.2.2.2.2.2.2)) zn or6_0_4), (Zo (Z3.mk 0 0 0 0 0 ([] : List Z8) ([] : List Z3)) .nl .nl)] er6 ?_
       refine zo (.p (.agg (Zz r6.1 .sh .sh))) ?_
       refine zo (bv r6.2.1) ?_
       refine zt [(Zi (Zk.mk zl r6.2.2.1 r6.2.2.2.1 r6.2.2.2.2.1 r6.2.2.2.2.2.1 (Zj.mk r6.2.2.2.2.2.2.1 r6.2.2.2.2.2.2.2)) zn or6_0_4), (Zo r6.1 .sh .sh)] ?_
       exact zr ((.p (.tup [(.agg (Zz r6.1 .sh .sh)), (.v (.bool r6.2.1))])), [(Zi (Zk.mk zl r6.2.2.1 r6.2.2.2.1 r6.2.2.2.2.1 r6.2.2.2.2.2.1 (Zj.mk r6.2.2.2.2.2.2.1 r6.2.2.2.2.2.2.2)) zn or6_0_4), (Zo r6.1 .sh .sh)]) ⟨or6_0_4, _, hor6_0_4, rfl⟩
      ·refine ze ?_
       refine zo (bv (r1.1 == 42)) ?_
       refine za ((r1.1 == 42)) ?_ ?_
       ·refine za ((r1.1 == 42)) ?_ ?_
        ·refine ze ?_
         refine zi fun r7 hr7 => ?_
         obtain ⟨qr7, er7, exr7, rfl⟩ := ZV (23) (zp) (zl) (r1.2) (z7) (zd) (zh) (z2) (z6) zn zb zu r7 hr7
         refine zc [0] (.p (.tup [])) [(Zi (Zk.mk zl r7.1 z7 zd zh (Zj.mk r7.2.1 r7.2.2)) zn zb), (Zo (Z3.mk 0 0 0 0 0 ([] : List Z8) ([] : List Z3)) .nl .nl)] er7 ?_
         exact zk (Z1j (zl) (r7.1) (z7) (zd) (zh) (r7.2.1) (r7.2.2) ((Z3.mk 0 0 0 0 0 ([] : List Z8) ([] : List Z3))) zn zb .nl .nl zu rfl rfl)
        ·refine ze ?_
         refine zo (bv (r1.1 == 93)) ?_
         refine za ((r1.1 == 93)) ?_ ?_
         ·refine za ((r1.1 == 93)) ?_ ?_
          ·refine ze ?_
           refine zi fun r8 hr8 => ?_
           obtain ⟨qr8, er8, exr8, rfl⟩ := ZV (20) (zp) (zl) (r1.2) (z7) (zd) (zh) (z2) (z6) zn zb zu r8 hr8
           refine zc [0] (.p (.tup [])) [(Zi (Zk.mk zl r8.1 z7 zd zh (Zj.mk r8.2.1 r8.2.2)) zn zb), (Zo (Z3.mk 0 0 0 0 0 ([] : List Z8) ([] : List Z3)) .nl .nl)] er8 ?_
           exact zk (Z1j (zl) (r8.1) (z7) (zd) (zh) (r8.2.1) (r8.2.2) ((Z3.mk 0 0 0 0 0 ([] : List Z8) ([] : List Z3))) zn zb .nl .nl zu rfl rfl)
          ·refine ze ?_
           refine zi fun r9 hr9 => ?_
           obtain ⟨qr9, er9, exr9, rfl⟩ := Z1v (r1.1) r9 hr9
           refine zc [] (.p (.agg (ZF r9))) [(Zi (Zk.mk zl r1.2 z7 zd zh (Zj.mk z2 z6)) zn zb), (Zo (Z3.mk 0 0 0 0 0 ([] : List Z8) ([] : List Z3)) .nl .nl)] er9 ?_
           refine zo (.p (.lst .ex (([r9] : List Z8).map Zv))) ?_
           refine zi fun r10 hr10 => ?_
           obtain ⟨qr10, er10, exr10, rfl⟩ := Z2S (false) (([r9] : List Z8)) .sh r10 hr10
           refine zc [] (.p (.agg (Zz r10 .sh .sh))) [(Zi (Zk.mk zl r1.2 z7 zd zh (Zj.mk z2 z6)) zn zb), (Zo (Z3.mk 0 0 0 0 0 ([] : List Z8) ([] : List Z3)) .nl .nl)] er10 ?_
           refine zt [(Zi (Zk.mk zl r1.2 z7 zd zh (Zj.mk z2 z6)) zn zb), (Zo r10 .sh .sh)] ?_
           exact zr ((.p (.tup [(.agg (Zz r10 .sh .sh)), (.v (.bool true))])), [(Zi (Zk.mk zl r1.2 z7 zd zh (Zj.mk z2 z6)) zn zb), (Zo r10 .sh .sh)]) ⟨zb, _, zu, rfl⟩
         ·refine ze ?_
          refine zo (bv (r1.1 == 125)) ?_
          refine za ((r1.1 == 125)) ?_ ?_
          ·refine ze ?_
           refine zi fun r11 hr11 => ?_
           obtain ⟨qr11, er11, exr11, rfl⟩ := ZV (20) (zp) (zl) (r1.2) (z7) (zd) (zh) (z2) (z6) zn zb zu r11 hr11
           refine zc [0] (.p (.tup [])) [(Zi (Zk.mk zl r11.1 z7 zd zh (Zj.mk r11.2.1 r11.2.2)) zn zb), (Zo (Z3.mk 0 0 0 0 0 ([] : List Z8) ([] : List Z3)) .nl .nl)] er11 ?_
           exact zk (Z1j (zl) (r11.1) (z7) (zd) (zh) (r11.2.1) (r11.2.2) ((Z3.mk 0 0 0 0 0 ([] : List Z8) ([] : List Z3))) zn zb .nl .nl zu rfl rfl)
          ·refine ze ?_
           refine zi fun r12 hr12 => ?_
           obtain ⟨qr12, er12, exr12, rfl⟩ := Z1v (r1.1) r12 hr12
           refine zc [] (.p (.agg (ZF r12))) [(Zi (Zk.mk zl r1.2 z7 zd zh (Zj.mk z2 z6)) zn zb), (Zo (Z3.mk 0 0 0 0 0 ([] : List Z8) ([] : List Z3)) .nl .nl)] er12 ?_
           refine zo (.p (.lst .ex (([r12] : List Z8).map Zv))) ?_
           refine zi fun r13 hr13 => ?_
           obtain ⟨qr13, er13, exr13, rfl⟩ := Z2S (false) (([r12] : List Z8)) .sh r13 hr13
           refine zc [] (.p (.agg (Zz r13 .sh .sh))) [(Zi (Zk.mk zl r1.2 z7 zd zh (Zj.mk z2 z6)) zn zb), (Zo (Z3.mk 0 0 0 0 0 ([] : List Z8) ([] : List Z3)) .nl .nl)] er13 ?_
           refine zt [(Zi (Zk.mk zl r1.2 z7 zd zh (Zj.mk z2 z6)) zn zb), (Zo r13 .sh .sh)] ?_
           exact zr ((.p (.tup [(.agg (Zz r13 .sh .sh)), (.v (.bool true))])), [(Zi (Zk.mk zl r1.2 z7 zd zh (Zj.mk z2 z6)) zn zb), (Zo r13 .sh .sh)]) ⟨zb, _, zu, rfl⟩
       ·refine ze ?_
        refine zo (bv (r1.1 == 43)) ?_
        refine za ((r1.1 == 43)) ?_ ?_
        ·refine za ((r1.1 == 43)) ?_ ?_
         ·refine ze ?_
          refine zi fun r14 hr14 => ?_
          obtain ⟨qr14, er14, exr14, rfl⟩ := ZV (23) (zp) (zl) (r1.2) (z7) (zd) (zh) (z2) (z6) zn zb zu r14 hr14
          refine zc [0] (.p (.tup [])) [(Zi (Zk.mk zl r14.1 z7 zd zh (Zj.mk r14.2.1 r14.2.2)) zn zb), (Zo (Z3.mk 0 0 0 0 0 ([] : List Z8) ([] : List Z3)) .nl .nl)] er14 ?_
          exact zk (Z1j (zl) (r14.1) (z7) (zd) (zh) (r14.2.1) (r14.2.2) ((Z3.mk 0 0 0 0 0 ([] : List Z8) ([] : List Z3))) zn zb .nl .nl zu rfl rfl)
         ·refine ze ?_
          refine zo (bv (r1.1 == 93)) ?_
          refine za ((r1.1 == 93)) ?_ ?_
          ·refine za ((r1.1 == 93)) ?_ ?_
           ·refine ze ?_
            refine zi fun r15 hr15 => ?_
            obtain ⟨qr15, er15, exr15, rfl⟩ := ZV (20) (zp) (zl) (r1.2) (z7) (zd) (zh) (z2) (z6) zn zb zu r15 hr15
            refine zc [0] (.p (.tup [])) [(Zi (Zk.mk zl r15.1 z7 zd zh (Zj.mk r15.2.1 r15.2.2)) zn zb), (Zo (Z3.mk 0 0 0 0 0 ([] : List Z8) ([] : List Z3)) .nl .nl)] er15 ?_
            exact zk (Z1j (zl) (r15.1) (z7) (zd) (zh) (r15.2.1) (r15.2.2) ((Z3.mk 0 0 0 0 0 ([] : List Z8) ([] : List Z3))) zn zb .nl .nl zu rfl rfl)
           ·refine ze ?_
            refine zi fun r16 hr16 => ?_
            obtain ⟨qr16, er16, exr16, rfl⟩ := Z1v (r1.1) r16 hr16
            refine zc [] (.p (.agg (ZF r16))) [(Zi (Zk.mk zl r1.2 z7 zd zh (Zj.mk z2 z6)) zn zb), (Zo (Z3.mk 0 0 0 0 0 ([] : List Z8) ([] : List Z3)) .nl .nl)] er16 ?_
            refine zo (.p (.lst .ex (([r16] : List Z8).map Zv))) ?_
            refine zi fun r17 hr17 => ?_
            obtain ⟨qr17, er17, exr17, rfl⟩ := Z2S (false) (([r16] : List Z8)) .sh r17 hr17
            refine zc [] (.p (.agg (Zz r17 .sh .sh))) [(Zi (Zk.mk zl r1.2 z7 zd zh (Zj.mk z2 z6)) zn zb), (Zo (Z3.mk 0 0 0 0 0 ([] : List Z8) ([] : List Z3)) .nl .nl)] er17 ?_
            refine zt [(Zi (Zk.mk zl r1.2 z7 zd zh (Zj.mk z2 z6)) zn zb), (Zo r17 .sh .sh)] ?_
            exact zr ((.p (.tup [(.agg (Zz r17 .sh .sh)), (.v (.bool true))])), [(Zi (Zk.mk zl r1.2 z7 zd zh (Zj.mk z2 z6)) zn zb), (Zo r17 .sh .sh)]) ⟨zb, _, zu, rfl⟩
          ·refine ze ?_
           refine zo (bv (r1.1 == 125)) ?_
           refine za ((r1.1 == 125)) ?_ ?_
           ·refine ze ?_
            refine zi fun r18 hr18 => ?_
            obtain ⟨qr18, er18, exr18, rfl⟩ := ZV (20) (zp) (zl) (r1.2) (z7) (zd) (zh) (z2) (z6) zn zb zu r18 hr18
            refine zc [0] (.p (.tup [])) [(Zi (Zk.mk zl r18.1 z7 zd zh (Zj.mk r18.2.1 r18.2.2)) zn zb), (Zo (Z3.mk 0 0 0 0 0 ([] : List Z8) ([] : List Z3)) .nl .nl)] er18 ?_
            exact zk (Z1j (zl) (r18.1) (z7) (zd) (zh) (r18.2.1) (r18.2.2) ((Z3.mk 0 0 0 0 0 ([] : List Z8) ([] : List Z3))) zn zb .nl .nl zu rfl rfl)
           ·refine ze ?_
            refine zi fun r19 hr19 => ?_
            obtain ⟨qr19, er19, exr19, rfl⟩ := Z1v (r1.1) r19 hr19
            refine zc [] (.p (.agg (ZF r19))) [(Zi (Zk.mk zl r1.2 z7 zd zh (Zj.mk z2 z6)) zn zb), (Zo (Z3.mk 0 0 0 0 0 ([] : List Z8) ([] : List Z3)) .nl .nl)] er19 ?_
            refine zo (.p (.lst .ex (([r19] : List Z8).map Zv))) ?_
            refine zi fun r20 hr20 => ?_
            obtain ⟨qr20, er20, exr20, rfl⟩ := Z2S (false) (([r19] : List Z8)) .sh r20 hr20
            refine zc [] (.p (.agg (Zz r20 .sh .sh))) [(Zi (Zk.mk zl r1.2 z7 zd zh (Zj.mk z2 z6)) zn zb), (Zo (Z3.mk 0 0 0 0 0 ([] : List Z8) ([] : List Z3)) .nl .nl)] er20 ?_
            refine zt [(Zi (Zk.mk zl r1.2 z7 zd zh (Zj.mk z2 z6)) zn zb), (Zo r20 .sh .sh)] ?_
            exact zr ((.p (.tup [(.agg (Zz r20 .sh .sh)), (.v (.bool true))])), [(Zi (Zk.mk zl r1.2 z7 zd zh (Zj.mk z2 z6)) zn zb), (Zo r20 .sh .sh)]) ⟨zb, _, zu, rfl⟩
        ·refine ze ?_
         refine zo (bv (r1.1 == 63)) ?_
         refine za ((r1.1 == 63)) ?_ ?_
         ·refine za ((r1.1 == 63)) ?_ ?_
          ·refine ze ?_
           refine zi fun r21 hr21 => ?_
           obtain ⟨qr21, er21, exr21, rfl⟩ := ZV (23) (zp) (zl) (r1.2) (z7) (zd) (zh) (z2) (z6) zn zb zu r21 hr21
           refine zc [0] (.p (.tup [])) [(Zi (Zk.mk zl r21.1 z7 zd zh (Zj.mk r21.2.1 r21.2.2)) zn zb), (Zo (Z3.mk 0 0 0 0 0 ([] : List Z8) ([] : List Z3)) .nl .nl)] er21 ?_
           exact zk (Z1j (zl) (r21.1) (z7) (zd) (zh) (r21.2.1) (r21.2.2) ((Z3.mk 0 0 0 0 0 ([] : List Z8) ([] : List Z3))) zn zb .nl .nl zu rfl rfl)
          ·refine ze ?_
           refine zo (bv (r1.1 == 93)) ?_
           refine za ((r1.1 == 93)) ?_ ?_
           ·refine za ((r1.1 == 93)) ?_ ?_
            ·refine ze ?_
             refine zi fun r22 hr22 => ?_
             obtain ⟨qr22, er22, exr22, rfl⟩ := ZV (20) (zp) (zl) (r1.2) (z7) (zd) (zh) (z2) (z6) zn zb zu r22 hr22
             refine zc [0] (.p (.tup [])) [(Zi (Zk.mk zl r22.1 z7 zd zh (Zj.mk r22.2.1 r22.2.2)) zn zb), (Zo (Z3.mk 0 0 0 0 0 ([] : List Z8) ([] : List Z3)) .nl .nl)] er22 ?_
             exact zk (Z1j (zl) (r22.1) (z7) (zd) (zh) (r22.2.1) (r22.2.2) ((Z3.mk 0 0 0 0 0 ([] : List Z8) ([] : List Z3))) zn zb .nl .nl zu rfl rfl)
            ·refine ze ?_
             refine zi fun r23 hr23 => ?_
             obtain ⟨qr23, er23, exr23, rfl⟩ := Z1v (r1.1) r23 hr23
             refine zc [] (.p (.agg (ZF r23))) [(Zi (Zk.mk zl r1.2 z7 zd zh (Zj.mk z2 z6)) zn zb), (Zo (Z3.mk 0 0 0 0 0 ([] : List Z8) ([] : List Z3)) .nl .nl)] er23 ?_
             refine zo (.p (.lst .ex (([r23] : List Z8).map Zv))) ?_
             refine zi fun r24 hr24 => ?_
             obtain ⟨qr24, er24, exr24, rfl⟩ := Z2S (false) (([r23] : List Z8)) .sh r24 hr24
             refine zc [] (.p (.agg (Zz r24 .sh .sh))) [(Zi (Zk.mk zl r1.2 z7 zd zh (Zj.mk z2 z6)) zn zb), (Zo (Z3.mk 0 0 0 0 0 ([] : List Z8) ([] : List Z3)) .nl .nl)] er24 ?_
             refine zt [(Zi (Zk.mk zl r1.2 z7 zd zh (Zj.mk z2 z6)) zn zb), (Zo r24 .sh .sh)] ?_
             exact zr ((.p (.tup [(.agg (Zz r24 .sh .sh)), (.v (.bool true))])), [(Zi (Zk.mk zl r1.2 z7 zd zh (Zj.mk z2 z6)) zn zb), (Zo r24 .sh .sh)]) ⟨zb, _, zu, rfl⟩
           ·refine ze ?_
            refine zo (bv (r1.1 == 125)) ?_
            refine za ((r1.1 == 125)) ?_ ?_
            ·refine ze ?_
             refine zi fun r25 hr25 => ?_
             obtain ⟨qr25, er25, exr25, rfl⟩ := ZV (20) (zp) (zl) (r1.2) (z7) (zd) (zh) (z2) (z6) zn zb zu r25 hr25
             refine zc [0] (.p (.tup [])) [(Zi (Zk.mk zl r25.1 z7 zd zh (Zj.mk r25.2.1 r25.2.2)) zn zb), (Zo (Z3.mk 0 0 0 0 0 ([] : List Z8) ([] : List Z3)) .nl .nl)] er25 ?_
             exact zk (Z1j (zl) (r25.1) (z7) (zd) (zh) (r25.2.1) (r25.2.2) ((Z3.mk 0 0 0 0 0 ([] : List Z8) ([] : List Z3))) zn zb .nl .nl zu rfl rfl)
            ·refine ze ?_
             refine zi fun r26 hr26 => ?_
             obtain ⟨qr26, er26, exr26, rfl⟩ := Z1v (r1.1) r26 hr26
             refine zc [] (.p (.agg (ZF r26))) [(Zi (Zk.mk zl r1.2 z7 zd zh (Zj.mk z2 z6)) zn zb), (Zo (Z3.mk 0 0 0 0 0 ([] : List Z8) ([] : List Z3)) .nl .nl)] er26 ?_
             refine zo (.p (.lst .ex (([r26] : List Z8).map Zv))) ?_
             refine zi fun r27 hr27 => ?_
             obtain ⟨qr27, er27, exr27, rfl⟩ := Z2S (false) (([r26] : List Z8)) .sh r27 hr27
             refine zc [] (.p (.agg (Zz r27 .sh .sh))) [(Zi (Zk.mk zl r1.2 z7 zd zh (Zj.mk z2 z6)) zn zb), (Zo (Z3.mk 0 0 0 0 0 ([] : List Z8) ([] : List Z3)) .nl .nl)] er27 ?_
             refine zt [(Zi (Zk.mk zl r1.2 z7 zd zh (Zj.mk z2 z6)) zn zb), (Zo r27 .sh .sh)] ?_
             exact zr ((.p (.tup [(.agg (Zz r27 .sh .sh)), (.v (.bool true))])), [(Zi (Zk.mk zl r1.2 z7 zd zh (Zj.mk z2 z6)) zn zb), (Zo r27 .sh .sh)]) ⟨zb, _, zu, rfl⟩
         ·refine ze ?_
          refine zo (bv (r1.1 == 123)) ?_
          refine za ((r1.1 == 123)) ?_ ?_
          ·refine ze ?_
           refine zi fun r28 hr28 => ?_
           obtain ⟨qr28, er28, exr28, rfl⟩ := ZV (23) (zp) (zl) (r1.2) (z7) (zd) (zh) (z2) (z6) zn zb zu r28 hr28
           refine zc [0] (.p (.tup [])) [(Zi (Zk.mk zl r28.1 z7 zd zh (Zj.mk r28.2.1 r28.2.2)) zn zb), (Zo (Z3.mk 0 0 0 0 0 ([] : List Z8) ([] : List Z3)) .nl .nl)] er28 ?_
           exact zk (Z1j (zl) (r28.1) (z7) (zd) (zh) (r28.2.1) (r28.2.2) ((Z3.mk 0 0 0 0 0 ([] : List Z8) ([] : List Z3))) zn zb .nl .nl zu rfl rfl)
          ·refine ze ?_
           refine zo (bv (r1.1 == 93)) ?_
           refine za ((r1.1 == 93)) ?_ ?_
           ·refine za ((r1.1 == 93)) ?_ ?_
            ·refine ze ?_
             refine zi fun r29 hr29 => ?_
             obtain ⟨qr29, er29, exr29, rfl⟩ := ZV (20) (zp) (zl) (r1.2) (z7) (zd) (zh) (z2) (z6) zn zb zu r29 hr29
             refine zc [0] (.p (.tup [])) [(Zi (Zk.mk zl r29.1 z7 zd zh (Zj.mk r29.2.1 r29.2.2)) zn zb), (Zo (Z3.mk 0 0 0 0 0 ([] : List Z8) ([] : List Z3)) .nl .nl)] er29 ?_
             exact zk (Z1j (zl) (r29.1) (z7) (zd) (zh) (r29.2.1) (r29.2.2) ((Z3.mk 0 0 0 0 0 ([] : List Z8) ([] : List Z3))) zn zb .nl .nl zu rfl rfl)
            ·refine ze ?_
             refine zi fun r30 hr30 => ?_
             obtain ⟨qr30, er30, exr30, rfl⟩ := Z1v (r1.1) r30 hr30
             refine zc [] (.p (.agg (ZF r30))) [(Zi (Zk.mk zl r1.2 z7 zd zh (Zj.mk z2 z6)) zn zb), (Zo (Z3.mk 0 0 0 0 0 ([] : List Z8) ([] : List Z3)) .nl .nl)] er30 ?_
             refine zo (.p (.lst .ex (([r30] : List Z8).map Zv))) ?_
             refine zi fun r31 hr31 => ?_
             obtain ⟨qr31, er31, exr31, rfl⟩ := Z2S (false) (([r30] : List Z8)) .sh r31 hr31
             refine zc [] (.p (.agg (Zz r31 .sh .sh))) [(Zi (Zk.mk zl r1.2 z7 zd zh (Zj.mk z2 z6)) zn zb), (Zo (Z3.mk 0 0 0 0 0 ([] : List Z8) ([] : List Z3)) .nl .nl)] er31 ?_
             refine zt [(Zi (Zk.mk zl r1.2 z7 zd zh (Zj.mk z2 z6)) zn zb), (Zo r31 .sh .sh)] ?_
             exact zr ((.p (.tup [(.agg (Zz r31 .sh .sh)), (.v (.bool true))])), [(Zi (Zk.mk zl r1.2 z7 zd zh (Zj.mk z2 z6)) zn zb), (Zo r31 .sh .sh)]) ⟨zb, _, zu, rfl⟩
           ·refine ze ?_
            refine zo (bv (r1.1 == 125)) ?_
            refine za ((r1.1 == 125)) ?_ ?_
            ·refine ze ?_
             refine zi fun r32 hr32 => ?_
             obtain ⟨qr32, er32, exr32, rfl⟩ := ZV (20) (zp) (zl) (r1.2) (z7) (zd) (zh) (z2) (z6) zn zb zu r32 hr32
             refine zc [0] (.p (.tup [])) [(Zi (Zk.mk zl r32.1 z7 zd zh (Zj.mk r32.2.1 r32.2.2)) zn zb), (Zo (Z3.mk 0 0 0 0 0 ([] : List Z8) ([] : List Z3)) .nl .nl)] er32 ?_
             exact zk (Z1j (zl) (r32.1) (z7) (zd) (zh) (r32.2.1) (r32.2.2) ((Z3.mk 0 0 0 0 0 ([] : List Z8) ([] : List Z3))) zn zb .nl .nl zu rfl rfl)
            ·refine ze ?_
             refine zi fun r33 hr33 => ?_
             obtain ⟨qr33, er33, exr33, rfl⟩ := Z1v (r1.1) r33 hr33
             refine zc [] (.p (.agg (ZF r33))) [(Zi (Zk.mk zl r1.2 z7 zd zh (Zj.mk z2 z6)) zn zb), (Zo (Z3.mk 0 0 0 0 0 ([] : List Z8) ([] : List Z3)) .nl .nl)] er33 ?_
             refine zo (.p (.lst .ex (([r33] : List Z8).map Zv))) ?_
             refine zi fun r34 hr34 => ?_
             obtain ⟨qr34, er34, exr34, rfl⟩ := Z2S (false) (([r33] : List Z8)) .sh r34 hr34
             refine zc [] (.p (.agg (Zz r34 .sh .sh))) [(Zi (Zk.mk zl r1.2 z7 zd zh (Zj.mk z2 z6)) zn zb), (Zo (Z3.mk 0 0 0 0 0 ([] : List Z8) ([] : List Z3)) .nl .nl)] er34 ?_
             refine zt [(Zi (Zk.mk zl r1.2 z7 zd zh (Zj.mk z2 z6)) zn zb), (Zo r34 .sh .sh)] ?_
             exact zr ((.p (.tup [(.agg (Zz r34 .sh .sh)), (.v (.bool true))])), [(Zi (Zk.mk zl r1.2 z7 zd zh (Zj.mk z2 z6)) zn zb), (Zo r34 .sh .sh)]) ⟨zb, _, zu, rfl⟩
theorem Zbr (zl : List Int) (zp : Int) (z7 : Int) (zd : Int) (zh : List Zq) (z2 : Int) (z6 : Int) {r} (h : Z52 zl zp z7 zd zh z2 z6 = some r) : Z68 zl zp z7 zd zh z2 z6 = some r :=
 pick_of (fun _ _ ha hb => RRun.uniq (Zcn _ _) (ha .ex .ex rfl) (hb .ex .ex rfl)) (fun zn zb zu => Zba zl zp z7 zd zh z2 z6 zn zb zu r h)
noncomputable def Z69 (zl : List Int) (zp : Int) : Option (Int × Int) :=
 (Z8u zl zp).bind fun r1 =>
 some (r1.1, (IntKind.i64.wrap (zp + r1.2)))
theorem Zbe (zl : List Int) (zp : Int) (z7 : Int) (zd : Int) (zh : List Zq) (z2 : Int) (z6 : Int) (zn : Own) (zb : Own) (zu : okApp zb = true) : Sim (Z56 zl z7 zd zh z2 z6 zn zb) (Z69 zl zp) (EE 46 [(.ptr 0 0)] [(Zi (Zk.mk zl zp z7 zd zh (Zj.mk z2 z6)) zn zb)]) := by
 unfold Z69
 refine zf (ZjR ..) ?_
 refine ze ?_
 refine ze ?_
 refine zo (.ptr 0 0) ?_
 refine zo (.ptr 0 0) ?_
 refine zo (.p (.lst (shrO zn) (zl.map (eI .u8)))) ?_
 refine zo (.ptr 0 0) ?_
 refine zo (.ptr 0 1) ?_
 refine zo (iv zp) ?_
 refine zi fun r1 hr1 => ?_
 obtain ⟨qr1, er1, exr1, rfl⟩ := Zcc (zl) (zp) .sh r1 hr1
 refine zc [] (.p (.tup [(.v (.int .i64 r1.1)), (.v (.int .i64 r1.2))])) [(Zi (Zk.mk zl zp z7 zd zh (Zj.mk z2 z6)) zn zb)] er1 ?_
 refine zo (iv r1.1) ?_
 refine zo (iv r1.2) ?_
 refine ze ?_
 refine zo (.ptr 0 0) ?_
 refine zo (.ptr 0 1) ?_
 refine zo (iv zp) ?_
 refine zo (iv (IntKind.i64.wrap (zp + r1.2))) ?_
 refine zo (.ptr 0 0) ?_
 refine zo (.ptr 0 1) ?_
 refine zt [(Zi (Zk.mk zl (IntKind.i64.wrap (zp + r1.2)) z7 zd zh (Zj.mk z2 z6)) zn zb)] ?_
 refine ze ?_
 exact zr ((iv r1.1), [(Zi (Zk.mk zl (IntKind.i64.wrap (zp + r1.2)) z7 zd zh (Zj.mk z2 z6)) zn zb)]) ⟨_, rfl⟩
theorem ZbC (zl : List Int) (zp : Int) {r} (h : Z69 zl zp = some r) : Z26 zl zp = some r :=
 pick_of (fun _ _ ha hb => RRun.uniq (ZbV _ _ _ _ _ _ _ _) (ha default default default default default .ex .ex rfl) (hb default default default default default .ex .ex rfl)) (fun z7 zd zh z2 z6 zn zb zu => Zbe zl zp z7 zd zh z2 z6 zn zb zu r h)
noncomputable def ZbB (x0 : Int) : Option (Z8) :=
 some ((Z8.mk x0 x0))
theorem ZdU (x0 : Int) : Sim (Z8o) (ZbB x0) (EE 48 [(iv x0)] []) := by
 unfold ZbB
 refine zf (ZkN ..) ?_
 refine ze ?_
 refine zz (.ptr 0 0) [(Z1B (Z8.mk 0 0))] ?_
 refine ze ?_
 refine zo (.p (.agg (ZF (Z8.mk x0 x0)))) ?_
 refine zt [(Z1B (Z8.mk x0 x0))] ?_
 exact zr ((.p (.agg (ZF (Z8.mk x0 x0)))), [(Z1B (Z8.mk x0 x0))]) ⟨_, rfl⟩
theorem ZeE (x0 : Int) {r} (h : ZbB x0 = some r) : Z1A x0 = some r :=
 pick_of (fun _ _ ha hb => RRun.uniq (Zf3) (ha ) (hb )) (ZdU x0 r h)
noncomputable def Z7H (x5 : List Z8) : Option (Z3) :=
 some ((Z3.mk 1 0 0 0 0 x5 ([] : List Z3)))
theorem Z9X (x5 : List Z8) (b0 : Z3) (ox5 : Own) (z1d : Own) (z12 : Own) (zjd : okApp z1d = true) (zhF : okApp z12 = true) : Sim (Z78) (Z7H x5) (Ze4 0 (.ptr 0 0) (.p (.lst ox5 (x5.map Zv))) [(Zo b0 z1d z12)]) := by
 unfold Z7H
 refine zf (ZiQ ..) ?_
 refine ze ?_
 refine zo (.p (.agg (Zz (Z3.mk 1 0 0 0 0 x5 ([] : List Z3)) (shrO (shrO ox5)) .nl))) ?_
 refine zt [(Zo (Z3.mk 1 0 0 0 0 x5 ([] : List Z3)) (shrO (shrO ox5)) .nl)] ?_
 exact zr ((.p (.agg (Zz (Z3.mk 1 0 0 0 0 x5 ([] : List Z3)) .sh .sh))), [(Zo (Z3.mk 1 0 0 0 0 x5 ([] : List Z3)) (shrO (shrO ox5)) .nl)]) ⟨_, rfl⟩
noncomputable def Z9L (x0 : Bool) (x1 : List Z8) : Option (Z3) :=
 (Z9j x1).bind fun r1 =>
 if (x0) = true then
 ((Z6f r1.1).bind fun r2 =>
 Z7H r2.1)
 else
 (Z7H r1.1)
theorem ZdX (x0 : Bool) (x1 : List Z8) (ox1 : Own) : Sim (Z78) (Z9L x0 x1) (EE 47 [(bv x0), (.p (.lst ox1 (x1.map Zv)))] []) := by
 unfold Z9L
 refine zf (Zk9 ..) ?_
 refine ze ?_
 refine zz (.ptr 0 0) [(Zo (Z3.mk 0 0 0 0 0 ([] : List Z8) ([] : List Z3)) .nl .nl)] ?_
 refine ze ?_
 refine zi fun r1 hr1 => ?_
 obtain ⟨qr1, er1, exr1, rfl⟩ := Ze0 (x1) .sh r1 hr1
 refine zc [] (.p (.tup [(.lst .sh (r1.1.map Zv)), (.v (.int .i64 r1.2))])) [(Zo (Z3.mk 0 0 0 0 0 ([] : List Z8) ([] : List Z3)) .nl .nl)] er1 ?_
 refine zo (.p (.lst .sh (r1.1.map Zv))) ?_
 refine zo (iv r1.2) ?_
 refine ze ?_
 refine za (x0) ?_ ?_
 ·refine ze ?_
  refine zi fun r2 hr2 => ?_
  obtain ⟨qr2, er2, exr2, rfl⟩ := Za1 (r1.1) .sh r2 hr2
  refine zc [] (.p (.tup [(.lst .sh (r2.1.map Zv)), (.v (.int .i64 r2.2))])) [(Zo (Z3.mk 0 0 0 0 0 ([] : List Z8) ([] : List Z3)) .nl .nl)] er2 ?_
  refine zo (.p (.lst .sh (r2.1.map Zv))) ?_
  refine zo (iv r2.2) ?_
  exact zk (Z9X (r2.1) ((Z3.mk 0 0 0 0 0 ([] : List Z8) ([] : List Z3))) .sh .nl .nl rfl rfl)
 ·exact zk (Z9X (r1.1) ((Z3.mk 0 0 0 0 0 ([] : List Z8) ([] : List Z3))) .sh .nl .nl rfl rfl)
theorem ZeU (x0 : Bool) (x1 : List Z8) {r} (h : Z9L x0 x1 = some r) : Z2J x0 x1 = some r :=
 pick_of (fun _ _ ha hb => RRun.uniq (Zf1) (ha .ex) (hb .ex)) (fun ox1 => ZdX x0 x1 ox1 r h)
noncomputable def Z7h (x0 : List Z8) : Option ((List Z8) × Int) :=
 (Z7T x0).bind fun r1 =>
 some (r1, 0)
theorem ZcJ (x0 : List Z8) (ox0 : Own) : Sim (Z6E) (Z7h x0) (Zgd 0 (.p (.lst ox0 (x0.map Zv))) []) := by
 unfold Z7h
 refine zf (Ziw ..) ?_
 refine ze ?_
 refine zi fun r1 hr1 => ?_
 obtain ⟨qr1, er1, exr1, rfl⟩ := Zaf (x0) .sh r1 hr1
 refine zc [] (.p (.lst .sh (r1.map Zv))) [] er1 ?_
 exact zr ((.p (.tup [(.lst .sh (r1.map Zv)), (.v (.int .i64 0))])), []) ⟨_, rfl⟩
noncomputable def Z9b (x0 : List Z8) : Option ((List Z8) × Int) :=
 (Z3j x0).bind fun r1 =>
 if (r1) = true then
 (some (([] : List Z8), 13))
 else
 (Z7h x0)
theorem ZdF (x0 : List Z8) (ox0 : Own) : Sim (Z6E) (Z9b x0) (EE 54 [(.p (.lst ox0 (x0.map Zv)))] []) := by
 unfold Z9b
 refine zf (ZkX ..) ?_
 refine ze ?_
 refine ze ?_
 refine zi fun r1 hr1 => ?_
 obtain ⟨qr1, er1, exr1, rfl⟩ := Z89 (x0) .sh r1 hr1
 refine zc [] (bv r1) [] er1 ?_
 refine za (r1) ?_ ?_
 ·refine ze ?_
  exact zr ((.p (.tup [(.lst .sh []), (.v (.int .i64 13))])), []) ⟨_, rfl⟩
 ·exact zk (ZcJ (x0) ox0)
theorem Zem (x0 : List Z8) {r} (h : Z9b x0 = some r) : Z9j x0 = some r :=
 pick_of (fun _ _ ha hb => RRun.uniq (ZeP) (ha .ex) (hb .ex)) (fun ox0 => ZdF x0 ox0 r h)
noncomputable def Z3p (x0 : List Z8) : Option (Bool) :=
 (Z3V x0).bind fun r1 =>
 some ((decide (0 ≤ r1)))
theorem Z82 (x0 : List Z8) (ox0 : Own) : Sim (Z2Q) (Z3p x0) (EE 65 [(.p (.lst ox0 (x0.map Zv))), (.clo 66 [] [])] []) := by
 unfold Z3p
 refine zf (ZkJ ..) ?_
 refine ze ?_
 refine ze ?_
 refine zi fun r1 hr1 => ?_
 obtain ⟨qr1, er1, exr1, rfl⟩ := Z90 (x0) .sh r1 hr1
 refine zc [] (iv r1) [] er1 ?_
 refine zo (bv (decide (0 ≤ r1))) ?_
 exact zr ((bv (decide (0 ≤ r1))), []) ⟨_, rfl⟩
theorem Z8b (x0 : List Z8) {r} (h : Z3p x0 = some r) : Z3j x0 = some r :=
 pick_of (fun _ _ ha hb => RRun.uniq (Z8l) (ha .ex) (hb .ex)) (fun ox0 => Z82 x0 ox0 r h)
noncomputable def Z3T (x0 : List Z8) : Option (Int) :=
 Z2N x0 ((x0.length : Int)) 0
theorem Z8J (x0 : List Z8) (ox0 : Own) : Sim (Z1o) (Z3T x0) (EE 73 [(.p (.lst ox0 (x0.map Zv))), (.clo 66 [] [])] []) := by
 unfold Z3T
 refine zf (Zjv ..) ?_
 refine ze ?_
 refine ze ?_
 refine zo (iv (x0.length : Int)) ?_ (Eq.trans (by kernel_rfl) (xlen_of (P := PP) (t := 23) (d := 39) (by kernel_rfl) Zv (shrO ox0) x0))
 exact zk (Z5F (x0) ((x0.length : Int)) (0) ox0)
theorem Z91 (x0 : List Z8) {r} (h : Z3T x0 = some r) : Z3V x0 = some r :=
 pick_of (fun _ _ ha hb => RRun.uniq (Z6o) (ha .ex) (hb .ex)) (fun ox0 => Z8J x0 ox0 r h)
noncomputable def Z3o (x0 : List Z8) (x7 : Int) (x8 : Int) : Option (Int) :=
 Z2N x0 x7 ((IntKind.i64.wrap (x8 + 1)))
theorem Z7P (x0 : List Z8) (x7 : Int) (x8 : Int) (ox0 : Own) : Sim (Z1o) (Z3o x0 x7 x8) (Zfk 0 (.p (.lst ox0 (x0.map Zv))) (.clo 66 [] []) (iv x7) (iv x8) []) := by
 unfold Z3o
 refine zf (ZiP ..) ?_
 refine ze ?_
 refine zo (iv (IntKind.i64.wrap (x8 + 1))) ?_
 exact zk (Z5F (x0) (x7) ((IntKind.i64.wrap (x8 + 1))) ox0)
noncomputable def Z3n (x0 : List Z8) (x7 : Int) (x8 : Int) : Option (Int) :=
 (lget x0 x8).bind fun a1 =>
 (Z7G a1).bind fun r2 =>
 if (r2) = true then
 (some (x8))
 else
 (Z3o x0 x7 x8)
theorem Z7K (x0 : List Z8) (x7 : Int) (x8 : Int) (ox0 : Own) : Sim (Z1o) (Z3n x0 x7 x8) (ZfA 0 (.p (.lst ox0 (x0.map Zv))) (.clo 66 [] []) (iv x7) (iv x8) []) := by
 unfold Z3n
 refine zf (ZhN ..) ?_
 refine ze ?_
 refine ze ?_
 refine zi fun a1 ha1 => ?_
 refine zo (.cptr (ZF a1)) ?_ (Eq.trans (by kernel_rfl) (xidx_of (o := (shrO ox0)) (k := .i64) (n := 2) (e := Zv) (cs := Z5d) (fun _ => rfl) (fun _ => rfl) (by decide) ha1))
 refine zo (.p (.agg (ZF a1))) ?_
 refine zi fun r2 hr2 => ?_
 obtain ⟨qr2, er2, exr2, rfl⟩ := ZdE (a1) r2 hr2
 refine zv [] (bv r2) [] er2 ?_
 refine za (r2) ?_ ?_
 ·refine ze ?_
  exact zr ((iv x8), []) ⟨_, rfl⟩
 ·exact zk (Z7P (x0) (x7) (x8) ox0)
noncomputable def Z4I  : Option (Int) :=
 some ((-1))
theorem Z7S  : Sim (Z1o) (Z4I) (Zfg 0  []) := by
 unfold Z4I
 refine zf (Zii ..) ?_
 refine ze ?_
 exact zr ((iv (-1)), []) ⟨_, rfl⟩
noncomputable def Z2O (x0 : List Z8) (x7 : Int) (x8 : Int) : Option (Int) :=
 if ((decide (x8 < x7))) = true then
 (Z3n x0 x7 x8)
 else
 (Z4I)
theorem Z7R (x0 : List Z8) (x7 : Int) (x8 : Int) (ox0 : Own) : Sim (Z1o) (Z2O x0 x7 x8) (Zc2 0 (.p (.lst ox0 (x0.map Zv))) (.clo 66 [] []) (iv x7) (iv x8) []) := by
 unfold Z2O
 refine zf (ZiL ..) ?_
 refine ze ?_
 refine zo (bv (decide (x8 < x7))) ?_
 refine za ((decide (x8 < x7))) ?_ ?_
 ·exact zk (Z7K (x0) (x7) (x8) ox0)
 ·exact zk (Z7S )
theorem Z5E (x0 : List Z8) (x7 : Int) (x8 : Int) {r} (h : Z2O x0 x7 x8 = some r) : Z2N x0 x7 x8 = some r :=
 pick_of (fun _ _ ha hb => RRun.uniq (Z6o) (ha .ex) (hb .ex)) (fun ox0 => Z7R x0 x7 x8 ox0 r h)
noncomputable def Z7J (x0 : Z8) : Option (Bool) :=
 (Z54 x0).bind fun r1 =>
 some ((!r1))
theorem Zd0 (x0 : Z8) : Sim (Z6I) (Z7J x0) (EE 66 [(.p (.agg (ZF x0)))] []) := by
 unfold Z7J
 refine zf (ZjJ ..) ?_
 refine ze ?_
 refine zx (.ptr 0 0) [(Z1B x0)] ?_
 refine ze ?_
 refine zo (.p (.agg (ZF x0))) ?_
 refine zi fun r1 hr1 => ?_
 obtain ⟨qr1, er1, exr1, rfl⟩ := Z8j (x0) r1 hr1
 refine zc [] (bv r1) [(Z1B x0)] er1 ?_
 refine zo (bv (!r1)) ?_
 exact zr ((bv (!r1)), [(Z1B x0)]) ⟨_, rfl⟩
theorem Zdz (x0 : Z8) {r} (h : Z7J x0 = some r) : Z7G x0 = some r :=
 pick_of (fun _ _ ha hb => RRun.uniq (ZdS) (ha ) (hb )) (Zd0 x0 r h)
noncomputable def Z64 (x0 : Z8) : Option (Bool) :=
 if ((decide (0 ≤ x0.Lo))) = true then
 (if ((decide (x0.Lo ≤ x0.Hi))) = true then
 (some ((decide (x0.Hi ≤ 1114367))))
 else
 (some (false)))
 else
 (some (false))
theorem Zb9 (x0 : Z8) : Sim (Z53) (Z64 x0) (EE 67 [(.p (.agg (ZF x0)))] []) := by
 unfold Z64
 refine zf (ZkS ..) ?_
 refine ze ?_
 refine zx (.ptr 0 0) [(Z1B x0)] ?_
 refine ze ?_
 refine zo (.ptr 0 0) ?_
 refine zo (iv x0.Lo) ?_
 refine zo (bv (decide (0 ≤ x0.Lo))) ?_
 refine za ((decide (0 ≤ x0.Lo))) ?_ ?_
 ·refine zo (.ptr 0 0) ?_
  refine zo (iv x0.Lo) ?_
  refine zo (.ptr 0 1) ?_
  refine zo (iv x0.Hi) ?_
  refine zo (bv (decide (x0.Lo ≤ x0.Hi))) ?_
  refine za ((decide (x0.Lo ≤ x0.Hi))) ?_ ?_
  ·refine zo (.ptr 0 1) ?_
   refine zo (iv x0.Hi) ?_
   refine zo (bv (decide (x0.Hi ≤ 1114367))) ?_
   exact zr ((bv (decide (x0.Hi ≤ 1114367))), [(Z1B x0)]) ⟨_, rfl⟩
  ·exact zr ((bv false), [(Z1B x0)]) ⟨_, rfl⟩
 ·exact zr ((bv false), [(Z1B x0)]) ⟨_, rfl⟩
theorem Zbz (x0 : Z8) {r} (h : Z64 x0 = some r) : Z54 x0 = some r :=
 pick_of (fun _ _ ha hb => RRun.uniq (ZbN) (ha ) (hb )) (Zb9 x0 r h)
noncomputable def Z6k (x0 : List Z8) : Option ((List Z8) × Int) :=
 (Z7j x0).bind fun r1 =>
 some (r1, 0)
theorem Zbp (x0 : List Z8) (ox0 : Own) : Sim (Z5x) (Z6k x0) (Zf9 0 (.p (.lst ox0 (x0.map Zv))) []) := by
 unfold Z6k
 refine zf (Zij ..) ?_
 refine ze ?_
 refine zi fun r1 hr1 => ?_
 obtain ⟨qr1, er1, exr1, rfl⟩ := ZcV (x0) .sh r1 hr1
 refine zc [] (.p (.lst .sh (r1.map Zv))) [] er1 ?_
 exact zr ((.p (.tup [(.lst .sh (r1.map Zv)), (.v (.int .i64 0))])), []) ⟨_, rfl⟩
noncomputable def Z7g (x0 : List Z8) : Option ((List Z8) × Int) :=
 (Z4B x0).bind fun r1 =>
 if ((!r1)) = true then
 (some (([] : List Z8), 10))
 else
 (Z6k x0)
theorem ZcH (x0 : List Z8) (ox0 : Own) : Sim (Z5x) (Z7g x0) (EE 55 [(.p (.lst ox0 (x0.map Zv)))] []) := by
 unfold Z7g
 refine zf (ZjK ..) ?_
 refine ze ?_
 refine ze ?_
 refine zi fun r1 hr1 => ?_
 obtain ⟨qr1, er1, exr1, rfl⟩ := Z6H (x0) .sh r1 hr1
 refine zc [] (bv r1) [] er1 ?_
 refine zo (bv (!r1)) ?_
 refine za ((!r1)) ?_ ?_
 ·refine ze ?_
  exact zr ((.p (.tup [(.lst .sh []), (.v (.int .i64 10))])), []) ⟨_, rfl⟩
 ·exact zk (Zbp (x0) ox0)
theorem ZcS (x0 : List Z8) {r} (h : Z7g x0 = some r) : Z6f x0 = some r :=
 pick_of (fun _ _ ha hb => RRun.uniq (Zdv) (ha .ex) (hb .ex)) (fun ox0 => ZcH x0 ox0 r h)
noncomputable def Z6j (x0 : List Z8) : Option (Bool) :=
 Z4r ((-2)) x0 ((x0.length : Int)) 0
theorem Zbt (x0 : List Z8) (ox0 : Own) : Sim (Z1Q) (Z6j x0) (EE 69 [(.p (.lst ox0 (x0.map Zv)))] []) := by
 unfold Z6j
 refine zf (ZjQ ..) ?_
 refine ze ?_
 refine ze ?_
 refine ze ?_
 refine zo (iv (x0.length : Int)) ?_ (Eq.trans (by kernel_rfl) (xlen_of (P := PP) (t := 24) (d := 39) (by kernel_rfl) Zv (shrO ox0) x0))
 exact zk (Z7y ((-2)) (x0) ((x0.length : Int)) (0) (shrO ox0))
theorem ZbU (x0 : List Z8) {r} (h : Z6j x0 = some r) : Z4B x0 = some r :=
 pick_of (fun _ _ ha hb => RRun.uniq (Z95) (ha .ex) (hb .ex)) (fun ox0 => Zbt x0 ox0 r h)
noncomputable def Z5w  : Option (Bool) :=
 some (false)
theorem Z7d  : Sim (Z1Q) (Z5w) (Zer 0  []) := by
 unfold Z5w
 refine zf (Ziy ..) ?_
 refine ze ?_
 exact zr ((bv false), []) ⟨_, rfl⟩
noncomputable def Z5B (x3 : Int) (x6 : List Z8) (x7 : Int) (x8 : Int) : Option (Bool) :=
 Z4r x3 x6 x7 ((IntKind.i64.wrap (x8 + 1)))
theorem Zaw (x3 : Int) (x6 : List Z8) (x7 : Int) (x8 : Int) (ox6 : Own) : Sim (Z1Q) (Z5B x3 x6 x7 x8) (Zgm 0 (iv x3) (.p (.lst ox6 (x6.map Zv))) (iv x7) (iv x8) []) := by
 unfold Z5B
 refine zf (ZhG ..) ?_
 refine ze ?_
 refine zo (iv (IntKind.i64.wrap (x8 + 1))) ?_
 exact zk (Z7y (x3) (x6) (x7) ((IntKind.i64.wrap (x8 + 1))) ox6)
noncomputable def Z5v (x6 : List Z8) (x7 : Int) (x8 : Int) (b0 : Z8) : Option (Bool) :=
 Z5B b0.Hi x6 x7 x8
theorem Zaq (x6 : List Z8) (x7 : Int) (x8 : Int) (b0 : Z8) (ox6 : Own) : Sim (Z1Q) (Z5v x6 x7 x8 b0) (Zgu 0 (.ptr 0 0) (.p (.lst ox6 (x6.map Zv))) (iv x7) (iv x8) [(Z1B b0)]) := by
 unfold Z5v
 refine zf (Zj7 ..) ?_
 refine ze ?_
 refine zo (.ptr 0 1) ?_
 refine zo (iv b0.Hi) ?_
 exact zk (Zaw (b0.Hi) (x6) (x7) (x8) ox6)
noncomputable def Z5A (x3 : Int) (x6 : List Z8) (x7 : Int) (x8 : Int) : Option (Bool) :=
 (lget x6 x8).bind fun a1 =>
 (Z54 a1).bind fun r2 =>
 if ((!r2)) = true then
 (Z5w)
 else
 (if ((decide (a1.Lo < (IntKind.i64.wrap (x3 + 2))))) = true then
 (Z5w)
 else
 (Z5v x6 x7 x8 a1))
theorem Zau (x3 : Int) (x6 : List Z8) (x7 : Int) (x8 : Int) (ox6 : Own) : Sim (Z1Q) (Z5A x3 x6 x7 x8) (Zgb 0 (iv x3) (.p (.lst ox6 (x6.map Zv))) (iv x7) (iv x8) []) := by
 unfold Z5A
 refine zf (Zig ..) ?_
 refine ze ?_
 refine zi fun a1 ha1 => ?_
 refine zo (.cptr (ZF a1)) ?_ (Eq.trans (by kernel_rfl) (xidx_of (o := ox6) (k := .i64) (n := 2) (e := Zv) (cs := Z5d) (fun _ => rfl) (fun _ => rfl) (by decide) ha1))
 refine zo (.p (.agg (ZF a1))) ?_
 refine zz (.ptr 0 0) [(Z1B (Z8.mk 0 0))] ?_
 refine zt [(Z1B a1)] ?_
 refine ze ?_
 refine zo (.p (.agg (ZF a1))) ?_
 refine zi fun r2 hr2 => ?_
 obtain ⟨qr2, er2, exr2, rfl⟩ := Z8j (a1) r2 hr2
 refine zc [] (bv r2) [(Z1B a1)] er2 ?_
 refine zo (bv (!r2)) ?_
 refine za ((!r2)) ?_ ?_
 ·exact zk (Z7d )
 ·refine zo (.ptr 0 0) ?_
  refine zo (iv a1.Lo) ?_
  refine zo (iv (IntKind.i64.wrap (x3 + 2))) ?_
  refine zo (bv (decide (a1.Lo < (IntKind.i64.wrap (x3 + 2))))) ?_
  refine za ((decide (a1.Lo < (IntKind.i64.wrap (x3 + 2))))) ?_ ?_
  ·exact zk (Z7d )
  ·exact zk (Zaq (x6) (x7) (x8) (a1) ox6)
noncomputable def Z6O  : Option (Bool) :=
 some (true)
theorem Zal  : Sim (Z1Q) (Z6O) (ZfE 0  []) := by
 unfold Z6O
 refine zf (Zib ..) ?_
 refine ze ?_
 exact zr ((bv true), []) ⟨_, rfl⟩
noncomputable def Z4u (x3 : Int) (x6 : List Z8) (x7 : Int) (x8 : Int) : Option (Bool) :=
 if ((decide (x8 < x7))) = true then
 (Z5A x3 x6 x7 x8)
 else
 (Z6O)
theorem Zat (x3 : Int) (x6 : List Z8) (x7 : Int) (x8 : Int) (ox6 : Own) : Sim (Z1Q) (Z4u x3 x6 x7 x8) (ZbQ 0 (iv x3) (.p (.lst ox6 (x6.map Zv))) (iv x7) (iv x8) []) := by
 unfold Z4u
 refine zf (Zi7 ..) ?_
 refine ze ?_
 refine zo (bv (decide (x8 < x7))) ?_
 refine za ((decide (x8 < x7))) ?_ ?_
 ·exact zk (Zau (x3) (x6) (x7) (x8) ox6)
 ·exact zk (Zal )
theorem Z7w (x3 : Int) (x6 : List Z8) (x7 : Int) (x8 : Int) {r} (h : Z4u x3 x6 x7 x8 = some r) : Z4r x3 x6 x7 x8 = some r :=
 pick_of (fun _ _ ha hb => RRun.uniq (Z95) (ha .ex) (hb .ex)) (fun ox6 => Zat x3 x6 x7 x8 ox6 r h)
noncomputable def Z7e (x0 : List Z8) : Option ((List Z8)) :=
 Z5p (([] : List Z8)) 0 x0 ((x0.length : Int)) 0
theorem ZcM (x0 : List Z8) (ox0 : Own) : Sim (Z2h) (Z7e x0) (EE 70 [(.p (.lst ox0 (x0.map Zv)))] []) := by
 unfold Z7e
 refine zf (Zjx ..) ?_
 refine ze ?_
 refine ze ?_
 refine ze ?_
 refine ze ?_
 refine zo (iv (x0.length : Int)) ?_ (Eq.trans (by kernel_rfl) (xlen_of (P := PP) (t := 24) (d := 39) (by kernel_rfl) Zv (shrO ox0) x0))
 exact zk (Z8Y (([] : List Z8)) (0) (x0) ((x0.length : Int)) (0) .nl (shrO ox0) rfl)
theorem ZcZ (x0 : List Z8) {r} (h : Z7e x0 = some r) : Z7j x0 = some r :=
 pick_of (fun _ _ ha hb => RRun.uniq (Zae) (ha .ex) (hb .ex)) (fun ox0 => ZcM x0 ox0 r h)
noncomputable def Z6i (x3 : List Z8) (x4 : Int) (x7 : List Z8) (x8 : Int) (x9 : Int) : Option ((List Z8)) :=
 Z5p x3 x4 x7 x8 ((IntKind.i64.wrap (x9 + 1)))
theorem ZbF (x3 : List Z8) (x4 : Int) (x7 : List Z8) (x8 : Int) (x9 : Int) (ox3 : Own) (ox7 : Own) (hox3 : okApp ox3 = true) : Sim (Z2h) (Z6i x3 x4 x7 x8 x9) (ZfD 0 (.p (.lst ox3 (x3.map Zv))) (iv x4) (.p (.lst ox7 (x7.map Zv))) (iv x8) (iv x9) []) := by
 unfold Z6i
 refine zf (ZhY ..) ?_
 refine ze ?_
 refine zo (iv (IntKind.i64.wrap (x9 + 1))) ?_
 exact zk (Z8Y (x3) (x4) (x7) (x8) ((IntKind.i64.wrap (x9 + 1))) ox3 ox7 hox3)
noncomputable def Z4y (x3 : List Z8) (x7 : List Z8) (x8 : Int) (x9 : Int) (b0 : Z8) : Option ((List Z8)) :=
 Z6i x3 ((IntKind.i64.wrap (b0.Hi + 1))) x7 x8 x9
theorem Z8m (x3 : List Z8) (x7 : List Z8) (x8 : Int) (x9 : Int) (b0 : Z8) (ox3 : Own) (ox7 : Own) (hox3 : okApp ox3 = true) : Sim (Z2h) (Z4y x3 x7 x8 x9 b0) (Zes 0 (.p (.lst ox3 (x3.map Zv))) (.ptr 0 0) (.p (.lst ox7 (x7.map Zv))) (iv x8) (iv x9) [(Z1B b0)]) := by
 unfold Z4y
 refine zf (Ziu ..) ?_
 refine ze ?_
 refine zo (.ptr 0 1) ?_
 refine zo (iv b0.Hi) ?_
 refine zo (iv (IntKind.i64.wrap (b0.Hi + 1))) ?_
 exact zk (ZbF (x3) ((IntKind.i64.wrap (b0.Hi + 1))) (x7) (x8) (x9) ox3 ox7 hox3)
noncomputable def Z6l (x3 : List Z8) (x4 : Int) (x7 : List Z8) (x8 : Int) (x9 : Int) : Option ((List Z8)) :=
 (lget x7 x9).bind fun a1 =>
 if ((decide (x4 < a1.Lo))) = true then
 ((lapp x3 ([(Z8.mk x4 (IntKind.i64.wrap (a1.Lo - 1)))] : List Z8)).bind fun a2 =>
 Z4y a2 x7 x8 x9 a1)
 else
 (Z4y x3 x7 x8 x9 a1)
theorem ZbE (x3 : List Z8) (x4 : Int) (x7 : List Z8) (x8 : Int) (x9 : Int) (ox3 : Own) (ox7 : Own) (hox3 : okApp ox3 = true) : Sim (Z2h) (Z6l x3 x4 x7 x8 x9) (Zfo 0 (.p (.lst ox3 (x3.map Zv))) (iv x4) (.p (.lst ox7 (x7.map Zv))) (iv x8) (iv x9) []) := by
 unfold Z6l
 refine zf (Zja ..) ?_
 refine ze ?_
 refine zi fun a1 ha1 => ?_
 refine zo (.cptr (ZF a1)) ?_ (Eq.trans (by kernel_rfl) (xidx_of (o := ox7) (k := .i64) (n := 2) (e := Zv) (cs := Z5d) (fun _ => rfl) (fun _ => rfl) (by decide) ha1))
 refine zo (.p (.agg (ZF a1))) ?_
 refine zz (.ptr 0 0) [(Z1B (Z8.mk 0 0))] ?_
 refine zt [(Z1B a1)] ?_
 refine ze ?_
 refine zo (.ptr 0 0) ?_
 refine zo (iv a1.Lo) ?_
 refine zo (bv (decide (x4 < a1.Lo))) ?_
 refine za ((decide (x4 < a1.Lo))) ?_ ?_
 ·refine ze ?_
  refine zo (.ptr 0 0) ?_
  refine zo (iv a1.Lo) ?_
  refine zo (iv (IntKind.i64.wrap (a1.Lo - 1))) ?_
  refine zo (.p (.agg (ZF (Z8.mk x4 (IntKind.i64.wrap (a1.Lo - 1)))))) ?_
  refine zo (.p (.lst .ex (([(Z8.mk x4 (IntKind.i64.wrap (a1.Lo - 1)))] : List Z8).map Zv))) ?_
  refine zi fun a2 ha2 => ?_
  refine zo (.p (.lst .un (a2.map Zv))) ?_ (Eq.trans (by kernel_rfl) <| xapp_of (n := 2) (o := ox3) (o' := .ex) (e := Zv) (ys := ([(Z8.mk x4 (IntKind.i64.wrap (a1.Lo - 1)))] : List Z8)) (fun _ => rfl) (by decide) hox3 ha2)
  exact zk (Z8m (a2) (x7) (x8) (x9) (a1) .un ox7 rfl)
 ·exact zk (Z8m (x3) (x7) (x8) (x9) (a1) ox3 ox7 hox3)
noncomputable def Z4b (x3 : List Z8) : Option ((List Z8)) :=
 some (x3)
theorem Z84 (x3 : List Z8) (ox3 : Own) (hox3 : okApp ox3 = true) : Sim (Z2h) (Z4b x3) (Zdp 0 (.p (.lst ox3 (x3.map Zv))) []) := by
 unfold Z4b
 refine zf (Zh9 ..) ?_
 refine ze ?_
 exact zr ((.p (.lst .sh (x3.map Zv))), []) ⟨_, rfl⟩
noncomputable def Z6a (x3 : List Z8) (x4 : Int) : Option ((List Z8)) :=
 if ((decide (x4 ≤ 1114367))) = true then
 ((lapp x3 ([(Z8.mk x4 1114367)] : List Z8)).bind fun a1 =>
 Z4b a1)
 else
 (Z4b x3)
theorem Zbc (x3 : List Z8) (x4 : Int) (ox3 : Own) (hox3 : okApp ox3 = true) : Sim (Z2h) (Z6a x3 x4) (ZeJ 0 (.p (.lst ox3 (x3.map Zv))) (iv x4) []) := by
 unfold Z6a
 refine zf (Zh8 ..) ?_
 refine ze ?_
 refine zo (bv (decide (x4 ≤ 1114367))) ?_
 refine za ((decide (x4 ≤ 1114367))) ?_ ?_
 ·refine ze ?_
  refine zo (.p (.agg (ZF (Z8.mk x4 1114367)))) ?_
  refine zo (.p (.lst .ex (([(Z8.mk x4 1114367)] : List Z8).map Zv))) ?_
  refine zi fun a1 ha1 => ?_
  refine zo (.p (.lst .un (a1.map Zv))) ?_ (Eq.trans (by kernel_rfl) <| xapp_of (n := 2) (o := ox3) (o' := .ex) (e := Zv) (ys := ([(Z8.mk x4 1114367)] : List Z8)) (fun _ => rfl) (by decide) hox3 ha1)
  exact zk (Z84 (a1) .un rfl)
 ·exact zk (Z84 (x3) ox3 hox3)
noncomputable def Z5q (x3 : List Z8) (x4 : Int) (x7 : List Z8) (x8 : Int) (x9 : Int) : Option ((List Z8)) :=
 if ((decide (x9 < x8))) = true then
 (Z6l x3 x4 x7 x8 x9)
 else
 (Z6a x3 x4)
theorem Zbv (x3 : List Z8) (x4 : Int) (x7 : List Z8) (x8 : Int) (x9 : Int) (ox3 : Own) (ox7 : Own) (hox3 : okApp ox3 = true) : Sim (Z2h) (Z5q x3 x4 x7 x8 x9) (Zch 0 (.p (.lst ox3 (x3.map Zv))) (iv x4) (.p (.lst ox7 (x7.map Zv))) (iv x8) (iv x9) []) := by
 unfold Z5q
 refine zf (ZhV ..) ?_
 refine ze ?_
 refine zo (bv (decide (x9 < x8))) ?_
 refine za ((decide (x9 < x8))) ?_ ?_
 ·exact zk (ZbE (x3) (x4) (x7) (x8) (x9) ox3 ox7 hox3)
 ·exact zk (Zbc (x3) (x4) ox3 hox3)
theorem Z8U (x3 : List Z8) (x4 : Int) (x7 : List Z8) (x8 : Int) (x9 : Int) {r} (h : Z5q x3 x4 x7 x8 x9 = some r) : Z5p x3 x4 x7 x8 x9 = some r :=
 pick_of (fun _ _ ha hb => RRun.uniq (Zae) (ha .ex .ex rfl) (hb .ex .ex rfl)) (fun ox3 ox7 hox3 => Zbv x3 x4 x7 x8 x9 ox3 ox7 hox3 r h)
noncomputable def Z3t (x1 : Int) (x5 : Int) (zp : Int) (zh : List Zq) (z2 : Int) (z6 : Int) : Option (Z3 × Int × (List Zq) × Int × Int) :=
 (lapp zh ([(Zq.mk (IntKind.i64.wrap (x5 - 48)) x1)] : List Zq)).bind fun a1 =>
 some ((Z3.mk 6 0 0 0 (IntKind.i64.wrap (x5 - 48)) ([] : List Z8) ([] : List Z3)), zp, a1, z2, z6)
theorem Z9o (x1 : Int) (x5 : Int) (zl : List Int) (zp : Int) (z7 : Int) (zd : Int) (zh : List Zq) (z2 : Int) (z6 : Int) (b1 : Z3) (zn : Own) (zb : Own) (zB : Own) (zy : Own) (zu : okApp zb = true) (zP : okApp zB = true) (zJ : okApp zy = true) : Sim (Z2F zl z7 zd zn) (Z3t x1 x5 zp zh z2 z6) (ZeQ 1 (.ptr 0 0) (iv x1) (.ptr 1 0) (iv x5) [(Zi (Zk.mk zl zp z7 zd zh (Zj.mk z2 z6)) zn zb), (Zo b1 zB zy)]) := by
 unfold Z3t
 refine zf (Zhp ..) ?_
 refine ze ?_
 refine zo (.ptr 0 0) ?_
 refine zo (.ptr 0 4) ?_
 refine zw (.p (.lst zb (zh.map Z1E))) [(Zi (Zk.mk zl zp z7 zd zh (Zj.mk z2 z6)) zn (shrO zb)), (Zo b1 zB zy)] ?_
 refine zo (iv (IntKind.i64.wrap (x5 - 48))) ?_
 refine zo (.p (.agg (Z8L (Zq.mk (IntKind.i64.wrap (x5 - 48)) x1)))) ?_
 refine zo (.p (.lst .ex (([(Zq.mk (IntKind.i64.wrap (x5 - 48)) x1)] : List Zq).map Z1E))) ?_
 refine zi fun a1 ha1 => ?_
 refine zo (.p (.lst .un (a1.map Z1E))) ?_ (Eq.trans (by kernel_rfl) <| xapp_of (n := 2) (o := zb) (o' := .ex) (e := Z1E) (ys := ([(Zq.mk (IntKind.i64.wrap (x5 - 48)) x1)] : List Zq)) (fun _ => rfl) (by decide) zu ha1)
 refine zo (.ptr 0 0) ?_
 refine zo (.ptr 0 4) ?_
 refine zt [(Zi (Zk.mk zl zp z7 zd a1 (Zj.mk z2 z6)) zn .un), (Zo b1 zB zy)] ?_
 refine ze ?_
 refine zo (iv (IntKind.i64.wrap (x5 - 48))) ?_
 refine zo (.p (.agg (Zz (Z3.mk 6 0 0 0 (IntKind.i64.wrap (x5 - 48)) ([] : List Z8) ([] : List Z3)) .nl .nl))) ?_
 refine zt [(Zi (Zk.mk zl zp z7 zd a1 (Zj.mk z2 z6)) zn .un), (Zo (Z3.mk 6 0 0 0 (IntKind.i64.wrap (x5 - 48)) ([] : List Z8) ([] : List Z3)) .nl .nl)] ?_
 exact zr ((.p (.agg (Zz (Z3.mk 6 0 0 0 (IntKind.i64.wrap (x5 - 48)) ([] : List Z8) ([] : List Z3)) .sh .sh))), [(Zi (Zk.mk zl zp z7 zd a1 (Zj.mk z2 z6)) zn .un), (Zo (Z3.mk 6 0 0 0 (IntKind.i64.wrap (x5 - 48)) ([] : List Z8) ([] : List Z3)) .nl .nl)]) ⟨.un, _, rfl, rfl⟩
noncomputable def Z29 (x1 : Int) (x5 : Int) (zl : List Int) (zp : Int) (z7 : Int) (zd : Int) (zh : List Zq) (z2 : Int) (z6 : Int) : Option (Z3 × Int × (List Zq) × Int × Int) :=
 (Z4M x5 x1 zl zp z7 zd zh z2 z6).bind fun r1 =>
 (Z1A r1.1).bind fun r2 =>
 (Z2J false (([r2] : List Z8))).bind fun r3 =>
 some (r3, r1.2.1, zh, r1.2.2.1, r1.2.2.2)
theorem Z6u (x1 : Int) (x5 : Int) (zl : List Int) (zp : Int) (z7 : Int) (zd : Int) (zh : List Zq) (z2 : Int) (z6 : Int) (b1 : Z3) (zn : Own) (zb : Own) (zB : Own) (zy : Own) (zu : okApp zb = true) (zP : okApp zB = true) (zJ : okApp zy = true) : Sim (Z2F zl z7 zd zn) (Z29 x1 x5 zl zp z7 zd zh z2 z6) (Zdl 1 (.ptr 0 0) (iv x1) (.ptr 1 0) (iv x5) [(Zi (Zk.mk zl zp z7 zd zh (Zj.mk z2 z6)) zn zb), (Zo b1 zB zy)]) := by
 unfold Z29
 refine zf (ZgR ..) ?_
 refine ze ?_
 refine zi fun r1 hr1 => ?_
 obtain ⟨qr1, er1, exr1, rfl⟩ := Z85 (x5) (x1) (zl) (zp) (z7) (zd) (zh) (z2) (z6) zn zb zu r1 hr1
 refine zc [0] (iv r1.1) [(Zi (Zk.mk zl r1.2.1 z7 zd zh (Zj.mk r1.2.2.1 r1.2.2.2)) zn zb), (Zo b1 zB zy)] er1 ?_
 refine zi fun r2 hr2 => ?_
 obtain ⟨qr2, er2, exr2, rfl⟩ := Z1v (r1.1) r2 hr2
 refine zc [] (.p (.agg (ZF r2))) [(Zi (Zk.mk zl r1.2.1 z7 zd zh (Zj.mk r1.2.2.1 r1.2.2.2)) zn zb), (Zo b1 zB zy)] er2 ?_
 refine zo (.p (.lst .ex (([r2] : List Z8).map Zv))) ?_
 refine zi fun r3 hr3 => ?_
 obtain ⟨qr3, er3, exr3, rfl⟩ := Z2S (false) (([r2] : List Z8)) .sh r3 hr3
 refine zc [] (.p (.agg (Zz r3 .sh .sh))) [(Zi (Zk.mk zl r1.2.1 z7 zd zh (Zj.mk r1.2.2.1 r1.2.2.2)) zn zb), (Zo b1 zB zy)] er3 ?_
 refine zt [(Zi (Zk.mk zl r1.2.1 z7 zd zh (Zj.mk r1.2.2.1 r1.2.2.2)) zn zb), (Zo r3 .sh .sh)] ?_
 exact zr ((.p (.agg (Zz r3 .sh .sh))), [(Zi (Zk.mk zl r1.2.1 z7 zd zh (Zj.mk r1.2.2.1 r1.2.2.2)) zn zb), (Zo r3 .sh .sh)]) ⟨zb, _, zu, rfl⟩
noncomputable def Z2f (x1 : Int) (x5 : Int) (zl : List Int) (zp : Int) (z7 : Int) (zd : Int) (zh : List Zq) (z2 : Int) (z6 : Int) : Option (Z3 × Int × (List Zq) × Int × Int) :=
 (Z26 zl zp).bind fun r1 =>
 (Z4Z x5).bind fun r2 =>
 (nilO r2.1 r2.2).bind fun a3 =>
 if ((!a3)) = true then
 ((Z4Z x5).bind fun r4 =>
 (Z2J ((decide (x5 < 97))) r4.2).bind fun r5 =>
 some (r5, r1.2, zh, z2, z6))
 else
 (if ((x5 == 98)) = true then
 (some ((Z3.mk 9 0 0 0 2 ([] : List Z8) ([] : List Z3)), r1.2, zh, z2, z6))
 else
 (if ((x5 == 66)) = true then
 (some ((Z3.mk 9 0 0 0 3 ([] : List Z8) ([] : List Z3)), r1.2, zh, z2, z6))
 else
 (if ((decide (49 ≤ x5))) = true then
 (if ((decide (x5 ≤ 57))) = true then
 (Z3t x1 x5 r1.2 zh z2 z6)
 else
 (Z29 x1 x5 zl r1.2 z7 zd zh z2 z6))
 else
 (Z29 x1 x5 zl r1.2 z7 zd zh z2 z6))))
theorem Z9A (x1 : Int) (x5 : Int) (zl : List Int) (zp : Int) (z7 : Int) (zd : Int) (zh : List Zq) (z2 : Int) (z6 : Int) (b1 : Z3) (zn : Own) (zb : Own) (zB : Own) (zy : Own) (zu : okApp zb = true) (zP : okApp zB = true) (zJ : okApp zy = true) : Sim (Z2F zl z7 zd zn) (Z2f x1 x5 zl zp z7 zd zh z2 z6) (Zgw 1 (.ptr 0 0) (iv x1) (.ptr 1 0) (iv x5) [(Zi (Zk.mk zl zp z7 zd zh (Zj.mk z2 z6)) zn zb), (Zo b1 zB zy)]) := by
 unfold Z2f
 refine zf (Zia ..) ?_
 refine ze ?_
 refine zi fun r1 hr1 => ?_
 obtain ⟨qr1, er1, exr1, rfl⟩ := Z2t (zl) (zp) (z7) (zd) (zh) (z2) (z6) zn zb zu r1 hr1
 refine zc [0] (iv r1.1) [(Zi (Zk.mk zl r1.2 z7 zd zh (Zj.mk z2 z6)) zn zb), (Zo b1 zB zy)] er1 ?_
 refine ze ?_
 refine zi fun r2 hr2 => ?_
 obtain ⟨qr2, er2, exr2, rfl⟩ := Z6U (x5) r2 hr2
 refine zc [] (.p (.lst r2.1 (r2.2.map Zv))) [(Zi (Zk.mk zl r1.2 z7 zd zh (Zj.mk z2 z6)) zn zb), (Zo b1 zB zy)] er2 ?_
 refine zi fun a3 ha3 => ?_
 refine zo (bv (!a3)) ?_ (Eq.trans (by kernel_rfl) (xnil_neq (P := PP) (t := 23) (c := .slice none 0 0) (e := Zv) (by kernel_rfl) ha3))
 refine za ((!a3)) ?_ ?_
 ·refine ze ?_
  refine zo (bv (decide (x5 < 97))) ?_
  refine zi fun r4 hr4 => ?_
  obtain ⟨qr4, er4, exr4, rfl⟩ := Z6U (x5) r4 hr4
  refine zc [] (.p (.lst r4.1 (r4.2.map Zv))) [(Zi (Zk.mk zl r1.2 z7 zd zh (Zj.mk z2 z6)) zn zb), (Zo b1 zB zy)] er4 ?_
  refine zi fun r5 hr5 => ?_
  obtain ⟨qr5, er5, exr5, rfl⟩ := Z2S ((decide (x5 < 97))) (r4.2) .sh r5 hr5
  refine zc [] (.p (.agg (Zz r5 .sh .sh))) [(Zi (Zk.mk zl r1.2 z7 zd zh (Zj.mk z2 z6)) zn zb), (Zo b1 zB zy)] er5 ?_
  refine zt [(Zi (Zk.mk zl r1.2 z7 zd zh (Zj.mk z2 z6)) zn zb), (Zo r5 .sh .sh)] ?_
  exact zr ((.p (.agg (Zz r5 .sh .sh))), [(Zi (Zk.mk zl r1.2 z7 zd zh (Zj.mk z2 z6)) zn zb), (Zo r5 .sh .sh)]) ⟨zb, _, zu, rfl⟩
 ·refine ze ?_
  refine zo (bv (x5 == 98)) ?_
  refine za ((x5 == 98)) ?_ ?_
  ·refine ze ?_
   refine zo (.p (.agg (Zz (Z3.mk 9 0 0 0 2 ([] : List Z8) ([] : List Z3)) .nl .nl))) ?_
   refine zt [(Zi (Zk.mk zl r1.2 z7 zd zh (Zj.mk z2 z6)) zn zb), (Zo (Z3.mk 9 0 0 0 2 ([] : List Z8) ([] : List Z3)) .nl .nl)] ?_
   exact zr ((.p (.agg (Zz (Z3.mk 9 0 0 0 2 ([] : List Z8) ([] : List Z3)) .sh .sh))), [(Zi (Zk.mk zl r1.2 z7 zd zh (Zj.mk z2 z6)) zn zb), (Zo (Z3.mk 9 0 0 0 2 ([] : List Z8) ([] : List Z3)) .nl .nl)]) ⟨zb, _, zu, rfl⟩
  ·refine ze ?_
   refine zo (bv (x5 == 66)) ?_
   refine za ((x5 == 66)) ?_ ?_
   ·refine ze ?_
    refine zo (.p (.agg (Zz (Z3.mk 9 0 0 0 3 ([] : List Z8) ([] : List Z3)) .nl .nl))) ?_
    refine zt [(Zi (Zk.mk zl r1.2 z7 zd zh (Zj.mk z2 z6)) zn zb), (Zo (Z3.mk 9 0 0 0 3 ([] : List Z8) ([] : List Z3)) .nl .nl)] ?_
    exact zr ((.p (.agg (Zz (Z3.mk 9 0 0 0 3 ([] : List Z8) ([] : List Z3)) .sh .sh))), [(Zi (Zk.mk zl r1.2 z7 zd zh (Zj.mk z2 z6)) zn zb), (Zo (Z3.mk 9 0 0 0 3 ([] : List Z8) ([] : List Z3)) .nl .nl)]) ⟨zb, _, zu, rfl⟩
   ·refine ze ?_
    refine zo (bv (decide (49 ≤ x5))) ?_
    refine za ((decide (49 ≤ x5))) ?_ ?_
    ·refine zo (bv (decide (x5 ≤ 57))) ?_
     refine za ((decide (x5 ≤ 57))) ?_ ?_
     ·exact zk (Z9o (x1) (x5) (zl) (r1.2) (z7) (zd) (zh) (z2) (z6) (b1) zn zb zB zy zu zP zJ)
     ·exact zk (Z6u (x1) (x5) (zl) (r1.2) (z7) (zd) (zh) (z2) (z6) (b1) zn zb zB zy zu zP zJ)
    ·exact zk (Z6u (x1) (x5) (zl) (r1.2) (z7) (zd) (zh) (z2) (z6) (b1) zn zb zB zy zu zP zJ)
noncomputable def Z3G (x1 : Int) (zl : List Int) (zp : Int) (z7 : Int) (zd : Int) (zh : List Zq) (z2 : Int) (z6 : Int) : Option (Z3 × Int × (List Zq) × Int × Int) :=
 (Z1F ((Zk.mk zl zp z7 zd zh (Zj.mk z2 z6)))).bind fun r1 =>
 if ((decide (r1 < 0))) = true then
 ((ZS 21 x1 zl z2 z6).bind fun r2 =>
 some ((Z3.mk 0 0 0 0 0 ([] : List Z8) ([] : List Z3)), r2.1, zh, r2.2.1, r2.2.2))
 else
 (Z2f x1 r1 zl zp z7 zd zh z2 z6)
theorem Zan (x1 : Int) (zl : List Int) (zp : Int) (z7 : Int) (zd : Int) (zh : List Zq) (z2 : Int) (z6 : Int) (zn : Own) (zb : Own) (zu : okApp zb = true) : Sim (Z2F zl z7 zd zn) (Z3G x1 zl zp z7 zd zh z2 z6) (EE 49 [(.ptr 0 0), (iv x1)] [(Zi (Zk.mk zl zp z7 zd zh (Zj.mk z2 z6)) zn zb)]) := by
 unfold Z3G
 refine zf (Zkf ..) ?_
 refine ze ?_
 refine zz (.ptr 1 0) [(Zi (Zk.mk zl zp z7 zd zh (Zj.mk z2 z6)) zn zb), (Zo (Z3.mk 0 0 0 0 0 ([] : List Z8) ([] : List Z3)) .nl .nl)] ?_
 refine ze ?_
 refine zi fun r1 hr1 => ?_
 obtain ⟨qr1, er1, exr1, rfl⟩ := Z1K ((Zk.mk zl zp z7 zd zh (Zj.mk z2 z6))) zn zb zu r1 hr1
 refine zc [0] (iv r1) [(Zi (Zk.mk zl zp z7 zd zh (Zj.mk z2 z6)) zn zb), (Zo (Z3.mk 0 0 0 0 0 ([] : List Z8) ([] : List Z3)) .nl .nl)] er1 ?_
 refine ze ?_
 refine zo (bv (decide (r1 < 0))) ?_
 refine za ((decide (r1 < 0))) ?_ ?_
 ·refine ze ?_
  refine zi fun r2 hr2 => ?_
  obtain ⟨qr2, er2, exr2, rfl⟩ := ZV (21) (x1) (zl) (zp) (z7) (zd) (zh) (z2) (z6) zn zb zu r2 hr2
  refine zc [0] (.p (.tup [])) [(Zi (Zk.mk zl r2.1 z7 zd zh (Zj.mk r2.2.1 r2.2.2)) zn zb), (Zo (Z3.mk 0 0 0 0 0 ([] : List Z8) ([] : List Z3)) .nl .nl)] er2 ?_
  refine ze ?_
  refine zo (.p (.agg (Zz (Z3.mk 0 0 0 0 0 ([] : List Z8) ([] : List Z3)) .nl .nl))) ?_
  refine zt [(Zi (Zk.mk zl r2.1 z7 zd zh (Zj.mk r2.2.1 r2.2.2)) zn zb), (Zo (Z3.mk 0 0 0 0 0 ([] : List Z8) ([] : List Z3)) .nl .nl)] ?_
  exact zr ((.p (.agg (Zz (Z3.mk 0 0 0 0 0 ([] : List Z8) ([] : List Z3)) .sh .sh))), [(Zi (Zk.mk zl r2.1 z7 zd zh (Zj.mk r2.2.1 r2.2.2)) zn zb), (Zo (Z3.mk 0 0 0 0 0 ([] : List Z8) ([] : List Z3)) .nl .nl)]) ⟨zb, _, zu, rfl⟩
 ·exact zk (Z9A (x1) (r1) (zl) (zp) (z7) (zd) (zh) (z2) (z6) ((Z3.mk 0 0 0 0 0 ([] : List Z8) ([] : List Z3))) zn zb .nl .nl zu rfl rfl)
theorem ZaR (x1 : Int) (zl : List Int) (zp : Int) (z7 : Int) (zd : Int) (zh : List Zq) (z2 : Int) (z6 : Int) {r} (h : Z3G x1 zl zp z7 zd zh z2 z6 = some r) : Z3a x1 zl zp z7 zd zh z2 z6 = some r :=
 pick_of (fun _ _ ha hb => RRun.uniq (Zb0 _ _ _ _) (ha .ex .ex rfl) (hb .ex .ex rfl)) (fun zn zb zu => Zan x1 zl zp z7 zd zh z2 z6 zn zb zu r h)
end Go.Proofs.YtadodmjdkphddaaDoor.N2
end
section
set_option linter.unusedSimpArgs false
set_option linter.unusedVariables false
namespace Go.Proofs.YtadodmjdkphddaaDoor.N2
open Go Go.Abs
set_option linter.unusedVariables false
set_option maxRecDepth 100000
noncomputable def Z3q (zl : List Int) (z2 : Int) (z6 : Int) : Option (Int × Int × Int) :=
 some ((zl.length : Int), z2, z6)
theorem Z73 (zl : List Int) (zp : Int) (z7 : Int) (zd : Int) (zh : List Zq) (z2 : Int) (z6 : Int) (zn : Own) (zb : Own) (zu : okApp zb = true) : Sim (Z4c zl z7 zd zh zn zb) (Z3q zl z2 z6) (Ze8 1 (.ptr 0 0) [(Zi (Zk.mk zl zp z7 zd zh (Zj.mk z2 z6)) zn zb)]) := by
 unfold Z3q
 refine zf (ZhS ..) ?_
 refine ze ?_
 refine zo (.ptr 0 0) ?_
 refine zo (.ptr 0 0) ?_
 refine zo (.p (.lst (shrO zn) (zl.map (eI .u8)))) ?_
 refine zo (iv (zl.length : Int)) ?_ (Eq.trans (by kernel_rfl) (xlen_of (P := PP) (t := 40) (d := 5) (by kernel_rfl) (eI .u8) (shrO zn) zl))
 refine zo (.ptr 0 0) ?_
 refine zo (.ptr 0 1) ?_
 refine zt [(Zi (Zk.mk zl (zl.length : Int) z7 zd zh (Zj.mk z2 z6)) zn zb)] ?_
 exact zr ((.p (.tup [])), [(Zi (Zk.mk zl (zl.length : Int) z7 zd zh (Zj.mk z2 z6)) zn zb)]) ⟨_, rfl⟩
noncomputable def Z55 (x1 : Int) (x2 : Int) (zl : List Int) (z2 : Int) (z6 : Int) : Option (Int × Int × Int) :=
 if ((z2 == 0)) = true then
 (Z3q zl x1 x2)
 else
 (Z3q zl z2 z6)
theorem Zb7 (x1 : Int) (x2 : Int) (zl : List Int) (zp : Int) (z7 : Int) (zd : Int) (zh : List Zq) (z2 : Int) (z6 : Int) (zn : Own) (zb : Own) (zu : okApp zb = true) : Sim (Z4c zl z7 zd zh zn zb) (Z55 x1 x2 zl z2 z6) (EE 29 [(.ptr 0 0), (iv x1), (iv x2)] [(Zi (Zk.mk zl zp z7 zd zh (Zj.mk z2 z6)) zn zb)]) := by
 unfold Z55
 refine zf (Zl1 ..) ?_
 refine ze ?_
 refine zo (.ptr 0 0) ?_
 refine zo (.ptr 0 5) ?_
 refine zo (.ptr 0 5) ?_
 refine zo (iv z2) ?_
 refine zo (bv (z2 == 0)) ?_
 refine za ((z2 == 0)) ?_ ?_
 ·refine ze ?_
  refine zo (.p (.agg (Z1Y (Zj.mk x1 x2)))) ?_
  refine zo (.ptr 0 0) ?_
  refine zo (.ptr 0 5) ?_
  refine zt [(Zi (Zk.mk zl zp z7 zd zh (Zj.mk x1 x2)) zn zb)] ?_
  exact zk (Z73 (zl) (zp) (z7) (zd) (zh) (x1) (x2) zn zb zu)
 ·exact zk (Z73 (zl) (zp) (z7) (zd) (zh) (z2) (z6) zn zb zu)
theorem Z8r (x1 : Int) (x2 : Int) (zl : List Int) (z2 : Int) (z6 : Int) {r} (h : Z55 x1 x2 zl z2 z6 = some r) : ZS x1 x2 zl z2 z6 = some r :=
 pick_of (fun _ _ ha hb => RRun.uniq (Zc1 _ _ _ _ _ _) (ha default default default default .ex .ex rfl) (hb default default default default .ex .ex rfl)) (fun zp z7 zd zh zn zb zu => Zb7 x1 x2 zl zp z7 zd zh z2 z6 zn zb zu r h)
noncomputable def Z1P  : Option ((Own × (List Z8))) :=
 some ((.nl, ([] : List Z8)))
theorem Z2a  : Sim (Z4Y) (Z1P) (Z79 0  []) := by
 unfold Z1P
 refine zf (ZgT ..) ?_
 refine ze ?_
 exact zr ((.p (.lst .nl [])), []) ⟨_, rfl⟩
noncomputable def Z2K (x0 : Int) : Option ((Own × (List Z8))) :=
 if ((x0 == 100)) = true then
 (if ((x0 == 100)) = true then
 (some ((.ex, ([(Z8.mk 48 57)] : List Z8))))
 else
 (if ((x0 == 119)) = true then
 (if ((x0 == 119)) = true then
 ((Z1A 95).bind fun r1 =>
 some ((.ex, ([(Z8.mk 48 57), (Z8.mk 65 90), r1, (Z8.mk 97 122)] : List Z8))))
 else
 (if ((x0 == 115)) = true then
 (if ((x0 == 115)) = true then
 ((Z1A 32).bind fun r2 =>
 some ((.ex, ([(Z8.mk 9 13), r2] : List Z8))))
 else
 (Z1P))
 else
 (if ((x0 == 83)) = true then
 ((Z1A 32).bind fun r3 =>
 some ((.ex, ([(Z8.mk 9 13), r3] : List Z8))))
 else
 (Z1P))))
 else
 (if ((x0 == 87)) = true then
 ((Z1A 95).bind fun r4 =>
 some ((.ex, ([(Z8.mk 48 57), (Z8.mk 65 90), r4, (Z8.mk 97 122)] : List Z8))))
 else
 (if ((x0 == 115)) = true then
 (if ((x0 == 115)) = true then
 ((Z1A 32).bind fun r5 =>
 some ((.ex, ([(Z8.mk 9 13), r5] : List Z8))))
 else
 (Z1P))
 else
 (if ((x0 == 83)) = true then
 ((Z1A 32).bind fun r6 =>
 some ((.ex, ([(Z8.mk 9 13), r6] : List Z8))))
 else
 (Z1P))))))
 else
 (if ((x0 == 68)) = true then
 (some ((.ex, ([(Z8.mk 48 57)] : List Z8))))
 else
 (if ((x0 == 119)) = true then
 (if ((x0 == 119)) = true then
 ((Z1A 95).bind fun r7 =>
 some ((.ex, ([(Z8.mk 48 57), (Z8.mk 65 90), r7, (Z8.mk 97 122)] : List Z8))))
 else
 (if ((x0 == 115)) = true then
 (if ((x0 == 115)) = true then
 ((Z1A 32).bind fun r8 =>
 some ((.ex, ([(Z8.mk 9 13), r8] : List Z8))))
 else
 (Z1P))
 else
 (if ((x0 == 83)) = true then
 ((Z1A 32).bind fun r9 =>
 some ((.ex, ([(Z8.mk 9 13), r9] : List Z8))))
 else
 (Z1P))))
 else
 (if ((x0 == 87)) = true then
 ((Z1A 95).bind fun r10 =>
 some ((.ex, ([(Z8.mk 48 57), (Z8.mk 65 90), r10, (Z8.mk 97 122)] : List Z8))))
 else
 (if ((x0 == 115)) = true then
 (if ((x0 == 115)) = true then
 ((Z1A 32).bind fun r11 =>
 some ((.ex, ([(Z8.mk 9 13), r11] : List Z8))))
 else
 (Z1P))
 else
 (if ((x0 == 83)) = true then
 ((Z1A 32).bind fun r12 =>
 some ((.ex, ([(Z8.mk 9 13), r12] : List Z8))))
 else
 (Z1P))))))
theorem ZbT (x0 : Int) : Sim (Z4Y) (Z2K x0) (EE 56 [(iv x0)] []) := by
 unfold Z2K
 refine zf (Zk1 ..) ?_
 refine ze ?_
 refine ze ?_
 refine ze ?_
 refine zo (bv (x0 == 100)) ?_
 refine za ((x0 == 100)) ?_ ?_
 ·refine za ((x0 == 100)) ?_ ?_
  ·refine ze ?_
   refine zo (.p (.agg (ZF (Z8.mk 48 57)))) ?_
   refine zo (.p (.lst .ex (([(Z8.mk 48 57)] : List Z8).map Zv))) ?_
   exact zr ((.p (.lst .ex (([(Z8.mk 48 57)] : List Z8).map Zv))), []) ⟨_, rfl⟩
  ·refine ze ?_
   refine zo (bv (x0 == 119)) ?_
   refine za ((x0 == 119)) ?_ ?_
   ·refine za ((x0 == 119)) ?_ ?_
    ·refine ze ?_
     refine zo (.p (.agg (ZF (Z8.mk 48 57)))) ?_
     refine zo (.p (.agg (ZF (Z8.mk 65 90)))) ?_
     refine zi fun r1 hr1 => ?_
     obtain ⟨qr1, er1, exr1, rfl⟩ := Z1v (95) r1 hr1
     refine zc [] (.p (.agg (ZF r1))) [] er1 ?_
     refine zo (.p (.agg (ZF (Z8.mk 97 122)))) ?_
     refine zo (.p (.lst .ex (([(Z8.mk 48 57), (Z8.mk 65 90), r1, (Z8.mk 97 122)] : List Z8).map Zv))) ?_
     exact zr ((.p (.lst .ex (([(Z8.mk 48 57), (Z8.mk 65 90), r1, (Z8.mk 97 122)] : List Z8).map Zv))), []) ⟨_, rfl⟩
    ·refine ze ?_
     refine zo (bv (x0 == 115)) ?_
     refine za ((x0 == 115)) ?_ ?_
     ·refine za ((x0 == 115)) ?_ ?_
      ·refine ze ?_
       refine zo (.p (.agg (ZF (Z8.mk 9 13)))) ?_
       refine zi fun r2 hr2 => ?_
       obtain ⟨qr2, er2, exr2, rfl⟩ := Z1v (32) r2 hr2
       refine zc [] (.p (.agg (ZF r2))) [] er2 ?_
       refine zo (.p (.lst .ex (([(Z8.mk 9 13), r2] : List Z8).map Zv))) ?_
       exact zr ((.p (.lst .ex (([(Z8.mk 9 13), r2] : List Z8).map Zv))), []) ⟨_, rfl⟩
      ·exact zk (Z2a )
     ·refine ze ?_
      refine zo (bv (x0 == 83)) ?_
      refine za ((x0 == 83)) ?_ ?_
      ·refine ze ?_
       refine zo (.p (.agg (ZF (Z8.mk 9 13)))) ?_
       refine zi fun r3 hr3 => ?_
       obtain ⟨qr3, er3, exr3, rfl⟩ := Z1v (32) r3 hr3
       refine zc [] (.p (.agg (ZF r3))) [] er3 ?_
       refine zo (.p (.lst .ex (([(Z8.mk 9 13), r3] : List Z8).map Zv))) ?_
       exact zr ((.p (.lst .ex (([(Z8.mk 9 13), r3] : List Z8).map Zv))), []) ⟨_, rfl⟩
      ·exact zk (Z2a )
   ·refine ze ?_
    refine zo (bv (x0 == 87)) ?_
    refine za ((x0 == 87)) ?_ ?_
    ·refine ze ?_
     refine zo (.p (.agg (ZF (Z8.mk 48 57)))) ?_
     refine zo (.p (.agg (ZF (Z8.mk 65 90)))) ?_
     refine zi fun r4 hr4 => ?_
     obtain ⟨qr4, er4, exr4, rfl⟩ := Z1v (95) r4 hr4
     refine zc [] (.p (.agg (ZF r4))) [] er4 ?_
     refine zo (.p (.agg (ZF (Z8.mk 97 122)))) ?_
     refine zo (.p (.lst .ex (([(Z8.mk 48 57), (Z8.mk 65 90), r4, (Z8.mk 97 122)] : List Z8).map Zv))) ?_
     exact zr ((.p (.lst .ex (([(Z8.mk 48 57), (Z8.mk 65 90), r4, (Z8.mk 97 122)] : List Z8).map Zv))), []) ⟨_, rfl⟩
    ·refine ze ?_
     refine zo (bv (x0 == 115)) ?_
     refine za ((x0 == 115)) ?_ ?_
     ·refine za ((x0 == 115)) ?_ ?_
      ·refine ze ?_
       refine zo (.p (.agg (ZF (Z8.mk 9 13)))) ?_
       refine zi fun r5 hr5 => ?_
       obtain ⟨qr5, er5, exr5, rfl⟩ := Z1v (32) r5 hr5
       refine zc [] (.p (.agg (ZF r5))) [] er5 ?_
       refine zo (.p (.lst .ex (([(Z8.mk 9 13), r5] : List Z8).map Zv))) ?_
       exact zr ((.p (.lst .ex (([(Z8.mk 9 13), r5] : List Z8).map Zv))), []) ⟨_, rfl⟩
      ·exact zk (Z2a )
     ·refine ze ?_
      refine zo (bv (x0 == 83)) ?_
      refine za ((x0 == 83)) ?_ ?_
      ·refine ze ?_
       refine zo (.p (.agg (ZF (Z8.mk 9 13)))) ?_
       refine zi fun r6 hr6 => ?_
       obtain ⟨qr6, er6, exr6, rfl⟩ := Z1v (32) r6 hr6
       refine zc [] (.p (.agg (ZF r6))) [] er6 ?_
       refine zo (.p (.lst .ex (([(Z8.mk 9 13), r6] : List Z8).map Zv))) ?_
       exact zr ((.p (.lst .ex (([(Z8.mk 9 13), r6] : List Z8).map Zv))), []) ⟨_, rfl⟩
      ·exact zk (Z2a )
 ·refine ze ?_
  refine zo (bv (x0 == 68)) ?_
  refine za ((x0 == 68)) ?_ ?_
  ·refine ze ?_
   refine zo (.p (.agg (ZF (Z8.mk 48 57)))) ?_
   refine zo (.p (.lst .ex (([(Z8.mk 48 57)] : List Z8).map Zv))) ?_
   exact zr ((.p (.lst .ex (([(Z8.mk 48 57)] : List Z8).map Zv))), []) ⟨_, rfl⟩
  ·refine ze ?_
   refine zo (bv (x0 == 119)) ?_
   refine za ((x0 == 119)) ?_ ?_
   ·refine za ((x0 == 119)) ?_ ?_
    ·refine ze ?_
     refine zo (.p (.agg (ZF (Z8.mk 48 57)))) ?_
     refine zo (.p (.agg (ZF (Z8.mk 65 90)))) ?_
     refine zi fun r7 hr7 => ?_
     obtain ⟨qr7, er7, exr7, rfl⟩ := Z1v (95) r7 hr7
     refine zc [] (.p (.agg (ZF r7))) [] er7 ?_
     refine zo (.p (.agg (ZF (Z8.mk 97 122)))) ?_
     refine zo (.p (.lst .ex (([(Z8.mk 48 57), (Z8.mk 65 90), r7, (Z8.mk 97 122)] : List Z8).map Zv))) ?_
     exact zr ((.p (.lst .ex (([(Z8.mk 48 57), (Z8.mk 65 90), r7, (Z8.mk 97 122)] : List Z8).map Zv))), []) ⟨_, rfl⟩
    ·refine ze ?_
     refine zo (bv (x0 == 115)) ?_
     refine za ((x0 == 115)) ?_ ?_
     ·refine za ((x0 == 115)) ?_ ?_
      ·refine ze ?_
       refine zo (.p (.agg (ZF (Z8.mk 9 13)))) ?_
       refine zi fun r8 hr8 => ?_
       obtain ⟨qr8, er8, exr8, rfl⟩ := Z1v (32) r8 hr8
       refine zc [] (.p (.agg (ZF r8))) [] er8 ?_
       refine zo (.p (.lst .ex (([(Z8.mk 9 13), r8] : List Z8).map Zv))) ?_
       exact zr ((.p (.lst .ex (([(Z8.mk 9 13), r8] : List Z8).map Zv))), []) ⟨_, rfl⟩
      ·exact zk (Z2a )
     ·refine ze ?_
      refine zo (bv (x0 == 83)) ?_
      refine za ((x0 == 83)) ?_ ?_
      ·refine ze ?_
       refine zo (.p (.agg (ZF (Z8.mk 9 13)))) ?_
       refine zi fun r9 hr9 => ?_
       obtain ⟨qr9, er9, exr9, rfl⟩ := Z1v (32) r9 hr9
       refine zc [] (.p (.agg (ZF r9))) [] er9 ?_
       refine zo (.p (.lst .ex (([(Z8.mk 9 13), r9] : List Z8).map Zv))) ?_
       exact zr ((.p (.lst .ex (([(Z8.mk 9 13), r9] : List Z8).map Zv))), []) ⟨_, rfl⟩
      ·exact zk (Z2a )
   ·refine ze ?_
    refine zo (bv (x0 == 87)) ?_
    refine za ((x0 == 87)) ?_ ?_
    ·refine ze ?_
     refine zo (.p (.agg (ZF (Z8.mk 48 57)))) ?_
     refine zo (.p (.agg (ZF (Z8.mk 65 90)))) ?_
     refine zi fun r10 hr10 => ?_
     obtain ⟨qr10, er10, exr10, rfl⟩ := Z1v (95) r10 hr10
     refine zc [] (.p (.agg (ZF r10))) [] er10 ?_
     refine zo (.p (.agg (ZF (Z8.mk 97 122)))) ?_
     refine zo (.p (.lst .ex (([(Z8.mk 48 57), (Z8.mk 65 90), r10, (Z8.mk 97 122)] : List Z8).map Zv))) ?_
     exact zr ((.p (.lst .ex (([(Z8.mk 48 57), (Z8.mk 65 90), r10, (Z8.mk 97 122)] : List Z8).map Zv))), []) ⟨_, rfl⟩
    ·refine ze ?_
     refine zo (bv (x0 == 115)) ?_
     refine za ((x0 == 115)) ?_ ?_
     ·refine za ((x0 == 115)) ?_ ?_
      ·refine ze ?_
       refine zo (.p (.agg (ZF (Z8.mk 9 13)))) ?_
       refine zi fun r11 hr11 => ?_
       obtain ⟨qr11, er11, exr11, rfl⟩ := Z1v (32) r11 hr11
       refine zc [] (.p (.agg (ZF r11))) [] er11 ?_
       refine zo (.p (.lst .ex (([(Z8.mk 9 13), r11] : List Z8).map Zv))) ?_
       exact zr ((.p (.lst .ex (([(Z8.mk 9 13), r11] : List Z8).map Zv))), []) ⟨_, rfl⟩
      ·exact zk (Z2a )
     ·refine ze ?_
      refine zo (bv (x0 == 83)) ?_
      refine za ((x0 == 83)) ?_ ?_
      ·refine ze ?_
       refine zo (.p (.agg (ZF (Z8.mk 9 13)))) ?_
       refine zi fun r12 hr12 => ?_
       obtain ⟨qr12, er12, exr12, rfl⟩ := Z1v (32) r12 hr12
       refine zc [] (.p (.agg (ZF r12))) [] er12 ?_
       refine zo (.p (.lst .ex (([(Z8.mk 9 13), r12] : List Z8).map Zv))) ?_
       exact zr ((.p (.lst .ex (([(Z8.mk 9 13), r12] : List Z8).map Zv))), []) ⟨_, rfl⟩
      ·exact zk (Z2a )
theorem Zcx (x0 : Int) {r} (h : Z2K x0 = some r) : Z4Z x0 = some r :=
 pick_of (fun _ _ ha hb => RRun.uniq (ZcI) (ha ) (hb )) (ZbT x0 r h)
noncomputable def Z1X (x2 : Int) (zl : List Int) (z2 : Int) (z6 : Int) : Option (Int × Int × Int × Int) :=
 (ZS 21 x2 zl z2 z6).bind fun r1 =>
 some (0, r1.1, r1.2.1, r1.2.2)
theorem Z35 (x2 : Int) (zl : List Int) (zp : Int) (z7 : Int) (zd : Int) (zh : List Zq) (z2 : Int) (z6 : Int) (zn : Own) (zb : Own) (zu : okApp zb = true) : Sim (Z3d zl z7 zd zh zn zb) (Z1X x2 zl z2 z6) (Z9J 1 (.ptr 0 0) (iv x2) [(Zi (Zk.mk zl zp z7 zd zh (Zj.mk z2 z6)) zn zb)]) := by
 unfold Z1X
 refine zf (Zhb ..) ?_
 refine ze ?_
 refine zi fun r1 hr1 => ?_
 obtain ⟨qr1, er1, exr1, rfl⟩ := ZV (21) (x2) (zl) (zp) (z7) (zd) (zh) (z2) (z6) zn zb zu r1 hr1
 refine zc [0] (.p (.tup [])) [(Zi (Zk.mk zl r1.1 z7 zd zh (Zj.mk r1.2.1 r1.2.2)) zn zb)] er1 ?_
 refine ze ?_
 exact zr ((iv 0), [(Zi (Zk.mk zl r1.1 z7 zd zh (Zj.mk r1.2.1 r1.2.2)) zn zb)]) ⟨_, rfl⟩
noncomputable def Z5X (x1 : Int) (zp : Int) (z2 : Int) (z6 : Int) : Option (Int × Int × Int × Int) :=
 some (x1, zp, z2, z6)
theorem Z9x (x1 : Int) (zl : List Int) (zp : Int) (z7 : Int) (zd : Int) (zh : List Zq) (z2 : Int) (z6 : Int) (zn : Own) (zb : Own) (zu : okApp zb = true) : Sim (Z3d zl z7 zd zh zn zb) (Z5X x1 zp z2 z6) (ZeC 1 (iv x1) [(Zi (Zk.mk zl zp z7 zd zh (Zj.mk z2 z6)) zn zb)]) := by
 unfold Z5X
 refine zf (ZgQ ..) ?_
 refine ze ?_
 exact zr ((iv x1), [(Zi (Zk.mk zl zp z7 zd zh (Zj.mk z2 z6)) zn zb)]) ⟨_, rfl⟩
noncomputable def Z5N (x1 : Int) (x2 : Int) (zl : List Int) (zp : Int) (z7 : Int) (zd : Int) (zh : List Zq) (z2 : Int) (z6 : Int) : Option (Int × Int × Int × Int) :=
 if ((x1 == 110)) = true then
 (some (10, zp, z2, z6))
 else
 (if ((x1 == 116)) = true then
 (some (9, zp, z2, z6))
 else
 (if ((x1 == 114)) = true then
 (some (13, zp, z2, z6))
 else
 (if ((x1 == 120)) = true then
 ((Z1F ((Zk.mk zl zp z7 zd zh (Zj.mk z2 z6)))).bind fun r1 =>
 (Z8k r1).bind fun r2 =>
 if ((decide (0 ≤ r2))) = true then
 ((Z26 zl zp).bind fun r3 =>
 (Z1F ((Zk.mk zl r3.2 z7 zd zh (Zj.mk z2 z6)))).bind fun r4 =>
 (Z8k r4).bind fun r5 =>
 if ((decide (0 ≤ r5))) = true then
 ((Z26 zl r3.2).bind fun r6 =>
 some ((IntKind.i64.wrap ((IntKind.i64.wrap (16 * r2)) + r5)), r6.2, z2, z6))
 else
 (Z1X x2 zl z2 z6))
 else
 (Z1X x2 zl z2 z6))
 else
 (if ((decide (32 < x1))) = true then
 (if ((decide (x1 < 127))) = true then
 ((Z6p (([(Z8.mk 48 57), (Z8.mk 65 90), (Z8.mk 97 122)] : List Z8)) x1).bind fun r7 =>
 if ((!r7)) = true then
 (Z5X x1 zp z2 z6)
 else
 (Z1X x2 zl z2 z6))
 else
 (Z1X x2 zl z2 z6))
 else
 (Z1X x2 zl z2 z6)))))
theorem ZaZ (x1 : Int) (x2 : Int) (zl : List Int) (zp : Int) (z7 : Int) (zd : Int) (zh : List Zq) (z2 : Int) (z6 : Int) (zn : Own) (zb : Own) (zu : okApp zb = true) : Sim (Z3d zl z7 zd zh zn zb) (Z5N x1 x2 zl zp z7 zd zh z2 z6) (EE 57 [(.ptr 0 0), (iv x1), (iv x2)] [(Zi (Zk.mk zl zp z7 zd zh (Zj.mk z2 z6)) zn zb)]) := by
 unfold Z5N
 refine zf (Zkk ..) ?_
 refine ze ?_
 refine ze ?_
 refine zo (bv (x1 == 110)) ?_
 refine za ((x1 == 110)) ?_ ?_
 ·refine ze ?_
  exact zr ((iv 10), [(Zi (Zk.mk zl zp z7 zd zh (Zj.mk z2 z6)) zn zb)]) ⟨_, rfl⟩
 ·refine ze ?_
  refine zo (bv (x1 == 116)) ?_
  refine za ((x1 == 116)) ?_ ?_
  ·refine ze ?_
   exact zr ((iv 9), [(Zi (Zk.mk zl zp z7 zd zh (Zj.mk z2 z6)) zn zb)]) ⟨_, rfl⟩
  ·refine ze ?_
   refine zo (bv (x1 == 114)) ?_
   refine za ((x1 == 114)) ?_ ?_
   ·refine ze ?_
    exact zr ((iv 13), [(Zi (Zk.mk zl zp z7 zd zh (Zj.mk z2 z6)) zn zb)]) ⟨_, rfl⟩
   ·refine ze ?_
    refine zo (bv (x1 == 120)) ?_
    refine za ((x1 == 120)) ?_ ?_
    ·refine ze ?_
     refine zi fun r1 hr1 => ?_
     obtain ⟨qr1, er1, exr1, rfl⟩ := Z1K ((Zk.mk zl zp z7 zd zh (Zj.mk z2 z6))) zn zb zu r1 hr1
     refine zc [0] (iv r1) [(Zi (Zk.mk zl zp z7 zd zh (Zj.mk z2 z6)) zn zb)] er1 ?_
     refine zi fun r2 hr2 => ?_
     obtain ⟨qr2, er2, exr2, rfl⟩ := Zcd (r1) r2 hr2
     refine zc [] (iv r2) [(Zi (Zk.mk zl zp z7 zd zh (Zj.mk z2 z6)) zn zb)] er2 ?_
     refine ze ?_
     refine zo (bv (decide (0 ≤ r2))) ?_
     refine za ((decide (0 ≤ r2))) ?_ ?_
     ·refine ze ?_
      refine zi fun r3 hr3 => ?_
      obtain ⟨qr3, er3, exr3, rfl⟩ := Z2t (zl) (zp) (z7) (zd) (zh) (z2) (z6) zn zb zu r3 hr3
      refine zc [0] (iv r3.1) [(Zi (Zk.mk zl r3.2 z7 zd zh (Zj.mk z2 z6)) zn zb)] er3 ?_
      refine ze ?_
      refine zi fun r4 hr4 => ?_
      obtain ⟨qr4, er4, exr4, rfl⟩ := Z1K ((Zk.mk zl r3.2 z7 zd zh (Zj.mk z2 z6))) zn zb zu r4 hr4
      refine zc [0] (iv r4) [(Zi (Zk.mk zl r3.2 z7 zd zh (Zj.mk z2 z6)) zn zb)] er4 ?_
      refine zi fun r5 hr5 => ?_
      obtain ⟨qr5, er5, exr5, rfl⟩ := Zcd (r4) r5 hr5
      refine zc [] (iv r5) [(Zi (Zk.mk zl r3.2 z7 zd zh (Zj.mk z2 z6)) zn zb)] er5 ?_
      refine ze ?_
      refine zo (bv (decide (0 ≤ r5))) ?_
      refine za ((decide (0 ≤ r5))) ?_ ?_
      ·refine ze ?_
       refine zi fun r6 hr6 => ?_
       obtain ⟨qr6, er6, exr6, rfl⟩ := Z2t (zl) (r3.2) (z7) (zd) (zh) (z2) (z6) zn zb zu r6 hr6
       refine zc [0] (iv r6.1) [(Zi (Zk.mk zl r6.2 z7 zd zh (Zj.mk z2 z6)) zn zb)] er6 ?_
       refine ze ?_
       refine zo (iv (IntKind.i64.wrap (16 * r2))) ?_
       refine zo (iv (IntKind.i64.wrap ((IntKind.i64.wrap (16 * r2)) + r5))) ?_
       exact zr ((iv (IntKind.i64.wrap ((IntKind.i64.wrap (16 * r2)) + r5))), [(Zi (Zk.mk zl r6.2 z7 zd zh (Zj.mk z2 z6)) zn zb)]) ⟨_, rfl⟩
      ·exact zk (Z35 (x2) (zl) (r3.2) (z7) (zd) (zh) (z2) (z6) zn zb zu)
     ·exact zk (Z35 (x2) (zl) (zp) (z7) (zd) (zh) (z2) (z6) zn zb zu)
    ·refine ze ?_
     refine zo (bv (decide (32 < x1))) ?_
     refine za ((decide (32 < x1))) ?_ ?_
     ·refine zo (bv (decide (x1 < 127))) ?_
      refine za ((decide (x1 < 127))) ?_ ?_
      ·refine zo (.p (.agg (ZF (Z8.mk 48 57)))) ?_
       refine zo (.p (.agg (ZF (Z8.mk 65 90)))) ?_
       refine zo (.p (.agg (ZF (Z8.mk 97 122)))) ?_
       refine zo (.p (.lst .ex (([(Z8.mk 48 57), (Z8.mk 65 90), (Z8.mk 97 122)] : List Z8).map Zv))) ?_
       refine zi fun r7 hr7 => ?_
       obtain ⟨qr7, er7, exr7, rfl⟩ := Zda (([(Z8.mk 48 57), (Z8.mk 65 90), (Z8.mk 97 122)] : List Z8)) (x1) .sh r7 hr7
       refine zc [] (bv r7) [(Zi (Zk.mk zl zp z7 zd zh (Zj.mk z2 z6)) zn zb)] er7 ?_
       refine zo (bv (!r7)) ?_
       refine za ((!r7)) ?_ ?_
       ·exact zk (Z9x (x1) (zl) (zp) (z7) (zd) (zh) (z2) (z6) zn zb zu)
       ·exact zk (Z35 (x2) (zl) (zp) (z7) (zd) (zh) (z2) (z6) zn zb zu)
      ·exact zk (Z35 (x2) (zl) (zp) (z7) (zd) (zh) (z2) (z6) zn zb zu)
     ·exact zk (Z35 (x2) (zl) (zp) (z7) (zd) (zh) (z2) (z6) zn zb zu)
theorem Zb5 (x1 : Int) (x2 : Int) (zl : List Int) (zp : Int) (z7 : Int) (zd : Int) (zh : List Zq) (z2 : Int) (z6 : Int) {r} (h : Z5N x1 x2 zl zp z7 zd zh z2 z6 = some r) : Z4M x1 x2 zl zp z7 zd zh z2 z6 = some r :=
 pick_of (fun _ _ ha hb => RRun.uniq (ZbD _ _ _ _ _ _) (ha .ex .ex rfl) (hb .ex .ex rfl)) (fun zn zb zu => ZaZ x1 x2 zl zp z7 zd zh z2 z6 zn zb zu r h)
noncomputable def Z7U (x0 : Int) : Option (Int) :=
 some ((IntKind.i64.wrap (x0 - 48)))
theorem ZcX (x0 : Int) : Sim (Z5j) (Z7U x0) (Zgc 0 (iv x0) []) := by
 unfold Z7U
 refine zf (ZhM ..) ?_
 refine ze ?_
 refine zo (iv (IntKind.i64.wrap (x0 - 48))) ?_
 exact zr ((iv (IntKind.i64.wrap (x0 - 48))), []) ⟨_, rfl⟩
noncomputable def Z7L (x0 : Int) : Option (Int) :=
 some ((IntKind.i64.wrap ((IntKind.i64.wrap (x0 - 97)) + 10)))
theorem Zd1 (x0 : Int) : Sim (Z5j) (Z7L x0) (Zff 0 (iv x0) []) := by
 unfold Z7L
 refine zf (ZiW ..) ?_
 refine ze ?_
 refine zo (iv (IntKind.i64.wrap (x0 - 97))) ?_
 refine zo (iv (IntKind.i64.wrap ((IntKind.i64.wrap (x0 - 97)) + 10))) ?_
 exact zr ((iv (IntKind.i64.wrap ((IntKind.i64.wrap (x0 - 97)) + 10))), []) ⟨_, rfl⟩
noncomputable def Z6R  : Option (Int) :=
 some ((-1))
theorem Za5  : Sim (Z5j) (Z6R) (Ze1 0  []) := by
 unfold Z6R
 refine zf (Zj6 ..) ?_
 refine ze ?_
 exact zr ((iv (-1)), []) ⟨_, rfl⟩
noncomputable def Z6F (x0 : Int) : Option (Int) :=
 if ((decide (97 ≤ x0))) = true then
 (if ((decide (x0 ≤ 102))) = true then
 (Z7L x0)
 else
 (Z6R))
 else
 (Z6R)
theorem Za7 (x0 : Int) : Sim (Z5j) (Z6F x0) (Zeb 0 (iv x0) []) := by
 unfold Z6F
 refine zf (ZhE ..) ?_
 refine ze ?_
 refine zo (bv (decide (97 ≤ x0))) ?_
 refine za ((decide (97 ≤ x0))) ?_ ?_
 ·refine zo (bv (decide (x0 ≤ 102))) ?_
  refine za ((decide (x0 ≤ 102))) ?_ ?_
  ·exact zk (Zd1 (x0))
  ·exact zk (Za5 )
 ·exact zk (Za5 )
noncomputable def Z9P (x0 : Int) : Option (Int) :=
 if ((decide (48 ≤ x0))) = true then
 (if ((decide (x0 ≤ 57))) = true then
 (Z7U x0)
 else
 (Z6F x0))
 else
 (Z6F x0)
theorem Zec (x0 : Int) : Sim (Z5j) (Z9P x0) (EE 71 [(iv x0)] []) := by
 unfold Z9P
 refine zf (ZjX ..) ?_
 refine ze ?_
 refine ze ?_
 refine zo (bv (decide (48 ≤ x0))) ?_
 refine za ((decide (48 ≤ x0))) ?_ ?_
 ·refine zo (bv (decide (x0 ≤ 57))) ?_
  refine za ((decide (x0 ≤ 57))) ?_ ?_
  ·exact zk (ZcX (x0))
  ·exact zk (Za7 (x0))
 ·exact zk (Za7 (x0))
theorem ZeM (x0 : Int) {r} (h : Z9P x0 = some r) : Z8k x0 = some r :=
 pick_of (fun _ _ ha hb => RRun.uniq (Zf2) (ha ) (hb )) (Zec x0 r h)
noncomputable def Z7f (x0 : List Z8) (x1 : Int) : Option (Bool) :=
 (Z3m x0 x1).bind fun r1 =>
 some (r1)
theorem ZcP (x0 : List Z8) (x1 : Int) (ox0 : Own) : Sim (Z6h) (Z7f x0 x1) (EE 19 [(.p (.lst ox0 (x0.map Zv))), (iv x1)] []) := by
 unfold Z7f
 refine zf (ZjG ..) ?_
 refine ze ?_
 refine zx (.ptr 0 0) [[(iv x1)]] ?_
 refine ze ?_
 refine zi fun r1 hr1 => ?_
 obtain ⟨qr1, er1, exr1, rfl⟩ := Z8d (x0) (x1) .sh r1 hr1
 refine zc [0] (bv r1) [[(iv x1)]] er1 ?_
 exact zr ((bv r1), [[(iv x1)]]) ⟨_, rfl⟩
theorem Zd2 (x0 : List Z8) (x1 : Int) {r} (h : Z7f x0 x1 = some r) : Z6p x0 x1 = some r :=
 pick_of (fun _ _ ha hb => RRun.uniq (ZdA) (ha .ex) (hb .ex)) (fun ox0 => ZcP x0 x1 ox0 r h)
noncomputable def Z3k (x0 : List Z8) (zZ : Int) : Option (Bool) :=
 (Z3Z x0 zZ).bind fun r1 =>
 some ((decide (0 ≤ r1)))
theorem Z7N (x0 : List Z8) (zZ : Int) (ox0 : Own) : Sim (Z2P zZ) (Z3k x0 zZ) (EE 30 [(.p (.lst ox0 (x0.map Zv))), (.clo 31 [] [(.ptr 0 0)])] [[(iv zZ)]]) := by
 unfold Z3k
 refine zf (ZkL ..) ?_
 refine ze ?_
 refine ze ?_
 refine zi fun r1 hr1 => ?_
 obtain ⟨qr1, er1, exr1, rfl⟩ := Z92 (x0) (zZ) .sh r1 hr1
 refine zc [0] (iv r1) [[(iv zZ)]] er1 ?_
 refine zo (bv (decide (0 ≤ r1))) ?_
 exact zr ((bv (decide (0 ≤ r1))), [[(iv zZ)]]) ⟨_, rfl⟩
theorem Z88 (x0 : List Z8) (zZ : Int) {r} (h : Z3k x0 zZ = some r) : Z3m x0 zZ = some r :=
 pick_of (fun _ _ ha hb => RRun.uniq (Z8i _) (ha .ex) (hb .ex)) (fun ox0 => Z7N x0 zZ ox0 r h)
noncomputable def Z3U (x0 : List Z8) (zZ : Int) : Option (Int) :=
 Z2L x0 ((x0.length : Int)) 0 zZ
theorem Z8I (x0 : List Z8) (zZ : Int) (ox0 : Own) : Sim (Z1p zZ) (Z3U x0 zZ) (EE 37 [(.p (.lst ox0 (x0.map Zv))), (.clo 31 [] [(.ptr 0 0)])] [[(iv zZ)]]) := by
 unfold Z3U
 refine zf (Zkc ..) ?_
 refine ze ?_
 refine ze ?_
 refine zo (iv (x0.length : Int)) ?_ (Eq.trans (by kernel_rfl) (xlen_of (P := PP) (t := 24) (d := 39) (by kernel_rfl) Zv (shrO ox0) x0))
 exact zk (Z5C (x0) ((x0.length : Int)) (0) (zZ) ox0)
theorem Z93 (x0 : List Z8) (zZ : Int) {r} (h : Z3U x0 zZ = some r) : Z3Z x0 zZ = some r :=
 pick_of (fun _ _ ha hb => RRun.uniq (Z6n _) (ha .ex) (hb .ex)) (fun ox0 => Z8I x0 zZ ox0 r h)
noncomputable def Z3l (x0 : List Z8) (x7 : Int) (x8 : Int) (zZ : Int) : Option (Int) :=
 Z2L x0 x7 ((IntKind.i64.wrap (x8 + 1))) zZ
theorem Z7W (x0 : List Z8) (x7 : Int) (x8 : Int) (zZ : Int) (ox0 : Own) : Sim (Z1p zZ) (Z3l x0 x7 x8 zZ) (Zgr 1 (.p (.lst ox0 (x0.map Zv))) (.clo 31 [] [(.ptr 0 0)]) (iv x7) (iv x8) [[(iv zZ)]]) := by
 unfold Z3l
 refine zf (Zis ..) ?_
 refine ze ?_
 refine zo (iv (IntKind.i64.wrap (x8 + 1))) ?_
 exact zk (Z5C (x0) (x7) ((IntKind.i64.wrap (x8 + 1))) (zZ) ox0)
noncomputable def Z2M (x0 : List Z8) (x7 : Int) (x8 : Int) (zZ : Int) : Option (Int) :=
 (lget x0 x8).bind fun a1 =>
 (Z6A a1 zZ).bind fun r2 =>
 if (r2) = true then
 (some (x8))
 else
 (Z3l x0 x7 x8 zZ)
theorem Z7V (x0 : List Z8) (x7 : Int) (x8 : Int) (zZ : Int) (ox0 : Own) : Sim (Z1p zZ) (Z2M x0 x7 x8 zZ) (Zgx 1 (.p (.lst ox0 (x0.map Zv))) (.clo 31 [] [(.ptr 0 0)]) (iv x7) (iv x8) [[(iv zZ)]]) := by
 unfold Z2M
 refine zf (Zio ..) ?_
 refine ze ?_
 refine ze ?_
 refine zi fun a1 ha1 => ?_
 refine zo (.cptr (ZF a1)) ?_ (Eq.trans (by kernel_rfl) (xidx_of (o := (shrO ox0)) (k := .i64) (n := 2) (e := Zv) (cs := Z5d) (fun _ => rfl) (fun _ => rfl) (by decide) ha1))
 refine zo (.p (.agg (ZF a1))) ?_
 refine zi fun r2 hr2 => ?_
 obtain ⟨qr2, er2, exr2, rfl⟩ := Zcy (a1) (zZ) r2 hr2
 refine zv [0] (bv r2) [[(iv zZ)]] er2 ?_
 refine za (r2) ?_ ?_
 ·refine ze ?_
  exact zr ((iv x8), [[(iv zZ)]]) ⟨_, rfl⟩
 ·exact zk (Z7W (x0) (x7) (x8) (zZ) ox0)
noncomputable def Z4H  : Option (Int) :=
 some ((-1))
theorem Z7I (zZ : Int) : Sim (Z1p zZ) (Z4H) (Zg2 1  [[(iv zZ)]]) := by
 unfold Z4H
 refine zf (ZhW ..) ?_
 refine ze ?_
 exact zr ((iv (-1)), [[(iv zZ)]]) ⟨_, rfl⟩
noncomputable def Z2e (x0 : List Z8) (x7 : Int) (x8 : Int) (zZ : Int) : Option (Int) :=
 if ((decide (x8 < x7))) = true then
 (Z2M x0 x7 x8 zZ)
 else
 (Z4H)
theorem Z81 (x0 : List Z8) (x7 : Int) (x8 : Int) (zZ : Int) (ox0 : Own) : Sim (Z1p zZ) (Z2e x0 x7 x8 zZ) (Zcf 1 (.p (.lst ox0 (x0.map Zv))) (.clo 31 [] [(.ptr 0 0)]) (iv x7) (iv x8) [[(iv zZ)]]) := by
 unfold Z2e
 refine zf (ZiX ..) ?_
 refine ze ?_
 refine zo (bv (decide (x8 < x7))) ?_
 refine za ((decide (x8 < x7))) ?_ ?_
 ·exact zk (Z7V (x0) (x7) (x8) (zZ) ox0)
 ·exact zk (Z7I (zZ))
theorem Z46 (x0 : List Z8) (x7 : Int) (x8 : Int) (zZ : Int) {r} (h : Z2e x0 x7 x8 zZ = some r) : Z2L x0 x7 x8 zZ = some r :=
 pick_of (fun _ _ ha hb => RRun.uniq (Z6n _) (ha .ex) (hb .ex)) (fun ox0 => Z81 x0 x7 x8 zZ ox0 r h)
noncomputable def Z6y (x0 : Z8) (zZ : Int) : Option (Bool) :=
 if ((decide (x0.Lo ≤ zZ))) = true then
 (some ((decide (zZ ≤ x0.Hi))))
 else
 (some (false))
theorem ZbJ (x0 : Z8) (zZ : Int) : Sim (Z5K zZ) (Z6y x0 zZ) (EE 31 [(.p (.agg (ZF x0))), (.ptr 0 0)] [[(iv zZ)]]) := by
 unfold Z6y
 refine zf (Zkr ..) ?_
 refine ze ?_
 refine zx (.ptr 1 0) [[(iv zZ)], (Z1B x0)] ?_
 refine ze ?_
 refine zo (.ptr 1 0) ?_
 refine zo (iv x0.Lo) ?_
 refine zo (iv zZ) ?_
 refine zo (bv (decide (x0.Lo ≤ zZ))) ?_
 refine za ((decide (x0.Lo ≤ zZ))) ?_ ?_
 ·refine zo (iv zZ) ?_
  refine zo (.ptr 1 1) ?_
  refine zo (iv x0.Hi) ?_
  refine zo (bv (decide (zZ ≤ x0.Hi))) ?_
  exact zr ((bv (decide (zZ ≤ x0.Hi))), [[(iv zZ)], (Z1B x0)]) ⟨_, rfl⟩
 ·exact zr ((bv false), [[(iv zZ)], (Z1B x0)]) ⟨_, rfl⟩
theorem Zcv (x0 : Z8) (zZ : Int) {r} (h : Z6y x0 zZ = some r) : Z6A x0 zZ = some r :=
 pick_of (fun _ _ ha hb => RRun.uniq (ZcG _) (ha ) (hb )) (ZbJ x0 zZ r h)
noncomputable def Z4L (x1 : Int) (zl : List Int) (zp : Int) (z7 : Int) (zd : Int) (zh : List Zq) (z2 : Int) (z6 : Int) : Option (Z3 × Int × Int × Int) :=
 (Z16 ((ByteArray.mk #[94])) zl zp).bind fun r1 =>
 Z2R x1 r1.1 0 zl r1.2 z7 zd zh z2 z6 (([] : List Z8))
theorem ZaN (x1 : Int) (zl : List Int) (zp : Int) (z7 : Int) (zd : Int) (zh : List Zq) (z2 : Int) (z6 : Int) (zn : Own) (zb : Own) (zu : okApp zb = true) : Sim (Z19 zl z7 zd zh zn zb) (Z4L x1 zl zp z7 zd zh z2 z6) (EE 50 [(.ptr 0 0), (iv x1)] [(Zi (Zk.mk zl zp z7 zd zh (Zj.mk z2 z6)) zn zb)]) := by
 unfold Z4L
 refine zf (ZjS ..) ?_
 refine ze ?_
 refine zz (.ptr 1 0) [(Zi (Zk.mk zl zp z7 zd zh (Zj.mk z2 z6)) zn zb), (Zo (Z3.mk 0 0 0 0 0 ([] : List Z8) ([] : List Z3)) .nl .nl)] ?_
 refine ze ?_
 refine zi fun r1 hr1 => ?_
 obtain ⟨qr1, er1, exr1, rfl⟩ := Z1b ((ByteArray.mk #[94])) (zl) (zp) (z7) (zd) (zh) (z2) (z6) zn zb zu r1 hr1
 refine zc [0] (bv r1.1) [(Zi (Zk.mk zl r1.2 z7 zd zh (Zj.mk z2 z6)) zn zb), (Zo (Z3.mk 0 0 0 0 0 ([] : List Z8) ([] : List Z3)) .nl .nl)] er1 ?_
 refine ze ?_
 refine zz (.ptr 2 0) [(Zi (Zk.mk zl r1.2 z7 zd zh (Zj.mk z2 z6)) zn zb), (Zo (Z3.mk 0 0 0 0 0 ([] : List Z8) ([] : List Z3)) .nl .nl), [(.p (.lst .nl []))]] ?_
 refine ze ?_
 refine ze ?_
 exact zk (Z76 (x1) (r1.1) (0) (zl) (r1.2) (z7) (zd) (zh) (z2) (z6) ((Z3.mk 0 0 0 0 0 ([] : List Z8) ([] : List Z3))) (([] : List Z8)) zn zb .nl .nl .nl zu rfl rfl)
theorem Zb6 (x1 : Int) (zl : List Int) (zp : Int) (z7 : Int) (zd : Int) (zh : List Zq) (z2 : Int) (z6 : Int) {r} (h : Z4L x1 zl zp z7 zd zh z2 z6 = some r) : Z5O x1 zl zp z7 zd zh z2 z6 = some r :=
 pick_of (fun _ _ ha hb => RRun.uniq (Z8n _ _ _ _ _ _) (ha .ex .ex rfl) (hb .ex .ex rfl)) (fun zn zb zu => ZaN x1 zl zp z7 zd zh z2 z6 zn zb zu r h)
noncomputable def Z1e (x1 : Int) (x5 : Bool) (x8 : Int) (zl : List Int) (zp : Int) (z7 : Int) (zd : Int) (zh : List Zq) (z2 : Int) (z6 : Int) (z10 : List Z8) : Option (Z3 × Int × Int × Int) :=
 Z2R x1 x5 ((IntKind.i64.wrap (x8 + 1))) zl zp z7 zd zh z2 z6 z10
theorem Z1I (x1 : Int) (x5 : Bool) (x8 : Int) (zl : List Int) (zp : Int) (z7 : Int) (zd : Int) (zh : List Zq) (z2 : Int) (z6 : Int) (b1 : Z3) (z10 : List Z8) (zn : Own) (zb : Own) (zB : Own) (zy : Own) (z1f : Own) (zu : okApp zb = true) (zP : okApp zB = true) (zJ : okApp zy = true) : Sim (Z19 zl z7 zd zh zn zb) (Z1e x1 x5 x8 zl zp z7 zd zh z2 z6 z10) (Z7t 1 (.ptr 0 0) (iv x1) (.ptr 1 0) (bv x5) (.ptr 2 0) (.clo 58 [] [(.ptr 2 0)]) (iv x8) [(Zi (Zk.mk zl zp z7 zd zh (Zj.mk z2 z6)) zn zb), (Zo b1 zB zy), [(.p (.lst z1f (z10.map Zv)))]]) := by
 unfold Z1e
 refine zf (ZhX ..) ?_
 refine ze ?_
 refine zo (iv (IntKind.i64.wrap (x8 + 1))) ?_
 exact zk (Z76 (x1) (x5) ((IntKind.i64.wrap (x8 + 1))) (zl) (zp) (z7) (zd) (zh) (z2) (z6) (b1) (z10) zn zb zB zy z1f zu zP zJ)
noncomputable def Z3L (zp : Int) (z2 : Int) (z6 : Int) (z10 : List Z8) : Option (Z3 × Int × Int × Int) :=
 some ((Z3.mk 1 0 0 0 0 z10 ([] : List Z3)), zp, z2, z6)
theorem Z6L (zl : List Int) (zp : Int) (z7 : Int) (zd : Int) (zh : List Zq) (z2 : Int) (z6 : Int) (b1 : Z3) (z10 : List Z8) (zn : Own) (zb : Own) (zB : Own) (zy : Own) (z1f : Own) (zu : okApp zb = true) (zP : okApp zB = true) (zJ : okApp zy = true) : Sim (Z19 zl z7 zd zh zn zb) (Z3L zp z2 z6 z10) (Zdq 1 (.ptr 1 0) (.ptr 2 0) [(Zi (Zk.mk zl zp z7 zd zh (Zj.mk z2 z6)) zn zb), (Zo b1 zB zy), [(.p (.lst z1f (z10.map Zv)))]]) := by
 unfold Z3L
 refine zf (Zhv ..) ?_
 refine ze ?_
 refine zo (.p (.lst (shrO z1f) (z10.map Zv))) ?_
 refine zo (.p (.agg (Zz (Z3.mk 1 0 0 0 0 z10 ([] : List Z3)) (shrO (shrO z1f)) .nl))) ?_
 refine zt [(Zi (Zk.mk zl zp z7 zd zh (Zj.mk z2 z6)) zn zb), (Zo (Z3.mk 1 0 0 0 0 z10 ([] : List Z3)) (shrO (shrO z1f)) .nl), [(.p (.lst z1f (z10.map Zv)))]] ?_
 exact zr ((.p (.agg (Zz (Z3.mk 1 0 0 0 0 z10 ([] : List Z3)) .sh .sh))), [(Zi (Zk.mk zl zp z7 zd zh (Zj.mk z2 z6)) zn zb), (Zo (Z3.mk 1 0 0 0 0 z10 ([] : List Z3)) (shrO (shrO z1f)) .nl), [(.p (.lst z1f (z10.map Zv)))]]) ⟨_, rfl⟩
noncomputable def Z4P (x5 : Bool) (zl : List Int) (zp : Int) (z2 : Int) (z6 : Int) (z10 : List Z8) : Option (Z3 × Int × Int × Int) :=
 (Z26 zl zp).bind fun r1 =>
 if (x5) = true then
 ((Z6f z10).bind fun r2 =>
 Z3L r1.2 z2 z6 r2.1)
 else
 (Z3L r1.2 z2 z6 z10)
theorem Z9F (x5 : Bool) (zl : List Int) (zp : Int) (z7 : Int) (zd : Int) (zh : List Zq) (z2 : Int) (z6 : Int) (b1 : Z3) (z10 : List Z8) (zn : Own) (zb : Own) (zB : Own) (zy : Own) (z1f : Own) (zu : okApp zb = true) (zP : okApp zB = true) (zJ : okApp zy = true) : Sim (Z19 zl z7 zd zh zn zb) (Z4P x5 zl zp z2 z6 z10) (Zez 1 (.ptr 0 0) (.ptr 1 0) (bv x5) (.ptr 2 0) [(Zi (Zk.mk zl zp z7 zd zh (Zj.mk z2 z6)) zn zb), (Zo b1 zB zy), [(.p (.lst z1f (z10.map Zv)))]]) := by
 unfold Z4P
 refine zf (Zhm ..) ?_
 refine ze ?_
 refine zi fun r1 hr1 => ?_
 obtain ⟨qr1, er1, exr1, rfl⟩ := Z2t (zl) (zp) (z7) (zd) (zh) (z2) (z6) zn zb zu r1 hr1
 refine zc [0] (iv r1.1) [(Zi (Zk.mk zl r1.2 z7 zd zh (Zj.mk z2 z6)) zn zb), (Zo b1 zB zy), [(.p (.lst z1f (z10.map Zv)))]] er1 ?_
 refine ze ?_
 refine za (x5) ?_ ?_
 ·refine ze ?_
  refine zo (.p (.lst (shrO z1f) (z10.map Zv))) ?_
  refine zi fun r2 hr2 => ?_
  obtain ⟨qr2, er2, exr2, rfl⟩ := Za1 (z10) .sh r2 hr2
  refine zc [] (.p (.tup [(.lst .sh (r2.1.map Zv)), (.v (.int .i64 r2.2))])) [(Zi (Zk.mk zl r1.2 z7 zd zh (Zj.mk z2 z6)) zn zb), (Zo b1 zB zy), [(.p (.lst z1f (z10.map Zv)))]] er2 ?_
  refine zo (.p (.lst .sh (r2.1.map Zv))) ?_
  refine zo (iv r2.2) ?_
  refine zt [(Zi (Zk.mk zl r1.2 z7 zd zh (Zj.mk z2 z6)) zn zb), (Zo b1 zB zy), [(.p (.lst .sh (r2.1.map Zv)))]] ?_
  exact zk (Z6L (zl) (r1.2) (z7) (zd) (zh) (z2) (z6) (b1) (r2.1) zn zb zB zy .sh zu zP zJ)
 ·exact zk (Z6L (zl) (r1.2) (z7) (zd) (zh) (z2) (z6) (b1) (z10) zn zb zB zy z1f zu zP zJ)
noncomputable def Z2C (x1 : Int) (x5 : Bool) (x8 : Int) (x9 : Int) (zl : List Int) (z7 : Int) (zd : Int) (zh : List Zq) (z2 : Int) (z6 : Int) (z10 : List Z8) : Option (Z3 × Int × Int × Int) :=
 (ZS 22 x9 zl z2 z6).bind fun r1 =>
 Z1e x1 x5 x8 zl r1.1 z7 zd zh r1.2.1 r1.2.2 z10
theorem Z41 (x1 : Int) (x5 : Bool) (x8 : Int) (x9 : Int) (zl : List Int) (zp : Int) (z7 : Int) (zd : Int) (zh : List Zq) (z2 : Int) (z6 : Int) (b1 : Z3) (z10 : List Z8) (zn : Own) (zb : Own) (zB : Own) (zy : Own) (z1f : Own) (zu : okApp zb = true) (zP : okApp zB = true) (zJ : okApp zy = true) : Sim (Z19 zl z7 zd zh zn zb) (Z2C x1 x5 x8 x9 zl z7 zd zh z2 z6 z10) (ZaF 1 (.ptr 0 0) (iv x1) (.ptr 1 0) (bv x5) (.ptr 2 0) (.clo 58 [] [(.ptr 2 0)]) (iv x8) (iv x9) [(Zi (Zk.mk zl zp z7 zd zh (Zj.mk z2 z6)) zn zb), (Zo b1 zB zy), [(.p (.lst z1f (z10.map Zv)))]]) := by
 unfold Z2C
 refine zf (ZgZ ..) ?_
 refine ze ?_
 refine zi fun r1 hr1 => ?_
 obtain ⟨qr1, er1, exr1, rfl⟩ := ZV (22) (x9) (zl) (zp) (z7) (zd) (zh) (z2) (z6) zn zb zu r1 hr1
 refine zc [0] (.p (.tup [])) [(Zi (Zk.mk zl r1.1 z7 zd zh (Zj.mk r1.2.1 r1.2.2)) zn zb), (Zo b1 zB zy), [(.p (.lst z1f (z10.map Zv)))]] er1 ?_
 exact zk (Z1I (x1) (x5) (x8) (zl) (r1.1) (z7) (zd) (zh) (r1.2.1) (r1.2.2) (b1) (z10) zn zb zB zy z1f zu zP zJ)
noncomputable def Z1D (x1 : Int) (x5 : Bool) (x8 : Int) (x11 : Int) (x15 : Int) (zl : List Int) (zp : Int) (z7 : Int) (zd : Int) (zh : List Zq) (z2 : Int) (z6 : Int) (z10 : List Z8) : Option (Z3 × Int × Int × Int) :=
 if ((z2 == 0)) = true then
 ((Z4h (([(Z8.mk x11 x15)] : List Z8)) z10).bind fun r1 =>
 Z1e x1 x5 x8 zl zp z7 zd zh z2 z6 r1)
 else
 (Z1e x1 x5 x8 zl zp z7 zd zh z2 z6 z10)
theorem Z3P (x1 : Int) (x5 : Bool) (x8 : Int) (x11 : Int) (x15 : Int) (zl : List Int) (zp : Int) (z7 : Int) (zd : Int) (zh : List Zq) (z2 : Int) (z6 : Int) (b1 : Z3) (z10 : List Z8) (zn : Own) (zb : Own) (zB : Own) (zy : Own) (z1f : Own) (zu : okApp zb = true) (zP : okApp zB = true) (zJ : okApp zy = true) : Sim (Z19 zl z7 zd zh zn zb) (Z1D x1 x5 x8 x11 x15 zl zp z7 zd zh z2 z6 z10) (ZaK 1 (.ptr 0 0) (iv x1) (.ptr 1 0) (bv x5) (.ptr 2 0) (.clo 58 [] [(.ptr 2 0)]) (iv x8) (iv x11) (iv x15) [(Zi (Zk.mk zl zp z7 zd zh (Zj.mk z2 z6)) zn zb), (Zo b1 zB zy), [(.p (.lst z1f (z10.map Zv)))]]) := by
 unfold Z1D
 refine zf (Zh6 ..) ?_
 refine ze ?_
 refine zo (.ptr 0 0) ?_
 refine zo (.ptr 0 5) ?_
 refine zo (.ptr 0 5) ?_
 refine zo (iv z2) ?_
 refine zo (bv (z2 == 0)) ?_
 refine za ((z2 == 0)) ?_ ?_
 ·refine ze ?_
  refine zo (.p (.agg (ZF (Z8.mk x11 x15)))) ?_
  refine zo (.p (.lst .ex (([(Z8.mk x11 x15)] : List Z8).map Zv))) ?_
  refine zi fun r1 hr1 => ?_
  obtain ⟨qr1, er1, or1_0_0, exr1, rfl⟩ := Z7l (([(Z8.mk x11 x15)] : List Z8)) (z10) .sh z1f r1 hr1
  refine zv [2] (.p (.tup [])) [(Zi (Zk.mk zl zp z7 zd zh (Zj.mk z2 z6)) zn zb), (Zo b1 zB zy), [(.p (.lst or1_0_0 (r1.map Zv)))]] er1 ?_
  exact zk (Z1I (x1) (x5) (x8) (zl) (zp) (z7) (zd) (zh) (z2) (z6) (b1) (r1) zn zb zB zy or1_0_0 zu zP zJ)
 ·exact zk (Z1I (x1) (x5) (x8) (zl) (zp) (z7) (zd) (zh) (z2) (z6) (b1) (z10) zn zb zB zy z1f zu zP zJ)
noncomputable def Z33 (x1 : Int) (x5 : Bool) (x8 : Int) (x9 : Int) (x11 : Int) (x15 : Int) (zl : List Int) (z7 : Int) (zd : Int) (zh : List Zq) (z2 : Int) (z6 : Int) (z10 : List Z8) : Option (Z3 × Int × Int × Int) :=
 (ZS 22 x9 zl z2 z6).bind fun r1 =>
 Z1D x1 x5 x8 x11 x15 zl r1.1 z7 zd zh r1.2.1 r1.2.2 z10
theorem Z6G (x1 : Int) (x5 : Bool) (x8 : Int) (x9 : Int) (x11 : Int) (x15 : Int) (zl : List Int) (zp : Int) (z7 : Int) (zd : Int) (zh : List Zq) (z2 : Int) (z6 : Int) (b1 : Z3) (z10 : List Z8) (zn : Own) (zb : Own) (zB : Own) (zy : Own) (z1f : Own) (zu : okApp zb = true) (zP : okApp zB = true) (zJ : okApp zy = true) : Sim (Z19 zl z7 zd zh zn zb) (Z33 x1 x5 x8 x9 x11 x15 zl z7 zd zh z2 z6 z10) (Zdn 1 (.ptr 0 0) (iv x1) (.ptr 1 0) (bv x5) (.ptr 2 0) (.clo 58 [] [(.ptr 2 0)]) (iv x8) (iv x9) (iv x11) (iv x15) [(Zi (Zk.mk zl zp z7 zd zh (Zj.mk z2 z6)) zn zb), (Zo b1 zB zy), [(.p (.lst z1f (z10.map Zv)))]]) := by
 unfold Z33
 refine zf (Zh3 ..) ?_
 refine ze ?_
 refine zi fun r1 hr1 => ?_
 obtain ⟨qr1, er1, exr1, rfl⟩ := ZV (22) (x9) (zl) (zp) (z7) (zd) (zh) (z2) (z6) zn zb zu r1 hr1
 refine zc [0] (.p (.tup [])) [(Zi (Zk.mk zl r1.1 z7 zd zh (Zj.mk r1.2.1 r1.2.2)) zn zb), (Zo b1 zB zy), [(.p (.lst z1f (z10.map Zv)))]] er1 ?_
 exact zk (Z3P (x1) (x5) (x8) (x11) (x15) (zl) (r1.1) (z7) (zd) (zh) (r1.2.1) (r1.2.2) (b1) (z10) zn zb zB zy z1f zu zP zJ)
noncomputable def Z4R (x1 : Int) (x5 : Bool) (x8 : Int) (x9 : Int) (x11 : Int) (zl : List Int) (zp : Int) (z7 : Int) (zd : Int) (zh : List Zq) (z2 : Int) (z6 : Int) (z10 : List Z8) : Option (Z3 × Int × Int × Int) :=
 (Z3D zl zp z7 zd zh z2 z6).bind fun r1 =>
 if ((r1.2.2.2.2.1 == 0)) = true then
 ((nilO (shrO (shrO (shrO (shrO r1.2.1.1)))) r1.2.1.2).bind fun a2 =>
 if ((!a2)) = true then
 (Z33 x1 x5 x8 x9 x11 r1.1 zl z7 zd zh r1.2.2.2.2.1 r1.2.2.2.2.2 z10)
 else
 (if ((decide (r1.1 < x11))) = true then
 (Z33 x1 x5 x8 x9 x11 r1.1 zl z7 zd zh r1.2.2.2.2.1 r1.2.2.2.2.2 z10)
 else
 (Z1D x1 x5 x8 x11 r1.1 zl r1.2.2.2.1 z7 zd zh r1.2.2.2.2.1 r1.2.2.2.2.2 z10)))
 else
 (Z1D x1 x5 x8 x11 r1.1 zl r1.2.2.2.1 z7 zd zh r1.2.2.2.2.1 r1.2.2.2.2.2 z10)
theorem Z9w (x1 : Int) (x5 : Bool) (x8 : Int) (x9 : Int) (x11 : Int) (zl : List Int) (zp : Int) (z7 : Int) (zd : Int) (zh : List Zq) (z2 : Int) (z6 : Int) (b1 : Z3) (z10 : List Z8) (zn : Own) (zb : Own) (zB : Own) (zy : Own) (z1f : Own) (zu : okApp zb = true) (zP : okApp zB = true) (zJ : okApp zy = true) : Sim (Z19 zl z7 zd zh zn zb) (Z4R x1 x5 x8 x9 x11 zl zp z7 zd zh z2 z6 z10) (ZeN 1 (.ptr 0 0) (iv x1) (.ptr 1 0) (bv x5) (.ptr 2 0) (.clo 58 [] [(.ptr 2 0)]) (iv x8) (iv x9) (iv x11) [(Zi (Zk.mk zl zp z7 zd zh (Zj.mk z2 z6)) zn zb), (Zo b1 zB zy), [(.p (.lst z1f (z10.map Zv)))]]) := by
 unfold Z4R
 refine zf (Zhr ..) ?_
 refine ze ?_
 refine zi fun r1 hr1 => ?_
 obtain ⟨qr1, er1, exr1, rfl⟩ := Z7v (zl) (zp) (z7) (zd) (zh) (z2) (z6) zn zb zu r1 hr1
 refine zc [0] (.p (.tup [(.v (.int .i64 r1.1)), (.lst r1.2.1.1 (r1.2.1.2.map Zv)), (.v (.bool r1.2.2.1))])) [(Zi (Zk.mk zl r1.2.2.2.1 z7 zd zh (Zj.mk r1.2.2.2.2.1 r1.2.2.2.2.2)) zn zb), (Zo b1 zB zy), [(.p (.lst z1f (z10.map Zv)))]] er1 ?_
 refine zo (iv r1.1) ?_
 refine zo (.p (.lst (shrO r1.2.1.1) (r1.2.1.2.map Zv))) ?_
 refine zo (bv r1.2.2.1) ?_
 refine ze ?_
 refine zo (.ptr 0 0) ?_
 refine zo (.ptr 0 5) ?_
 refine zo (.ptr 0 5) ?_
 refine zo (iv r1.2.2.2.2.1) ?_
 refine zo (bv (r1.2.2.2.2.1 == 0)) ?_
 refine za ((r1.2.2.2.2.1 == 0)) ?_ ?_
 ·refine zi fun a2 ha2 => ?_
  refine zo (bv (!a2)) ?_ (Eq.trans (by kernel_rfl) (xnil_neq (P := PP) (t := 23) (c := .slice none 0 0) (e := Zv) (by kernel_rfl) ha2))
  refine za ((!a2)) ?_ ?_
  ·exact zk (Z6G (x1) (x5) (x8) (x9) (x11) (r1.1) (zl) (r1.2.2.2.1) (z7) (zd) (zh) (r1.2.2.2.2.1) (r1.2.2.2.2.2) (b1) (z10) zn zb zB zy z1f zu zP zJ)
  ·refine zo (bv (decide (r1.1 < x11))) ?_
   refine za ((decide (r1.1 < x11))) ?_ ?_
   ·exact zk (Z6G (x1) (x5) (x8) (x9) (x11) (r1.1) (zl) (r1.2.2.2.1) (z7) (zd) (zh) (r1.2.2.2.2.1) (r1.2.2.2.2.2) (b1) (z10) zn zb zB zy z1f zu zP zJ)
   ·exact zk (Z3P (x1) (x5) (x8) (x11) (r1.1) (zl) (r1.2.2.2.1) (z7) (zd) (zh) (r1.2.2.2.2.1) (r1.2.2.2.2.2) (b1) (z10) zn zb zB zy z1f zu zP zJ)
 ·exact zk (Z3P (x1) (x5) (x8) (x11) (r1.1) (zl) (r1.2.2.2.1) (z7) (zd) (zh) (r1.2.2.2.2.1) (r1.2.2.2.2.2) (b1) (z10) zn zb zB zy z1f zu zP zJ)
noncomputable def Z3O (x1 : Int) (x5 : Bool) (x8 : Int) (x9 : Int) (x11 : Int) (zl : List Int) (zp : Int) (z7 : Int) (zd : Int) (zh : List Zq) (z2 : Int) (z6 : Int) (z10 : List Z8) : Option (Z3 × Int × Int × Int) :=
 (Z16 ((ByteArray.mk #[45])) zl zp).bind fun r1 =>
 if (r1.1) = true then
 ((Z1F ((Zk.mk zl r1.2 z7 zd zh (Zj.mk z2 z6)))).bind fun r2 =>
 if ((r2 == 93)) = true then
 (Z2C x1 x5 x8 x9 zl z7 zd zh z2 z6 z10)
 else
 (if ((r2 == 91)) = true then
 (Z2C x1 x5 x8 x9 zl z7 zd zh z2 z6 z10)
 else
 (if ((r2 == 45)) = true then
 (Z2C x1 x5 x8 x9 zl z7 zd zh z2 z6 z10)
 else
 (if ((decide (r2 < 0))) = true then
 (Z2C x1 x5 x8 x9 zl z7 zd zh z2 z6 z10)
 else
 (Z4R x1 x5 x8 x9 x11 zl r1.2 z7 zd zh z2 z6 z10)))))
 else
 (Z1D x1 x5 x8 x11 x11 zl r1.2 z7 zd zh z2 z6 z10)
theorem Z9I (x1 : Int) (x5 : Bool) (x8 : Int) (x9 : Int) (x11 : Int) (zl : List Int) (zp : Int) (z7 : Int) (zd : Int) (zh : List Zq) (z2 : Int) (z6 : Int) (b1 : Z3) (z10 : List Z8) (zn : Own) (zb : Own) (zB : Own) (zy : Own) (z1f : Own) (zu : okApp zb = true) (zP : okApp zB = true) (zJ : okApp zy = true) : Sim (Z19 zl z7 zd zh zn zb) (Z3O x1 x5 x8 x9 x11 zl zp z7 zd zh z2 z6 z10) (ZeL 1 (.ptr 0 0) (iv x1) (.ptr 1 0) (bv x5) (.ptr 2 0) (.clo 58 [] [(.ptr 2 0)]) (iv x8) (iv x9) (iv x11) [(Zi (Zk.mk zl zp z7 zd zh (Zj.mk z2 z6)) zn zb), (Zo b1 zB zy), [(.p (.lst z1f (z10.map Zv)))]]) := by
 unfold Z3O
 refine zf (Zh5 ..) ?_
 refine ze ?_
 refine ze ?_
 refine zi fun r1 hr1 => ?_
 obtain ⟨qr1, er1, exr1, rfl⟩ := Z1b ((ByteArray.mk #[45])) (zl) (zp) (z7) (zd) (zh) (z2) (z6) zn zb zu r1 hr1
 refine zc [0] (bv r1.1) [(Zi (Zk.mk zl r1.2 z7 zd zh (Zj.mk z2 z6)) zn zb), (Zo b1 zB zy), [(.p (.lst z1f (z10.map Zv)))]] er1 ?_
 refine za (r1.1) ?_ ?_
 ·refine ze ?_
  refine zi fun r2 hr2 => ?_
  obtain ⟨qr2, er2, exr2, rfl⟩ := Z1K ((Zk.mk zl r1.2 z7 zd zh (Zj.mk z2 z6))) zn zb zu r2 hr2
  refine zc [0] (iv r2) [(Zi (Zk.mk zl r1.2 z7 zd zh (Zj.mk z2 z6)) zn zb), (Zo b1 zB zy), [(.p (.lst z1f (z10.map Zv)))]] er2 ?_
  refine ze ?_
  refine zo (bv (r2 == 93)) ?_
  refine za ((r2 == 93)) ?_ ?_
  ·exact zk (Z41 (x1) (x5) (x8) (x9) (zl) (r1.2) (z7) (zd) (zh) (z2) (z6) (b1) (z10) zn zb zB zy z1f zu zP zJ)
  ·refine zo (bv (r2 == 91)) ?_
   refine za ((r2 == 91)) ?_ ?_
   ·exact zk (Z41 (x1) (x5) (x8) (x9) (zl) (r1.2) (z7) (zd) (zh) (z2) (z6) (b1) (z10) zn zb zB zy z1f zu zP zJ)
   ·refine zo (bv (r2 == 45)) ?_
    refine za ((r2 == 45)) ?_ ?_
    ·exact zk (Z41 (x1) (x5) (x8) (x9) (zl) (r1.2) (z7) (zd) (zh) (z2) (z6) (b1) (z10) zn zb zB zy z1f zu zP zJ)
    ·refine zo (bv (decide (r2 < 0))) ?_
     refine za ((decide (r2 < 0))) ?_ ?_
     ·exact zk (Z41 (x1) (x5) (x8) (x9) (zl) (r1.2) (z7) (zd) (zh) (z2) (z6) (b1) (z10) zn zb zB zy z1f zu zP zJ)
     ·exact zk (Z9w (x1) (x5) (x8) (x9) (x11) (zl) (r1.2) (z7) (zd) (zh) (z2) (z6) (b1) (z10) zn zb zB zy z1f zu zP zJ)
 ·exact zk (Z3P (x1) (x5) (x8) (x11) (x11) (zl) (r1.2) (z7) (zd) (zh) (z2) (z6) (b1) (z10) zn zb zB zy z1f zu zP zJ)
noncomputable def Z3N (x1 : Int) (x5 : Bool) (x8 : Int) (x9 : Int) (zl : List Int) (zp : Int) (z7 : Int) (zd : Int) (zh : List Zq) (z2 : Int) (z6 : Int) (z10 : List Z8) : Option (Z3 × Int × Int × Int) :=
 (Z3D zl zp z7 zd zh z2 z6).bind fun r1 =>
 (nilO (shrO (shrO (shrO (shrO r1.2.1.1)))) r1.2.1.2).bind fun a2 =>
 if ((!a2)) = true then
 ((Z2J r1.2.2.1 r1.2.1.2).bind fun r3 =>
 (Z4h r3.Set z10).bind fun r4 =>
 (Z1F ((Zk.mk zl r1.2.2.2.1 z7 zd zh (Zj.mk r1.2.2.2.2.1 r1.2.2.2.2.2)))).bind fun r5 =>
 if ((r5 == 45)) = true then
 ((ZS 22 r1.2.2.2.1 zl r1.2.2.2.2.1 r1.2.2.2.2.2).bind fun r6 =>
 Z1e x1 x5 x8 zl r6.1 z7 zd zh r6.2.1 r6.2.2 r4)
 else
 (Z1e x1 x5 x8 zl r1.2.2.2.1 z7 zd zh r1.2.2.2.2.1 r1.2.2.2.2.2 r4))
 else
 (Z3O x1 x5 x8 x9 r1.1 zl r1.2.2.2.1 z7 zd zh r1.2.2.2.2.1 r1.2.2.2.2.2 z10)
theorem Z6J (x1 : Int) (x5 : Bool) (x8 : Int) (x9 : Int) (zl : List Int) (zp : Int) (z7 : Int) (zd : Int) (zh : List Zq) (z2 : Int) (z6 : Int) (b1 : Z3) (z10 : List Z8) (zn : Own) (zb : Own) (zB : Own) (zy : Own) (z1f : Own) (zu : okApp zb = true) (zP : okApp zB = true) (zJ : okApp zy = true) : Sim (Z19 zl z7 zd zh zn zb) (Z3N x1 x5 x8 x9 zl zp z7 zd zh z2 z6 z10) (Zde 1 (.ptr 0 0) (iv x1) (.ptr 1 0) (bv x5) (.ptr 2 0) (.clo 58 [] [(.ptr 2 0)]) (iv x8) (iv x9) [(Zi (Zk.mk zl zp z7 zd zh (Zj.mk z2 z6)) zn zb), (Zo b1 zB zy), [(.p (.lst z1f (z10.map Zv)))]]) := by
 unfold Z3N
 refine zf (Zh7 ..) ?_
 refine ze ?_
 refine zi fun r1 hr1 => ?_
 obtain ⟨qr1, er1, exr1, rfl⟩ := Z7v (zl) (zp) (z7) (zd) (zh) (z2) (z6) zn zb zu r1 hr1
 refine zc [0] (.p (.tup [(.v (.int .i64 r1.1)), (.lst r1.2.1.1 (r1.2.1.2.map Zv)), (.v (.bool r1.2.2.1))])) [(Zi (Zk.mk zl r1.2.2.2.1 z7 zd zh (Zj.mk r1.2.2.2.2.1 r1.2.2.2.2.2)) zn zb), (Zo b1 zB zy), [(.p (.lst z1f (z10.map Zv)))]] er1 ?_
 refine zo (iv r1.1) ?_
 refine zo (.p (.lst (shrO r1.2.1.1) (r1.2.1.2.map Zv))) ?_
 refine zo (bv r1.2.2.1) ?_
 refine ze ?_
 refine zi fun a2 ha2 => ?_
 refine zo (bv (!a2)) ?_ (Eq.trans (by kernel_rfl) (xnil_neq (P := PP) (t := 23) (c := .slice none 0 0) (e := Zv) (by kernel_rfl) ha2))
 refine za ((!a2)) ?_ ?_
 ·refine ze ?_
  refine zi fun r3 hr3 => ?_
  obtain ⟨qr3, er3, exr3, rfl⟩ := Z2S (r1.2.2.1) (r1.2.1.2) .sh r3 hr3
  refine zc [] (.p (.agg (Zz r3 .sh .sh))) [(Zi (Zk.mk zl r1.2.2.2.1 z7 zd zh (Zj.mk r1.2.2.2.2.1 r1.2.2.2.2.2)) zn zb), (Zo b1 zB zy), [(.p (.lst z1f (z10.map Zv)))]] er3 ?_
  refine zz (.ptr 3 0) [(Zi (Zk.mk zl r1.2.2.2.1 z7 zd zh (Zj.mk r1.2.2.2.2.1 r1.2.2.2.2.2)) zn zb), (Zo b1 zB zy), [(.p (.lst z1f (z10.map Zv)))], (Zo (Z3.mk 0 0 0 0 0 ([] : List Z8) ([] : List Z3)) .nl .nl)] ?_
  refine zt [(Zi (Zk.mk zl r1.2.2.2.1 z7 zd zh (Zj.mk r1.2.2.2.2.1 r1.2.2.2.2.2)) zn zb), (Zo b1 zB zy), [(.p (.lst z1f (z10.map Zv)))], (Zo r3 .sh .sh)] ?_
  refine ze ?_
  refine zo (.ptr 3 5) ?_
  refine zo (.p (.lst .sh (r3.Set.map Zv))) ?_
  refine zi fun r4 hr4 => ?_
  obtain ⟨qr4, er4, or4_0_0, exr4, rfl⟩ := Z7l (r3.Set) (z10) .sh z1f r4 hr4
  refine zv [2] (.p (.tup [])) [(Zi (Zk.mk zl r1.2.2.2.1 z7 zd zh (Zj.mk r1.2.2.2.2.1 r1.2.2.2.2.2)) zn zb), (Zo b1 zB zy), [(.p (.lst or4_0_0 (r4.map Zv)))], (Zo r3 .sh .sh)] er4 ?_
  refine ze ?_
  refine zi fun r5 hr5 => ?_
  obtain ⟨qr5, er5, exr5, rfl⟩ := Z1K ((Zk.mk zl r1.2.2.2.1 z7 zd zh (Zj.mk r1.2.2.2.2.1 r1.2.2.2.2.2))) zn zb zu r5 hr5
  refine zc [0] (iv r5) [(Zi (Zk.mk zl r1.2.2.2.1 z7 zd zh (Zj.mk r1.2.2.2.2.1 r1.2.2.2.2.2)) zn zb), (Zo b1 zB zy), [(.p (.lst or4_0_0 (r4.map Zv)))], (Zo r3 .sh .sh)] er5 ?_
  refine zo (bv (r5 == 45)) ?_
  refine za ((r5 == 45)) ?_ ?_
  ·refine ze ?_
   refine zo (.ptr 0 0) ?_
   refine zo (.ptr 0 1) ?_
   refine zo (iv r1.2.2.2.1) ?_
   refine zi fun r6 hr6 => ?_
   obtain ⟨qr6, er6, exr6, rfl⟩ := ZV (22) (r1.2.2.2.1) (zl) (r1.2.2.2.1) (z7) (zd) (zh) (r1.2.2.2.2.1) (r1.2.2.2.2.2) zn zb zu r6 hr6
   refine zc [0] (.p (.tup [])) [(Zi (Zk.mk zl r6.1 z7 zd zh (Zj.mk r6.2.1 r6.2.2)) zn zb), (Zo b1 zB zy), [(.p (.lst or4_0_0 (r4.map Zv)))], (Zo r3 .sh .sh)] er6 ?_
   exact zk (Z1I (x1) (x5) (x8) (zl) (r6.1) (z7) (zd) (zh) (r6.2.1) (r6.2.2) (b1) (r4) zn zb zB zy or4_0_0 zu zP zJ)
  ·exact zk (Z1I (x1) (x5) (x8) (zl) (r1.2.2.2.1) (z7) (zd) (zh) (r1.2.2.2.2.1) (r1.2.2.2.2.2) (b1) (r4) zn zb zB zy or4_0_0 zu zP zJ)
 ·exact zk (Z9I (x1) (x5) (x8) (x9) (r1.1) (zl) (r1.2.2.2.1) (z7) (zd) (zh) (r1.2.2.2.2.1) (r1.2.2.2.2.2) (b1) (z10) zn zb zB zy z1f zu zP zJ)
noncomputable def Z3b (x1 : Int) (x5 : Bool) (x8 : Int) (zl : List Int) (zp : Int) (z7 : Int) (zd : Int) (zh : List Zq) (z2 : Int) (z6 : Int) (z10 : List Z8) : Option (Z3 × Int × Int × Int) :=
 (Z1F ((Zk.mk zl zp z7 zd zh (Zj.mk z2 z6)))).bind fun r1 =>
 if ((r1 == (-1))) = true then
 ((ZS 22 x1 zl z2 z6).bind fun r2 =>
 Z1e x1 x5 x8 zl r2.1 z7 zd zh r2.2.1 r2.2.2 z10)
 else
 (if ((r1 == 93)) = true then
 (if ((x8 == 0)) = true then
 ((ZS 22 x1 zl z2 z6).bind fun r3 =>
 Z1e x1 x5 x8 zl r3.1 z7 zd zh r3.2.1 r3.2.2 z10)
 else
 (Z4P x5 zl zp z2 z6 z10))
 else
 (if ((r1 == 91)) = true then
 (if ((r1 == 91)) = true then
 ((ZS 22 zp zl z2 z6).bind fun r4 =>
 Z1e x1 x5 x8 zl r4.1 z7 zd zh r4.2.1 r4.2.2 z10)
 else
 (Z3N x1 x5 x8 zp zl zp z7 zd zh z2 z6 z10))
 else
 (if ((r1 == 45)) = true then
 ((ZS 22 zp zl z2 z6).bind fun r5 =>
 Z1e x1 x5 x8 zl r5.1 z7 zd zh r5.2.1 r5.2.2 z10)
 else
 (Z3N x1 x5 x8 zp zl zp z7 zd zh z2 z6 z10))))
theorem Z9S (x1 : Int) (x5 : Bool) (x8 : Int) (zl : List Int) (zp : Int) (z7 : Int) (zd : Int) (zh : List Zq) (z2 : Int) (z6 : Int) (b1 : Z3) (z10 : List Z8) (zn : Own) (zb : Own) (zB : Own) (zy : Own) (z1f : Own) (zu : okApp zb = true) (zP : okApp zB = true) (zJ : okApp zy = true) : Sim (Z19 zl z7 zd zh zn zb) (Z3b x1 x5 x8 zl zp z7 zd zh z2 z6 z10) (Zgo 1 (.ptr 0 0) (iv x1) (.ptr 1 0) (bv x5) (.ptr 2 0) (.clo 58 [] [(.ptr 2 0)]) (iv x8) [(Zi (Zk.mk zl zp z7 zd zh (Zj.mk z2 z6)) zn zb), (Zo b1 zB zy), [(.p (.lst z1f (z10.map Zv)))]]) := by
 unfold Z3b
 refine zf (Ziq ..) ?_
 refine ze ?_
 refine zo (.ptr 0 0) ?_
 refine zo (.ptr 0 1) ?_
 refine zo (iv zp) ?_
 refine ze ?_
 refine zi fun r1 hr1 => ?_
 obtain ⟨qr1, er1, exr1, rfl⟩ := Z1K ((Zk.mk zl zp z7 zd zh (Zj.mk z2 z6))) zn zb zu r1 hr1
 refine zc [0] (iv r1) [(Zi (Zk.mk zl zp z7 zd zh (Zj.mk z2 z6)) zn zb), (Zo b1 zB zy), [(.p (.lst z1f (z10.map Zv)))]] er1 ?_
 refine ze ?_
 refine ze ?_
 refine zo (bv (r1 == (-1))) ?_
 refine za ((r1 == (-1))) ?_ ?_
 ·refine ze ?_
  refine zi fun r2 hr2 => ?_
  obtain ⟨qr2, er2, exr2, rfl⟩ := ZV (22) (x1) (zl) (zp) (z7) (zd) (zh) (z2) (z6) zn zb zu r2 hr2
  refine zc [0] (.p (.tup [])) [(Zi (Zk.mk zl r2.1 z7 zd zh (Zj.mk r2.2.1 r2.2.2)) zn zb), (Zo b1 zB zy), [(.p (.lst z1f (z10.map Zv)))]] er2 ?_
  exact zk (Z1I (x1) (x5) (x8) (zl) (r2.1) (z7) (zd) (zh) (r2.2.1) (r2.2.2) (b1) (z10) zn zb zB zy z1f zu zP zJ)
 ·refine ze ?_
  refine zo (bv (r1 == 93)) ?_
  refine za ((r1 == 93)) ?_ ?_
  ·refine ze ?_
   refine zo (bv (x8 == 0)) ?_
   refine za ((x8 == 0)) ?_ ?_
   ·refine ze ?_
    refine zi fun r3 hr3 => ?_
    obtain ⟨qr3, er3, exr3, rfl⟩ := ZV (22) (x1) (zl) (zp) (z7) (zd) (zh) (z2) (z6) zn zb zu r3 hr3
    refine zc [0] (.p (.tup [])) [(Zi (Zk.mk zl r3.1 z7 zd zh (Zj.mk r3.2.1 r3.2.2)) zn zb), (Zo b1 zB zy), [(.p (.lst z1f (z10.map Zv)))]] er3 ?_
    exact zk (Z1I (x1) (x5) (x8) (zl) (r3.1) (z7) (zd) (zh) (r3.2.1) (r3.2.2) (b1) (z10) zn zb zB zy z1f zu zP zJ)
   ·exact zk (Z9F (x5) (zl) (zp) (z7) (zd) (zh) (z2) (z6) (b1) (z10) zn zb zB zy z1f zu zP zJ)
  ·refine ze ?_
   refine zo (bv (r1 == 91)) ?_
   refine za ((r1 == 91)) ?_ ?_
   ·refine za ((r1 == 91)) ?_ ?_
    ·refine ze ?_
     refine zi fun r4 hr4 => ?_
     obtain ⟨qr4, er4, exr4, rfl⟩ := ZV (22) (zp) (zl) (zp) (z7) (zd) (zh) (z2) (z6) zn zb zu r4 hr4
     refine zc [0] (.p (.tup [])) [(Zi (Zk.mk zl r4.1 z7 zd zh (Zj.mk r4.2.1 r4.2.2)) zn zb), (Zo b1 zB zy), [(.p (.lst z1f (z10.map Zv)))]] er4 ?_
     exact zk (Z1I (x1) (x5) (x8) (zl) (r4.1) (z7) (zd) (zh) (r4.2.1) (r4.2.2) (b1) (z10) zn zb zB zy z1f zu zP zJ)
    ·exact zk (Z6J (x1) (x5) (x8) (zp) (zl) (zp) (z7) (zd) (zh) (z2) (z6) (b1) (z10) zn zb zB zy z1f zu zP zJ)
   ·refine ze ?_
    refine zo (bv (r1 == 45)) ?_
    refine za ((r1 == 45)) ?_ ?_
    ·refine ze ?_
     refine zi fun r5 hr5 => ?_
     obtain ⟨qr5, er5, exr5, rfl⟩ := ZV (22) (zp) (zl) (zp) (z7) (zd) (zh) (z2) (z6) zn zb zu r5 hr5
     refine zc [0] (.p (.tup [])) [(Zi (Zk.mk zl r5.1 z7 zd zh (Zj.mk r5.2.1 r5.2.2)) zn zb), (Zo b1 zB zy), [(.p (.lst z1f (z10.map Zv)))]] er5 ?_
     exact zk (Z1I (x1) (x5) (x8) (zl) (r5.1) (z7) (zd) (zh) (r5.2.1) (r5.2.2) (b1) (z10) zn zb zB zy z1f zu zP zJ)
    ·exact zk (Z6J (x1) (x5) (x8) (zp) (zl) (zp) (z7) (zd) (zh) (z2) (z6) (b1) (z10) zn zb zB zy z1f zu zP zJ)
noncomputable def Z60 (zp : Int) (z2 : Int) (z6 : Int) : Option (Z3 × Int × Int × Int) :=
 some ((Z3.mk 0 0 0 0 0 ([] : List Z8) ([] : List Z3)), zp, z2, z6)
theorem Z9r (zl : List Int) (zp : Int) (z7 : Int) (zd : Int) (zh : List Zq) (z2 : Int) (z6 : Int) (b1 : Z3) (zn : Own) (zb : Own) (zB : Own) (zy : Own) (zu : okApp zb = true) (zP : okApp zB = true) (zJ : okApp zy = true) : Sim (Z19 zl z7 zd zh zn zb) (Z60 zp z2 z6) (Zew 1 (.ptr 1 0) [(Zi (Zk.mk zl zp z7 zd zh (Zj.mk z2 z6)) zn zb), (Zo b1 zB zy)]) := by
 unfold Z60
 refine zf (Zhq ..) ?_
 refine ze ?_
 refine zo (.p (.agg (Zz (Z3.mk 0 0 0 0 0 ([] : List Z8) ([] : List Z3)) .nl .nl))) ?_
 refine zt [(Zi (Zk.mk zl zp z7 zd zh (Zj.mk z2 z6)) zn zb), (Zo (Z3.mk 0 0 0 0 0 ([] : List Z8) ([] : List Z3)) .nl .nl)] ?_
 exact zr ((.p (.agg (Zz (Z3.mk 0 0 0 0 0 ([] : List Z8) ([] : List Z3)) .sh .sh))), [(Zi (Zk.mk zl zp z7 zd zh (Zj.mk z2 z6)) zn zb), (Zo (Z3.mk 0 0 0 0 0 ([] : List Z8) ([] : List Z3)) .nl .nl)]) ⟨_, rfl⟩
noncomputable def Z43 (x1 : Int) (x5 : Bool) (x8 : Int) (zl : List Int) (zp : Int) (z7 : Int) (zd : Int) (zh : List Zq) (z2 : Int) (z6 : Int) (z10 : List Z8) : Option (Z3 × Int × Int × Int) :=
 if ((z2 == 0)) = true then
 (Z3b x1 x5 x8 zl zp z7 zd zh z2 z6 z10)
 else
 (Z60 zp z2 z6)
theorem Z9Z (x1 : Int) (x5 : Bool) (x8 : Int) (zl : List Int) (zp : Int) (z7 : Int) (zd : Int) (zh : List Zq) (z2 : Int) (z6 : Int) (b1 : Z3) (z10 : List Z8) (zn : Own) (zb : Own) (zB : Own) (zy : Own) (z1f : Own) (zu : okApp zb = true) (zP : okApp zB = true) (zJ : okApp zy = true) : Sim (Z19 zl z7 zd zh zn zb) (Z43 x1 x5 x8 zl zp z7 zd zh z2 z6 z10) (Zck 1 (.ptr 0 0) (iv x1) (.ptr 1 0) (bv x5) (.ptr 2 0) (.clo 58 [] [(.ptr 2 0)]) (iv x8) [(Zi (Zk.mk zl zp z7 zd zh (Zj.mk z2 z6)) zn zb), (Zo b1 zB zy), [(.p (.lst z1f (z10.map Zv)))]]) := by
 unfold Z43
 refine zf (Zjc ..) ?_
 refine ze ?_
 refine zo (.ptr 0 0) ?_
 refine zo (.ptr 0 5) ?_
 refine zo (.ptr 0 5) ?_
 refine zo (iv z2) ?_
 refine zo (bv (z2 == 0)) ?_
 refine za ((z2 == 0)) ?_ ?_
 ·exact zk (Z9S (x1) (x5) (x8) (zl) (zp) (z7) (zd) (zh) (z2) (z6) (b1) (z10) zn zb zB zy z1f zu zP zJ)
 ·exact zk (Z9r (zl) (zp) (z7) (zd) (zh) (z2) (z6) (b1) zn zb zB zy zu zP zJ)
theorem Z72 (x1 : Int) (x5 : Bool) (x8 : Int) (zl : List Int) (zp : Int) (z7 : Int) (zd : Int) (zh : List Zq) (z2 : Int) (z6 : Int) (z10 : List Z8) {r} (h : Z43 x1 x5 x8 zl zp z7 zd zh z2 z6 z10 = some r) : Z2R x1 x5 x8 zl zp z7 zd zh z2 z6 z10 = some r :=
 pick_of (fun _ _ ha hb => RRun.uniq (Z8n _ _ _ _ _ _) (ha default .ex .ex .ex .ex .ex rfl rfl rfl) (hb default .ex .ex .ex .ex .ex rfl rfl rfl)) (fun b1 zn zb zB zy z1f zu zP zJ => Z9Z x1 x5 x8 zl zp z7 zd zh z2 z6 b1 z10 zn zb zB zy z1f zu zP zJ r h)
noncomputable def Z3u (x2 : Int) (x5 : Int) (zl : List Int) (zp : Int) (z7 : Int) (zd : Int) (zh : List Zq) (z2 : Int) (z6 : Int) : Option (Int × (Own × (List Z8)) × Bool × Int × Int × Int) :=
 (Z4M x2 x5 zl zp z7 zd zh z2 z6).bind fun r1 =>
 some (r1.1, (.nl, ([] : List Z8)), false, r1.2.1, r1.2.2.1, r1.2.2.2)
theorem Z9n (x2 : Int) (x5 : Int) (zl : List Int) (zp : Int) (z7 : Int) (zd : Int) (zh : List Zq) (z2 : Int) (z6 : Int) (zn : Own) (zb : Own) (zu : okApp zb = true) : Sim (Z2H zl z7 zd zh zn zb) (Z3u x2 x5 zl zp z7 zd zh z2 z6) (Zex 1 (.ptr 0 0) (iv x2) (iv x5) [(Zi (Zk.mk zl zp z7 zd zh (Zj.mk z2 z6)) zn zb)]) := by
 unfold Z3u
 refine zf (Zhl ..) ?_
 refine ze ?_
 refine zi fun r1 hr1 => ?_
 obtain ⟨qr1, er1, exr1, rfl⟩ := Z85 (x2) (x5) (zl) (zp) (z7) (zd) (zh) (z2) (z6) zn zb zu r1 hr1
 refine zc [0] (iv r1.1) [(Zi (Zk.mk zl r1.2.1 z7 zd zh (Zj.mk r1.2.2.1 r1.2.2.2)) zn zb)] er1 ?_
 exact zr ((.p (.tup [(.v (.int .i64 r1.1)), (.lst .nl []), (.v (.bool false))])), [(Zi (Zk.mk zl r1.2.1 z7 zd zh (Zj.mk r1.2.2.1 r1.2.2.2)) zn zb)]) ⟨_, rfl⟩
noncomputable def Z4O (x2 : Int) (x5 : Int) (zl : List Int) (zp : Int) (z7 : Int) (zd : Int) (zh : List Zq) (z2 : Int) (z6 : Int) : Option (Int × (Own × (List Z8)) × Bool × Int × Int × Int) :=
 (Z26 zl zp).bind fun r1 =>
 (Z4Z x2).bind fun r2 =>
 (nilO (shrO r2.1) r2.2).bind fun a3 =>
 if ((!a3)) = true then
 (some (0, ((shrO r2.1), r2.2), (decide (x2 < 97)), r1.2, z2, z6))
 else
 (Z3u x2 x5 zl r1.2 z7 zd zh z2 z6)
theorem Z9E (x2 : Int) (x5 : Int) (zl : List Int) (zp : Int) (z7 : Int) (zd : Int) (zh : List Zq) (z2 : Int) (z6 : Int) (zn : Own) (zb : Own) (zu : okApp zb = true) : Sim (Z2H zl z7 zd zh zn zb) (Z4O x2 x5 zl zp z7 zd zh z2 z6) (Zfy 1 (.ptr 0 0) (iv x2) (iv x5) [(Zi (Zk.mk zl zp z7 zd zh (Zj.mk z2 z6)) zn zb)]) := by
 unfold Z4O
 refine zf (Zjb ..) ?_
 refine ze ?_
 refine zi fun r1 hr1 => ?_
 obtain ⟨qr1, er1, exr1, rfl⟩ := Z2t (zl) (zp) (z7) (zd) (zh) (z2) (z6) zn zb zu r1 hr1
 refine zc [0] (iv r1.1) [(Zi (Zk.mk zl r1.2 z7 zd zh (Zj.mk z2 z6)) zn zb)] er1 ?_
 refine ze ?_
 refine zi fun r2 hr2 => ?_
 obtain ⟨qr2, er2, exr2, rfl⟩ := Z6U (x2) r2 hr2
 refine zc [] (.p (.lst r2.1 (r2.2.map Zv))) [(Zi (Zk.mk zl r1.2 z7 zd zh (Zj.mk z2 z6)) zn zb)] er2 ?_
 refine ze ?_
 refine zi fun a3 ha3 => ?_
 refine zo (bv (!a3)) ?_ (Eq.trans (by kernel_rfl) (xnil_neq (P := PP) (t := 23) (c := .slice none 0 0) (e := Zv) (by kernel_rfl) ha3))
 refine za ((!a3)) ?_ ?_
 ·refine ze ?_
  refine zo (bv (decide (x2 < 97))) ?_
  exact zr ((.p (.tup [(.v (.int .i64 0)), (.lst (shrO r2.1) (r2.2.map Zv)), (.v (.bool (decide (x2 < 97))))])), [(Zi (Zk.mk zl r1.2 z7 zd zh (Zj.mk z2 z6)) zn zb)]) ⟨_, rfl⟩
 ·exact zk (Z9n (x2) (x5) (zl) (r1.2) (z7) (zd) (zh) (z2) (z6) zn zb zu)
noncomputable def Z4T (x5 : Int) (zl : List Int) (zp : Int) (z7 : Int) (zd : Int) (zh : List Zq) (z2 : Int) (z6 : Int) : Option (Int × (Own × (List Z8)) × Bool × Int × Int × Int) :=
 (Z1F ((Zk.mk zl zp z7 zd zh (Zj.mk z2 z6)))).bind fun r1 =>
 if ((decide (r1 < 0))) = true then
 ((ZS 21 x5 zl z2 z6).bind fun r2 =>
 some (0, (.nl, ([] : List Z8)), false, r2.1, r2.2.1, r2.2.2))
 else
 (Z4O r1 x5 zl zp z7 zd zh z2 z6)
theorem Z9s (x5 : Int) (zl : List Int) (zp : Int) (z7 : Int) (zd : Int) (zh : List Zq) (z2 : Int) (z6 : Int) (zn : Own) (zb : Own) (zu : okApp zb = true) : Sim (Z2H zl z7 zd zh zn zb) (Z4T x5 zl zp z7 zd zh z2 z6) (Zg4 1 (.ptr 0 0) (iv x5) [(Zi (Zk.mk zl zp z7 zd zh (Zj.mk z2 z6)) zn zb)]) := by
 unfold Z4T
 refine zf (ZiE ..) ?_
 refine ze ?_
 refine zi fun r1 hr1 => ?_
 obtain ⟨qr1, er1, exr1, rfl⟩ := Z1K ((Zk.mk zl zp z7 zd zh (Zj.mk z2 z6))) zn zb zu r1 hr1
 refine zc [0] (iv r1) [(Zi (Zk.mk zl zp z7 zd zh (Zj.mk z2 z6)) zn zb)] er1 ?_
 refine ze ?_
 refine zo (bv (decide (r1 < 0))) ?_
 refine za ((decide (r1 < 0))) ?_ ?_
 ·refine ze ?_
  refine zi fun r2 hr2 => ?_
  obtain ⟨qr2, er2, exr2, rfl⟩ := ZV (21) (x5) (zl) (zp) (z7) (zd) (zh) (z2) (z6) zn zb zu r2 hr2
  refine zc [0] (.p (.tup [])) [(Zi (Zk.mk zl r2.1 z7 zd zh (Zj.mk r2.2.1 r2.2.2)) zn zb)] er2 ?_
  refine ze ?_
  exact zr ((.p (.tup [(.v (.int .i64 0)), (.lst .nl []), (.v (.bool false))])), [(Zi (Zk.mk zl r2.1 z7 zd zh (Zj.mk r2.2.1 r2.2.2)) zn zb)]) ⟨_, rfl⟩
 ·exact zk (Z9E (r1) (x5) (zl) (zp) (z7) (zd) (zh) (z2) (z6) zn zb zu)
noncomputable def Z4q (zl : List Int) (zp : Int) (z7 : Int) (zd : Int) (zh : List Zq) (z2 : Int) (z6 : Int) : Option (Int × (Own × (List Z8)) × Bool × Int × Int × Int) :=
 (Z26 zl zp).bind fun r1 =>
 if ((r1.1 != 92)) = true then
 (some (r1.1, (.nl, ([] : List Z8)), false, r1.2, z2, z6))
 else
 (Z4T zp zl r1.2 z7 zd zh z2 z6)
theorem Zaj (zl : List Int) (zp : Int) (z7 : Int) (zd : Int) (zh : List Zq) (z2 : Int) (z6 : Int) (zn : Own) (zb : Own) (zu : okApp zb = true) : Sim (Z2H zl z7 zd zh zn zb) (Z4q zl zp z7 zd zh z2 z6) (EE 60 [(.ptr 0 0)] [(Zi (Zk.mk zl zp z7 zd zh (Zj.mk z2 z6)) zn zb)]) := by
 unfold Z4q
 refine zf (Zjw ..) ?_
 refine ze ?_
 refine ze ?_
 refine zo (.ptr 0 0) ?_
 refine zo (.ptr 0 1) ?_
 refine zo (iv zp) ?_
 refine ze ?_
 refine zi fun r1 hr1 => ?_
 obtain ⟨qr1, er1, exr1, rfl⟩ := Z2t (zl) (zp) (z7) (zd) (zh) (z2) (z6) zn zb zu r1 hr1
 refine zc [0] (iv r1.1) [(Zi (Zk.mk zl r1.2 z7 zd zh (Zj.mk z2 z6)) zn zb)] er1 ?_
 refine ze ?_
 refine zo (bv (r1.1 != 92)) ?_
 refine za ((r1.1 != 92)) ?_ ?_
 ·refine ze ?_
  exact zr ((.p (.tup [(.v (.int .i64 r1.1)), (.lst .nl []), (.v (.bool false))])), [(Zi (Zk.mk zl r1.2 z7 zd zh (Zj.mk z2 z6)) zn zb)]) ⟨_, rfl⟩
 ·exact zk (Z9s (zp) (zl) (r1.2) (z7) (zd) (zh) (z2) (z6) zn zb zu)
theorem Z7C (zl : List Int) (zp : Int) (z7 : Int) (zd : Int) (zh : List Zq) (z2 : Int) (z6 : Int) {r} (h : Z4q zl zp z7 zd zh z2 z6 = some r) : Z3D zl zp z7 zd zh z2 z6 = some r :=
 pick_of (fun _ _ ha hb => RRun.uniq (Zb8 _ _ _ _ _ _) (ha .ex .ex rfl) (hb .ex .ex rfl)) (fun zn zb zu => Zaj zl zp z7 zd zh z2 z6 zn zb zu r h)
end Go.Proofs.YtadodmjdkphddaaDoor.N2
end
