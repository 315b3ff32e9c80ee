/- The functions' typed texts. No condition. -/
import Derived.Test.YtadodmjdkphddaaDoorTypA

section
set_option linter.unusedSimpArgs false
set_option linter.unusedVariables false
namespace Go.Proofs.YtadodmjdkphddaaDoor.N2
open Go Go.Abs
set_option linter.unusedVariables false
set_option maxRecDepth 100000
noncomputable def Z2k  : Option (Bool) :=
 some (true)
theorem Z45  : Sim (Z1k) (Z2k) (Zd8 0  []) := by
 unfold Z2k
 refine zf (Zie ..) ?_
 refine ze ?_
 exact zr ((bv true), []) ⟨_, rfl⟩
noncomputable def Z1W  : Option (Bool) :=
 some (true)
theorem Z33  : Sim (Z1k) (Z1W) (Zcg 0  []) := by
 unfold Z1W
 refine zf (ZhS ..) ?_
 refine ze ?_
 exact zr ((bv true), []) ⟨_, rfl⟩
noncomputable def Z2e (x11 : Int) : Option (Bool) :=
 some ((x11 == 27))
theorem Z5t (x11 : Int) : Sim (Z1k) (Z2e x11) (Zdi 0 (iv x11) []) := by
 unfold Z2e
 refine zf (Zhy ..) ?_
 refine ze ?_
 refine zo (bv (x11 == 27)) ?_
 exact zr ((bv (x11 == 27)), []) ⟨_, rfl⟩
noncomputable def Z2c (x11 : Int) (b0 : ZC) : Option (Bool) :=
 if ((x11 == 0)) = true then
 (some (true))
 else
 (if ((x11 == 28)) = true then
 ((Z2g b0.Root).bind fun r1 =>
 some ((decide (1995 < r1))))
 else
 (some (false)))
theorem Z5D (x11 : Int) (b0 : ZC) (zM : Own) (zG : Own) : Sim (Z1k) (Z2c x11 b0) (Zdp 0 (.ptr 0 0) (iv x11) [(Zw b0 zM zG)]) := by
 unfold Z2c
 refine zf (ZgU ..) ?_
 refine ze ?_
 refine zo (bv (x11 == 0)) ?_
 refine za ((x11 == 0)) ?_ ?_
 ·exact zr ((bv true), [(Zw b0 zM zG)]) ⟨_, rfl⟩
 ·refine zo (bv (x11 == 28)) ?_
  refine za ((x11 == 28)) ?_ ?_
  ·refine zo (.ptr 0 0) ?_
   refine zo (.p (.agg (Zz b0.Root (shrO zM) (shrO zG)))) ?_
   refine zi fun r1 hr1 => ?_
   obtain ⟨qr1, er1, exr1, rfl⟩ := Z7e (b0.Root) .sh .sh r1 hr1
   refine zc [] (iv r1) [(Zw b0 zM zG)] er1 ?_
   refine zo (bv (decide (1995 < r1))) ?_
   exact zr ((bv (decide (1995 < r1))), [(Zw b0 zM zG)]) ⟨_, rfl⟩
  ·exact zr ((bv false), [(Zw b0 zM zG)]) ⟨_, rfl⟩
noncomputable def Z2V (x1 : Int) (b0 : ZC) (b2 : ZC) : Option (Bool) :=
 (Z1s b0.Root).bind fun r1 =>
 (Z4Z b2).bind fun r2 =>
 if ((decide (2 ≤ x1))) = true then
 (if ((decide (r1.2 < 0))) = true then
 (Z2e r2)
 else
 (if ((decide (32 < r1.2))) = true then
 (Z2e r2)
 else
 (Z2c r2 b0)))
 else
 (Z2c r2 b0)
theorem Z8l (x1 : Int) (b0 : ZC) (b1 : Zj) (b2 : ZC) (zM : Own) (zG : Own) (z9g : Own) (z8D : Own) : Sim (Z1k) (Z2V x1 b0 b2) (Zfg 0 (iv x1) (.ptr 0 0) (.ptr 2 0) [(Zw b0 zM zG), (ZE b1), (Zw b2 z9g z8D)]) := by
 unfold Z2V
 refine zf (ZhG ..) ?_
 refine ze ?_
 refine zo (.ptr 0 0) ?_
 refine zo (.p (.agg (Zz b0.Root (shrO zM) (shrO zG)))) ?_
 refine zi fun r1 hr1 => ?_
 obtain ⟨qr1, er1, exr1, rfl⟩ := Z3O (b0.Root) .sh .sh r1 hr1
 refine zc [] (.p (.tup [(.v (.int .i64 r1.1)), (.v (.int .i64 r1.2))])) [(Zw b0 zM zG), (ZE b1), (Zw b2 z9g z8D)] er1 ?_
 refine zo (iv r1.1) ?_
 refine zo (iv r1.2) ?_
 refine ze ?_
 refine zo (.p (.agg (Z1j b2 (shrO z9g) (shrO z8D)))) ?_
 refine zi fun r2 hr2 => ?_
 obtain ⟨qr2, er2, exr2, rfl⟩ := Z8O (b2) .sh .sh r2 hr2
 refine zc [] (iv r2) [(Zw b0 zM zG), (ZE b1), (Zw b2 z9g z8D)] er2 ?_
 refine ze ?_
 refine zo (bv (decide (2 ≤ x1))) ?_
 refine za ((decide (2 ≤ x1))) ?_ ?_
 ·refine zo (bv (decide (r1.2 < 0))) ?_
  refine za ((decide (r1.2 < 0))) ?_ ?_
  ·exact zk (Z5t (r2))
  ·refine zo (bv (decide (32 < r1.2))) ?_
   refine za ((decide (32 < r1.2))) ?_ ?_
   ·exact zk (Z5t (r2))
   ·exact zk (Z5D (r2) (b0) zM zG)
 ·exact zk (Z5D (r2) (b0) zM zG)
noncomputable def Z3v (x0 : ByteArray) (x1 : Int) : Option (Bool) :=
 (Z50 x0).bind fun r1 =>
 (lget ([(ByteArray.mk #[40, 63, 61]), (ByteArray.mk #[40, 63, 33]), (ByteArray.mk #[40, 63, 60, 61]), (ByteArray.mk #[40, 63, 60, 33])] : List ByteArray) x1).bind fun a2 =>
 (sadd a2 x0).bind fun a3 =>
 (sadd a3 (ByteArray.mk #[41])).bind fun a4 =>
 (Z50 a4).bind fun r5 =>
 if ((r1.2.Code != 0)) = true then
 (Z1W)
 else
 (if ((r5.2.Code != 0)) = true then
 (Z1W)
 else
 (if (r1.1.Fold) = true then
 (Z1W)
 else
 ((Z4Z r1.1).bind fun r6 =>
 if ((r6 != 0)) = true then
 (Z1W)
 else
 (Z2V x1 r1.1 r5.1))))
theorem Z8i (x0 : ByteArray) (x1 : Int) : Sim (Z1k) (Z3v x0 x1) (Zgh 0 (.p (.v (.string x0))) (iv x1) []) := by
 unfold Z3v
 refine zf (Zi8 ..) ?_
 refine ze ?_
 refine zi fun r1 hr1 => ?_
 obtain ⟨qr1, er1, exr1, rfl⟩ := Z6Z (x0) r1 hr1
 refine zc [] (.p (.tup [(.agg (Z1j r1.1 .sh .sh)), (.agg (Z1Y r1.2))])) [] er1 ?_
 refine zo (.p (.agg (Z1j r1.1 .sh .sh))) ?_
 refine zo (.p (.agg (Z1Y r1.2))) ?_
 refine zz (.ptr 0 0) [(Zw (ZC.mk (Z3.mk 0 0 0 0 0 ([] : List Z8) ([] : List Z3)) 0 false) .nl .nl)] ?_
 refine zz (.ptr 1 0) [(Zw (ZC.mk (Z3.mk 0 0 0 0 0 ([] : List Z8) ([] : List Z3)) 0 false) .nl .nl), (ZE (Zj.mk 0 0))] ?_
 refine zt [(Zw r1.1 .sh .sh), (ZE (Zj.mk 0 0))] ?_
 refine zt [(Zw r1.1 .sh .sh), (ZE r1.2)] ?_
 refine ze ?_
 refine zo (.p (.lst .ex (([(ByteArray.mk #[40, 63, 61]), (ByteArray.mk #[40, 63, 33]), (ByteArray.mk #[40, 63, 60, 61]), (ByteArray.mk #[40, 63, 60, 33])] : List ByteArray).map eS))) ?_
 refine zi fun a2 ha2 => ?_
 refine zo (.cptr [(.v (.string a2))]) ?_ (Eq.trans (by kernel_rfl) (xidx_of (o := .ex) (k := .i64) (n := 1) (e := eS) (cs := (fun a => [eS a])) (fun _ => rfl) (fun _ => rfl) (by decide) ha2))
 refine zo (.p (.v (.string a2))) ?_
 refine zi fun a3 ha3 => ?_
 refine zo (.p (.v (.string a3))) ?_ (Eq.trans (by kernel_rfl) (xsadd_of (P := PP) (t := 9) ha3))
 refine zi fun a4 ha4 => ?_
 refine zo (.p (.v (.string a4))) ?_ (Eq.trans (by kernel_rfl) (xsadd_of (P := PP) (t := 9) ha4))
 refine zi fun r5 hr5 => ?_
 obtain ⟨qr5, er5, exr5, rfl⟩ := Z6Z (a4) r5 hr5
 refine zc [] (.p (.tup [(.agg (Z1j r5.1 .sh .sh)), (.agg (Z1Y r5.2))])) [(Zw r1.1 .sh .sh), (ZE r1.2)] er5 ?_
 refine zo (.p (.agg (Z1j r5.1 .sh .sh))) ?_
 refine zo (.p (.agg (Z1Y r5.2))) ?_
 refine zz (.ptr 2 0) [(Zw r1.1 .sh .sh), (ZE r1.2), (Zw (ZC.mk (Z3.mk 0 0 0 0 0 ([] : List Z8) ([] : List Z3)) 0 false) .nl .nl)] ?_
 refine zz (.ptr 3 0) [(Zw r1.1 .sh .sh), (ZE r1.2), (Zw (ZC.mk (Z3.mk 0 0 0 0 0 ([] : List Z8) ([] : List Z3)) 0 false) .nl .nl), (ZE (Zj.mk 0 0))] ?_
 refine zt [(Zw r1.1 .sh .sh), (ZE r1.2), (Zw r5.1 .sh .sh), (ZE (Zj.mk 0 0))] ?_
 refine zt [(Zw r1.1 .sh .sh), (ZE r1.2), (Zw r5.1 .sh .sh), (ZE r5.2)] ?_
 refine ze ?_
 refine zo (.ptr 1 0) ?_
 refine zo (iv r1.2.Code) ?_
 refine zo (bv (r1.2.Code != 0)) ?_
 refine za ((r1.2.Code != 0)) ?_ ?_
 ·exact zk (Z33 )
 ·refine zo (.ptr 3 0) ?_
  refine zo (iv r5.2.Code) ?_
  refine zo (bv (r5.2.Code != 0)) ?_
  refine za ((r5.2.Code != 0)) ?_ ?_
  ·exact zk (Z33 )
  ·refine zo (.ptr 0 8) ?_
   refine zo (bv r1.1.Fold) ?_
   refine za (r1.1.Fold) ?_ ?_
   ·exact zk (Z33 )
   ·refine zo (.p (.agg (Z1j r1.1 .sh .sh))) ?_
    refine zi fun r6 hr6 => ?_
    obtain ⟨qr6, er6, exr6, rfl⟩ := Z8O (r1.1) .sh .sh r6 hr6
    refine zc [] (iv r6) [(Zw r1.1 .sh .sh), (ZE r1.2), (Zw r5.1 .sh .sh), (ZE r5.2)] er6 ?_
    refine zo (bv (r6 != 0)) ?_
    refine za ((r6 != 0)) ?_ ?_
    ·exact zk (Z33 )
    ·exact zk (Z8l (x1) (r1.1) (r1.2) (r5.1) .sh .sh .sh .sh)
noncomputable def Z3s (x0 : ByteArray) (x1 : Int) : Option (Bool) :=
 if ((decide (200 < (x0.size : Int)))) = true then
 (Z2k)
 else
 (if ((decide (x1 < 0))) = true then
 (Z2k)
 else
 (if ((decide (3 < x1))) = true then
 (Z2k)
 else
 (Z3v x0 x1)))
theorem Z8g (x0 : ByteArray) (x1 : Int) : Sim (Z1k) (Z3s x0 x1) (Zgc 0 (.p (.v (.string x0))) (iv x1) []) := by
 unfold Z3s
 refine zf (Zib ..) ?_
 refine ze ?_
 refine zo (iv (x0.size : Int)) ?_
 refine zo (bv (decide (200 < (x0.size : Int)))) ?_
 refine za ((decide (200 < (x0.size : Int)))) ?_ ?_
 ·exact zk (Z45 )
 ·refine zo (bv (decide (x1 < 0))) ?_
  refine za ((decide (x1 < 0))) ?_ ?_
  ·exact zk (Z45 )
  ·refine zo (bv (decide (3 < x1))) ?_
   refine za ((decide (3 < x1))) ?_ ?_
   ·exact zk (Z45 )
   ·exact zk (Z8i (x0) (x1))
noncomputable def Z4b (x0 : ByteArray) (x1 : Int) : Option (Bool) :=
 (Z5h).bind fun r1 =>
 if ((!r1)) = true then
 (some (false))
 else
 (Z3s x0 x1)
theorem Z98 (x0 : ByteArray) (x1 : Int) : Sim (Z1k) (Z4b x0 x1) (EE 11 [(.p (.v (.string x0))), (iv x1)] []) := by
 unfold Z4b
 refine zf (ZkK ..) ?_
 refine ze ?_
 refine ze ?_
 refine zi fun r1 hr1 => ?_
 obtain ⟨qr1, er1, exr1, rfl⟩ := ZaC  r1 hr1
 refine zc [] (bv r1) [] er1 ?_
 refine zo (bv (!r1)) ?_
 refine za ((!r1)) ?_ ?_
 ·refine ze ?_
  exact zr ((bv false), []) ⟨_, rfl⟩
 ·exact zk (Z8g (x0) (x1))
theorem Z9f (x0 : ByteArray) (x1 : Int) {r} (h : Z4b x0 x1 = some r) : Z5s x0 x1 = some r :=
 pick_of (fun _ _ ha hb => RRun.uniq (Z9s) (ha ) (hb )) (Z98 x0 x1 r h)
noncomputable def Z5m  : Option (Bool) :=
 (Z50 ((ByteArray.mk #[97, 123, 50, 44, 51, 125, 124, 98, 42]))).bind fun r1 =>
 (Z1s r1.1.Root).bind fun r2 =>
 (Z50 ((ByteArray.mk #[97, 42]))).bind fun r3 =>
 if ((r1.2.Code == 0)) = true then
 (if ((r3.2.Code == 0)) = true then
 (if ((r2.1 == 0)) = true then
 (if ((r2.2 == (-1))) = true then
 ((Z2g r1.1.Root).bind fun r4 =>
 if ((r4 == 11)) = true then
 ((Z4Z r1.1).bind fun r5 =>
 some ((r5 == 0)))
 else
 (some (false)))
 else
 (some (false)))
 else
 (some (false)))
 else
 (some (false)))
 else
 (some (false))
theorem Zac  : Sim (Z4k) (Z5m) (EE 23 [] []) := by
 unfold Z5m
 refine zf (ZjT ..) ?_
 refine ze ?_
 refine ze ?_
 refine zi fun r1 hr1 => ?_
 obtain ⟨qr1, er1, exr1, rfl⟩ := Z6Z ((ByteArray.mk #[97, 123, 50, 44, 51, 125, 124, 98, 42])) r1 hr1
 refine zc [] (.p (.tup [(.agg (Z1j r1.1 .sh .sh)), (.agg (Z1Y r1.2))])) [] er1 ?_
 refine zo (.p (.agg (Z1j r1.1 .sh .sh))) ?_
 refine zo (.p (.agg (Z1Y r1.2))) ?_
 refine zz (.ptr 0 0) [(Zw (ZC.mk (Z3.mk 0 0 0 0 0 ([] : List Z8) ([] : List Z3)) 0 false) .nl .nl)] ?_
 refine zz (.ptr 1 0) [(Zw (ZC.mk (Z3.mk 0 0 0 0 0 ([] : List Z8) ([] : List Z3)) 0 false) .nl .nl), (ZE (Zj.mk 0 0))] ?_
 refine zt [(Zw r1.1 .sh .sh), (ZE (Zj.mk 0 0))] ?_
 refine zt [(Zw r1.1 .sh .sh), (ZE r1.2)] ?_
 refine ze ?_
 refine zo (.ptr 0 0) ?_
 refine zo (.p (.agg (Zz r1.1.Root .sh .sh))) ?_
 refine zi fun r2 hr2 => ?_
 obtain ⟨qr2, er2, exr2, rfl⟩ := Z3O (r1.1.Root) .sh .sh r2 hr2
 refine zc [] (.p (.tup [(.v (.int .i64 r2.1)), (.v (.int .i64 r2.2))])) [(Zw r1.1 .sh .sh), (ZE r1.2)] er2 ?_
 refine zo (iv r2.1) ?_
 refine zo (iv r2.2) ?_
 refine ze ?_
 refine zi fun r3 hr3 => ?_
 obtain ⟨qr3, er3, exr3, rfl⟩ := Z6Z ((ByteArray.mk #[97, 42])) r3 hr3
 refine zc [] (.p (.tup [(.agg (Z1j r3.1 .sh .sh)), (.agg (Z1Y r3.2))])) [(Zw r1.1 .sh .sh), (ZE r1.2)] er3 ?_
 refine zo (.p (.agg (Z1j r3.1 .sh .sh))) ?_
 refine zo (.p (.agg (Z1Y r3.2))) ?_
 refine zz (.ptr 2 0) [(Zw r1.1 .sh .sh), (ZE r1.2), (Zw (ZC.mk (Z3.mk 0 0 0 0 0 ([] : List Z8) ([] : List Z3)) 0 false) .nl .nl)] ?_
 refine zz (.ptr 3 0) [(Zw r1.1 .sh .sh), (ZE r1.2), (Zw (ZC.mk (Z3.mk 0 0 0 0 0 ([] : List Z8) ([] : List Z3)) 0 false) .nl .nl), (ZE (Zj.mk 0 0))] ?_
 refine zt [(Zw r1.1 .sh .sh), (ZE r1.2), (Zw r3.1 .sh .sh), (ZE (Zj.mk 0 0))] ?_
 refine zt [(Zw r1.1 .sh .sh), (ZE r1.2), (Zw r3.1 .sh .sh), (ZE r3.2)] ?_
 refine ze ?_
 refine zo (.ptr 1 0) ?_
 refine zo (iv r1.2.Code) ?_
 refine zo (bv (r1.2.Code == 0)) ?_
 refine za ((r1.2.Code == 0)) ?_ ?_
 ·refine zo (.ptr 3 0) ?_
  refine zo (iv r3.2.Code) ?_
  refine zo (bv (r3.2.Code == 0)) ?_
  refine za ((r3.2.Code == 0)) ?_ ?_
  ·refine zo (bv (r2.1 == 0)) ?_
   refine za ((r2.1 == 0)) ?_ ?_
   ·refine zo (bv (r2.2 == (-1))) ?_
    refine za ((r2.2 == (-1))) ?_ ?_
    ·refine zo (.ptr 0 0) ?_
     refine zo (.p (.agg (Zz r1.1.Root .sh .sh))) ?_
     refine zi fun r4 hr4 => ?_
     obtain ⟨qr4, er4, exr4, rfl⟩ := Z7e (r1.1.Root) .sh .sh r4 hr4
     refine zc [] (iv r4) [(Zw r1.1 .sh .sh), (ZE r1.2), (Zw r3.1 .sh .sh), (ZE r3.2)] er4 ?_
     refine zo (bv (r4 == 11)) ?_
     refine za ((r4 == 11)) ?_ ?_
     ·refine zo (.p (.agg (Z1j r1.1 .sh .sh))) ?_
      refine zi fun r5 hr5 => ?_
      obtain ⟨qr5, er5, exr5, rfl⟩ := Z8O (r1.1) .sh .sh r5 hr5
      refine zc [] (iv r5) [(Zw r1.1 .sh .sh), (ZE r1.2), (Zw r3.1 .sh .sh), (ZE r3.2)] er5 ?_
      refine zo (bv (r5 == 0)) ?_
      exact zr ((bv (r5 == 0)), [(Zw r1.1 .sh .sh), (ZE r1.2), (Zw r3.1 .sh .sh), (ZE r3.2)]) ⟨_, rfl⟩
     ·exact zr ((bv false), [(Zw r1.1 .sh .sh), (ZE r1.2), (Zw r3.1 .sh .sh), (ZE r3.2)]) ⟨_, rfl⟩
    ·exact zr ((bv false), [(Zw r1.1 .sh .sh), (ZE r1.2), (Zw r3.1 .sh .sh), (ZE r3.2)]) ⟨_, rfl⟩
   ·exact zr ((bv false), [(Zw r1.1 .sh .sh), (ZE r1.2), (Zw r3.1 .sh .sh), (ZE r3.2)]) ⟨_, rfl⟩
  ·exact zr ((bv false), [(Zw r1.1 .sh .sh), (ZE r1.2), (Zw r3.1 .sh .sh), (ZE r3.2)]) ⟨_, rfl⟩
 ·exact zr ((bv false), [(Zw r1.1 .sh .sh), (ZE r1.2), (Zw r3.1 .sh .sh), (ZE r3.2)]) ⟨_, rfl⟩
theorem Zav  {r} (h : Z5m = some r) : Z5h = some r :=
 pick_of (fun _ _ ha hb => RRun.uniq (ZaZ) (ha ) (hb )) (Zac  r h)
noncomputable def Z3f (z1S : List Int) (zQ : Int) (z1h : List Zq) (zH : Int) (zR : Int) (zJ : Int) (zT : Int) (zU : Int) (zL : Int) (zO : Int) (zN : List Z8) (zK : List Z3) (z13 : Bool) : Option (ZC × Zj) :=
 Z5a z1h ((z1h.length : Int)) 0 z1S zQ zH zR zJ zT zU zL zO zN zK z13
theorem Z6Y (b0 : ZC) (b1 : Zj) (z1S : List Int) (z1L : Int) (zQ : Int) (z1C : Int) (z1h : List Zq) (zH : Int) (zR : Int) (zJ : Int) (zT : Int) (zU : Int) (zL : Int) (zO : Int) (zN : List Z8) (zK : List Z3) (z1u : Int) (z13 : Bool) (zM : Own) (zG : Own) (z2j : Own) (z18 : Own) (z11 : Own) (zX : Own) (z1x : okApp zM = true) (z1q : okApp zG = true) (z2s : okApp z18 = true) : Sim (Z2o) (Z3f z1S zQ z1h zH zR zJ zT zU zL zO zN zK z13) (ZcW 0 (.ptr 0 0) (.ptr 1 0) (.ptr 2 0) (.ptr 3 0) [(Zw b0 zM zG), (ZE b1), (Zi (Zk.mk z1S z1L zQ z1C z1h (Zj.mk zH zR)) z2j z18), (Zw (ZC.mk (Z3.mk zJ zT zU zL zO zN zK) z1u z13) z11 zX)]) := by
 unfold Z3f
 refine zf (Ziq ..) ?_
 refine ze ?_
 refine zo (.ptr 2 0) ?_
 refine zo (.ptr 2 4) ?_
 refine zo (.p (.lst (shrO z18) (z1h.map Z1E))) ?_
 refine zo (iv (z1h.length : Int)) ?_ (Eq.trans (by kernel_rfl) (xlen_of (P := PP) (t := 56) (d := 62) (by kernel_rfl) Z1E (shrO z18) z1h))
 exact zk (Z9v (z1h) ((z1h.length : Int)) (0) (b0) (b1) (z1S) (z1L) (zQ) (z1C) (z1h) (zH) (zR) (zJ) (zT) (zU) (zL) (zO) (zN) (zK) (z1u) (z13) (shrO z18) zM zG z2j z18 z11 zX z1x z1q z2s)
noncomputable def Z5W (z1S : List Int) (z1L : Int) (zQ : Int) (z1h : List Zq) (zH : Int) (zR : Int) (zJ : Int) (zT : Int) (zU : Int) (zL : Int) (zO : Int) (zN : List Z8) (zK : List Z3) (z13 : Bool) : Option (ZC × Zj) :=
 (ZS 20 z1L z1S zH zR).bind fun r1 =>
 Z3f z1S zQ z1h r1.2.1 r1.2.2 zJ zT zU zL zO zN zK z13
theorem Zct (b0 : ZC) (b1 : Zj) (z1S : List Int) (z1L : Int) (zQ : Int) (z1C : Int) (z1h : List Zq) (zH : Int) (zR : Int) (zJ : Int) (zT : Int) (zU : Int) (zL : Int) (zO : Int) (zN : List Z8) (zK : List Z3) (z1u : Int) (z13 : Bool) (zM : Own) (zG : Own) (z2j : Own) (z18 : Own) (z11 : Own) (zX : Own) (z1x : okApp zM = true) (z1q : okApp zG = true) (z2s : okApp z18 = true) : Sim (Z2o) (Z5W z1S z1L zQ z1h zH zR zJ zT zU zL zO zN zK z13) (Zgf 0 (.ptr 0 0) (.ptr 1 0) (.ptr 2 0) (.ptr 3 0) [(Zw b0 zM zG), (ZE b1), (Zi (Zk.mk z1S z1L zQ z1C z1h (Zj.mk zH zR)) z2j z18), (Zw (ZC.mk (Z3.mk zJ zT zU zL zO zN zK) z1u z13) z11 zX)]) := by
 unfold Z5W
 refine zf (ZiD ..) ?_
 refine ze ?_
 refine zo (.ptr 2 0) ?_
 refine zo (.ptr 2 1) ?_
 refine zo (iv z1L) ?_
 refine zi fun r1 hr1 => ?_
 obtain ⟨qr1, er1, exr1, rfl⟩ := ZV (20) (z1L) (z1S) (z1L) (zQ) (z1C) (z1h) (zH) (zR) z2j z18 z2s r1 hr1
 refine zc [2] (.p (.tup [])) [(Zw b0 zM zG), (ZE b1), (Zi (Zk.mk z1S r1.1 zQ z1C z1h (Zj.mk r1.2.1 r1.2.2)) z2j z18), (Zw (ZC.mk (Z3.mk zJ zT zU zL zO zN zK) z1u z13) z11 zX)] er1 ?_
 exact zk (Z6Y (b0) (b1) (z1S) (r1.1) (zQ) (z1C) (z1h) (r1.2.1) (r1.2.2) (zJ) (zT) (zU) (zL) (zO) (zN) (zK) (z1u) (z13) zM zG z2j z18 z11 zX z1x z1q z2s)
noncomputable def Z6U (x0 : ByteArray) : Option (ZC × Zj) :=
 (Z16 ((ByteArray.mk #[40, 63, 105, 41])) ((bytesI x0)) 0).bind fun r1 =>
 (Z2X ((bytesI x0)) r1.2 0 0 (([] : List Zq)) 0 0).bind fun r2 =>
 if ((r2.2.2.2.2.2.1 == 0)) = true then
 (if ((decide (r2.2.1 < ((bytesI x0).length : Int)))) = true then
 (Z5W ((bytesI x0)) r2.2.1 r2.2.2.1 r2.2.2.2.2.1 r2.2.2.2.2.2.1 r2.2.2.2.2.2.2 r2.1.Kind r2.1.Lo r2.1.Hi r2.1.Mode r2.1.Ref r2.1.Set r2.1.Kids r1.1)
 else
 (Z3f ((bytesI x0)) r2.2.2.1 r2.2.2.2.2.1 r2.2.2.2.2.2.1 r2.2.2.2.2.2.2 r2.1.Kind r2.1.Lo r2.1.Hi r2.1.Mode r2.1.Ref r2.1.Set r2.1.Kids r1.1))
 else
 (Z3f ((bytesI x0)) r2.2.2.1 r2.2.2.2.2.1 r2.2.2.2.2.2.1 r2.2.2.2.2.2.2 r2.1.Kind r2.1.Lo r2.1.Hi r2.1.Mode r2.1.Ref r2.1.Set r2.1.Kids r1.1)
theorem Zcv (x0 : ByteArray) (b0 : ZC) (b1 : Zj) (zM : Own) (zG : Own) (z1x : okApp zM = true) (z1q : okApp zG = true) : Sim (Z2o) (Z6U x0) (Zfr 0 (.p (.v (.string x0))) (.ptr 0 0) (.ptr 1 0) [(Zw b0 zM zG), (ZE b1)]) := by
 unfold Z6U
 refine zf (ZiV ..) ?_
 refine ze ?_
 refine zo (.p (.lst .sh ((bytesI x0).map (eI .u8)))) ?_ (Eq.trans (by kernel_rfl) (xcnv_byt (P := PP) (s := 9) (d := 40) (by kernel_rfl) (by kernel_rfl) x0))
 refine zo (.p (.agg (Zei (Zk.mk (bytesI x0) 0 0 0 ([] : List Zq) (Zj.mk 0 0)) .sh .nl))) ?_
 refine zx (.ptr 2 0) [(Zw b0 zM zG), (ZE b1), (Zi (Zk.mk (bytesI x0) 0 0 0 ([] : List Zq) (Zj.mk 0 0)) .sh .nl)] ?_
 refine ze ?_
 refine zi fun r1 hr1 => ?_
 obtain ⟨qr1, er1, exr1, rfl⟩ := Z1b ((ByteArray.mk #[40, 63, 105, 41])) ((bytesI x0)) (0) (0) (0) (([] : List Zq)) (0) (0) .sh .nl rfl r1 hr1
 refine zc [2] (bv r1.1) [(Zw b0 zM zG), (ZE b1), (Zi (Zk.mk (bytesI x0) r1.2 0 0 ([] : List Zq) (Zj.mk 0 0)) .sh .nl)] er1 ?_
 refine zo (.p (.agg (Z1j (ZC.mk (Z3.mk 0 0 0 0 0 ([] : List Z8) ([] : List Z3)) 0 r1.1) .nl .nl))) ?_
 refine zz (.ptr 3 0) [(Zw b0 zM zG), (ZE b1), (Zi (Zk.mk (bytesI x0) r1.2 0 0 ([] : List Zq) (Zj.mk 0 0)) .sh .nl), (Zw (ZC.mk (Z3.mk 0 0 0 0 0 ([] : List Z8) ([] : List Z3)) 0 false) .nl .nl)] ?_
 refine zt [(Zw b0 zM zG), (ZE b1), (Zi (Zk.mk (bytesI x0) r1.2 0 0 ([] : List Zq) (Zj.mk 0 0)) .sh .nl), (Zw (ZC.mk (Z3.mk 0 0 0 0 0 ([] : List Z8) ([] : List Z3)) 0 r1.1) .nl .nl)] ?_
 refine ze ?_
 refine zi fun r2 hr2 => ?_
 obtain ⟨qr2, er2, or2_0_4, exr2, hor2_0_4, rfl⟩ := Z8V ((bytesI x0)) (r1.2) (0) (0) (([] : List Zq)) (0) (0) .sh .nl rfl r2 hr2
 refine zc [2] (.p (.agg (Zz r2.1 .sh .sh))) [(Zw b0 zM zG), (ZE b1), (Zi (Zk.mk (bytesI x0) r2.2.1 r2.2.2.1 r2.2.2.2.1 r2.2.2.2.2.1 (Zj.mk r2.2.2.2.2.2.1 r2.2.2.2.2.2.2)) .sh or2_0_4), (Zw (ZC.mk (Z3.mk 0 0 0 0 0 ([] : List Z8) ([] : List Z3)) 0 r1.1) .nl .nl)] er2 ?_
 refine zo (.ptr 3 0) ?_
 refine zt [(Zw b0 zM zG), (ZE b1), (Zi (Zk.mk (bytesI x0) r2.2.1 r2.2.2.1 r2.2.2.2.1 r2.2.2.2.2.1 (Zj.mk r2.2.2.2.2.2.1 r2.2.2.2.2.2.2)) .sh or2_0_4), (Zw (ZC.mk (Z3.mk r2.1.Kind r2.1.Lo r2.1.Hi r2.1.Mode r2.1.Ref r2.1.Set r2.1.Kids) 0 r1.1) .sh .sh)] ?_
 refine ze ?_
 refine zo (.ptr 2 0) ?_
 refine zo (.ptr 2 5) ?_
 refine zo (.ptr 2 5) ?_
 refine zo (iv r2.2.2.2.2.2.1) ?_
 refine zo (bv (r2.2.2.2.2.2.1 == 0)) ?_
 refine za ((r2.2.2.2.2.2.1 == 0)) ?_ ?_
 ·refine zo (.ptr 2 0) ?_
  refine zo (.ptr 2 1) ?_
  refine zo (iv r2.2.1) ?_
  refine zo (.ptr 2 0) ?_
  refine zo (.ptr 2 0) ?_
  refine zo (.p (.lst .sh ((bytesI x0).map (eI .u8)))) ?_
  refine zo (iv ((bytesI x0).length : Int)) ?_ (Eq.trans (by kernel_rfl) (xlen_of (P := PP) (t := 40) (d := 5) (by kernel_rfl) (eI .u8) .sh (bytesI x0)))
  refine zo (bv (decide (r2.2.1 < ((bytesI x0).length : Int)))) ?_
  refine za ((decide (r2.2.1 < ((bytesI x0).length : Int)))) ?_ ?_
  ·exact zk (Zct (b0) (b1) ((bytesI x0)) (r2.2.1) (r2.2.2.1) (r2.2.2.2.1) (r2.2.2.2.2.1) (r2.2.2.2.2.2.1) (r2.2.2.2.2.2.2) (r2.1.Kind) (r2.1.Lo) (r2.1.Hi) (r2.1.Mode) (r2.1.Ref) (r2.1.Set) (r2.1.Kids) (0) (r1.1) zM zG .sh or2_0_4 .sh .sh z1x z1q hor2_0_4)
  ·exact zk (Z6Y (b0) (b1) ((bytesI x0)) (r2.2.1) (r2.2.2.1) (r2.2.2.2.1) (r2.2.2.2.2.1) (r2.2.2.2.2.2.1) (r2.2.2.2.2.2.2) (r2.1.Kind) (r2.1.Lo) (r2.1.Hi) (r2.1.Mode) (r2.1.Ref) (r2.1.Set) (r2.1.Kids) (0) (r1.1) zM zG .sh or2_0_4 .sh .sh z1x z1q hor2_0_4)
 ·exact zk (Z6Y (b0) (b1) ((bytesI x0)) (r2.2.1) (r2.2.2.1) (r2.2.2.2.1) (r2.2.2.2.2.1) (r2.2.2.2.2.2.1) (r2.2.2.2.2.2.2) (r2.1.Kind) (r2.1.Lo) (r2.1.Hi) (r2.1.Mode) (r2.1.Ref) (r2.1.Set) (r2.1.Kids) (0) (r1.1) zM zG .sh or2_0_4 .sh .sh z1x z1q hor2_0_4)
noncomputable def Z8G (x0 : ByteArray) : Option (ZC × Zj) :=
 if ((decide (256 < (x0.size : Int)))) = true then
 (some ((ZC.mk (Z3.mk 0 0 0 0 0 ([] : List Z8) ([] : List Z3)) 0 false), (Zj.mk 12 0)))
 else
 (Z6U x0)
theorem ZdG (x0 : ByteArray) : Sim (Z2o) (Z8G x0) (EE 16 [(.p (.v (.string x0)))] []) := by
 unfold Z8G
 refine zf (ZkF ..) ?_
 refine ze ?_
 refine zz (.ptr 0 0) [(Zw (ZC.mk (Z3.mk 0 0 0 0 0 ([] : List Z8) ([] : List Z3)) 0 false) .nl .nl)] ?_
 refine zz (.ptr 1 0) [(Zw (ZC.mk (Z3.mk 0 0 0 0 0 ([] : List Z8) ([] : List Z3)) 0 false) .nl .nl), (ZE (Zj.mk 0 0))] ?_
 refine ze ?_
 refine zo (iv (x0.size : Int)) ?_
 refine zo (bv (decide (256 < (x0.size : Int)))) ?_
 refine za ((decide (256 < (x0.size : Int)))) ?_ ?_
 ·refine ze ?_
  refine zo (.p (.agg (Z1j (ZC.mk (Z3.mk 0 0 0 0 0 ([] : List Z8) ([] : List Z3)) 0 false) .nl .nl))) ?_
  refine zo (.p (.agg (Z1Y (Zj.mk 12 0)))) ?_
  refine zt [(Zw (ZC.mk (Z3.mk 0 0 0 0 0 ([] : List Z8) ([] : List Z3)) 0 false) .nl .nl), (ZE (Zj.mk 0 0))] ?_
  refine zt [(Zw (ZC.mk (Z3.mk 0 0 0 0 0 ([] : List Z8) ([] : List Z3)) 0 false) .nl .nl), (ZE (Zj.mk 12 0))] ?_
  exact zr ((.p (.tup [(.agg (Z1j (ZC.mk (Z3.mk 0 0 0 0 0 ([] : List Z8) ([] : List Z3)) 0 false) .sh .sh)), (.agg (Z1Y (Zj.mk 12 0)))])), [(Zw (ZC.mk (Z3.mk 0 0 0 0 0 ([] : List Z8) ([] : List Z3)) 0 false) .nl .nl), (ZE (Zj.mk 12 0))]) ⟨_, rfl⟩
 ·exact zk (Zcv (x0) ((ZC.mk (Z3.mk 0 0 0 0 0 ([] : List Z8) ([] : List Z3)) 0 false)) ((Zj.mk 0 0)) .nl .nl rfl rfl)
theorem ZdS (x0 : ByteArray) {r} (h : Z8G x0 = some r) : Z50 x0 = some r :=
 pick_of (fun _ _ ha hb => RRun.uniq (Zbp) (ha ) (hb )) (ZdG x0 r h)
noncomputable def Z3q (x50 : List Zq) (x51 : Int) (x52 : Int) (z1S : List Int) (zQ : Int) (zH : Int) (zR : Int) (zJ : Int) (zT : Int) (zU : Int) (zL : Int) (zO : Int) (zN : List Z8) (zK : List Z3) (z13 : Bool) : Option (ZC × Zj) :=
 Z5a x50 x51 ((IntKind.i64.wrap (x52 + 1))) z1S zQ zH zR zJ zT zU zL zO zN zK z13
theorem Z90 (x50 : List Zq) (x51 : Int) (x52 : Int) (b0 : ZC) (b1 : Zj) (z1S : List Int) (z1L : Int) (zQ : Int) (z1C : Int) (z1h : List Zq) (zH : Int) (zR : Int) (zJ : Int) (zT : Int) (zU : Int) (zL : Int) (zO : Int) (zN : List Z8) (zK : List Z3) (z1u : Int) (z13 : Bool) (ox50 : Own) (zM : Own) (zG : Own) (z2j : Own) (z18 : Own) (z11 : Own) (zX : Own) (z1x : okApp zM = true) (z1q : okApp zG = true) (z2s : okApp z18 = true) : Sim (Z2o) (Z3q x50 x51 x52 z1S zQ zH zR zJ zT zU zL zO zN zK z13) (Zdo 0 (.ptr 0 0) (.ptr 1 0) (.ptr 2 0) (.ptr 3 0) (.p (.lst ox50 (x50.map Z1E))) (iv x51) (iv x52) [(Zw b0 zM zG), (ZE b1), (Zi (Zk.mk z1S z1L zQ z1C z1h (Zj.mk zH zR)) z2j z18), (Zw (ZC.mk (Z3.mk zJ zT zU zL zO zN zK) z1u z13) z11 zX)]) := by
 unfold Z3q
 refine zf (Zhp ..) ?_
 refine ze ?_
 refine zo (iv (IntKind.i64.wrap (x52 + 1))) ?_
 exact zk (Z9v (x50) (x51) ((IntKind.i64.wrap (x52 + 1))) (b0) (b1) (z1S) (z1L) (zQ) (z1C) (z1h) (zH) (zR) (zJ) (zT) (zU) (zL) (zO) (zN) (zK) (z1u) (z13) ox50 zM zG z2j z18 z11 zX z1x z1q z2s)
noncomputable def Z5F (x50 : List Zq) (x51 : Int) (x52 : Int) (z1S : List Int) (zQ : Int) (zH : Int) (zR : Int) (zJ : Int) (zT : Int) (zU : Int) (zL : Int) (zO : Int) (zN : List Z8) (zK : List Z3) (z13 : Bool) : Option (ZC × Zj) :=
 (lget x50 x52).bind fun a1 =>
 if ((decide (zQ < a1.group))) = true then
 ((ZS 26 a1.at_ z1S zH zR).bind fun r2 =>
 Z3q x50 x51 x52 z1S zQ r2.2.1 r2.2.2 zJ zT zU zL zO zN zK z13)
 else
 (Z3q x50 x51 x52 z1S zQ zH zR zJ zT zU zL zO zN zK z13)
theorem ZbS (x50 : List Zq) (x51 : Int) (x52 : Int) (b0 : ZC) (b1 : Zj) (z1S : List Int) (z1L : Int) (zQ : Int) (z1C : Int) (z1h : List Zq) (zH : Int) (zR : Int) (zJ : Int) (zT : Int) (zU : Int) (zL : Int) (zO : Int) (zN : List Z8) (zK : List Z3) (z1u : Int) (z13 : Bool) (ox50 : Own) (zM : Own) (zG : Own) (z2j : Own) (z18 : Own) (z11 : Own) (zX : Own) (z1x : okApp zM = true) (z1q : okApp zG = true) (z2s : okApp z18 = true) : Sim (Z2o) (Z5F x50 x51 x52 z1S zQ zH zR zJ zT zU zL zO zN zK z13) (ZeD 0 (.ptr 0 0) (.ptr 1 0) (.ptr 2 0) (.ptr 3 0) (.p (.lst ox50 (x50.map Z1E))) (iv x51) (iv x52) [(Zw b0 zM zG), (ZE b1), (Zi (Zk.mk z1S z1L zQ z1C z1h (Zj.mk zH zR)) z2j z18), (Zw (ZC.mk (Z3.mk zJ zT zU zL zO zN zK) z1u z13) z11 zX)]) := by
 unfold Z5F
 refine zf (Zhm ..) ?_
 refine ze ?_
 refine zi fun a1 ha1 => ?_
 refine zo (.cptr (Z8P a1)) ?_ (Eq.trans (by kernel_rfl) (xidx_of (o := ox50) (k := .i64) (n := 2) (e := Z1E) (cs := Z70) (fun _ => rfl) (fun _ => rfl) (by decide) ha1))
 refine zo (.p (.agg (Z8P a1))) ?_
 refine zz (.ptr 4 0) [(Zw b0 zM zG), (ZE b1), (Zi (Zk.mk z1S z1L zQ z1C z1h (Zj.mk zH zR)) z2j z18), (Zw (ZC.mk (Z3.mk zJ zT zU zL zO zN zK) z1u z13) z11 zX), (Z8M (Zq.mk 0 0))] ?_
 refine zt [(Zw b0 zM zG), (ZE b1), (Zi (Zk.mk z1S z1L zQ z1C z1h (Zj.mk zH zR)) z2j z18), (Zw (ZC.mk (Z3.mk zJ zT zU zL zO zN zK) z1u z13) z11 zX), (Z8M a1)] ?_
 refine ze ?_
 refine zo (.ptr 4 0) ?_
 refine zo (iv a1.group) ?_
 refine zo (.ptr 2 0) ?_
 refine zo (.ptr 2 2) ?_
 refine zo (iv zQ) ?_
 refine zo (bv (decide (zQ < a1.group))) ?_
 refine za ((decide (zQ < a1.group))) ?_ ?_
 ·refine ze ?_
  refine zo (.ptr 4 1) ?_
  refine zo (iv a1.at_) ?_
  refine zi fun r2 hr2 => ?_
  obtain ⟨qr2, er2, exr2, rfl⟩ := ZV (26) (a1.at_) (z1S) (z1L) (zQ) (z1C) (z1h) (zH) (zR) z2j z18 z2s r2 hr2
  refine zc [2] (.p (.tup [])) [(Zw b0 zM zG), (ZE b1), (Zi (Zk.mk z1S r2.1 zQ z1C z1h (Zj.mk r2.2.1 r2.2.2)) z2j z18), (Zw (ZC.mk (Z3.mk zJ zT zU zL zO zN zK) z1u z13) z11 zX), (Z8M a1)] er2 ?_
  exact zk (Z90 (x50) (x51) (x52) (b0) (b1) (z1S) (r2.1) (zQ) (z1C) (z1h) (r2.2.1) (r2.2.2) (zJ) (zT) (zU) (zL) (zO) (zN) (zK) (z1u) (z13) ox50 zM zG z2j z18 z11 zX z1x z1q z2s)
 ·exact zk (Z90 (x50) (x51) (x52) (b0) (b1) (z1S) (z1L) (zQ) (z1C) (z1h) (zH) (zR) (zJ) (zT) (zU) (zL) (zO) (zN) (zK) (z1u) (z13) ox50 zM zG z2j z18 z11 zX z1x z1q z2s)
noncomputable def Z8d (zQ : Int) (zJ : Int) (zT : Int) (zU : Int) (zL : Int) (zO : Int) (zN : List Z8) (zK : List Z3) (z13 : Bool) : Option (ZC × Zj) :=
 some ((ZC.mk (Z3.mk zJ zT zU zL zO zN zK) zQ z13), (Zj.mk 0 0))
theorem Zcp (b0 : ZC) (b1 : Zj) (z1S : List Int) (z1L : Int) (zQ : Int) (z1C : Int) (z1h : List Zq) (zH : Int) (zR : Int) (zJ : Int) (zT : Int) (zU : Int) (zL : Int) (zO : Int) (zN : List Z8) (zK : List Z3) (z1u : Int) (z13 : Bool) (zM : Own) (zG : Own) (z2j : Own) (z18 : Own) (z11 : Own) (zX : Own) (z1x : okApp zM = true) (z1q : okApp zG = true) (z2s : okApp z18 = true) : Sim (Z2o) (Z8d zQ zJ zT zU zL zO zN zK z13) (ZeO 0 (.ptr 0 0) (.ptr 1 0) (.ptr 2 0) (.ptr 3 0) [(Zw b0 zM zG), (ZE b1), (Zi (Zk.mk z1S z1L zQ z1C z1h (Zj.mk zH zR)) z2j z18), (Zw (ZC.mk (Z3.mk zJ zT zU zL zO zN zK) z1u z13) z11 zX)]) := by
 unfold Z8d
 refine zf (Zht ..) ?_
 refine ze ?_
 refine zo (.ptr 2 0) ?_
 refine zo (.ptr 2 2) ?_
 refine zo (iv zQ) ?_
 refine zo (.ptr 3 7) ?_
 refine zt [(Zw b0 zM zG), (ZE b1), (Zi (Zk.mk z1S z1L zQ z1C z1h (Zj.mk zH zR)) z2j z18), (Zw (ZC.mk (Z3.mk zJ zT zU zL zO zN zK) zQ z13) z11 zX)] ?_
 refine ze ?_
 refine zo (.p (.agg (Z1j (ZC.mk (Z3.mk zJ zT zU zL zO zN zK) zQ z13) (shrO z11) (shrO zX)))) ?_
 refine zo (.p (.agg (Z1Y (Zj.mk 0 0)))) ?_
 refine zt [(Zw (ZC.mk (Z3.mk zJ zT zU zL zO zN zK) zQ z13) (shrO z11) (shrO zX)), (ZE b1), (Zi (Zk.mk z1S z1L zQ z1C z1h (Zj.mk zH zR)) z2j z18), (Zw (ZC.mk (Z3.mk zJ zT zU zL zO zN zK) zQ z13) z11 zX)] ?_
 refine zt [(Zw (ZC.mk (Z3.mk zJ zT zU zL zO zN zK) zQ z13) (shrO z11) (shrO zX)), (ZE (Zj.mk 0 0)), (Zi (Zk.mk z1S z1L zQ z1C z1h (Zj.mk zH zR)) z2j z18), (Zw (ZC.mk (Z3.mk zJ zT zU zL zO zN zK) zQ z13) z11 zX)] ?_
 exact zr ((.p (.tup [(.agg (Z1j (ZC.mk (Z3.mk zJ zT zU zL zO zN zK) zQ z13) .sh .sh)), (.agg (Z1Y (Zj.mk 0 0)))])), [(Zw (ZC.mk (Z3.mk zJ zT zU zL zO zN zK) zQ z13) (shrO z11) (shrO zX)), (ZE (Zj.mk 0 0)), (Zi (Zk.mk z1S z1L zQ z1C z1h (Zj.mk zH zR)) z2j z18), (Zw (ZC.mk (Z3.mk zJ zT zU zL zO zN zK) zQ z13) z11 zX)]) ⟨_, rfl⟩
noncomputable def Z5M (zQ : Int) (zH : Int) (zR : Int) (zJ : Int) (zT : Int) (zU : Int) (zL : Int) (zO : Int) (zN : List Z8) (zK : List Z3) (z13 : Bool) : Option (ZC × Zj) :=
 if ((zH != 0)) = true then
 (some ((ZC.mk (Z3.mk 0 0 0 0 0 ([] : List Z8) ([] : List Z3)) 0 false), (Zj.mk zH zR)))
 else
 (Z8d zQ zJ zT zU zL zO zN zK z13)
theorem Zc1 (b0 : ZC) (b1 : Zj) (z1S : List Int) (z1L : Int) (zQ : Int) (z1C : Int) (z1h : List Zq) (zH : Int) (zR : Int) (zJ : Int) (zT : Int) (zU : Int) (zL : Int) (zO : Int) (zN : List Z8) (zK : List Z3) (z1u : Int) (z13 : Bool) (zM : Own) (zG : Own) (z2j : Own) (z18 : Own) (z11 : Own) (zX : Own) (z1x : okApp zM = true) (z1q : okApp zG = true) (z2s : okApp z18 = true) : Sim (Z2o) (Z5M zQ zH zR zJ zT zU zL zO zN zK z13) (ZeK 0 (.ptr 0 0) (.ptr 1 0) (.ptr 2 0) (.ptr 3 0) [(Zw b0 zM zG), (ZE b1), (Zi (Zk.mk z1S z1L zQ z1C z1h (Zj.mk zH zR)) z2j z18), (Zw (ZC.mk (Z3.mk zJ zT zU zL zO zN zK) z1u z13) z11 zX)]) := by
 unfold Z5M
 refine zf (Zhv ..) ?_
 refine ze ?_
 refine zo (.ptr 2 0) ?_
 refine zo (.ptr 2 5) ?_
 refine zo (.ptr 2 5) ?_
 refine zo (iv zH) ?_
 refine zo (bv (zH != 0)) ?_
 refine za ((zH != 0)) ?_ ?_
 ·refine ze ?_
  refine zo (.p (.agg (Z1j (ZC.mk (Z3.mk 0 0 0 0 0 ([] : List Z8) ([] : List Z3)) 0 false) .nl .nl))) ?_
  refine zo (.ptr 2 0) ?_
  refine zo (.ptr 2 5) ?_
  refine zo (.p (.agg (Z1Y (Zj.mk zH zR)))) ?_
  refine zt [(Zw (ZC.mk (Z3.mk 0 0 0 0 0 ([] : List Z8) ([] : List Z3)) 0 false) .nl .nl), (ZE b1), (Zi (Zk.mk z1S z1L zQ z1C z1h (Zj.mk zH zR)) z2j z18), (Zw (ZC.mk (Z3.mk zJ zT zU zL zO zN zK) z1u z13) z11 zX)] ?_
  refine zt [(Zw (ZC.mk (Z3.mk 0 0 0 0 0 ([] : List Z8) ([] : List Z3)) 0 false) .nl .nl), (ZE (Zj.mk zH zR)), (Zi (Zk.mk z1S z1L zQ z1C z1h (Zj.mk zH zR)) z2j z18), (Zw (ZC.mk (Z3.mk zJ zT zU zL zO zN zK) z1u z13) z11 zX)] ?_
  refine zg ?_
  exact zr ((.p (.tup [(.agg (Z1j (ZC.mk (Z3.mk 0 0 0 0 0 ([] : List Z8) ([] : List Z3)) 0 false) .sh .sh)), (.agg (Z1Y (Zj.mk zH zR)))])), [(Zw (ZC.mk (Z3.mk 0 0 0 0 0 ([] : List Z8) ([] : List Z3)) 0 false) .nl .nl), (ZE (Zj.mk zH zR)), (Zi (Zk.mk z1S z1L zQ z1C z1h (Zj.mk zH zR)) z2j z18), (Zw (ZC.mk (Z3.mk zJ zT zU zL zO zN zK) z1u z13) z11 zX)]) ⟨_, rfl⟩
 ·exact zk (Zcp (b0) (b1) (z1S) (z1L) (zQ) (z1C) (z1h) (zH) (zR) (zJ) (zT) (zU) (zL) (zO) (zN) (zK) (z1u) (z13) zM zG z2j z18 z11 zX z1x z1q z2s)
noncomputable def Z4o (x50 : List Zq) (x51 : Int) (x52 : Int) (z1S : List Int) (zQ : Int) (zH : Int) (zR : Int) (zJ : Int) (zT : Int) (zU : Int) (zL : Int) (zO : Int) (zN : List Z8) (zK : List Z3) (z13 : Bool) : Option (ZC × Zj) :=
 if ((decide (x52 < x51))) = true then
 (Z5F x50 x51 x52 z1S zQ zH zR zJ zT zU zL zO zN zK z13)
 else
 (Z5M zQ zH zR zJ zT zU zL zO zN zK z13)
theorem ZcG (x50 : List Zq) (x51 : Int) (x52 : Int) (b0 : ZC) (b1 : Zj) (z1S : List Int) (z1L : Int) (zQ : Int) (z1C : Int) (z1h : List Zq) (zH : Int) (zR : Int) (zJ : Int) (zT : Int) (zU : Int) (zL : Int) (zO : Int) (zN : List Z8) (zK : List Z3) (z1u : Int) (z13 : Bool) (ox50 : Own) (zM : Own) (zG : Own) (z2j : Own) (z18 : Own) (z11 : Own) (zX : Own) (z1x : okApp zM = true) (z1q : okApp zG = true) (z2s : okApp z18 = true) : Sim (Z2o) (Z4o x50 x51 x52 z1S zQ zH zR zJ zT zU zL zO zN zK z13) (ZbL 0 (.ptr 0 0) (.ptr 1 0) (.ptr 2 0) (.ptr 3 0) (.p (.lst ox50 (x50.map Z1E))) (iv x51) (iv x52) [(Zw b0 zM zG), (ZE b1), (Zi (Zk.mk z1S z1L zQ z1C z1h (Zj.mk zH zR)) z2j z18), (Zw (ZC.mk (Z3.mk zJ zT zU zL zO zN zK) z1u z13) z11 zX)]) := by
 unfold Z4o
 refine zf (Zj1 ..) ?_
 refine ze ?_
 refine zo (bv (decide (x52 < x51))) ?_
 refine za ((decide (x52 < x51))) ?_ ?_
 ·exact zk (ZbS (x50) (x51) (x52) (b0) (b1) (z1S) (z1L) (zQ) (z1C) (z1h) (zH) (zR) (zJ) (zT) (zU) (zL) (zO) (zN) (zK) (z1u) (z13) ox50 zM zG z2j z18 z11 zX z1x z1q z2s)
 ·exact zk (Zc1 (b0) (b1) (z1S) (z1L) (zQ) (z1C) (z1h) (zH) (zR) (zJ) (zT) (zU) (zL) (zO) (zN) (zK) (z1u) (z13) zM zG z2j z18 z11 zX z1x z1q z2s)
theorem Z6a (x50 : List Zq) (x51 : Int) (x52 : Int) (z1S : List Int) (zQ : Int) (zH : Int) (zR : Int) (zJ : Int) (zT : Int) (zU : Int) (zL : Int) (zO : Int) (zN : List Z8) (zK : List Z3) (z13 : Bool) {r} (h : Z4o x50 x51 x52 z1S zQ zH zR zJ zT zU zL zO zN zK z13 = some r) : Z5a x50 x51 x52 z1S zQ zH zR zJ zT zU zL zO zN zK z13 = some r :=
 pick_of (fun _ _ ha hb => RRun.uniq (Zbp) (ha default default default default default default .ex .ex .ex .ex .ex .ex .ex rfl rfl rfl) (hb default default default default default default .ex .ex .ex .ex .ex .ex .ex rfl rfl rfl)) (fun b0 b1 z1L z1C z1h z1u ox50 zM zG z2j z18 z11 zX z1x z1q z2s => ZcG x50 x51 x52 b0 b1 z1S z1L zQ z1C z1h zH zR zJ zT zU zL zO zN zK z1u z13 ox50 zM zG z2j z18 z11 zX z1x z1q z2s r h)
noncomputable def Z5f (zp : Int) : Option (Bool × Int) :=
 some (false, zp)
theorem Z76 (zl : List Int) (zp : Int) (z7 : Int) (zd : Int) (zh : List Zq) (z2 : Int) (z6 : Int) (zn : Own) (zb : Own) (zu : okApp zb = true) : Sim (Z3r zl z7 zd zh z2 z6 zn zb) (Z5f zp) (Ze4 1  [(Zi (Zk.mk zl zp z7 zd zh (Zj.mk z2 z6)) zn zb)]) := by
 unfold Z5f
 refine zf (ZhM ..) ?_
 refine ze ?_
 exact zr ((bv false), [(Zi (Zk.mk zl zp z7 zd zh (Zj.mk z2 z6)) zn zb)]) ⟨_, rfl⟩
noncomputable def Z5g (x1 : ByteArray) (zp : Int) : Option (Bool × Int) :=
 some (true, (IntKind.i64.wrap (zp + (x1.size : Int))))
theorem Zae (x1 : ByteArray) (zl : List Int) (zp : Int) (z7 : Int) (zd : Int) (zh : List Zq) (z2 : Int) (z6 : Int) (zn : Own) (zb : Own) (zu : okApp zb = true) : Sim (Z3r zl z7 zd zh z2 z6 zn zb) (Z5g x1 zp) (Zgl 1 (.ptr 0 0) (.p (.v (.string x1))) [(Zi (Zk.mk zl zp z7 zd zh (Zj.mk z2 z6)) zn zb)]) := by
 unfold Z5g
 refine zf (ZhU ..) ?_
 refine ze ?_
 refine zo (.ptr 0 0) ?_
 refine zo (.ptr 0 1) ?_
 refine zo (iv zp) ?_
 refine zo (iv (x1.size : Int)) ?_
 refine zo (iv (IntKind.i64.wrap (zp + (x1.size : Int)))) ?_
 refine zo (.ptr 0 0) ?_
 refine zo (.ptr 0 1) ?_
 refine zt [(Zi (Zk.mk zl (IntKind.i64.wrap (zp + (x1.size : Int))) z7 zd zh (Zj.mk z2 z6)) zn zb)] ?_
 refine ze ?_
 exact zr ((bv true), [(Zi (Zk.mk zl (IntKind.i64.wrap (zp + (x1.size : Int))) z7 zd zh (Zj.mk z2 z6)) zn zb)]) ⟨_, rfl⟩
noncomputable def Z67 (x1 : ByteArray) (zl : List Int) (zp : Int) : Option (Bool × Int) :=
 if ((decide ((IntKind.i64.wrap ((zl.length : Int) - zp)) < (x1.size : Int)))) = true then
 (Z5f zp)
 else
 ((lsl zl zp (IntKind.i64.wrap (zp + (x1.size : Int)))).bind fun a1 =>
 if ((!(seq (strI a1) x1))) = true then
 (Z5f zp)
 else
 (Z5g x1 zp))
theorem Zbd (x1 : ByteArray) (zl : List Int) (zp : Int) (z7 : Int) (zd : Int) (zh : List Zq) (z2 : Int) (z6 : Int) (zn : Own) (zb : Own) (zu : okApp zb = true) : Sim (Z3r zl z7 zd zh z2 z6 zn zb) (Z67 x1 zl zp) (EE 27 [(.ptr 0 0), (.p (.v (.string x1)))] [(Zi (Zk.mk zl zp z7 zd zh (Zj.mk z2 z6)) zn zb)]) := by
 unfold Z67
 refine zf (ZjR ..) ?_
 refine ze ?_
 refine ze ?_
 refine zo (.ptr 0 0) ?_
 refine zo (.ptr 0 0) ?_
 refine zo (.p (.lst (shrO zn) (zl.map (eI .u8)))) ?_
 refine zo (iv (zl.length : Int)) ?_ (Eq.trans (by kernel_rfl) (xlen_of (P := PP) (t := 40) (d := 5) (by kernel_rfl) (eI .u8) (shrO zn) zl))
 refine zo (.ptr 0 0) ?_
 refine zo (.ptr 0 1) ?_
 refine zo (iv zp) ?_
 refine zo (iv (IntKind.i64.wrap ((zl.length : Int) - zp))) ?_
 refine zo (iv (x1.size : Int)) ?_
 refine zo (bv (decide ((IntKind.i64.wrap ((zl.length : Int) - zp)) < (x1.size : Int)))) ?_
 refine za ((decide ((IntKind.i64.wrap ((zl.length : Int) - zp)) < (x1.size : Int)))) ?_ ?_
 ·exact zk (Z76 (zl) (zp) (z7) (zd) (zh) (z2) (z6) zn zb zu)
 ·refine zo (.ptr 0 0) ?_
  refine zo (.ptr 0 0) ?_
  refine zo (.p (.lst (shrO zn) (zl.map (eI .u8)))) ?_
  refine zo (.ptr 0 0) ?_
  refine zo (.ptr 0 1) ?_
  refine zo (iv zp) ?_
  refine zo (.ptr 0 0) ?_
  refine zo (.ptr 0 1) ?_
  refine zo (iv zp) ?_
  refine zo (iv (x1.size : Int)) ?_
  refine zo (iv (IntKind.i64.wrap (zp + (x1.size : Int)))) ?_
  refine zi fun a1 ha1 => ?_
  refine zo (.p (.lst (slO (shrO zn)) (a1.map (eI .u8)))) ?_ (Eq.trans (by kernel_rfl) <| xsl_of (n := 1) (o := (shrO zn)) (lo := (some (iv zp))) (hi := (some (iv (IntKind.i64.wrap (zp + (x1.size : Int)))))) (e := (eI .u8)) (fun _ => rfl) (by decide) (by kernel_rfl) (by kernel_rfl) ha1)
  refine zo (.p (.v (.string (strI a1)))) ?_ (Eq.trans (by kernel_rfl) (xcnv_str (P := PP) (s := 40) (d := 9) (by kernel_rfl) (slO (shrO zn)) a1))
  refine zo (bv (!(seq (strI a1) x1))) ?_
  refine za ((!(seq (strI a1) x1))) ?_ ?_
  ·exact zk (Z76 (zl) (zp) (z7) (zd) (zh) (z2) (z6) zn zb zu)
  ·exact zk (Zae (x1) (zl) (zp) (z7) (zd) (zh) (z2) (z6) zn zb zu)
theorem ZbE (x1 : ByteArray) (zl : List Int) (zp : Int) {r} (h : Z67 x1 zl zp = some r) : Z16 x1 zl zp = some r :=
 pick_of (fun _ _ ha hb => RRun.uniq (Zch _ _ _ _ _ _ _ _) (ha default default default default default .ex .ex rfl) (hb default default default default default .ex .ex rfl)) (fun z7 zd zh z2 z6 zn zb zu => Zbd x1 zl zp z7 zd zh z2 z6 zn zb zu r h)
noncomputable def Z4u (zl : List Int) (zp : Int) (z7 : Int) (zd : Int) (zh : List Zq) (z2 : Int) (z6 : Int) : Option (Z3 × Int × Int × Int × (List Zq) × Int × Int) :=
 (Z4B zl zp z7 zd zh z2 z6).bind fun r1 =>
 Z3A (([r1.1] : List Z3)) zl r1.2.1 r1.2.2.1 r1.2.2.2.1 r1.2.2.2.2.1 r1.2.2.2.2.2.1 r1.2.2.2.2.2.2
theorem ZbD (zl : List Int) (zp : Int) (z7 : Int) (zd : Int) (zh : List Zq) (z2 : Int) (z6 : Int) (zn : Own) (zb : Own) (zu : okApp zb = true) : Sim (Z2v zl zn) (Z4u zl zp z7 zd zh z2 z6) (EE 28 [(.ptr 0 0)] [(Zi (Zk.mk zl zp z7 zd zh (Zj.mk z2 z6)) zn zb)]) := by
 unfold Z4u
 refine zf (ZjX ..) ?_
 refine ze ?_
 refine zz (.ptr 1 0) [(Zi (Zk.mk zl zp z7 zd zh (Zj.mk z2 z6)) zn zb), (Zo (Z3.mk 0 0 0 0 0 ([] : List Z8) ([] : List Z3)) .nl .nl)] ?_
 refine ze ?_
 refine zi fun r1 hr1 => ?_
 obtain ⟨qr1, er1, or1_0_4, exr1, hor1_0_4, rfl⟩ := Z8T (zl) (zp) (z7) (zd) (zh) (z2) (z6) zn zb zu r1 hr1
 refine zc [0] (.p (.agg (Zz r1.1 .sh .sh))) [(Zi (Zk.mk zl r1.2.1 r1.2.2.1 r1.2.2.2.1 r1.2.2.2.2.1 (Zj.mk r1.2.2.2.2.2.1 r1.2.2.2.2.2.2)) zn or1_0_4), (Zo (Z3.mk 0 0 0 0 0 ([] : List Z8) ([] : List Z3)) .nl .nl)] er1 ?_
 refine zo (.p (.lst .ex (([r1.1] : List Z3).map ZD))) ?_ (Eq.trans (b := some (.p (.lst .ex [.agg (Z1T r1.1)]))) (by kernel_rfl) (by simp only [List.map_cons, List.map_nil, Z3d]))
 exact zk (Z7z (([r1.1] : List Z3)) (zl) (r1.2.1) (r1.2.2.1) (r1.2.2.2.1) (r1.2.2.2.2.1) (r1.2.2.2.2.2.1) (r1.2.2.2.2.2.2) ((Z3.mk 0 0 0 0 0 ([] : List Z8) ([] : List Z3))) .ex zn or1_0_4 .nl .nl rfl hor1_0_4 rfl rfl)
theorem Z8Y (zl : List Int) (zp : Int) (z7 : Int) (zd : Int) (zh : List Zq) (z2 : Int) (z6 : Int) {r} (h : Z4u zl zp z7 zd zh z2 z6 = some r) : Z2X zl zp z7 zd zh z2 z6 = some r :=
 pick_of (fun _ _ ha hb => RRun.uniq (Z9k _ _) (ha .ex .ex rfl) (hb .ex .ex rfl)) (fun zn zb zu => ZbD zl zp z7 zd zh z2 z6 zn zb zu r h)
noncomputable def Z5B (x3 : List Z3) (zl : List Int) (zp : Int) (z7 : Int) (zd : Int) (zh : List Zq) (z2 : Int) (z6 : Int) : Option (Z3 × Int × Int × Int × (List Zq) × Int × Int) :=
 (Z4B zl zp z7 zd zh z2 z6).bind fun r1 =>
 (lapp x3 ([r1.1] : List Z3)).bind fun a2 =>
 Z3A a2 zl r1.2.1 r1.2.2.1 r1.2.2.2.1 r1.2.2.2.2.1 r1.2.2.2.2.2.1 r1.2.2.2.2.2.2
theorem Zax (x3 : List Z3) (zl : List Int) (zp : Int) (z7 : Int) (zd : Int) (zh : List Zq) (z2 : Int) (z6 : Int) (b1 : Z3) (ox3 : Own) (zn : Own) (zb : Own) (zB : Own) (zy : Own) (hox3 : okApp ox3 = true) (zu : okApp zb = true) (zP : okApp zB = true) (zI : okApp zy = true) : Sim (Z2v zl zn) (Z5B x3 zl zp z7 zd zh z2 z6) (Zg4 1 (.ptr 0 0) (.ptr 1 0) (.p (.lst ox3 (x3.map ZD))) [(Zi (Zk.mk zl zp z7 zd zh (Zj.mk z2 z6)) zn zb), (Zo b1 zB zy)]) := by
 unfold Z5B
 refine zf (ZiF ..) ?_
 refine ze ?_
 refine zi fun r1 hr1 => ?_
 obtain ⟨qr1, er1, or1_0_4, exr1, hor1_0_4, rfl⟩ := Z8T (zl) (zp) (z7) (zd) (zh) (z2) (z6) zn zb zu r1 hr1
 refine zc [0] (.p (.agg (Zz r1.1 .sh .sh))) [(Zi (Zk.mk zl r1.2.1 r1.2.2.1 r1.2.2.2.1 r1.2.2.2.2.1 (Zj.mk r1.2.2.2.2.2.1 r1.2.2.2.2.2.2)) zn or1_0_4), (Zo b1 zB zy)] er1 ?_
 refine zo (.p (.lst .ex (([r1.1] : List Z3).map ZD))) ?_ (Eq.trans (b := some (.p (.lst .ex [.agg (Z1T r1.1)]))) (by kernel_rfl) (by simp only [List.map_cons, List.map_nil, Z3d]))
 refine zi fun a2 ha2 => ?_
 refine zo (.p (.lst .un (a2.map ZD))) ?_ (Eq.trans (by kernel_rfl) <| xapp_of (n := 7) (o := ox3) (o' := .ex) (e := ZD) (ys := ([r1.1] : List Z3)) ZbW (by decide) hox3 ha2)
 exact zk (Z7z (a2) (zl) (r1.2.1) (r1.2.2.1) (r1.2.2.2.1) (r1.2.2.2.2.1) (r1.2.2.2.2.2.1) (r1.2.2.2.2.2.2) (b1) .un zn or1_0_4 zB zy rfl hor1_0_4 zP zI)
noncomputable def Z4y (x3 : List Z3) (zp : Int) (z7 : Int) (zd : Int) (zh : List Zq) (z2 : Int) (z6 : Int) : Option (Z3 × Int × Int × Int × (List Zq) × Int × Int) :=
 (Z6I 3 x3).bind fun r1 =>
 some (r1, zp, z7, zd, zh, z2, z6)
theorem Zap (x3 : List Z3) (zl : List Int) (zp : Int) (z7 : Int) (zd : Int) (zh : List Zq) (z2 : Int) (z6 : Int) (b1 : Z3) (ox3 : Own) (zn : Own) (zb : Own) (zB : Own) (zy : Own) (hox3 : okApp ox3 = true) (zu : okApp zb = true) (zP : okApp zB = true) (zI : okApp zy = true) : Sim (Z2v zl zn) (Z4y x3 zp z7 zd zh z2 z6) (Zfm 1 (.ptr 1 0) (.p (.lst ox3 (x3.map ZD))) [(Zi (Zk.mk zl zp z7 zd zh (Zj.mk z2 z6)) zn zb), (Zo b1 zB zy)]) := by
 unfold Z4y
 refine zf (Zj8 ..) ?_
 refine ze ?_
 refine zi fun r1 hr1 => ?_
 obtain ⟨qr1, er1, exr1, rfl⟩ := Zah (3) (x3) .sh r1 hr1
 refine zc [] (.p (.agg (Zz r1 .sh .sh))) [(Zi (Zk.mk zl zp z7 zd zh (Zj.mk z2 z6)) zn zb), (Zo b1 zB zy)] er1 ?_
 refine zt [(Zi (Zk.mk zl zp z7 zd zh (Zj.mk z2 z6)) zn zb), (Zo r1 .sh .sh)] ?_
 exact zr ((.p (.agg (Zz r1 .sh .sh))), [(Zi (Zk.mk zl zp z7 zd zh (Zj.mk z2 z6)) zn zb), (Zo r1 .sh .sh)]) ⟨zb, _, zu, rfl⟩
noncomputable def Z3C (x3 : List Z3) (zl : List Int) (zp : Int) (z7 : Int) (zd : Int) (zh : List Zq) (z2 : Int) (z6 : Int) : Option (Z3 × Int × Int × Int × (List Zq) × Int × Int) :=
 (Z16 ((ByteArray.mk #[124])) zl zp).bind fun r1 =>
 if (r1.1) = true then
 (Z5B x3 zl r1.2 z7 zd zh z2 z6)
 else
 (Z4y x3 r1.2 z7 zd zh z2 z6)
theorem ZaB (x3 : List Z3) (zl : List Int) (zp : Int) (z7 : Int) (zd : Int) (zh : List Zq) (z2 : Int) (z6 : Int) (b1 : Z3) (ox3 : Own) (zn : Own) (zb : Own) (zB : Own) (zy : Own) (hox3 : okApp ox3 = true) (zu : okApp zb = true) (zP : okApp zB = true) (zI : okApp zy = true) : Sim (Z2v zl zn) (Z3C x3 zl zp z7 zd zh z2 z6) (Zc5 1 (.ptr 0 0) (.ptr 1 0) (.p (.lst ox3 (x3.map ZD))) [(Zi (Zk.mk zl zp z7 zd zh (Zj.mk z2 z6)) zn zb), (Zo b1 zB zy)]) := by
 unfold Z3C
 refine zf (ZhN ..) ?_
 refine ze ?_
 refine zi fun r1 hr1 => ?_
 obtain ⟨qr1, er1, exr1, rfl⟩ := Z1b ((ByteArray.mk #[124])) (zl) (zp) (z7) (zd) (zh) (z2) (z6) zn zb zu r1 hr1
 refine zc [0] (bv r1.1) [(Zi (Zk.mk zl r1.2 z7 zd zh (Zj.mk z2 z6)) zn zb), (Zo b1 zB zy)] er1 ?_
 refine za (r1.1) ?_ ?_
 ·exact zk (Zax (x3) (zl) (r1.2) (z7) (zd) (zh) (z2) (z6) (b1) ox3 zn zb zB zy hox3 zu zP zI)
 ·exact zk (Zap (x3) (zl) (r1.2) (z7) (zd) (zh) (z2) (z6) (b1) ox3 zn zb zB zy hox3 zu zP zI)
theorem Z7D (x3 : List Z3) (zl : List Int) (zp : Int) (z7 : Int) (zd : Int) (zh : List Zq) (z2 : Int) (z6 : Int) {r} (h : Z3C x3 zl zp z7 zd zh z2 z6 = some r) : Z3A x3 zl zp z7 zd zh z2 z6 = some r :=
 pick_of (fun _ _ ha hb => RRun.uniq (Z9k _ _) (ha default .ex .ex .ex .ex .ex rfl rfl rfl rfl) (hb default .ex .ex .ex .ex .ex rfl rfl rfl rfl)) (fun b1 ox3 zn zb zB zy hox3 zu zP zI => ZaB x3 zl zp z7 zd zh z2 z6 b1 ox3 zn zb zB zy hox3 zu zP zI r h)
noncomputable def Z5r (zl : List Int) (zp : Int) (z7 : Int) (zd : Int) (zh : List Zq) (z2 : Int) (z6 : Int) : Option (Z3 × Int × Int × Int × (List Zq) × Int × Int) :=
 Z3G (([] : List Z3)) zl zp z7 zd zh z2 z6
theorem Zbs (zl : List Int) (zp : Int) (z7 : Int) (zd : Int) (zh : List Zq) (z2 : Int) (z6 : Int) (zn : Own) (zb : Own) (zu : okApp zb = true) : Sim (Z2h zl zn) (Z5r zl zp z7 zd zh z2 z6) (EE 35 [(.ptr 0 0)] [(Zi (Zk.mk zl zp z7 zd zh (Zj.mk z2 z6)) zn zb)]) := by
 unfold Z5r
 refine zf (ZjH ..) ?_
 refine ze ?_
 refine zz (.ptr 1 0) [(Zi (Zk.mk zl zp z7 zd zh (Zj.mk z2 z6)) zn zb), (Zo (Z3.mk 0 0 0 0 0 ([] : List Z8) ([] : List Z3)) .nl .nl)] ?_
 refine ze ?_
 exact zk (Z7p (([] : List Z3)) (zl) (zp) (z7) (zd) (zh) (z2) (z6) ((Z3.mk 0 0 0 0 0 ([] : List Z8) ([] : List Z3))) .nl zn zb .nl .nl rfl zu rfl rfl)
theorem Z8Z (zl : List Int) (zp : Int) (z7 : Int) (zd : Int) (zh : List Zq) (z2 : Int) (z6 : Int) {r} (h : Z5r zl zp z7 zd zh z2 z6 = some r) : Z4B zl zp z7 zd zh z2 z6 = some r :=
 pick_of (fun _ _ ha hb => RRun.uniq (Z9o _ _) (ha .ex .ex rfl) (hb .ex .ex rfl)) (fun zn zb zu => Zbs zl zp z7 zd zh z2 z6 zn zb zu r h)
noncomputable def Z2l (x3 : List Z3) (zp : Int) (z7 : Int) (zd : Int) (zh : List Zq) (z2 : Int) (z6 : Int) : Option (Z3 × Int × Int × Int × (List Zq) × Int × Int) :=
 (Z6I 2 x3).bind fun r1 =>
 some (r1, zp, z7, zd, zh, z2, z6)
theorem Z4F (x3 : List Z3) (zl : List Int) (zp : Int) (z7 : Int) (zd : Int) (zh : List Zq) (z2 : Int) (z6 : Int) (b1 : Z3) (ox3 : Own) (zn : Own) (zb : Own) (zB : Own) (zy : Own) (hox3 : okApp ox3 = true) (zu : okApp zb = true) (zP : okApp zB = true) (zI : okApp zy = true) : Sim (Z2h zl zn) (Z2l x3 zp z7 zd zh z2 z6) (Zco 1 (.ptr 1 0) (.p (.lst ox3 (x3.map ZD))) [(Zi (Zk.mk zl zp z7 zd zh (Zj.mk z2 z6)) zn zb), (Zo b1 zB zy)]) := by
 unfold Z2l
 refine zf (ZiY ..) ?_
 refine ze ?_
 refine zi fun r1 hr1 => ?_
 obtain ⟨qr1, er1, exr1, rfl⟩ := Zah (2) (x3) .sh r1 hr1
 refine zc [] (.p (.agg (Zz r1 .sh .sh))) [(Zi (Zk.mk zl zp z7 zd zh (Zj.mk z2 z6)) zn zb), (Zo b1 zB zy)] er1 ?_
 refine zt [(Zi (Zk.mk zl zp z7 zd zh (Zj.mk z2 z6)) zn zb), (Zo r1 .sh .sh)] ?_
 exact zr ((.p (.agg (Zz r1 .sh .sh))), [(Zi (Zk.mk zl zp z7 zd zh (Zj.mk z2 z6)) zn zb), (Zo r1 .sh .sh)]) ⟨zb, _, zu, rfl⟩
noncomputable def Z34 (x3 : List Z3) (zl : List Int) (zp : Int) (z7 : Int) (zd : Int) (zh : List Zq) (z2 : Int) (z6 : Int) : Option (Z3 × Int × Int × Int × (List Zq) × Int × Int) :=
 (Z66 zl zp z7 zd zh z2 z6).bind fun r1 =>
 (Z4z r1.1 r1.2.1 zl r1.2.2.1 r1.2.2.2.1 r1.2.2.2.2.1 r1.2.2.2.2.2.1 r1.2.2.2.2.2.2.1 r1.2.2.2.2.2.2.2).bind fun r2 =>
 (lapp x3 ([r2.1] : List Z3)).bind fun a3 =>
 Z3G a3 zl r2.2.1 r1.2.2.2.1 r1.2.2.2.2.1 r1.2.2.2.2.2.1 r2.2.2.1 r2.2.2.2
theorem Z5P (x3 : List Z3) (zl : List Int) (zp : Int) (z7 : Int) (zd : Int) (zh : List Zq) (z2 : Int) (z6 : Int) (b1 : Z3) (ox3 : Own) (zn : Own) (zb : Own) (zB : Own) (zy : Own) (hox3 : okApp ox3 = true) (zu : okApp zb = true) (zP : okApp zB = true) (zI : okApp zy = true) : Sim (Z2h zl zn) (Z34 x3 zl zp z7 zd zh z2 z6) (Zd5 1 (.ptr 0 0) (.ptr 1 0) (.p (.lst ox3 (x3.map ZD))) [(Zi (Zk.mk zl zp z7 zd zh (Zj.mk z2 z6)) zn zb), (Zo b1 zB zy)]) := by
 unfold Z34
 refine zf (ZiN ..) ?_
 refine ze ?_
 refine zi fun r1 hr1 => ?_
 obtain ⟨qr1, er1, or1_0_4, exr1, hor1_0_4, rfl⟩ := ZbG (zl) (zp) (z7) (zd) (zh) (z2) (z6) zn zb zu r1 hr1
 refine zc [0] (.p (.tup [(.agg (Zz r1.1 .sh .sh)), (.v (.bool r1.2.1))])) [(Zi (Zk.mk zl r1.2.2.1 r1.2.2.2.1 r1.2.2.2.2.1 r1.2.2.2.2.2.1 (Zj.mk r1.2.2.2.2.2.2.1 r1.2.2.2.2.2.2.2)) zn or1_0_4), (Zo b1 zB zy)] er1 ?_
 refine zo (.p (.agg (Zz r1.1 .sh .sh))) ?_
 refine zo (bv r1.2.1) ?_
 refine zz (.ptr 2 0) [(Zi (Zk.mk zl r1.2.2.1 r1.2.2.2.1 r1.2.2.2.2.1 r1.2.2.2.2.2.1 (Zj.mk r1.2.2.2.2.2.2.1 r1.2.2.2.2.2.2.2)) zn or1_0_4), (Zo b1 zB zy), (Zo (Z3.mk 0 0 0 0 0 ([] : List Z8) ([] : List Z3)) .nl .nl)] ?_
 refine zt [(Zi (Zk.mk zl r1.2.2.1 r1.2.2.2.1 r1.2.2.2.2.1 r1.2.2.2.2.2.1 (Zj.mk r1.2.2.2.2.2.2.1 r1.2.2.2.2.2.2.2)) zn or1_0_4), (Zo b1 zB zy), (Zo r1.1 .sh .sh)] ?_
 refine ze ?_
 refine zo (.p (.agg (Zz r1.1 .sh .sh))) ?_
 refine zi fun r2 hr2 => ?_
 obtain ⟨qr2, er2, exr2, rfl⟩ := Zb1 (r1.1) (r1.2.1) (zl) (r1.2.2.1) (r1.2.2.2.1) (r1.2.2.2.2.1) (r1.2.2.2.2.2.1) (r1.2.2.2.2.2.2.1) (r1.2.2.2.2.2.2.2) .sh .sh zn or1_0_4 hor1_0_4 r2 hr2
 refine zc [0] (.p (.agg (Zz r2.1 .sh .sh))) [(Zi (Zk.mk zl r2.2.1 r1.2.2.2.1 r1.2.2.2.2.1 r1.2.2.2.2.2.1 (Zj.mk r2.2.2.1 r2.2.2.2)) zn or1_0_4), (Zo b1 zB zy), (Zo r1.1 .sh .sh)] er2 ?_
 refine zo (.p (.lst .ex (([r2.1] : List Z3).map ZD))) ?_ (Eq.trans (b := some (.p (.lst .ex [.agg (Z1T r2.1)]))) (by kernel_rfl) (by simp only [List.map_cons, List.map_nil, Z3d]))
 refine zi fun a3 ha3 => ?_
 refine zo (.p (.lst .un (a3.map ZD))) ?_ (Eq.trans (by kernel_rfl) <| xapp_of (n := 7) (o := ox3) (o' := .ex) (e := ZD) (ys := ([r2.1] : List Z3)) ZbW (by decide) hox3 ha3)
 exact zk (Z7p (a3) (zl) (r2.2.1) (r1.2.2.2.1) (r1.2.2.2.2.1) (r1.2.2.2.2.2.1) (r2.2.2.1) (r2.2.2.2) (b1) .un zn or1_0_4 zB zy rfl hor1_0_4 zP zI)
noncomputable def Z4x (x3 : List Z3) (zl : List Int) (zp : Int) (z7 : Int) (zd : Int) (zh : List Zq) (z2 : Int) (z6 : Int) : Option (Z3 × Int × Int × Int × (List Zq) × Int × Int) :=
 (Z1F ((Zk.mk zl zp z7 zd zh (Zj.mk z2 z6)))).bind fun r1 =>
 if ((r1 == (-1))) = true then
 (if ((r1 == (-1))) = true then
 (Z2l x3 zp z7 zd zh z2 z6)
 else
 (Z34 x3 zl zp z7 zd zh z2 z6))
 else
 (if ((r1 == 124)) = true then
 (if ((r1 == 124)) = true then
 (Z2l x3 zp z7 zd zh z2 z6)
 else
 (Z34 x3 zl zp z7 zd zh z2 z6))
 else
 (if ((r1 == 41)) = true then
 (Z2l x3 zp z7 zd zh z2 z6)
 else
 (Z34 x3 zl zp z7 zd zh z2 z6)))
theorem Zas (x3 : List Z3) (zl : List Int) (zp : Int) (z7 : Int) (zd : Int) (zh : List Zq) (z2 : Int) (z6 : Int) (b1 : Z3) (ox3 : Own) (zn : Own) (zb : Own) (zB : Own) (zy : Own) (hox3 : okApp ox3 = true) (zu : okApp zb = true) (zP : okApp zB = true) (zI : okApp zy = true) : Sim (Z2h zl zn) (Z4x x3 zl zp z7 zd zh z2 z6) (Zfb 1 (.ptr 0 0) (.ptr 1 0) (.p (.lst ox3 (x3.map ZD))) [(Zi (Zk.mk zl zp z7 zd zh (Zj.mk z2 z6)) zn zb), (Zo b1 zB zy)]) := by
 unfold Z4x
 refine zf (ZhW ..) ?_
 refine ze ?_
 refine zi fun r1 hr1 => ?_
 obtain ⟨qr1, er1, exr1, rfl⟩ := Z1K ((Zk.mk zl zp z7 zd zh (Zj.mk z2 z6))) zn zb zu r1 hr1
 refine zc [0] (iv r1) [(Zi (Zk.mk zl zp z7 zd zh (Zj.mk z2 z6)) zn zb), (Zo b1 zB zy)] er1 ?_
 refine ze ?_
 refine zo (bv (r1 == (-1))) ?_
 refine za ((r1 == (-1))) ?_ ?_
 ·refine za ((r1 == (-1))) ?_ ?_
  ·exact zk (Z4F (x3) (zl) (zp) (z7) (zd) (zh) (z2) (z6) (b1) ox3 zn zb zB zy hox3 zu zP zI)
  ·exact zk (Z5P (x3) (zl) (zp) (z7) (zd) (zh) (z2) (z6) (b1) ox3 zn zb zB zy hox3 zu zP zI)
 ·refine ze ?_
  refine zo (bv (r1 == 124)) ?_
  refine za ((r1 == 124)) ?_ ?_
  ·refine za ((r1 == 124)) ?_ ?_
   ·exact zk (Z4F (x3) (zl) (zp) (z7) (zd) (zh) (z2) (z6) (b1) ox3 zn zb zB zy hox3 zu zP zI)
   ·exact zk (Z5P (x3) (zl) (zp) (z7) (zd) (zh) (z2) (z6) (b1) ox3 zn zb zB zy hox3 zu zP zI)
  ·refine ze ?_
   refine zo (bv (r1 == 41)) ?_
   refine za ((r1 == 41)) ?_ ?_
   ·exact zk (Z4F (x3) (zl) (zp) (z7) (zd) (zh) (z2) (z6) (b1) ox3 zn zb zB zy hox3 zu zP zI)
   ·exact zk (Z5P (x3) (zl) (zp) (z7) (zd) (zh) (z2) (z6) (b1) ox3 zn zb zB zy hox3 zu zP zI)
noncomputable def Z4A (x3 : List Z3) (zl : List Int) (zp : Int) (z7 : Int) (zd : Int) (zh : List Zq) (z2 : Int) (z6 : Int) : Option (Z3 × Int × Int × Int × (List Zq) × Int × Int) :=
 if ((z2 == 0)) = true then
 (Z4x x3 zl zp z7 zd zh z2 z6)
 else
 (Z2l x3 zp z7 zd zh z2 z6)
theorem Zan (x3 : List Z3) (zl : List Int) (zp : Int) (z7 : Int) (zd : Int) (zh : List Zq) (z2 : Int) (z6 : Int) (b1 : Z3) (ox3 : Own) (zn : Own) (zb : Own) (zB : Own) (zy : Own) (hox3 : okApp ox3 = true) (zu : okApp zb = true) (zP : okApp zB = true) (zI : okApp zy = true) : Sim (Z2h zl zn) (Z4A x3 zl zp z7 zd zh z2 z6) (ZbM 1 (.ptr 0 0) (.ptr 1 0) (.p (.lst ox3 (x3.map ZD))) [(Zi (Zk.mk zl zp z7 zd zh (Zj.mk z2 z6)) zn zb), (Zo b1 zB zy)]) := by
 unfold Z4A
 refine zf (Zj9 ..) ?_
 refine ze ?_
 refine zo (.ptr 0 0) ?_
 refine zo (.ptr 0 5) ?_
 refine zo (.ptr 0 5) ?_
 refine zo (iv z2) ?_
 refine zo (bv (z2 == 0)) ?_
 refine za ((z2 == 0)) ?_ ?_
 ·exact zk (Zas (x3) (zl) (zp) (z7) (zd) (zh) (z2) (z6) (b1) ox3 zn zb zB zy hox3 zu zP zI)
 ·exact zk (Z4F (x3) (zl) (zp) (z7) (zd) (zh) (z2) (z6) (b1) ox3 zn zb zB zy hox3 zu zP zI)
theorem Z7B (x3 : List Z3) (zl : List Int) (zp : Int) (z7 : Int) (zd : Int) (zh : List Zq) (z2 : Int) (z6 : Int) {r} (h : Z4A x3 zl zp z7 zd zh z2 z6 = some r) : Z3G x3 zl zp z7 zd zh z2 z6 = some r :=
 pick_of (fun _ _ ha hb => RRun.uniq (Z9o _ _) (ha default .ex .ex .ex .ex .ex rfl rfl rfl rfl) (hb default .ex .ex .ex .ex .ex rfl rfl rfl rfl)) (fun b1 ox3 zn zb zB zy hox3 zu zP zI => Zan x3 zl zp z7 zd zh z2 z6 b1 ox3 zn zb zB zy hox3 zu zP zI r h)
noncomputable def Z5k (b0 : Zk) : Option (Int) :=
 (Z8p b0.b b0.at_).bind fun r1 =>
 some (r1.1)
theorem Zab (b0 : Zk) (zn : Own) (zb : Own) (zu : okApp zb = true) : Sim (Z4g b0 zn zb) (Z5k b0) (Zfl 1 (.ptr 0 0) [(Zi b0 zn zb)]) := by
 unfold Z5k
 refine zf (Zip ..) ?_
 refine ze ?_
 refine zo (.ptr 0 0) ?_
 refine zo (.ptr 0 0) ?_
 refine zo (.p (.lst (shrO zn) (b0.b.map (eI .u8)))) ?_
 refine zo (.ptr 0 0) ?_
 refine zo (.ptr 0 1) ?_
 refine zo (iv b0.at_) ?_
 refine zi fun r1 hr1 => ?_
 obtain ⟨qr1, er1, exr1, rfl⟩ := Zc2 (b0.b) (b0.at_) .sh r1 hr1
 refine zc [] (.p (.tup [(.v (.int .i64 r1.1)), (.v (.int .i64 r1.2))])) [(Zi b0 zn zb)] er1 ?_
 refine zo (iv r1.1) ?_
 refine zo (iv r1.2) ?_
 refine ze ?_
 exact zr ((iv r1.1), [(Zi b0 zn zb)]) ⟨_, rfl⟩
noncomputable def Z63 (b0 : Zk) : Option (Int) :=
 if ((decide ((b0.b.length : Int) ≤ b0.at_))) = true then
 (some ((-1)))
 else
 (Z5k b0)
theorem Zb8 (b0 : Zk) (zn : Own) (zb : Own) (zu : okApp zb = true) : Sim (Z4g b0 zn zb) (Z63 b0) (EE 41 [(.ptr 0 0)] [(Zi b0 zn zb)]) := by
 unfold Z63
 refine zf (Zl8 ..) ?_
 refine ze ?_
 refine ze ?_
 refine zo (.ptr 0 0) ?_
 refine zo (.ptr 0 1) ?_
 refine zo (iv b0.at_) ?_
 refine zo (.ptr 0 0) ?_
 refine zo (.ptr 0 0) ?_
 refine zo (.p (.lst (shrO zn) (b0.b.map (eI .u8)))) ?_
 refine zo (iv (b0.b.length : Int)) ?_ (Eq.trans (by kernel_rfl) (xlen_of (P := PP) (t := 40) (d := 5) (by kernel_rfl) (eI .u8) (shrO zn) b0.b))
 refine zo (bv (decide ((b0.b.length : Int) ≤ b0.at_))) ?_
 refine za ((decide ((b0.b.length : Int) ≤ b0.at_))) ?_ ?_
 ·refine ze ?_
  exact zr ((iv (-1)), [(Zi b0 zn zb)]) ⟨_, rfl⟩
 ·exact zk (Zab (b0) zn zb zu)
theorem Zbv (b0 : Zk) {r} (h : Z63 b0 = some r) : Z1F b0 = some r :=
 pick_of (fun _ _ ha hb => RRun.uniq (Zcq _ _ _) (ha .ex .ex rfl) (hb .ex .ex rfl)) (fun zn zb zu => Zb8 b0 zn zb zu r h)
noncomputable def Z7V  : Option (Int × Int) :=
 some (0, 0)
theorem Za1  : Sim (Z5j) (Z7V) (ZdV 0  []) := by
 unfold Z7V
 refine zf (Ziv ..) ?_
 refine ze ?_
 exact zr ((.p (.tup [(.v (.int .i64 0)), (.v (.int .i64 0))])), []) ⟨_, rfl⟩
noncomputable def Z80 (x0 : List Int) (x1 : Int) : Option (Int × Int) :=
 (lget x0 x1).bind fun a1 =>
 some ((IntKind.i64.wrap (1114112 + (IntKind.i64.wrap a1))), 1)
theorem Zd1 (x0 : List Int) (x1 : Int) (ox0 : Own) : Sim (Z5j) (Z80 x0 x1) (Zgt 0 (.p (.lst ox0 (x0.map (eI .u8)))) (iv x1) []) := by
 unfold Z80
 refine zf (Ziw ..) ?_
 refine ze ?_
 refine zi fun a1 ha1 => ?_
 refine zo (.cptr [(.v (.int .u8 a1))]) ?_ (Eq.trans (by kernel_rfl) (xidx_of (o := (shrO ox0)) (k := .i64) (n := 1) (e := (eI .u8)) (cs := (fun a => [(eI .u8) a])) (fun _ => rfl) (fun _ => rfl) (by decide) ha1))
 refine zo (.p (.v (.int .u8 a1))) ?_
 refine zo (iv (IntKind.i64.wrap a1)) ?_
 refine zo (iv (IntKind.i64.wrap (1114112 + (IntKind.i64.wrap a1)))) ?_
 exact zr ((.p (.tup [(.v (.int .i64 (IntKind.i64.wrap (1114112 + (IntKind.i64.wrap a1))))), (.v (.int .i64 1))])), []) ⟨_, rfl⟩
noncomputable def Z5U (x6 : Int) (x7 : Int) : Option (Int × Int) :=
 some ((IntKind.i64.wrap x6), x7)
theorem Za4 (x6 : Int) (x7 : Int) : Sim (Z5j) (Z5U x6 x7) (Zef 0 (.p (.v (.int .i32 x6))) (iv x7) []) := by
 unfold Z5U
 refine zf (Zii ..) ?_
 refine ze ?_
 refine zo (iv (IntKind.i64.wrap x6)) ?_
 exact zr ((.p (.tup [(.v (.int .i64 (IntKind.i64.wrap x6))), (.v (.int .i64 x7))])), []) ⟨_, rfl⟩
noncomputable def Z7O (x0 : List Int) (x1 : Int) : Option (Int × Int) :=
 (lsl x0 x1 (x0.length : Int)).bind fun a1 =>
 (Z5R a1).bind fun r2 =>
 if ((r2.1 == 65533)) = true then
 (if ((r2.2 == 1)) = true then
 (Z80 x0 x1)
 else
 (Z5U r2.1 r2.2))
 else
 (Z5U r2.1 r2.2)
theorem Zdb (x0 : List Int) (x1 : Int) (ox0 : Own) : Sim (Z5j) (Z7O x0 x1) (ZfK 0 (.p (.lst ox0 (x0.map (eI .u8)))) (iv x1) []) := by
 unfold Z7O
 refine zf (ZhC ..) ?_
 refine ze ?_
 refine zi fun a1 ha1 => ?_
 refine zo (.p (.lst (slO (shrO ox0)) (a1.map (eI .u8)))) ?_ (Eq.trans (by kernel_rfl) <| xsl_of (n := 1) (o := (shrO ox0)) (lo := (some (iv x1))) (hi := none) (e := (eI .u8)) (fun _ => rfl) (by decide) (by kernel_rfl) (by kernel_rfl) ha1)
 refine zi fun r2 hr2 => ?_
 obtain ⟨qr2, er2, exr2, rfl⟩ := Z9w (a1) .sh r2 hr2
 refine zc [] (.p (.tup [(.v (.int .i32 r2.1)), (.v (.int .i64 r2.2))])) [] er2 ?_
 refine zo (.p (.v (.int .i32 r2.1))) ?_
 refine zo (iv r2.2) ?_
 refine ze ?_
 refine zo (bv (r2.1 == 65533)) ?_
 refine za ((r2.1 == 65533)) ?_ ?_
 ·refine zo (bv (r2.2 == 1)) ?_
  refine za ((r2.2 == 1)) ?_ ?_
  ·exact zk (Zd1 (x0) (x1) ox0)
  ·exact zk (Za4 (r2.1) (r2.2))
 ·exact zk (Za4 (r2.1) (r2.2))
noncomputable def Z9T (x0 : List Int) (x1 : Int) : Option (Int × Int) :=
 if ((decide (x1 < 0))) = true then
 (Z7V)
 else
 (if ((decide ((x0.length : Int) ≤ x1))) = true then
 (Z7V)
 else
 (Z7O x0 x1))
theorem ZdX (x0 : List Int) (x1 : Int) (ox0 : Own) : Sim (Z5j) (Z9T x0 x1) (EE 45 [(.p (.lst ox0 (x0.map (eI .u8)))), (iv x1)] []) := by
 unfold Z9T
 refine zf (ZkE ..) ?_
 refine ze ?_
 refine ze ?_
 refine zo (bv (decide (x1 < 0))) ?_
 refine za ((decide (x1 < 0))) ?_ ?_
 ·exact zk (Za1 )
 ·refine zo (iv (x0.length : Int)) ?_ (Eq.trans (by kernel_rfl) (xlen_of (P := PP) (t := 40) (d := 5) (by kernel_rfl) (eI .u8) (shrO ox0) x0))
  refine zo (bv (decide ((x0.length : Int) ≤ x1))) ?_
  refine za ((decide ((x0.length : Int) ≤ x1))) ?_ ?_
  ·exact zk (Za1 )
  ·exact zk (Zdb (x0) (x1) ox0)
theorem ZeG (x0 : List Int) (x1 : Int) {r} (h : Z9T x0 x1 = some r) : Z8p x0 x1 = some r :=
 pick_of (fun _ _ ha hb => RRun.uniq (Zf2) (ha .ex) (hb .ex)) (fun ox0 => ZdX x0 x1 ox0 r h)
end Go.Proofs.YtadodmjdkphddaaDoor.N2
end
section
set_option linter.unusedSimpArgs false
set_option linter.unusedVariables false
namespace Go.Proofs.YtadodmjdkphddaaDoor.N2
open Go Go.Abs
set_option linter.unusedVariables false
set_option maxRecDepth 100000
noncomputable def Z88 (x0 : Int) (x1 : List Z3) : Option (Z3) :=
 some ((Z3.mk x0 0 0 0 0 ([] : List Z8) x1))
theorem Zcj (x0 : Int) (x1 : List Z3) (b0 : Z3) (ox1 : Own) (z1d : Own) (z12 : Own) (zje : okApp z1d = true) (zhD : okApp z12 = true) : Sim (Z5V) (Z88 x0 x1) (Zgo 0 (iv x0) (.p (.lst ox1 (x1.map ZD))) (.ptr 0 0) [(Zo b0 z1d z12)]) := by
 unfold Z88
 refine zf (ZiE ..) ?_
 refine ze ?_
 refine zo (.p (.agg (Zz (Z3.mk x0 0 0 0 0 ([] : List Z8) x1) .nl (shrO (shrO ox1))))) ?_
 refine zt [(Zo (Z3.mk x0 0 0 0 0 ([] : List Z8) x1) .nl (shrO (shrO ox1)))] ?_
 exact zr ((.p (.agg (Zz (Z3.mk x0 0 0 0 0 ([] : List Z8) x1) .sh .sh))), [(Zo (Z3.mk x0 0 0 0 0 ([] : List Z8) x1) .nl (shrO (shrO ox1)))]) ⟨_, rfl⟩
noncomputable def Z7L (x0 : Int) (x1 : List Z3) : Option (Z3) :=
 if (((x1.length : Int) == 0)) = true then
 (some ((Z3.mk 0 0 0 0 0 ([] : List Z8) ([] : List Z3))))
 else
 (if (((x1.length : Int) == 1)) = true then
 ((lget x1 0).bind fun a1 =>
 some (a1))
 else
 (Z88 x0 x1))
theorem Zd2 (x0 : Int) (x1 : List Z3) (ox1 : Own) : Sim (Z5V) (Z7L x0 x1) (EE 36 [(iv x0), (.p (.lst ox1 (x1.map ZD)))] []) := by
 unfold Z7L
 refine zf (Zke ..) ?_
 refine ze ?_
 refine zz (.ptr 0 0) [(Zo (Z3.mk 0 0 0 0 0 ([] : List Z8) ([] : List Z3)) .nl .nl)] ?_
 refine ze ?_
 refine zo (iv (x1.length : Int)) ?_ (Eq.trans (by kernel_rfl) (xlen_of (P := PP) (t := 25) (d := 27) (by kernel_rfl) ZD (shrO ox1) x1))
 refine ze ?_
 refine zo (bv ((x1.length : Int) == 0)) ?_
 refine za (((x1.length : Int) == 0)) ?_ ?_
 ·refine ze ?_
  refine zo (.p (.agg (Zz (Z3.mk 0 0 0 0 0 ([] : List Z8) ([] : List Z3)) .nl .nl))) ?_
  refine zt [(Zo (Z3.mk 0 0 0 0 0 ([] : List Z8) ([] : List Z3)) .nl .nl)] ?_
  exact zr ((.p (.agg (Zz (Z3.mk 0 0 0 0 0 ([] : List Z8) ([] : List Z3)) .sh .sh))), [(Zo (Z3.mk 0 0 0 0 0 ([] : List Z8) ([] : List Z3)) .nl .nl)]) ⟨_, rfl⟩
 ·refine ze ?_
  refine zo (bv ((x1.length : Int) == 1)) ?_
  refine za (((x1.length : Int) == 1)) ?_ ?_
  ·refine ze ?_
   refine zi fun a1 ha1 => ?_
   refine zo (.cptr (Zz a1 .sh .sh)) ?_ (Eq.trans (by kernel_rfl) (xidx_of (o := (shrO ox1)) (k := .i64) (n := 7) (e := ZD) (cs := Z1T) Z3R (fun _ => rfl) (by decide) ha1))
   refine zo (.p (.agg (Zz a1 .sh .sh))) ?_
   refine zt [(Zo a1 .sh .sh)] ?_
   exact zr ((.p (.agg (Zz a1 .sh .sh))), [(Zo a1 .sh .sh)]) ⟨_, rfl⟩
  ·exact zk (Zcj (x0) (x1) ((Z3.mk 0 0 0 0 0 ([] : List Z8) ([] : List Z3))) ox1 .nl .nl rfl rfl)
theorem Zdx (x0 : Int) (x1 : List Z3) {r} (h : Z7L x0 x1 = some r) : Z6I x0 x1 = some r :=
 pick_of (fun _ _ ha hb => RRun.uniq (ZdH) (ha .ex) (hb .ex)) (fun ox1 => Zd2 x0 x1 ox1 r h)
noncomputable def Z1i (zp : Int) (z7 : Int) (zd : Int) (zh : List Zq) (z2 : Int) (z6 : Int) : Option (Z3 × Bool × Int × Int × Int × (List Zq) × Int × Int) :=
 some ((Z3.mk 0 0 0 0 0 ([] : List Z8) ([] : List Z3)), true, zp, z7, zd, zh, z2, z6)
theorem Z1l (zl : List Int) (zp : Int) (z7 : Int) (zd : Int) (zh : List Zq) (z2 : Int) (z6 : Int) (b1 : Z3) (zn : Own) (zb : Own) (zB : Own) (zy : Own) (zu : okApp zb = true) (zP : okApp zB = true) (zI : okApp zy = true) : Sim (Z4e zl zn) (Z1i zp z7 zd zh z2 z6) (Z5v 1 (.ptr 1 0) [(Zi (Zk.mk zl zp z7 zd zh (Zj.mk z2 z6)) zn zb), (Zo b1 zB zy)]) := by
 unfold Z1i
 refine zf (Zh5 ..) ?_
 refine ze ?_
 refine zo (.p (.agg (Zz (Z3.mk 0 0 0 0 0 ([] : List Z8) ([] : List Z3)) .nl .nl))) ?_
 refine zt [(Zi (Zk.mk zl zp z7 zd zh (Zj.mk z2 z6)) zn zb), (Zo (Z3.mk 0 0 0 0 0 ([] : List Z8) ([] : List Z3)) .nl .nl)] ?_
 exact zr ((.p (.tup [(.agg (Zz (Z3.mk 0 0 0 0 0 ([] : List Z8) ([] : List Z3)) .sh .sh)), (.v (.bool true))])), [(Zi (Zk.mk zl zp z7 zd zh (Zj.mk z2 z6)) zn zb), (Zo (Z3.mk 0 0 0 0 0 ([] : List Z8) ([] : List Z3)) .nl .nl)]) ⟨zb, _, zu, rfl⟩
noncomputable def Z54 (zl : List Int) (zp : Int) (z7 : Int) (zd : Int) (zh : List Zq) (z2 : Int) (z6 : Int) : Option (Z3 × Bool × Int × Int × Int × (List Zq) × Int × Int) :=
 (Z25 zl zp).bind fun r1 =>
 if ((r1.1 == 46)) = true then
 ((Z1A 10).bind fun r2 =>
 (Z2I true (([r2] : List Z8))).bind fun r3 =>
 some (r3, true, r1.2, z7, zd, zh, z2, z6))
 else
 (if ((r1.1 == 94)) = true then
 (some ((Z3.mk 9 0 0 0 0 ([] : List Z8) ([] : List Z3)), false, r1.2, z7, zd, zh, z2, z6))
 else
 (if ((r1.1 == 36)) = true then
 (some ((Z3.mk 9 0 0 0 1 ([] : List Z8) ([] : List Z3)), false, r1.2, z7, zd, zh, z2, z6))
 else
 (if ((r1.1 == 92)) = true then
 ((Z38 zp zl r1.2 z7 zd zh z2 z6).bind fun r4 =>
 some (r4.1, (r4.1.Kind != 9), r4.2.1, z7, zd, r4.2.2.1, r4.2.2.2.1, r4.2.2.2.2))
 else
 (if ((r1.1 == 91)) = true then
 ((Z5Q zp zl r1.2 z7 zd zh z2 z6).bind fun r5 =>
 some (r5.1, true, r5.2.1, z7, zd, zh, r5.2.2.1, r5.2.2.2))
 else
 (if ((r1.1 == 40)) = true then
 ((Z3c zp zl r1.2 z7 zd zh z2 z6).bind fun r6 =>
 some (r6.1, r6.2.1, r6.2.2.1, r6.2.2.2.1, r6.2.2.2.2.1, r6.2.2.2.2.2.1, r6.2.2.2.2.2.2.1, r6.2.2.2.2.2.2.2))
 else
 (if ((r1.1 == 42)) = true then
 (if ((r1.1 == 42)) = true then
 ((ZS 23 zp zl z2 z6).bind fun r7 =>
 Z1i r7.1 z7 zd zh r7.2.1 r7.2.2)
 else
 (if ((r1.1 == 93)) = true then
 (if ((r1.1 == 93)) = true then
 ((ZS 20 zp zl z2 z6).bind fun r8 =>
 Z1i r8.1 z7 zd zh r8.2.1 r8.2.2)
 else
 ((Z1A r1.1).bind fun r9 =>
 (Z2I false (([r9] : List Z8))).bind fun r10 =>
 some (r10, true, r1.2, z7, zd, zh, z2, z6)))
 else
 (if ((r1.1 == 125)) = true then
 ((ZS 20 zp zl z2 z6).bind fun r11 =>
 Z1i r11.1 z7 zd zh r11.2.1 r11.2.2)
 else
 ((Z1A r1.1).bind fun r12 =>
 (Z2I false (([r12] : List Z8))).bind fun r13 =>
 some (r13, true, r1.2, z7, zd, zh, z2, z6)))))
 else
 (if ((r1.1 == 43)) = true then
 (if ((r1.1 == 43)) = true then
 ((ZS 23 zp zl z2 z6).bind fun r14 =>
 Z1i r14.1 z7 zd zh r14.2.1 r14.2.2)
 else
 (if ((r1.1 == 93)) = true then
 (if ((r1.1 == 93)) = true then
 ((ZS 20 zp zl z2 z6).bind fun r15 =>
 Z1i r15.1 z7 zd zh r15.2.1 r15.2.2)
 else
 ((Z1A r1.1).bind fun r16 =>
 (Z2I false (([r16] : List Z8))).bind fun r17 =>
 some (r17, true, r1.2, z7, zd, zh, z2, z6)))
 else
 (if ((r1.1 == 125)) = true then
 ((ZS 20 zp zl z2 z6).bind fun r18 =>
 Z1i r18.1 z7 zd zh r18.2.1 r18.2.2)
 else
 ((Z1A r1.1).bind fun r19 =>
 (Z2I false (([r19] : List Z8))).bind fun r20 =>
 some (r20, true, r1.2, z7, zd, zh, z2, z6)))))
 else
 (if ((r1.1 == 63)) = true then
 (if ((r1.1 == 63)) = true then
 ((ZS 23 zp zl z2 z6).bind fun r21 =>
 Z1i r21.1 z7 zd zh r21.2.1 r21.2.2)
 else
 (if ((r1.1 == 93)) = true then
 (if ((r1.1 == 93)) = true then
 ((ZS 20 zp zl z2 z6).bind fun r22 =>
 Z1i r22.1 z7 zd zh r22.2.1 r22.2.2)
 else
 ((Z1A r1.1).bind fun r23 =>
 (Z2I false (([r23] : List Z8))).bind fun r24 =>
 some (r24, true, r1.2, z7, zd, zh, z2, z6)))
 else
 (if ((r1.1 == 125)) = true then
 ((ZS 20 zp zl z2 z6).bind fun r25 =>
 Z1i r25.1 z7 zd zh r25.2.1 r25.2.2)
 else
 ((Z1A r1.1).bind fun r26 =>
 (Z2I false (([r26] : List Z8))).bind fun r27 =>
 some (r27, true, r1.2, z7, zd, zh, z2, z6)))))
 else
 (if ((r1.1 == 123)) = true then
 ((ZS 23 zp zl z2 z6).bind fun r28 =>
 Z1i r28.1 z7 zd zh r28.2.1 r28.2.2)
 else
 (if ((r1.1 == 93)) = true then
 (if ((r1.1 == 93)) = true then
 ((ZS 20 zp zl z2 z6).bind fun r29 =>
 Z1i r29.1 z7 zd zh r29.2.1 r29.2.2)
 else
 ((Z1A r1.1).bind fun r30 =>
 (Z2I false (([r30] : List Z8))).bind fun r31 =>
 some (r31, true, r1.2, z7, zd, zh, z2, z6)))
 else
 (if ((r1.1 == 125)) = true then
 ((ZS 20 zp zl z2 z6).bind fun r32 =>
 Z1i r32.1 z7 zd zh r32.2.1 r32.2.2)
 else
 ((Z1A r1.1).bind fun r33 =>
 (Z2I false (([r33] : List Z8))).bind fun r34 =>
 some (r34, true, r1.2, z7, zd, zh, z2, z6)))))))))))))
theorem Zbf (zl : List Int) (zp : Int) (z7 : Int) (zd : Int) (zh : List Zq) (z2 : Int) (z6 : Int) (zn : Own) (zb : Own) (zu : okApp zb = true) : Sim (Z4e zl zn) (Z54 zl zp z7 zd zh z2 z6) (EE 42 [(.ptr 0 0)] [(Zi (Zk.mk zl zp z7 zd zh (Zj.mk z2 z6)) zn zb)]) := by
 unfold Z54
 refine zf (ZkV ..) ?_
 refine ze ?_
 refine zz (.ptr 1 0) [(Zi (Zk.mk zl zp z7 zd zh (Zj.mk z2 z6)) zn zb), (Zo (Z3.mk 0 0 0 0 0 ([] : List Z8) ([] : List Z3)) .nl .nl)] ?_
 refine ze ?_
 refine zo (.ptr 0 0) ?_
 refine zo (.ptr 0 1) ?_
 refine zo (iv zp) ?_
 refine ze ?_
 refine zi fun r1 hr1 => ?_
 obtain ⟨qr1, er1, exr1, rfl⟩ := Z2t (zl) (zp) (z7) (zd) (zh) (z2) (z6) zn zb zu r1 hr1
 refine zc [0] (iv r1.1) [(Zi (Zk.mk zl r1.2 z7 zd zh (Zj.mk z2 z6)) zn zb), (Zo (Z3.mk 0 0 0 0 0 ([] : List Z8) ([] : List Z3)) .nl .nl)] er1 ?_
 refine ze ?_
 refine ze ?_
 refine zo (bv (r1.1 == 46)) ?_
 refine za ((r1.1 == 46)) ?_ ?_
 ·refine ze ?_
  refine zi fun r2 hr2 => ?_
  obtain ⟨qr2, er2, exr2, rfl⟩ := Z1v (10) r2 hr2
  refine zc [] (.p (.agg (ZF r2))) [(Zi (Zk.mk zl r1.2 z7 zd zh (Zj.mk z2 z6)) zn zb), (Zo (Z3.mk 0 0 0 0 0 ([] : List Z8) ([] : List Z3)) .nl .nl)] er2 ?_
  refine zo (.p (.lst .ex (([r2] : List Z8).map Zv))) ?_
  refine zi fun r3 hr3 => ?_
  obtain ⟨qr3, er3, exr3, rfl⟩ := Z2R (true) (([r2] : List Z8)) .sh r3 hr3
  refine zc [] (.p (.agg (Zz r3 .sh .sh))) [(Zi (Zk.mk zl r1.2 z7 zd zh (Zj.mk z2 z6)) zn zb), (Zo (Z3.mk 0 0 0 0 0 ([] : List Z8) ([] : List Z3)) .nl .nl)] er3 ?_
  refine zt [(Zi (Zk.mk zl r1.2 z7 zd zh (Zj.mk z2 z6)) zn zb), (Zo r3 .sh .sh)] ?_
  exact zr ((.p (.tup [(.agg (Zz r3 .sh .sh)), (.v (.bool true))])), [(Zi (Zk.mk zl r1.2 z7 zd zh (Zj.mk z2 z6)) zn zb), (Zo r3 .sh .sh)]) ⟨zb, _, zu, rfl⟩
 ·refine ze ?_
  refine zo (bv (r1.1 == 94)) ?_
  refine za ((r1.1 == 94)) ?_ ?_
  ·refine ze ?_
   refine zo (.p (.agg (Zz (Z3.mk 9 0 0 0 0 ([] : List Z8) ([] : List Z3)) .nl .nl))) ?_
   refine zt [(Zi (Zk.mk zl r1.2 z7 zd zh (Zj.mk z2 z6)) zn zb), (Zo (Z3.mk 9 0 0 0 0 ([] : List Z8) ([] : List Z3)) .nl .nl)] ?_
   exact zr ((.p (.tup [(.agg (Zz (Z3.mk 9 0 0 0 0 ([] : List Z8) ([] : List Z3)) .sh .sh)), (.v (.bool false))])), [(Zi (Zk.mk zl r1.2 z7 zd zh (Zj.mk z2 z6)) zn zb), (Zo (Z3.mk 9 0 0 0 0 ([] : List Z8) ([] : List Z3)) .nl .nl)]) ⟨zb, _, zu, rfl⟩
  ·refine ze ?_
   refine zo (bv (r1.1 == 36)) ?_
   refine za ((r1.1 == 36)) ?_ ?_
   ·refine ze ?_
    refine zo (.p (.agg (Zz (Z3.mk 9 0 0 0 1 ([] : List Z8) ([] : List Z3)) .nl .nl))) ?_
    refine zt [(Zi (Zk.mk zl r1.2 z7 zd zh (Zj.mk z2 z6)) zn zb), (Zo (Z3.mk 9 0 0 0 1 ([] : List Z8) ([] : List Z3)) .nl .nl)] ?_
    exact zr ((.p (.tup [(.agg (Zz (Z3.mk 9 0 0 0 1 ([] : List Z8) ([] : List Z3)) .sh .sh)), (.v (.bool false))])), [(Zi (Zk.mk zl r1.2 z7 zd zh (Zj.mk z2 z6)) zn zb), (Zo (Z3.mk 9 0 0 0 1 ([] : List Z8) ([] : List Z3)) .nl .nl)]) ⟨zb, _, zu, rfl⟩
   ·refine ze ?_
    refine zo (bv (r1.1 == 92)) ?_
    refine za ((r1.1 == 92)) ?_ ?_
    ·refine ze ?_
     refine zi fun r4 hr4 => ?_
     obtain ⟨qr4, er4, or4_0_4, exr4, hor4_0_4, rfl⟩ := ZaR (zp) (zl) (r1.2) (z7) (zd) (zh) (z2) (z6) zn zb zu r4 hr4
     refine zc [0] (.p (.agg (Zz r4.1 .sh .sh))) [(Zi (Zk.mk zl r4.2.1 z7 zd r4.2.2.1 (Zj.mk r4.2.2.2.1 r4.2.2.2.2)) zn or4_0_4), (Zo (Z3.mk 0 0 0 0 0 ([] : List Z8) ([] : List Z3)) .nl .nl)] er4 ?_
     refine zz (.ptr 2 0) [(Zi (Zk.mk zl r4.2.1 z7 zd r4.2.2.1 (Zj.mk r4.2.2.2.1 r4.2.2.2.2)) zn or4_0_4), (Zo (Z3.mk 0 0 0 0 0 ([] : List Z8) ([] : List Z3)) .nl .nl), (Zo (Z3.mk 0 0 0 0 0 ([] : List Z8) ([] : List Z3)) .nl .nl)] ?_
     refine zt [(Zi (Zk.mk zl r4.2.1 z7 zd r4.2.2.1 (Zj.mk r4.2.2.2.1 r4.2.2.2.2)) zn or4_0_4), (Zo (Z3.mk 0 0 0 0 0 ([] : List Z8) ([] : List Z3)) .nl .nl), (Zo r4.1 .sh .sh)] ?_
     refine ze ?_
     refine zo (.p (.agg (Zz r4.1 .sh .sh))) ?_
     refine zo (.ptr 2 0) ?_
     refine zo (iv r4.1.Kind) ?_
     refine zo (bv (r4.1.Kind != 9)) ?_
     refine zt [(Zi (Zk.mk zl r4.2.1 z7 zd r4.2.2.1 (Zj.mk r4.2.2.2.1 r4.2.2.2.2)) zn or4_0_4), (Zo r4.1 .sh .sh), (Zo r4.1 .sh .sh)] ?_
     refine zg ?_
     exact zr ((.p (.tup [(.agg (Zz r4.1 .sh .sh)), (.v (.bool (r4.1.Kind != 9)))])), [(Zi (Zk.mk zl r4.2.1 z7 zd r4.2.2.1 (Zj.mk r4.2.2.2.1 r4.2.2.2.2)) zn or4_0_4), (Zo r4.1 .sh .sh), (Zo r4.1 .sh .sh)]) ⟨or4_0_4, _, hor4_0_4, rfl⟩
    ·refine ze ?_
     refine zo (bv (r1.1 == 91)) ?_
     refine za ((r1.1 == 91)) ?_ ?_
     ·refine ze ?_
      refine zi fun r5 hr5 => ?_
      obtain ⟨qr5, er5, exr5, rfl⟩ := Zbh (zp) (zl) (r1.2) (z7) (zd) (zh) (z2) (z6) zn zb zu r5 hr5
      refine zc [0] (.p (.agg (Zz r5.1 .sh .sh))) [(Zi (Zk.mk zl r5.2.1 z7 zd zh (Zj.mk r5.2.2.1 r5.2.2.2)) zn zb), (Zo (Z3.mk 0 0 0 0 0 ([] : List Z8) ([] : List Z3)) .nl .nl)] er5 ?_
      refine zt [(Zi (Zk.mk zl r5.2.1 z7 zd zh (Zj.mk r5.2.2.1 r5.2.2.2)) zn zb), (Zo r5.1 .sh .sh)] ?_
      exact zr ((.p (.tup [(.agg (Zz r5.1 .sh .sh)), (.v (.bool true))])), [(Zi (Zk.mk zl r5.2.1 z7 zd zh (Zj.mk r5.2.2.1 r5.2.2.2)) zn zb), (Zo r5.1 .sh .sh)]) ⟨zb, _, zu, rfl⟩
     ·refine ze ?_
      refine zo (bv (r1.1 == 40)) ?_
      refine za ((r1.1 == 40)) ?_ ?_
      ·refine ze ?_
       refine zi fun r6 hr6 => ?_
       obtain ⟨qr6, er6, or6_0_4, exr6, hor6_0_4, rfl⟩ := Zb2 (zp) (zl) (r1.2) (z7) (zd) (zh) (z2) (z6) zn zb zu r6 hr6
       refine zc [0] (.p (.tup [(.agg (Zz r6.1 .sh .sh)), (.v (.bool r6.2.1))])) [(Zi (Zk.mk zl r6.2.2.1 r6.2.2.2.1 r6.2.2.2.2.1 r6.2.2.2.2.2.1 (Zj.mk r6.2.2.2.2.2.2.1 r6.2.2.2.2.2.2.2)) zn or6_0_4), (Zo (Z3.mk 0 0 0 0 0 ([] : List Z8) ([] : List Z3)) .nl .nl)] er6 ?_
       refine zo (.p (.agg (Zz r6.1 .sh .sh))) ?_
       refine zo (bv r6.2.1) ?_
       refine zt [(Zi (Zk.mk zl r6.2.2.1 r6.2.2.2.1 r6.2.2.2.2.1 r6.2.2.2.2.2.1 (Zj.mk r6.2.2.2.2.2.2.1 r6.2.2.2.2.2.2.2)) zn or6_0_4), (Zo r6.1 .sh .sh)] ?_
       exact zr ((.p (.tup [(.agg (Zz r6.1 .sh .sh)), (.v (.bool r6.2.1))])), [(Zi (Zk.mk zl r6.2.2.1 r6.2.2.2.1 r6.2.2.2.2.1 r6.2.2.2.2.2.1 (Zj.mk r6.2.2.2.2.2.2.1 r6.2.2.2.2.2.2.2)) zn or6_0_4), (Zo r6.1 .sh .sh)]) ⟨or6_0_4, _, hor6_0_4, rfl⟩
      ·refine ze ?_
       refine zo (bv (r1.1 == 42)) ?_
       refine za ((r1.1 == 42)) ?_ ?_
       ·refine za ((r1.1 == 42)) ?_ ?_
        ·refine ze ?_
         refine zi fun r7 hr7 => ?_
         obtain ⟨qr7, er7, exr7, rfl⟩ := ZV (23) (zp) (zl) (r1.2) (z7) (zd) (zh) (z2) (z6) zn zb zu r7 hr7
         refine zc [0] (.p (.tup [])) [(Zi (Zk.mk zl r7.1 z7 zd zh (Zj.mk r7.2.1 r7.2.2)) zn zb), (Zo (Z3.mk 0 0 0 0 0 ([] : List Z8) ([] : List Z3)) .nl .nl)] er7 ?_
         exact zk (Z1l (zl) (r7.1) (z7) (zd) (zh) (r7.2.1) (r7.2.2) ((Z3.mk 0 0 0 0 0 ([] : List Z8) ([] : List Z3))) zn zb .nl .nl zu rfl rfl)
        ·refine ze ?_
         refine zo (bv (r1.1 == 93)) ?_
         refine za ((r1.1 == 93)) ?_ ?_
         ·refine za ((r1.1 == 93)) ?_ ?_
          ·refine ze ?_
           refine zi fun r8 hr8 => ?_
           obtain ⟨qr8, er8, exr8, rfl⟩ := ZV (20) (zp) (zl) (r1.2) (z7) (zd) (zh) (z2) (z6) zn zb zu r8 hr8
           refine zc [0] (.p (.tup [])) [(Zi (Zk.mk zl r8.1 z7 zd zh (Zj.mk r8.2.1 r8.2.2)) zn zb), (Zo (Z3.mk 0 0 0 0 0 ([] : List Z8) ([] : List Z3)) .nl .nl)] er8 ?_
           exact zk (Z1l (zl) (r8.1) (z7) (zd) (zh) (r8.2.1) (r8.2.2) ((Z3.mk 0 0 0 0 0 ([] : List Z8) ([] : List Z3))) zn zb .nl .nl zu rfl rfl)
          ·refine ze ?_
           refine zi fun r9 hr9 => ?_
           obtain ⟨qr9, er9, exr9, rfl⟩ := Z1v (r1.1) r9 hr9
           refine zc [] (.p (.agg (ZF r9))) [(Zi (Zk.mk zl r1.2 z7 zd zh (Zj.mk z2 z6)) zn zb), (Zo (Z3.mk 0 0 0 0 0 ([] : List Z8) ([] : List Z3)) .nl .nl)] er9 ?_
           refine zo (.p (.lst .ex (([r9] : List Z8).map Zv))) ?_
           refine zi fun r10 hr10 => ?_
           obtain ⟨qr10, er10, exr10, rfl⟩ := Z2R (false) (([r9] : List Z8)) .sh r10 hr10
           refine zc [] (.p (.agg (Zz r10 .sh .sh))) [(Zi (Zk.mk zl r1.2 z7 zd zh (Zj.mk z2 z6)) zn zb), (Zo (Z3.mk 0 0 0 0 0 ([] : List Z8) ([] : List Z3)) .nl .nl)] er10 ?_
           refine zt [(Zi (Zk.mk zl r1.2 z7 zd zh (Zj.mk z2 z6)) zn zb), (Zo r10 .sh .sh)] ?_
           exact zr ((.p (.tup [(.agg (Zz r10 .sh .sh)), (.v (.bool true))])), [(Zi (Zk.mk zl r1.2 z7 zd zh (Zj.mk z2 z6)) zn zb), (Zo r10 .sh .sh)]) ⟨zb, _, zu, rfl⟩
         ·refine ze ?_
          refine zo (bv (r1.1 == 125)) ?_
          refine za ((r1.1 == 125)) ?_ ?_
          ·refine ze ?_
           refine zi fun r11 hr11 => ?_
           obtain ⟨qr11, er11, exr11, rfl⟩ := ZV (20) (zp) (zl) (r1.2) (z7) (zd) (zh) (z2) (z6) zn zb zu r11 hr11
           refine zc [0] (.p (.tup [])) [(Zi (Zk.mk zl r11.1 z7 zd zh (Zj.mk r11.2.1 r11.2.2)) zn zb), (Zo (Z3.mk 0 0 0 0 0 ([] : List Z8) ([] : List Z3)) .nl .nl)] er11 ?_
           exact zk (Z1l (zl) (r11.1) (z7) (zd) (zh) (r11.2.1) (r11.2.2) ((Z3.mk 0 0 0 0 0 ([] : List Z8) ([] : List Z3))) zn zb .nl .nl zu rfl rfl)
          ·refine ze ?_
           refine zi fun r12 hr12 => ?_
           obtain ⟨qr12, er12, exr12, rfl⟩ := Z1v (r1.1) r12 hr12
           refine zc [] (.p (.agg (ZF r12))) [(Zi (Zk.mk zl r1.2 z7 zd zh (Zj.mk z2 z6)) zn zb), (Zo (Z3.mk 0 0 0 0 0 ([] : List Z8) ([] : List Z3)) .nl .nl)] er12 ?_
           refine zo (.p (.lst .ex (([r12] : List Z8).map Zv))) ?_
           refine zi fun r13 hr13 => ?_
           obtain ⟨qr13, er13, exr13, rfl⟩ := Z2R (false) (([r12] : List Z8)) .sh r13 hr13
           refine zc [] (.p (.agg (Zz r13 .sh .sh))) [(Zi (Zk.mk zl r1.2 z7 zd zh (Zj.mk z2 z6)) zn zb), (Zo (Z3.mk 0 0 0 0 0 ([] : List Z8) ([] : List Z3)) .nl .nl)] er13 ?_
           refine zt [(Zi (Zk.mk zl r1.2 z7 zd zh (Zj.mk z2 z6)) zn zb), (Zo r13 .sh .sh)] ?_
           exact zr ((.p (.tup [(.agg (Zz r13 .sh .sh)), (.v (.bool true))])), [(Zi (Zk.mk zl r1.2 z7 zd zh (Zj.mk z2 z6)) zn zb), (Zo r13 .sh .sh)]) ⟨zb, _, zu, rfl⟩
       ·refine ze ?_
        refine zo (bv (r1.1 == 43)) ?_
        refine za ((r1.1 == 43)) ?_ ?_
        ·refine za ((r1.1 == 43)) ?_ ?_
         ·refine ze ?_
          refine zi fun r14 hr14 => ?_
          obtain ⟨qr14, er14, exr14, rfl⟩ := ZV (23) (zp) (zl) (r1.2) (z7) (zd) (zh) (z2) (z6) zn zb zu r14 hr14
          refine zc [0] (.p (.tup [])) [(Zi (Zk.mk zl r14.1 z7 zd zh (Zj.mk r14.2.1 r14.2.2)) zn zb), (Zo (Z3.mk 0 0 0 0 0 ([] : List Z8) ([] : List Z3)) .nl .nl)] er14 ?_
          exact zk (Z1l (zl) (r14.1) (z7) (zd) (zh) (r14.2.1) (r14.2.2) ((Z3.mk 0 0 0 0 0 ([] : List Z8) ([] : List Z3))) zn zb .nl .nl zu rfl rfl)
         ·refine ze ?_
          refine zo (bv (r1.1 == 93)) ?_
          refine za ((r1.1 == 93)) ?_ ?_
          ·refine za ((r1.1 == 93)) ?_ ?_
           ·refine ze ?_
            refine zi fun r15 hr15 => ?_
            obtain ⟨qr15, er15, exr15, rfl⟩ := ZV (20) (zp) (zl) (r1.2) (z7) (zd) (zh) (z2) (z6) zn zb zu r15 hr15
            refine zc [0] (.p (.tup [])) [(Zi (Zk.mk zl r15.1 z7 zd zh (Zj.mk r15.2.1 r15.2.2)) zn zb), (Zo (Z3.mk 0 0 0 0 0 ([] : List Z8) ([] : List Z3)) .nl .nl)] er15 ?_
            exact zk (Z1l (zl) (r15.1) (z7) (zd) (zh) (r15.2.1) (r15.2.2) ((Z3.mk 0 0 0 0 0 ([] : List Z8) ([] : List Z3))) zn zb .nl .nl zu rfl rfl)
           ·refine ze ?_
            refine zi fun r16 hr16 => ?_
            obtain ⟨qr16, er16, exr16, rfl⟩ := Z1v (r1.1) r16 hr16
            refine zc [] (.p (.agg (ZF r16))) [(Zi (Zk.mk zl r1.2 z7 zd zh (Zj.mk z2 z6)) zn zb), (Zo (Z3.mk 0 0 0 0 0 ([] : List Z8) ([] : List Z3)) .nl .nl)] er16 ?_
            refine zo (.p (.lst .ex (([r16] : List Z8).map Zv))) ?_
            refine zi fun r17 hr17 => ?_
            obtain ⟨qr17, er17, exr17, rfl⟩ := Z2R (false) (([r16] : List Z8)) .sh r17 hr17
            refine zc [] (.p (.agg (Zz r17 .sh .sh))) [(Zi (Zk.mk zl r1.2 z7 zd zh (Zj.mk z2 z6)) zn zb), (Zo (Z3.mk 0 0 0 0 0 ([] : List Z8) ([] : List Z3)) .nl .nl)] er17 ?_
            refine zt [(Zi (Zk.mk zl r1.2 z7 zd zh (Zj.mk z2 z6)) zn zb), (Zo r17 .sh .sh)] ?_
            exact zr ((.p (.tup [(.agg (Zz r17 .sh .sh)), (.v (.bool true))])), [(Zi (Zk.mk zl r1.2 z7 zd zh (Zj.mk z2 z6)) zn zb), (Zo r17 .sh .sh)]) ⟨zb, _, zu, rfl⟩
          ·refine ze ?_
           refine zo (bv (r1.1 == 125)) ?_
           refine za ((r1.1 == 125)) ?_ ?_
           ·refine ze ?_
            refine zi fun r18 hr18 => ?_
            obtain ⟨qr18, er18, exr18, rfl⟩ := ZV (20) (zp) (zl) (r1.2) (z7) (zd) (zh) (z2) (z6) zn zb zu r18 hr18
            refine zc [0] (.p (.tup [])) [(Zi (Zk.mk zl r18.1 z7 zd zh (Zj.mk r18.2.1 r18.2.2)) zn zb), (Zo (Z3.mk 0 0 0 0 0 ([] : List Z8) ([] : List Z3)) .nl .nl)] er18 ?_
            exact zk (Z1l (zl) (r18.1) (z7) (zd) (zh) (r18.2.1) (r18.2.2) ((Z3.mk 0 0 0 0 0 ([] : List Z8) ([] : List Z3))) zn zb .nl .nl zu rfl rfl)
           ·refine ze ?_
            refine zi fun r19 hr19 => ?_
            obtain ⟨qr19, er19, exr19, rfl⟩ := Z1v (r1.1) r19 hr19
            refine zc [] (.p (.agg (ZF r19))) [(Zi (Zk.mk zl r1.2 z7 zd zh (Zj.mk z2 z6)) zn zb), (Zo (Z3.mk 0 0 0 0 0 ([] : List Z8) ([] : List Z3)) .nl .nl)] er19 ?_
            refine zo (.p (.lst .ex (([r19] : List Z8).map Zv))) ?_
            refine zi fun r20 hr20 => ?_
            obtain ⟨qr20, er20, exr20, rfl⟩ := Z2R (false) (([r19] : List Z8)) .sh r20 hr20
            refine zc [] (.p (.agg (Zz r20 .sh .sh))) [(Zi (Zk.mk zl r1.2 z7 zd zh (Zj.mk z2 z6)) zn zb), (Zo (Z3.mk 0 0 0 0 0 ([] : List Z8) ([] : List Z3)) .nl .nl)] er20 ?_
            refine zt [(Zi (Zk.mk zl r1.2 z7 zd zh (Zj.mk z2 z6)) zn zb), (Zo r20 .sh .sh)] ?_
            exact zr ((.p (.tup [(.agg (Zz r20 .sh .sh)), (.v (.bool true))])), [(Zi (Zk.mk zl r1.2 z7 zd zh (Zj.mk z2 z6)) zn zb), (Zo r20 .sh .sh)]) ⟨zb, _, zu, rfl⟩
        ·refine ze ?_
         refine zo (bv (r1.1 == 63)) ?_
         refine za ((r1.1 == 63)) ?_ ?_
         ·refine za ((r1.1 == 63)) ?_ ?_
          ·refine ze ?_
           refine zi fun r21 hr21 => ?_
           obtain ⟨qr21, er21, exr21, rfl⟩ := ZV (23) (zp) (zl) (r1.2) (z7) (zd) (zh) (z2) (z6) zn zb zu r21 hr21
           refine zc [0] (.p (.tup [])) [(Zi (Zk.mk zl r21.1 z7 zd zh (Zj.mk r21.2.1 r21.2.2)) zn zb), (Zo (Z3.mk 0 0 0 0 0 ([] : List Z8) ([] : List Z3)) .nl .nl)] er21 ?_
           exact zk (Z1l (zl) (r21.1) (z7) (zd) (zh) (r21.2.1) (r21.2.2) ((Z3.mk 0 0 0 0 0 ([] : List Z8) ([] : List Z3))) zn zb .nl .nl zu rfl rfl)
          ·refine ze ?_
           refine zo (bv (r1.1 == 93)) ?_
           refine za ((r1.1 == 93)) ?_ ?_
           ·refine za ((r1.1 == 93)) ?_ ?_
            ·refine ze ?_
             refine zi fun r22 hr22 => ?_
             obtain ⟨qr22, er22, exr22, rfl⟩ := ZV (20) (zp) (zl) (r1.2) (z7) (zd) (zh) (z2) (z6) zn zb zu r22 hr22
             refine zc [0] (.p (.tup [])) [(Zi (Zk.mk zl r22.1 z7 zd zh (Zj.mk r22.2.1 r22.2.2)) zn zb), (Zo (Z3.mk 0 0 0 0 0 ([] : List Z8) ([] : List Z3)) .nl .nl)] er22 ?_
             exact zk (Z1l (zl) (r22.1) (z7) (zd) (zh) (r22.2.1) (r22.2.2) ((Z3.mk 0 0 0 0 0 ([] : List Z8) ([] : List Z3))) zn zb .nl .nl zu rfl rfl)
            ·refine ze ?_
             refine zi fun r23 hr23 => ?_
             obtain ⟨qr23, er23, exr23, rfl⟩ := Z1v (r1.1) r23 hr23
             refine zc [] (.p (.agg (ZF r23))) [(Zi (Zk.mk zl r1.2 z7 zd zh (Zj.mk z2 z6)) zn zb), (Zo (Z3.mk 0 0 0 0 0 ([] : List Z8) ([] : List Z3)) .nl .nl)] er23 ?_
             refine zo (.p (.lst .ex (([r23] : List Z8).map Zv))) ?_
             refine zi fun r24 hr24 => ?_
             obtain ⟨qr24, er24, exr24, rfl⟩ := Z2R (false) (([r23] : List Z8)) .sh r24 hr24
             refine zc [] (.p (.agg (Zz r24 .sh .sh))) [(Zi (Zk.mk zl r1.2 z7 zd zh (Zj.mk z2 z6)) zn zb), (Zo (Z3.mk 0 0 0 0 0 ([] : List Z8) ([] : List Z3)) .nl .nl)] er24 ?_
             refine zt [(Zi (Zk.mk zl r1.2 z7 zd zh (Zj.mk z2 z6)) zn zb), (Zo r24 .sh .sh)] ?_
             exact zr ((.p (.tup [(.agg (Zz r24 .sh .sh)), (.v (.bool true))])), [(Zi (Zk.mk zl r1.2 z7 zd zh (Zj.mk z2 z6)) zn zb), (Zo r24 .sh .sh)]) ⟨zb, _, zu, rfl⟩
           ·refine ze ?_
            refine zo (bv (r1.1 == 125)) ?_
            refine za ((r1.1 == 125)) ?_ ?_
            ·refine ze ?_
             refine zi fun r25 hr25 => ?_
             obtain ⟨qr25, er25, exr25, rfl⟩ := ZV (20) (zp) (zl) (r1.2) (z7) (zd) (zh) (z2) (z6) zn zb zu r25 hr25
             refine zc [0] (.p (.tup [])) [(Zi (Zk.mk zl r25.1 z7 zd zh (Zj.mk r25.2.1 r25.2.2)) zn zb), (Zo (Z3.mk 0 0 0 0 0 ([] : List Z8) ([] : List Z3)) .nl .nl)] er25 ?_
             exact zk (Z1l (zl) (r25.1) (z7) (zd) (zh) (r25.2.1) (r25.2.2) ((Z3.mk 0 0 0 0 0 ([] : List Z8) ([] : List Z3))) zn zb .nl .nl zu rfl rfl)
            ·refine ze ?_
             refine zi fun r26 hr26 => ?_
             obtain ⟨qr26, er26, exr26, rfl⟩ := Z1v (r1.1) r26 hr26
             refine zc [] (.p (.agg (ZF r26))) [(Zi (Zk.mk zl r1.2 z7 zd zh (Zj.mk z2 z6)) zn zb), (Zo (Z3.mk 0 0 0 0 0 ([] : List Z8) ([] : List Z3)) .nl .nl)] er26 ?_
             refine zo (.p (.lst .ex (([r26] : List Z8).map Zv))) ?_
             refine zi fun r27 hr27 => ?_
             obtain ⟨qr27, er27, exr27, rfl⟩ := Z2R (false) (([r26] : List Z8)) .sh r27 hr27
             refine zc [] (.p (.agg (Zz r27 .sh .sh))) [(Zi (Zk.mk zl r1.2 z7 zd zh (Zj.mk z2 z6)) zn zb), (Zo (Z3.mk 0 0 0 0 0 ([] : List Z8) ([] : List Z3)) .nl .nl)] er27 ?_
             refine zt [(Zi (Zk.mk zl r1.2 z7 zd zh (Zj.mk z2 z6)) zn zb), (Zo r27 .sh .sh)] ?_
             exact zr ((.p (.tup [(.agg (Zz r27 .sh .sh)), (.v (.bool true))])), [(Zi (Zk.mk zl r1.2 z7 zd zh (Zj.mk z2 z6)) zn zb), (Zo r27 .sh .sh)]) ⟨zb, _, zu, rfl⟩
         ·refine ze ?_
          refine zo (bv (r1.1 == 123)) ?_
          refine za ((r1.1 == 123)) ?_ ?_
          ·refine ze ?_
           refine zi fun r28 hr28 => ?_
           obtain ⟨qr28, er28, exr28, rfl⟩ := ZV (23) (zp) (zl) (r1.2) (z7) (zd) (zh) (z2) (z6) zn zb zu r28 hr28
           refine zc [0] (.p (.tup [])) [(Zi (Zk.mk zl r28.1 z7 zd zh (Zj.mk r28.2.1 r28.2.2)) zn zb), (Zo (Z3.mk 0 0 0 0 0 ([] : List Z8) ([] : List Z3)) .nl .nl)] er28 ?_
           exact zk (Z1l (zl) (r28.1) (z7) (zd) (zh) (r28.2.1) (r28.2.2) ((Z3.mk 0 0 0 0 0 ([] : List Z8) ([] : List Z3))) zn zb .nl .nl zu rfl rfl)
          ·refine ze ?_
           refine zo (bv (r1.1 == 93)) ?_
           refine za ((r1.1 == 93)) ?_ ?_
           ·refine za ((r1.1 == 93)) ?_ ?_
            ·refine ze ?_
             refine zi fun r29 hr29 => ?_
             obtain ⟨qr29, er29, exr29, rfl⟩ := ZV (20) (zp) (zl) (r1.2) (z7) (zd) (zh) (z2) (z6) zn zb zu r29 hr29
             refine zc [0] (.p (.tup [])) [(Zi (Zk.mk zl r29.1 z7 zd zh (Zj.mk r29.2.1 r29.2.2)) zn zb), (Zo (Z3.mk 0 0 0 0 0 ([] : List Z8) ([] : List Z3)) .nl .nl)] er29 ?_
             exact zk (Z1l (zl) (r29.1) (z7) (zd) (zh) (r29.2.1) (r29.2.2) ((Z3.mk 0 0 0 0 0 ([] : List Z8) ([] : List Z3))) zn zb .nl .nl zu rfl rfl)
            ·refine ze ?_
             refine zi fun r30 hr30 => ?_
             obtain ⟨qr30, er30, exr30, rfl⟩ := Z1v (r1.1) r30 hr30
             refine zc [] (.p (.agg (ZF r30))) [(Zi (Zk.mk zl r1.2 z7 zd zh (Zj.mk z2 z6)) zn zb), (Zo (Z3.mk 0 0 0 0 0 ([] : List Z8) ([] : List Z3)) .nl .nl)] er30 ?_
             refine zo (.p (.lst .ex (([r30] : List Z8).map Zv))) ?_
             refine zi fun r31 hr31 => ?_
             obtain ⟨qr31, er31, exr31, rfl⟩ := Z2R (false) (([r30] : List Z8)) .sh r31 hr31
             refine zc [] (.p (.agg (Zz r31 .sh .sh))) [(Zi (Zk.mk zl r1.2 z7 zd zh (Zj.mk z2 z6)) zn zb), (Zo (Z3.mk 0 0 0 0 0 ([] : List Z8) ([] : List Z3)) .nl .nl)] er31 ?_
             refine zt [(Zi (Zk.mk zl r1.2 z7 zd zh (Zj.mk z2 z6)) zn zb), (Zo r31 .sh .sh)] ?_
             exact zr ((.p (.tup [(.agg (Zz r31 .sh .sh)), (.v (.bool true))])), [(Zi (Zk.mk zl r1.2 z7 zd zh (Zj.mk z2 z6)) zn zb), (Zo r31 .sh .sh)]) ⟨zb, _, zu, rfl⟩
           ·refine ze ?_
            refine zo (bv (r1.1 == 125)) ?_
            refine za ((r1.1 == 125)) ?_ ?_
            ·refine ze ?_
             refine zi fun r32 hr32 => ?_
             obtain ⟨qr32, er32, exr32, rfl⟩ := ZV (20) (zp) (zl) (r1.2) (z7) (zd) (zh) (z2) (z6) zn zb zu r32 hr32
             refine zc [0] (.p (.tup [])) [(Zi (Zk.mk zl r32.1 z7 zd zh (Zj.mk r32.2.1 r32.2.2)) zn zb), (Zo (Z3.mk 0 0 0 0 0 ([] : List Z8) ([] : List Z3)) .nl .nl)] er32 ?_
             exact zk (Z1l (zl) (r32.1) (z7) (zd) (zh) (r32.2.1) (r32.2.2) ((Z3.mk 0 0 0 0 0 ([] : List Z8) ([] : List Z3))) zn zb .nl .nl zu rfl rfl)
            ·refine ze ?_
             refine zi fun r33 hr33 => ?_
             obtain ⟨qr33, er33, exr33, rfl⟩ := Z1v (r1.1) r33 hr33
             refine zc [] (.p (.agg (ZF r33))) [(Zi (Zk.mk zl r1.2 z7 zd zh (Zj.mk z2 z6)) zn zb), (Zo (Z3.mk 0 0 0 0 0 ([] : List Z8) ([] : List Z3)) .nl .nl)] er33 ?_
             refine zo (.p (.lst .ex (([r33] : List Z8).map Zv))) ?_
             refine zi fun r34 hr34 => ?_
             obtain ⟨qr34, er34, exr34, rfl⟩ := Z2R (false) (([r33] : List Z8)) .sh r34 hr34
             refine zc [] (.p (.agg (Zz r34 .sh .sh))) [(Zi (Zk.mk zl r1.2 z7 zd zh (Zj.mk z2 z6)) zn zb), (Zo (Z3.mk 0 0 0 0 0 ([] : List Z8) ([] : List Z3)) .nl .nl)] er34 ?_
             refine zt [(Zi (Zk.mk zl r1.2 z7 zd zh (Zj.mk z2 z6)) zn zb), (Zo r34 .sh .sh)] ?_
             exact zr ((.p (.tup [(.agg (Zz r34 .sh .sh)), (.v (.bool true))])), [(Zi (Zk.mk zl r1.2 z7 zd zh (Zj.mk z2 z6)) zn zb), (Zo r34 .sh .sh)]) ⟨zb, _, zu, rfl⟩
theorem Zby (zl : List Int) (zp : Int) (z7 : Int) (zd : Int) (zh : List Zq) (z2 : Int) (z6 : Int) {r} (h : Z54 zl zp z7 zd zh z2 z6 = some r) : Z66 zl zp z7 zd zh z2 z6 = some r :=
 pick_of (fun _ _ ha hb => RRun.uniq (Zcb _ _) (ha .ex .ex rfl) (hb .ex .ex rfl)) (fun zn zb zu => Zbf zl zp z7 zd zh z2 z6 zn zb zu r h)
noncomputable def Z69 (zl : List Int) (zp : Int) : Option (Int × Int) :=
 (Z8p zl zp).bind fun r1 =>
 some (r1.1, (IntKind.i64.wrap (zp + r1.2)))
theorem Zb9 (zl : List Int) (zp : Int) (z7 : Int) (zd : Int) (zh : List Zq) (z2 : Int) (z6 : Int) (zn : Own) (zb : Own) (zu : okApp zb = true) : Sim (Z53 zl z7 zd zh z2 z6 zn zb) (Z69 zl zp) (EE 46 [(.ptr 0 0)] [(Zi (Zk.mk zl zp z7 zd zh (Zj.mk z2 z6)) zn zb)]) := by
 unfold Z69
 refine zf (Zl6 ..) ?_
 refine ze ?_
 refine ze ?_
 refine zo (.ptr 0 0) ?_
 refine zo (.ptr 0 0) ?_
 refine zo (.p (.lst (shrO zn) (zl.map (eI .u8)))) ?_
 refine zo (.ptr 0 0) ?_
 refine zo (.ptr 0 1) ?_
 refine zo (iv zp) ?_
 refine zi fun r1 hr1 => ?_
 obtain ⟨qr1, er1, exr1, rfl⟩ := Zc2 (zl) (zp) .sh r1 hr1
 refine zc [] (.p (.tup [(.v (.int .i64 r1.1)), (.v (.int .i64 r1.2))])) [(Zi (Zk.mk zl zp z7 zd zh (Zj.mk z2 z6)) zn zb)] er1 ?_
 refine zo (iv r1.1) ?_
 refine zo (iv r1.2) ?_
 refine ze ?_
 refine zo (.ptr 0 0) ?_
 refine zo (.ptr 0 1) ?_
 refine zo (iv zp) ?_
 refine zo (iv (IntKind.i64.wrap (zp + r1.2))) ?_
 refine zo (.ptr 0 0) ?_
 refine zo (.ptr 0 1) ?_
 refine zt [(Zi (Zk.mk zl (IntKind.i64.wrap (zp + r1.2)) z7 zd zh (Zj.mk z2 z6)) zn zb)] ?_
 refine ze ?_
 exact zr ((iv r1.1), [(Zi (Zk.mk zl (IntKind.i64.wrap (zp + r1.2)) z7 zd zh (Zj.mk z2 z6)) zn zb)]) ⟨_, rfl⟩
theorem Zbr (zl : List Int) (zp : Int) {r} (h : Z69 zl zp = some r) : Z25 zl zp = some r :=
 pick_of (fun _ _ ha hb => RRun.uniq (Zck _ _ _ _ _ _ _ _) (ha default default default default default .ex .ex rfl) (hb default default default default default .ex .ex rfl)) (fun z7 zd zh z2 z6 zn zb zu => Zb9 zl zp z7 zd zh z2 z6 zn zb zu r h)
noncomputable def ZbB (x0 : Int) : Option (Z8) :=
 some ((Z8.mk x0 x0))
theorem ZdW (x0 : Int) : Sim (Z8n) (ZbB x0) (EE 48 [(iv x0)] []) := by
 unfold ZbB
 refine zf (Zkb ..) ?_
 refine ze ?_
 refine zz (.ptr 0 0) [(Z1B (Z8.mk 0 0))] ?_
 refine ze ?_
 refine zo (.p (.agg (ZF (Z8.mk x0 x0)))) ?_
 refine zt [(Z1B (Z8.mk x0 x0))] ?_
 exact zr ((.p (.agg (ZF (Z8.mk x0 x0)))), [(Z1B (Z8.mk x0 x0))]) ⟨_, rfl⟩
theorem Zev (x0 : Int) {r} (h : ZbB x0 = some r) : Z1A x0 = some r :=
 pick_of (fun _ _ ha hb => RRun.uniq (Zf3) (ha ) (hb )) (ZdW x0 r h)
noncomputable def Z84 (x5 : List Z8) : Option (Z3) :=
 some ((Z3.mk 1 0 0 0 0 x5 ([] : List Z3)))
theorem Z9W (x5 : List Z8) (b0 : Z3) (ox5 : Own) (z1d : Own) (z12 : Own) (zje : okApp z1d = true) (zhD : okApp z12 = true) : Sim (Z78) (Z84 x5) (Zem 0 (.ptr 0 0) (.p (.lst ox5 (x5.map Zv))) [(Zo b0 z1d z12)]) := by
 unfold Z84
 refine zf (ZhZ ..) ?_
 refine ze ?_
 refine zo (.p (.agg (Zz (Z3.mk 1 0 0 0 0 x5 ([] : List Z3)) (shrO (shrO ox5)) .nl))) ?_
 refine zt [(Zo (Z3.mk 1 0 0 0 0 x5 ([] : List Z3)) (shrO (shrO ox5)) .nl)] ?_
 exact zr ((.p (.agg (Zz (Z3.mk 1 0 0 0 0 x5 ([] : List Z3)) .sh .sh))), [(Zo (Z3.mk 1 0 0 0 0 x5 ([] : List Z3)) (shrO (shrO ox5)) .nl)]) ⟨_, rfl⟩
noncomputable def Z9P (x0 : Bool) (x1 : List Z8) : Option (Z3) :=
 (Z9a x1).bind fun r1 =>
 if (x0) = true then
 ((Z6i r1.1).bind fun r2 =>
 Z84 r2.1)
 else
 (Z84 r1.1)
theorem Zeb (x0 : Bool) (x1 : List Z8) (ox1 : Own) : Sim (Z78) (Z9P x0 x1) (EE 47 [(bv x0), (.p (.lst ox1 (x1.map Zv)))] []) := by
 unfold Z9P
 refine zf (Zka ..) ?_
 refine ze ?_
 refine zz (.ptr 0 0) [(Zo (Z3.mk 0 0 0 0 0 ([] : List Z8) ([] : List Z3)) .nl .nl)] ?_
 refine ze ?_
 refine zi fun r1 hr1 => ?_
 obtain ⟨qr1, er1, exr1, rfl⟩ := Zec (x1) .sh r1 hr1
 refine zc [] (.p (.tup [(.lst .sh (r1.1.map Zv)), (.v (.int .i64 r1.2))])) [(Zo (Z3.mk 0 0 0 0 0 ([] : List Z8) ([] : List Z3)) .nl .nl)] er1 ?_
 refine zo (.p (.lst .sh (r1.1.map Zv))) ?_
 refine zo (iv r1.2) ?_
 refine ze ?_
 refine za (x0) ?_ ?_
 ·refine ze ?_
  refine zi fun r2 hr2 => ?_
  obtain ⟨qr2, er2, exr2, rfl⟩ := Z9Z (r1.1) .sh r2 hr2
  refine zc [] (.p (.tup [(.lst .sh (r2.1.map Zv)), (.v (.int .i64 r2.2))])) [(Zo (Z3.mk 0 0 0 0 0 ([] : List Z8) ([] : List Z3)) .nl .nl)] er2 ?_
  refine zo (.p (.lst .sh (r2.1.map Zv))) ?_
  refine zo (iv r2.2) ?_
  exact zk (Z9W (r2.1) ((Z3.mk 0 0 0 0 0 ([] : List Z8) ([] : List Z3))) .sh .nl .nl rfl rfl)
 ·exact zk (Z9W (r1.1) ((Z3.mk 0 0 0 0 0 ([] : List Z8) ([] : List Z3))) .sh .nl .nl rfl rfl)
theorem ZeL (x0 : Bool) (x1 : List Z8) {r} (h : Z9P x0 x1 = some r) : Z2I x0 x1 = some r :=
 pick_of (fun _ _ ha hb => RRun.uniq (Zf4) (ha .ex) (hb .ex)) (fun ox1 => Zeb x0 x1 ox1 r h)
noncomputable def Z7d (x0 : List Z8) : Option ((List Z8) × Int) :=
 (Z7Q x0).bind fun r1 =>
 some (r1, 0)
theorem ZcL (x0 : List Z8) (ox0 : Own) : Sim (Z6M) (Z7d x0) (ZfX 0 (.p (.lst ox0 (x0.map Zv))) []) := by
 unfold Z7d
 refine zf (ZhR ..) ?_
 refine ze ?_
 refine zi fun r1 hr1 => ?_
 obtain ⟨qr1, er1, exr1, rfl⟩ := Zag (x0) .sh r1 hr1
 refine zc [] (.p (.lst .sh (r1.map Zv))) [] er1 ?_
 exact zr ((.p (.tup [(.lst .sh (r1.map Zv)), (.v (.int .i64 0))])), []) ⟨_, rfl⟩
noncomputable def Z9e (x0 : List Z8) : Option ((List Z8) × Int) :=
 (Z3o x0).bind fun r1 =>
 if (r1) = true then
 (some (([] : List Z8), 13))
 else
 (Z7d x0)
theorem ZdQ (x0 : List Z8) (ox0 : Own) : Sim (Z6M) (Z9e x0) (EE 54 [(.p (.lst ox0 (x0.map Zv)))] []) := by
 unfold Z9e
 refine zf (ZkA ..) ?_
 refine ze ?_
 refine ze ?_
 refine zi fun r1 hr1 => ?_
 obtain ⟨qr1, er1, exr1, rfl⟩ := Z8e (x0) .sh r1 hr1
 refine zc [] (bv r1) [] er1 ?_
 refine za (r1) ?_ ?_
 ·refine ze ?_
  exact zr ((.p (.tup [(.lst .sh []), (.v (.int .i64 13))])), []) ⟨_, rfl⟩
 ·exact zk (ZcL (x0) ox0)
theorem Zeo (x0 : List Z8) {r} (h : Z9e x0 = some r) : Z9a x0 = some r :=
 pick_of (fun _ _ ha hb => RRun.uniq (Zew) (ha .ex) (hb .ex)) (fun ox0 => ZdQ x0 ox0 r h)
noncomputable def Z3j (x0 : List Z8) : Option (Bool) :=
 (Z3Y x0).bind fun r1 =>
 some ((decide (0 ≤ r1)))
theorem Z7I (x0 : List Z8) (ox0 : Own) : Sim (Z2K) (Z3j x0) (EE 65 [(.p (.lst ox0 (x0.map Zv))), (.clo 66 [] [])] []) := by
 unfold Z3j
 refine zf (Zk8 ..) ?_
 refine ze ?_
 refine ze ?_
 refine zi fun r1 hr1 => ?_
 obtain ⟨qr1, er1, exr1, rfl⟩ := Z94 (x0) .sh r1 hr1
 refine zc [] (iv r1) [] er1 ?_
 refine zo (bv (decide (0 ≤ r1))) ?_
 exact zr ((bv (decide (0 ≤ r1))), []) ⟨_, rfl⟩
theorem Z8h (x0 : List Z8) {r} (h : Z3j x0 = some r) : Z3o x0 = some r :=
 pick_of (fun _ _ ha hb => RRun.uniq (Z8x) (ha .ex) (hb .ex)) (fun ox0 => Z7I x0 ox0 r h)
noncomputable def Z3Z (x0 : List Z8) : Option (Int) :=
 Z2L x0 ((x0.length : Int)) 0
theorem Z8N (x0 : List Z8) (ox0 : Own) : Sim (Z1p) (Z3Z x0) (EE 73 [(.p (.lst ox0 (x0.map Zv))), (.clo 66 [] [])] []) := by
 unfold Z3Z
 refine zf (ZjO ..) ?_
 refine ze ?_
 refine ze ?_
 refine zo (iv (x0.length : Int)) ?_ (Eq.trans (by kernel_rfl) (xlen_of (P := PP) (t := 23) (d := 39) (by kernel_rfl) Zv (shrO ox0) x0))
 exact zk (Z5J (x0) ((x0.length : Int)) (0) ox0)
theorem Z93 (x0 : List Z8) {r} (h : Z3Z x0 = some r) : Z3Y x0 = some r :=
 pick_of (fun _ _ ha hb => RRun.uniq (Z6g) (ha .ex) (hb .ex)) (fun ox0 => Z8N x0 ox0 r h)
noncomputable def Z3k (x0 : List Z8) (x7 : Int) (x8 : Int) : Option (Int) :=
 Z2L x0 x7 ((IntKind.i64.wrap (x8 + 1)))
theorem Z83 (x0 : List Z8) (x7 : Int) (x8 : Int) (ox0 : Own) : Sim (Z1p) (Z3k x0 x7 x8) (Zfx 0 (.p (.lst ox0 (x0.map Zv))) (.clo 66 [] []) (iv x7) (iv x8) []) := by
 unfold Z3k
 refine zf (Zi0 ..) ?_
 refine ze ?_
 refine zo (iv (IntKind.i64.wrap (x8 + 1))) ?_
 exact zk (Z5J (x0) (x7) ((IntKind.i64.wrap (x8 + 1))) ox0)
noncomputable def Z3m (x0 : List Z8) (x7 : Int) (x8 : Int) : Option (Int) :=
 (lget x0 x8).bind fun a1 =>
 (Z7G a1).bind fun r2 =>
 if (r2) = true then
 (some (x8))
 else
 (Z3k x0 x7 x8)
theorem Z7Y (x0 : List Z8) (x7 : Int) (x8 : Int) (ox0 : Own) : Sim (Z1p) (Z3m x0 x7 x8) (Zgr 0 (.p (.lst ox0 (x0.map Zv))) (.clo 66 [] []) (iv x7) (iv x8) []) := by
 unfold Z3m
 refine zf (ZhH ..) ?_
 refine ze ?_
 refine ze ?_
 refine zi fun a1 ha1 => ?_
 refine zo (.cptr (ZF a1)) ?_ (Eq.trans (by kernel_rfl) (xidx_of (o := (shrO ox0)) (k := .i64) (n := 2) (e := Zv) (cs := Z57) (fun _ => rfl) (fun _ => rfl) (by decide) ha1))
 refine zo (.p (.agg (ZF a1))) ?_
 refine zi fun r2 hr2 => ?_
 obtain ⟨qr2, er2, exr2, rfl⟩ := Zdy (a1) r2 hr2
 refine zv [] (bv r2) [] er2 ?_
 refine za (r2) ?_ ?_
 ·refine ze ?_
  exact zr ((iv x8), []) ⟨_, rfl⟩
 ·exact zk (Z83 (x0) (x7) (x8) ox0)
noncomputable def Z4H  : Option (Int) :=
 some ((-1))
theorem Z7J  : Sim (Z1p) (Z4H) (ZfM 0  []) := by
 unfold Z4H
 refine zf (ZiC ..) ?_
 refine ze ?_
 exact zr ((iv (-1)), []) ⟨_, rfl⟩
noncomputable def Z2M (x0 : List Z8) (x7 : Int) (x8 : Int) : Option (Int) :=
 if ((decide (x8 < x7))) = true then
 (Z3m x0 x7 x8)
 else
 (Z4H)
theorem Z7N (x0 : List Z8) (x7 : Int) (x8 : Int) (ox0 : Own) : Sim (Z1p) (Z2M x0 x7 x8) (Zcf 0 (.p (.lst ox0 (x0.map Zv))) (.clo 66 [] []) (iv x7) (iv x8) []) := by
 unfold Z2M
 refine zf (Zi7 ..) ?_
 refine ze ?_
 refine zo (bv (decide (x8 < x7))) ?_
 refine za ((decide (x8 < x7))) ?_ ?_
 ·exact zk (Z7Y (x0) (x7) (x8) ox0)
 ·exact zk (Z7J )
theorem Z5G (x0 : List Z8) (x7 : Int) (x8 : Int) {r} (h : Z2M x0 x7 x8 = some r) : Z2L x0 x7 x8 = some r :=
 pick_of (fun _ _ ha hb => RRun.uniq (Z6g) (ha .ex) (hb .ex)) (fun ox0 => Z7N x0 x7 x8 ox0 r h)
noncomputable def Z7R (x0 : Z8) : Option (Bool) :=
 (Z52 x0).bind fun r1 =>
 some ((!r1))
theorem Zd9 (x0 : Z8) : Sim (Z6D) (Z7R x0) (EE 66 [(.p (.agg (ZF x0)))] []) := by
 unfold Z7R
 refine zf (Zku ..) ?_
 refine ze ?_
 refine zx (.ptr 0 0) [(Z1B x0)] ?_
 refine ze ?_
 refine zo (.p (.agg (ZF x0))) ?_
 refine zi fun r1 hr1 => ?_
 obtain ⟨qr1, er1, exr1, rfl⟩ := Z8y (x0) r1 hr1
 refine zc [] (bv r1) [(Z1B x0)] er1 ?_
 refine zo (bv (!r1)) ?_
 exact zr ((bv (!r1)), [(Z1B x0)]) ⟨_, rfl⟩
theorem ZdA (x0 : Z8) {r} (h : Z7R x0 = some r) : Z7G x0 = some r :=
 pick_of (fun _ _ ha hb => RRun.uniq (ZdN) (ha ) (hb )) (Zd9 x0 r h)
noncomputable def Z65 (x0 : Z8) : Option (Bool) :=
 if ((decide (0 ≤ x0.Lo))) = true then
 (if ((decide (x0.Lo ≤ x0.Hi))) = true then
 (some ((decide (x0.Hi ≤ 1114367))))
 else
 (some (false)))
 else
 (some (false))
theorem Zba (x0 : Z8) : Sim (Z56) (Z65 x0) (EE 67 [(.p (.agg (ZF x0)))] []) := by
 unfold Z65
 refine zf (Zkw ..) ?_
 refine ze ?_
 refine zx (.ptr 0 0) [(Z1B x0)] ?_
 refine ze ?_
 refine zo (.ptr 0 0) ?_
 refine zo (iv x0.Lo) ?_
 refine zo (bv (decide (0 ≤ x0.Lo))) ?_
 refine za ((decide (0 ≤ x0.Lo))) ?_ ?_
 ·refine zo (.ptr 0 0) ?_
  refine zo (iv x0.Lo) ?_
  refine zo (.ptr 0 1) ?_
  refine zo (iv x0.Hi) ?_
  refine zo (bv (decide (x0.Lo ≤ x0.Hi))) ?_
  refine za ((decide (x0.Lo ≤ x0.Hi))) ?_ ?_
  ·refine zo (.ptr 0 1) ?_
   refine zo (iv x0.Hi) ?_
   refine zo (bv (decide (x0.Hi ≤ 1114367))) ?_
   exact zr ((bv (decide (x0.Hi ≤ 1114367))), [(Z1B x0)]) ⟨_, rfl⟩
  ·exact zr ((bv false), [(Z1B x0)]) ⟨_, rfl⟩
 ·exact zr ((bv false), [(Z1B x0)]) ⟨_, rfl⟩
theorem Zbw (x0 : Z8) {r} (h : Z65 x0 = some r) : Z52 x0 = some r :=
 pick_of (fun _ _ ha hb => RRun.uniq (Zcd) (ha ) (hb )) (Zba x0 r h)
noncomputable def Z6m (x0 : List Z8) : Option ((List Z8) × Int) :=
 (Z7i x0).bind fun r1 =>
 some (r1, 0)
theorem Zbt (x0 : List Z8) (ox0 : Own) : Sim (Z5E) (Z6m x0) (Zgx 0 (.p (.lst ox0 (x0.map Zv))) []) := by
 unfold Z6m
 refine zf (Zic ..) ?_
 refine ze ?_
 refine zi fun r1 hr1 => ?_
 obtain ⟨qr1, er1, exr1, rfl⟩ := Zd4 (x0) .sh r1 hr1
 refine zc [] (.p (.lst .sh (r1.map Zv))) [] er1 ?_
 exact zr ((.p (.tup [(.lst .sh (r1.map Zv)), (.v (.int .i64 0))])), []) ⟨_, rfl⟩
noncomputable def Z7c (x0 : List Z8) : Option ((List Z8) × Int) :=
 (Z4t x0).bind fun r1 =>
 if ((!r1)) = true then
 (some (([] : List Z8), 10))
 else
 (Z6m x0)
theorem ZcR (x0 : List Z8) (ox0 : Own) : Sim (Z5E) (Z7c x0) (EE 55 [(.p (.lst ox0 (x0.map Zv)))] []) := by
 unfold Z7c
 refine zf (Zkl ..) ?_
 refine ze ?_
 refine ze ?_
 refine zi fun r1 hr1 => ?_
 obtain ⟨qr1, er1, exr1, rfl⟩ := Z6J (x0) .sh r1 hr1
 refine zc [] (bv r1) [] er1 ?_
 refine zo (bv (!r1)) ?_
 refine za ((!r1)) ?_ ?_
 ·refine ze ?_
  exact zr ((.p (.tup [(.lst .sh []), (.v (.int .i64 10))])), []) ⟨_, rfl⟩
 ·exact zk (Zbt (x0) ox0)
theorem Zd0 (x0 : List Z8) {r} (h : Z7c x0 = some r) : Z6i x0 = some r :=
 pick_of (fun _ _ ha hb => RRun.uniq (Zdz) (ha .ex) (hb .ex)) (fun ox0 => ZcR x0 ox0 r h)
noncomputable def Z6o (x0 : List Z8) : Option (Bool) :=
 Z4p ((-2)) x0 ((x0.length : Int)) 0
theorem ZbF (x0 : List Z8) (ox0 : Own) : Sim (Z1P) (Z6o x0) (EE 69 [(.p (.lst ox0 (x0.map Zv)))] []) := by
 unfold Z6o
 refine zf (Zk1 ..) ?_
 refine ze ?_
 refine ze ?_
 refine ze ?_
 refine zo (iv (x0.length : Int)) ?_ (Eq.trans (by kernel_rfl) (xlen_of (P := PP) (t := 24) (d := 39) (by kernel_rfl) Zv (shrO ox0) x0))
 exact zk (Z7y ((-2)) (x0) ((x0.length : Int)) (0) (shrO ox0))
theorem Zcm (x0 : List Z8) {r} (h : Z6o x0 = some r) : Z4t x0 = some r :=
 pick_of (fun _ _ ha hb => RRun.uniq (Z9c) (ha .ex) (hb .ex)) (fun ox0 => ZbF x0 ox0 r h)
noncomputable def Z5z  : Option (Bool) :=
 some (false)
theorem Z7g  : Sim (Z1P) (Z5z) (Ze0 0  []) := by
 unfold Z5z
 refine zf (ZhK ..) ?_
 refine ze ?_
 exact zr ((bv false), []) ⟨_, rfl⟩
noncomputable def Z5C (x3 : Int) (x6 : List Z8) (x7 : Int) (x8 : Int) : Option (Bool) :=
 Z4p x3 x6 x7 ((IntKind.i64.wrap (x8 + 1)))
theorem ZaA (x3 : Int) (x6 : List Z8) (x7 : Int) (x8 : Int) (ox6 : Own) : Sim (Z1P) (Z5C x3 x6 x7 x8) (Zfa 0 (iv x3) (.p (.lst ox6 (x6.map Zv))) (iv x7) (iv x8) []) := by
 unfold Z5C
 refine zf (Zi9 ..) ?_
 refine ze ?_
 refine zo (iv (IntKind.i64.wrap (x8 + 1))) ?_
 exact zk (Z7y (x3) (x6) (x7) ((IntKind.i64.wrap (x8 + 1))) ox6)
noncomputable def Z5x (x6 : List Z8) (x7 : Int) (x8 : Int) (b0 : Z8) : Option (Bool) :=
 Z5C b0.Hi x6 x7 x8
theorem Zat (x6 : List Z8) (x7 : Int) (x8 : Int) (b0 : Z8) (ox6 : Own) : Sim (Z1P) (Z5x x6 x7 x8 b0) (Zfp 0 (.ptr 0 0) (.p (.lst ox6 (x6.map Zv))) (iv x7) (iv x8) [(Z1B b0)]) := by
 unfold Z5x
 refine zf (ZiA ..) ?_
 refine ze ?_
 refine zo (.ptr 0 1) ?_
 refine zo (iv b0.Hi) ?_
 exact zk (ZaA (b0.Hi) (x6) (x7) (x8) ox6)
noncomputable def Z5u (x3 : Int) (x6 : List Z8) (x7 : Int) (x8 : Int) : Option (Bool) :=
 (lget x6 x8).bind fun a1 =>
 (Z52 a1).bind fun r2 =>
 if ((!r2)) = true then
 (Z5z)
 else
 (if ((decide (a1.Lo < (IntKind.i64.wrap (x3 + 2))))) = true then
 (Z5z)
 else
 (Z5x x6 x7 x8 a1))
theorem Zar (x3 : Int) (x6 : List Z8) (x7 : Int) (x8 : Int) (ox6 : Own) : Sim (Z1P) (Z5u x3 x6 x7 x8) (ZfS 0 (iv x3) (.p (.lst ox6 (x6.map Zv))) (iv x7) (iv x8) []) := by
 unfold Z5u
 refine zf (ZhF ..) ?_
 refine ze ?_
 refine zi fun a1 ha1 => ?_
 refine zo (.cptr (ZF a1)) ?_ (Eq.trans (by kernel_rfl) (xidx_of (o := ox6) (k := .i64) (n := 2) (e := Zv) (cs := Z57) (fun _ => rfl) (fun _ => rfl) (by decide) ha1))
 refine zo (.p (.agg (ZF a1))) ?_
 refine zz (.ptr 0 0) [(Z1B (Z8.mk 0 0))] ?_
 refine zt [(Z1B a1)] ?_
 refine ze ?_
 refine zo (.p (.agg (ZF a1))) ?_
 refine zi fun r2 hr2 => ?_
 obtain ⟨qr2, er2, exr2, rfl⟩ := Z8y (a1) r2 hr2
 refine zc [] (bv r2) [(Z1B a1)] er2 ?_
 refine zo (bv (!r2)) ?_
 refine za ((!r2)) ?_ ?_
 ·exact zk (Z7g )
 ·refine zo (.ptr 0 0) ?_
  refine zo (iv a1.Lo) ?_
  refine zo (iv (IntKind.i64.wrap (x3 + 2))) ?_
  refine zo (bv (decide (a1.Lo < (IntKind.i64.wrap (x3 + 2))))) ?_
  refine za ((decide (a1.Lo < (IntKind.i64.wrap (x3 + 2))))) ?_ ?_
  ·exact zk (Z7g )
  ·exact zk (Zat (x6) (x7) (x8) (a1) ox6)
noncomputable def Z6K  : Option (Bool) :=
 some (true)
theorem Zay  : Sim (Z1P) (Z6K) (Zff 0  []) := by
 unfold Z6K
 refine zf (Zij ..) ?_
 refine ze ?_
 exact zr ((bv true), []) ⟨_, rfl⟩
noncomputable def Z4v (x3 : Int) (x6 : List Z8) (x7 : Int) (x8 : Int) : Option (Bool) :=
 if ((decide (x8 < x7))) = true then
 (Z5u x3 x6 x7 x8)
 else
 (Z6K)
theorem Zaw (x3 : Int) (x6 : List Z8) (x7 : Int) (x8 : Int) (ox6 : Own) : Sim (Z1P) (Z4v x3 x6 x7 x8) (Zc6 0 (iv x3) (.p (.lst ox6 (x6.map Zv))) (iv x7) (iv x8) []) := by
 unfold Z4v
 refine zf (Zi5 ..) ?_
 refine ze ?_
 refine zo (bv (decide (x8 < x7))) ?_
 refine za ((decide (x8 < x7))) ?_ ?_
 ·exact zk (Zar (x3) (x6) (x7) (x8) ox6)
 ·exact zk (Zay )
theorem Z7o (x3 : Int) (x6 : List Z8) (x7 : Int) (x8 : Int) {r} (h : Z4v x3 x6 x7 x8 = some r) : Z4p x3 x6 x7 x8 = some r :=
 pick_of (fun _ _ ha hb => RRun.uniq (Z9c) (ha .ex) (hb .ex)) (fun ox6 => Zaw x3 x6 x7 x8 ox6 r h)
noncomputable def Z79 (x0 : List Z8) : Option ((List Z8)) :=
 Z5q (([] : List Z8)) 0 x0 ((x0.length : Int)) 0
theorem ZcQ (x0 : List Z8) (ox0 : Own) : Sim (Z2i) (Z79 x0) (EE 70 [(.p (.lst ox0 (x0.map Zv)))] []) := by
 unfold Z79
 refine zf (ZjE ..) ?_
 refine ze ?_
 refine ze ?_
 refine ze ?_
 refine ze ?_
 refine zo (iv (x0.length : Int)) ?_ (Eq.trans (by kernel_rfl) (xlen_of (P := PP) (t := 24) (d := 39) (by kernel_rfl) Zv (shrO ox0) x0))
 exact zk (Z8U (([] : List Z8)) (0) (x0) ((x0.length : Int)) (0) .nl (shrO ox0) rfl)
theorem ZcV (x0 : List Z8) {r} (h : Z79 x0 = some r) : Z7i x0 = some r :=
 pick_of (fun _ _ ha hb => RRun.uniq (Zak) (ha .ex) (hb .ex)) (fun ox0 => ZcQ x0 ox0 r h)
noncomputable def Z6l (x3 : List Z8) (x4 : Int) (x7 : List Z8) (x8 : Int) (x9 : Int) : Option ((List Z8)) :=
 Z5q x3 x4 x7 x8 ((IntKind.i64.wrap (x9 + 1)))
theorem ZbC (x3 : List Z8) (x4 : Int) (x7 : List Z8) (x8 : Int) (x9 : Int) (ox3 : Own) (ox7 : Own) (hox3 : okApp ox3 = true) : Sim (Z2i) (Z6l x3 x4 x7 x8 x9) (ZfY 0 (.p (.lst ox3 (x3.map Zv))) (iv x4) (.p (.lst ox7 (x7.map Zv))) (iv x8) (iv x9) []) := by
 unfold Z6l
 refine zf (ZiO ..) ?_
 refine ze ?_
 refine zo (iv (IntKind.i64.wrap (x9 + 1))) ?_
 exact zk (Z8U (x3) (x4) (x7) (x8) ((IntKind.i64.wrap (x9 + 1))) ox3 ox7 hox3)
noncomputable def Z4r (x3 : List Z8) (x7 : List Z8) (x8 : Int) (x9 : Int) (b0 : Z8) : Option ((List Z8)) :=
 Z6l x3 ((IntKind.i64.wrap (b0.Hi + 1))) x7 x8 x9
theorem Z8m (x3 : List Z8) (x7 : List Z8) (x8 : Int) (x9 : Int) (b0 : Z8) (ox3 : Own) (ox7 : Own) (hox3 : okApp ox3 = true) : Sim (Z2i) (Z4r x3 x7 x8 x9 b0) (Zen 0 (.p (.lst ox3 (x3.map Zv))) (.ptr 0 0) (.p (.lst ox7 (x7.map Zv))) (iv x8) (iv x9) [(Z1B b0)]) := by
 unfold Z4r
 refine zf (Zjd ..) ?_
 refine ze ?_
 refine zo (.ptr 0 1) ?_
 refine zo (iv b0.Hi) ?_
 refine zo (iv (IntKind.i64.wrap (b0.Hi + 1))) ?_
 exact zk (ZbC (x3) ((IntKind.i64.wrap (b0.Hi + 1))) (x7) (x8) (x9) ox3 ox7 hox3)
noncomputable def Z6h (x3 : List Z8) (x4 : Int) (x7 : List Z8) (x8 : Int) (x9 : Int) : Option ((List Z8)) :=
 (lget x7 x9).bind fun a1 =>
 if ((decide (x4 < a1.Lo))) = true then
 ((lapp x3 ([(Z8.mk x4 (IntKind.i64.wrap (a1.Lo - 1)))] : List Z8)).bind fun a2 =>
 Z4r a2 x7 x8 x9 a1)
 else
 (Z4r x3 x7 x8 x9 a1)
theorem ZbH (x3 : List Z8) (x4 : Int) (x7 : List Z8) (x8 : Int) (x9 : Int) (ox3 : Own) (ox7 : Own) (hox3 : okApp ox3 = true) : Sim (Z2i) (Z6h x3 x4 x7 x8 x9) (Zgz 0 (.p (.lst ox3 (x3.map Zv))) (iv x4) (.p (.lst ox7 (x7.map Zv))) (iv x8) (iv x9) []) := by
 unfold Z6h
 refine zf (Zig ..) ?_
 refine ze ?_
 refine zi fun a1 ha1 => ?_
 refine zo (.cptr (ZF a1)) ?_ (Eq.trans (by kernel_rfl) (xidx_of (o := ox7) (k := .i64) (n := 2) (e := Zv) (cs := Z57) (fun _ => rfl) (fun _ => rfl) (by decide) ha1))
 refine zo (.p (.agg (ZF a1))) ?_
 refine zz (.ptr 0 0) [(Z1B (Z8.mk 0 0))] ?_
 refine zt [(Z1B a1)] ?_
 refine ze ?_
 refine zo (.ptr 0 0) ?_
 refine zo (iv a1.Lo) ?_
 refine zo (bv (decide (x4 < a1.Lo))) ?_
 refine za ((decide (x4 < a1.Lo))) ?_ ?_
 ·refine ze ?_
  refine zo (.ptr 0 0) ?_
  refine zo (iv a1.Lo) ?_
  refine zo (iv (IntKind.i64.wrap (a1.Lo - 1))) ?_
  refine zo (.p (.agg (ZF (Z8.mk x4 (IntKind.i64.wrap (a1.Lo - 1)))))) ?_
  refine zo (.p (.lst .ex (([(Z8.mk x4 (IntKind.i64.wrap (a1.Lo - 1)))] : List Z8).map Zv))) ?_
  refine zi fun a2 ha2 => ?_
  refine zo (.p (.lst .un (a2.map Zv))) ?_ (Eq.trans (by kernel_rfl) <| xapp_of (n := 2) (o := ox3) (o' := .ex) (e := Zv) (ys := ([(Z8.mk x4 (IntKind.i64.wrap (a1.Lo - 1)))] : List Z8)) (fun _ => rfl) (by decide) hox3 ha2)
  exact zk (Z8m (a2) (x7) (x8) (x9) (a1) .un ox7 rfl)
 ·exact zk (Z8m (x3) (x7) (x8) (x9) (a1) ox3 ox7 hox3)
noncomputable def Z4f (x3 : List Z8) : Option ((List Z8)) :=
 some (x3)
theorem Z86 (x3 : List Z8) (ox3 : Own) (hox3 : okApp ox3 = true) : Sim (Z2i) (Z4f x3) (Zdt 0 (.p (.lst ox3 (x3.map Zv))) []) := by
 unfold Z4f
 refine zf (Zhi ..) ?_
 refine ze ?_
 exact zr ((.p (.lst .sh (x3.map Zv))), []) ⟨_, rfl⟩
noncomputable def Z64 (x3 : List Z8) (x4 : Int) : Option ((List Z8)) :=
 if ((decide (x4 ≤ 1114367))) = true then
 ((lapp x3 ([(Z8.mk x4 1114367)] : List Z8)).bind fun a1 =>
 Z4f a1)
 else
 (Z4f x3)
theorem Zbb (x3 : List Z8) (x4 : Int) (ox3 : Own) (hox3 : okApp ox3 = true) : Sim (Z2i) (Z64 x3 x4) (ZeB 0 (.p (.lst ox3 (x3.map Zv))) (iv x4) []) := by
 unfold Z64
 refine zf (Zhk ..) ?_
 refine ze ?_
 refine zo (bv (decide (x4 ≤ 1114367))) ?_
 refine za ((decide (x4 ≤ 1114367))) ?_ ?_
 ·refine ze ?_
  refine zo (.p (.agg (ZF (Z8.mk x4 1114367)))) ?_
  refine zo (.p (.lst .ex (([(Z8.mk x4 1114367)] : List Z8).map Zv))) ?_
  refine zi fun a1 ha1 => ?_
  refine zo (.p (.lst .un (a1.map Zv))) ?_ (Eq.trans (by kernel_rfl) <| xapp_of (n := 2) (o := ox3) (o' := .ex) (e := Zv) (ys := ([(Z8.mk x4 1114367)] : List Z8)) (fun _ => rfl) (by decide) hox3 ha1)
  exact zk (Z86 (a1) .un rfl)
 ·exact zk (Z86 (x3) ox3 hox3)
noncomputable def Z5p (x3 : List Z8) (x4 : Int) (x7 : List Z8) (x8 : Int) (x9 : Int) : Option ((List Z8)) :=
 if ((decide (x9 < x8))) = true then
 (Z6h x3 x4 x7 x8 x9)
 else
 (Z64 x3 x4)
theorem ZbA (x3 : List Z8) (x4 : Int) (x7 : List Z8) (x8 : Int) (x9 : Int) (ox3 : Own) (ox7 : Own) (hox3 : okApp ox3 = true) : Sim (Z2i) (Z5p x3 x4 x7 x8 x9) (ZbZ 0 (.p (.lst ox3 (x3.map Zv))) (iv x4) (.p (.lst ox7 (x7.map Zv))) (iv x8) (iv x9) []) := by
 unfold Z5p
 refine zf (Zil ..) ?_
 refine ze ?_
 refine zo (bv (decide (x9 < x8))) ?_
 refine za ((decide (x9 < x8))) ?_ ?_
 ·exact zk (ZbH (x3) (x4) (x7) (x8) (x9) ox3 ox7 hox3)
 ·exact zk (Zbb (x3) (x4) ox3 hox3)
theorem Z92 (x3 : List Z8) (x4 : Int) (x7 : List Z8) (x8 : Int) (x9 : Int) {r} (h : Z5p x3 x4 x7 x8 x9 = some r) : Z5q x3 x4 x7 x8 x9 = some r :=
 pick_of (fun _ _ ha hb => RRun.uniq (Zak) (ha .ex .ex rfl) (hb .ex .ex rfl)) (fun ox3 ox7 hox3 => ZbA x3 x4 x7 x8 x9 ox3 ox7 hox3 r h)
noncomputable def Z3t (x1 : Int) (x5 : Int) (zp : Int) (zh : List Zq) (z2 : Int) (z6 : Int) : Option (Z3 × Int × (List Zq) × Int × Int) :=
 (lapp zh ([(Zq.mk (IntKind.i64.wrap (x5 - 48)) x1)] : List Zq)).bind fun a1 =>
 some ((Z3.mk 6 0 0 0 (IntKind.i64.wrap (x5 - 48)) ([] : List Z8) ([] : List Z3)), zp, a1, z2, z6)
theorem Z9t (x1 : Int) (x5 : Int) (zl : List Int) (zp : Int) (z7 : Int) (zd : Int) (zh : List Zq) (z2 : Int) (z6 : Int) (b1 : Z3) (zn : Own) (zb : Own) (zB : Own) (zy : Own) (zu : okApp zb = true) (zP : okApp zB = true) (zI : okApp zy = true) : Sim (Z2E zl z7 zd zn) (Z3t x1 x5 zp zh z2 z6) (ZeN 1 (.ptr 0 0) (iv x1) (.ptr 1 0) (iv x5) [(Zi (Zk.mk zl zp z7 zd zh (Zj.mk z2 z6)) zn zb), (Zo b1 zB zy)]) := by
 unfold Z3t
 refine zf (Zh7 ..) ?_
 refine ze ?_
 refine zo (.ptr 0 0) ?_
 refine zo (.ptr 0 4) ?_
 refine zw (.p (.lst zb (zh.map Z1E))) [(Zi (Zk.mk zl zp z7 zd zh (Zj.mk z2 z6)) zn (shrO zb)), (Zo b1 zB zy)] ?_
 refine zo (iv (IntKind.i64.wrap (x5 - 48))) ?_
 refine zo (.p (.agg (Z8P (Zq.mk (IntKind.i64.wrap (x5 - 48)) x1)))) ?_
 refine zo (.p (.lst .ex (([(Zq.mk (IntKind.i64.wrap (x5 - 48)) x1)] : List Zq).map Z1E))) ?_
 refine zi fun a1 ha1 => ?_
 refine zo (.p (.lst .un (a1.map Z1E))) ?_ (Eq.trans (by kernel_rfl) <| xapp_of (n := 2) (o := zb) (o' := .ex) (e := Z1E) (ys := ([(Zq.mk (IntKind.i64.wrap (x5 - 48)) x1)] : List Zq)) (fun _ => rfl) (by decide) zu ha1)
 refine zo (.ptr 0 0) ?_
 refine zo (.ptr 0 4) ?_
 refine zt [(Zi (Zk.mk zl zp z7 zd a1 (Zj.mk z2 z6)) zn .un), (Zo b1 zB zy)] ?_
 refine ze ?_
 refine zo (iv (IntKind.i64.wrap (x5 - 48))) ?_
 refine zo (.p (.agg (Zz (Z3.mk 6 0 0 0 (IntKind.i64.wrap (x5 - 48)) ([] : List Z8) ([] : List Z3)) .nl .nl))) ?_
 refine zt [(Zi (Zk.mk zl zp z7 zd a1 (Zj.mk z2 z6)) zn .un), (Zo (Z3.mk 6 0 0 0 (IntKind.i64.wrap (x5 - 48)) ([] : List Z8) ([] : List Z3)) .nl .nl)] ?_
 exact zr ((.p (.agg (Zz (Z3.mk 6 0 0 0 (IntKind.i64.wrap (x5 - 48)) ([] : List Z8) ([] : List Z3)) .sh .sh))), [(Zi (Zk.mk zl zp z7 zd a1 (Zj.mk z2 z6)) zn .un), (Zo (Z3.mk 6 0 0 0 (IntKind.i64.wrap (x5 - 48)) ([] : List Z8) ([] : List Z3)) .nl .nl)]) ⟨.un, _, rfl, rfl⟩
noncomputable def Z26 (x1 : Int) (x5 : Int) (zl : List Int) (zp : Int) (z7 : Int) (zd : Int) (zh : List Zq) (z2 : Int) (z6 : Int) : Option (Z3 × Int × (List Zq) × Int × Int) :=
 (Z4L x5 x1 zl zp z7 zd zh z2 z6).bind fun r1 =>
 (Z1A r1.1).bind fun r2 =>
 (Z2I false (([r2] : List Z8))).bind fun r3 =>
 some (r3, r1.2.1, zh, r1.2.2.1, r1.2.2.2)
theorem Z6s (x1 : Int) (x5 : Int) (zl : List Int) (zp : Int) (z7 : Int) (zd : Int) (zh : List Zq) (z2 : Int) (z6 : Int) (b1 : Z3) (zn : Own) (zb : Own) (zB : Own) (zy : Own) (zu : okApp zb = true) (zP : okApp zB = true) (zI : okApp zy = true) : Sim (Z2E zl z7 zd zn) (Z26 x1 x5 zl zp z7 zd zh z2 z6) (Zdg 1 (.ptr 0 0) (iv x1) (.ptr 1 0) (iv x5) [(Zi (Zk.mk zl zp z7 zd zh (Zj.mk z2 z6)) zn zb), (Zo b1 zB zy)]) := by
 unfold Z26
 refine zf (ZgW ..) ?_
 refine ze ?_
 refine zi fun r1 hr1 => ?_
 obtain ⟨qr1, er1, exr1, rfl⟩ := Z85 (x5) (x1) (zl) (zp) (z7) (zd) (zh) (z2) (z6) zn zb zu r1 hr1
 refine zc [0] (iv r1.1) [(Zi (Zk.mk zl r1.2.1 z7 zd zh (Zj.mk r1.2.2.1 r1.2.2.2)) zn zb), (Zo b1 zB zy)] er1 ?_
 refine zi fun r2 hr2 => ?_
 obtain ⟨qr2, er2, exr2, rfl⟩ := Z1v (r1.1) r2 hr2
 refine zc [] (.p (.agg (ZF r2))) [(Zi (Zk.mk zl r1.2.1 z7 zd zh (Zj.mk r1.2.2.1 r1.2.2.2)) zn zb), (Zo b1 zB zy)] er2 ?_
 refine zo (.p (.lst .ex (([r2] : List Z8).map Zv))) ?_
 refine zi fun r3 hr3 => ?_
 obtain ⟨qr3, er3, exr3, rfl⟩ := Z2R (false) (([r2] : List Z8)) .sh r3 hr3
 refine zc [] (.p (.agg (Zz r3 .sh .sh))) [(Zi (Zk.mk zl r1.2.1 z7 zd zh (Zj.mk r1.2.2.1 r1.2.2.2)) zn zb), (Zo b1 zB zy)] er3 ?_
 refine zt [(Zi (Zk.mk zl r1.2.1 z7 zd zh (Zj.mk r1.2.2.1 r1.2.2.2)) zn zb), (Zo r3 .sh .sh)] ?_
 exact zr ((.p (.agg (Zz r3 .sh .sh))), [(Zi (Zk.mk zl r1.2.1 z7 zd zh (Zj.mk r1.2.2.1 r1.2.2.2)) zn zb), (Zo r3 .sh .sh)]) ⟨zb, _, zu, rfl⟩
noncomputable def Z2f (x1 : Int) (x5 : Int) (zl : List Int) (zp : Int) (z7 : Int) (zd : Int) (zh : List Zq) (z2 : Int) (z6 : Int) : Option (Z3 × Int × (List Zq) × Int × Int) :=
 (Z25 zl zp).bind fun r1 =>
 (Z4W x5).bind fun r2 =>
 (nilO r2.1 r2.2).bind fun a3 =>
 if ((!a3)) = true then
 ((Z4W x5).bind fun r4 =>
 (Z2I ((decide (x5 < 97))) r4.2).bind fun r5 =>
 some (r5, r1.2, zh, z2, z6))
 else
 (if ((x5 == 98)) = true then
 (some ((Z3.mk 9 0 0 0 2 ([] : List Z8) ([] : List Z3)), r1.2, zh, z2, z6))
 else
 (if ((x5 == 66)) = true then
 (some ((Z3.mk 9 0 0 0 3 ([] : List Z8) ([] : List Z3)), r1.2, zh, z2, z6))
 else
 (if ((decide (49 ≤ x5))) = true then
 (if ((decide (x5 ≤ 57))) = true then
 (Z3t x1 x5 r1.2 zh z2 z6)
 else
 (Z26 x1 x5 zl r1.2 z7 zd zh z2 z6))
 else
 (Z26 x1 x5 zl r1.2 z7 zd zh z2 z6))))
theorem Z9B (x1 : Int) (x5 : Int) (zl : List Int) (zp : Int) (z7 : Int) (zd : Int) (zh : List Zq) (z2 : Int) (z6 : Int) (b1 : Z3) (zn : Own) (zb : Own) (zB : Own) (zy : Own) (zu : okApp zb = true) (zP : okApp zB = true) (zI : okApp zy = true) : Sim (Z2E zl z7 zd zn) (Z2f x1 x5 zl zp z7 zd zh z2 z6) (Zfz 1 (.ptr 0 0) (iv x1) (.ptr 1 0) (iv x5) [(Zi (Zk.mk zl zp z7 zd zh (Zj.mk z2 z6)) zn zb), (Zo b1 zB zy)]) := by
 unfold Z2f
 refine zf (ZhJ ..) ?_
 refine ze ?_
 refine zi fun r1 hr1 => ?_
 obtain ⟨qr1, er1, exr1, rfl⟩ := Z2t (zl) (zp) (z7) (zd) (zh) (z2) (z6) zn zb zu r1 hr1
 refine zc [0] (iv r1.1) [(Zi (Zk.mk zl r1.2 z7 zd zh (Zj.mk z2 z6)) zn zb), (Zo b1 zB zy)] er1 ?_
 refine ze ?_
 refine zi fun r2 hr2 => ?_
 obtain ⟨qr2, er2, exr2, rfl⟩ := Z6W (x5) r2 hr2
 refine zc [] (.p (.lst r2.1 (r2.2.map Zv))) [(Zi (Zk.mk zl r1.2 z7 zd zh (Zj.mk z2 z6)) zn zb), (Zo b1 zB zy)] er2 ?_
 refine zi fun a3 ha3 => ?_
 refine zo (bv (!a3)) ?_ (Eq.trans (by kernel_rfl) (xnil_neq (P := PP) (t := 23) (c := .slice none 0 0) (e := Zv) (by kernel_rfl) ha3))
 refine za ((!a3)) ?_ ?_
 ·refine ze ?_
  refine zo (bv (decide (x5 < 97))) ?_
  refine zi fun r4 hr4 => ?_
  obtain ⟨qr4, er4, exr4, rfl⟩ := Z6W (x5) r4 hr4
  refine zc [] (.p (.lst r4.1 (r4.2.map Zv))) [(Zi (Zk.mk zl r1.2 z7 zd zh (Zj.mk z2 z6)) zn zb), (Zo b1 zB zy)] er4 ?_
  refine zi fun r5 hr5 => ?_
  obtain ⟨qr5, er5, exr5, rfl⟩ := Z2R ((decide (x5 < 97))) (r4.2) .sh r5 hr5
  refine zc [] (.p (.agg (Zz r5 .sh .sh))) [(Zi (Zk.mk zl r1.2 z7 zd zh (Zj.mk z2 z6)) zn zb), (Zo b1 zB zy)] er5 ?_
  refine zt [(Zi (Zk.mk zl r1.2 z7 zd zh (Zj.mk z2 z6)) zn zb), (Zo r5 .sh .sh)] ?_
  exact zr ((.p (.agg (Zz r5 .sh .sh))), [(Zi (Zk.mk zl r1.2 z7 zd zh (Zj.mk z2 z6)) zn zb), (Zo r5 .sh .sh)]) ⟨zb, _, zu, rfl⟩
 ·refine ze ?_
  refine zo (bv (x5 == 98)) ?_
  refine za ((x5 == 98)) ?_ ?_
  ·refine ze ?_
   refine zo (.p (.agg (Zz (Z3.mk 9 0 0 0 2 ([] : List Z8) ([] : List Z3)) .nl .nl))) ?_
   refine zt [(Zi (Zk.mk zl r1.2 z7 zd zh (Zj.mk z2 z6)) zn zb), (Zo (Z3.mk 9 0 0 0 2 ([] : List Z8) ([] : List Z3)) .nl .nl)] ?_
   exact zr ((.p (.agg (Zz (Z3.mk 9 0 0 0 2 ([] : List Z8) ([] : List Z3)) .sh .sh))), [(Zi (Zk.mk zl r1.2 z7 zd zh (Zj.mk z2 z6)) zn zb), (Zo (Z3.mk 9 0 0 0 2 ([] : List Z8) ([] : List Z3)) .nl .nl)]) ⟨zb, _, zu, rfl⟩
  ·refine ze ?_
   refine zo (bv (x5 == 66)) ?_
   refine za ((x5 == 66)) ?_ ?_
   ·refine ze ?_
    refine zo (.p (.agg (Zz (Z3.mk 9 0 0 0 3 ([] : List Z8) ([] : List Z3)) .nl .nl))) ?_
    refine zt [(Zi (Zk.mk zl r1.2 z7 zd zh (Zj.mk z2 z6)) zn zb), (Zo (Z3.mk 9 0 0 0 3 ([] : List Z8) ([] : List Z3)) .nl .nl)] ?_
    exact zr ((.p (.agg (Zz (Z3.mk 9 0 0 0 3 ([] : List Z8) ([] : List Z3)) .sh .sh))), [(Zi (Zk.mk zl r1.2 z7 zd zh (Zj.mk z2 z6)) zn zb), (Zo (Z3.mk 9 0 0 0 3 ([] : List Z8) ([] : List Z3)) .nl .nl)]) ⟨zb, _, zu, rfl⟩
   ·refine ze ?_
    refine zo (bv (decide (49 ≤ x5))) ?_
    refine za ((decide (49 ≤ x5))) ?_ ?_
    ·refine zo (bv (decide (x5 ≤ 57))) ?_
     refine za ((decide (x5 ≤ 57))) ?_ ?_
     ·exact zk (Z9t (x1) (x5) (zl) (r1.2) (z7) (zd) (zh) (z2) (z6) (b1) zn zb zB zy zu zP zI)
     ·exact zk (Z6s (x1) (x5) (zl) (r1.2) (z7) (zd) (zh) (z2) (z6) (b1) zn zb zB zy zu zP zI)
    ·exact zk (Z6s (x1) (x5) (zl) (r1.2) (z7) (zd) (zh) (z2) (z6) (b1) zn zb zB zy zu zP zI)
noncomputable def Z3B (x1 : Int) (zl : List Int) (zp : Int) (z7 : Int) (zd : Int) (zh : List Zq) (z2 : Int) (z6 : Int) : Option (Z3 × Int × (List Zq) × Int × Int) :=
 (Z1F ((Zk.mk zl zp z7 zd zh (Zj.mk z2 z6)))).bind fun r1 =>
 if ((decide (r1 < 0))) = true then
 ((ZS 21 x1 zl z2 z6).bind fun r2 =>
 some ((Z3.mk 0 0 0 0 0 ([] : List Z8) ([] : List Z3)), r2.1, zh, r2.2.1, r2.2.2))
 else
 (Z2f x1 r1 zl zp z7 zd zh z2 z6)
theorem Zau (x1 : Int) (zl : List Int) (zp : Int) (z7 : Int) (zd : Int) (zh : List Zq) (z2 : Int) (z6 : Int) (zn : Own) (zb : Own) (zu : okApp zb = true) : Sim (Z2E zl z7 zd zn) (Z3B x1 zl zp z7 zd zh z2 z6) (EE 49 [(.ptr 0 0), (iv x1)] [(Zi (Zk.mk zl zp z7 zd zh (Zj.mk z2 z6)) zn zb)]) := by
 unfold Z3B
 refine zf (Zki ..) ?_
 refine ze ?_
 refine zz (.ptr 1 0) [(Zi (Zk.mk zl zp z7 zd zh (Zj.mk z2 z6)) zn zb), (Zo (Z3.mk 0 0 0 0 0 ([] : List Z8) ([] : List Z3)) .nl .nl)] ?_
 refine ze ?_
 refine zi fun r1 hr1 => ?_
 obtain ⟨qr1, er1, exr1, rfl⟩ := Z1K ((Zk.mk zl zp z7 zd zh (Zj.mk z2 z6))) zn zb zu r1 hr1
 refine zc [0] (iv r1) [(Zi (Zk.mk zl zp z7 zd zh (Zj.mk z2 z6)) zn zb), (Zo (Z3.mk 0 0 0 0 0 ([] : List Z8) ([] : List Z3)) .nl .nl)] er1 ?_
 refine ze ?_
 refine zo (bv (decide (r1 < 0))) ?_
 refine za ((decide (r1 < 0))) ?_ ?_
 ·refine ze ?_
  refine zi fun r2 hr2 => ?_
  obtain ⟨qr2, er2, exr2, rfl⟩ := ZV (21) (x1) (zl) (zp) (z7) (zd) (zh) (z2) (z6) zn zb zu r2 hr2
  refine zc [0] (.p (.tup [])) [(Zi (Zk.mk zl r2.1 z7 zd zh (Zj.mk r2.2.1 r2.2.2)) zn zb), (Zo (Z3.mk 0 0 0 0 0 ([] : List Z8) ([] : List Z3)) .nl .nl)] er2 ?_
  refine ze ?_
  refine zo (.p (.agg (Zz (Z3.mk 0 0 0 0 0 ([] : List Z8) ([] : List Z3)) .nl .nl))) ?_
  refine zt [(Zi (Zk.mk zl r2.1 z7 zd zh (Zj.mk r2.2.1 r2.2.2)) zn zb), (Zo (Z3.mk 0 0 0 0 0 ([] : List Z8) ([] : List Z3)) .nl .nl)] ?_
  exact zr ((.p (.agg (Zz (Z3.mk 0 0 0 0 0 ([] : List Z8) ([] : List Z3)) .sh .sh))), [(Zi (Zk.mk zl r2.1 z7 zd zh (Zj.mk r2.2.1 r2.2.2)) zn zb), (Zo (Z3.mk 0 0 0 0 0 ([] : List Z8) ([] : List Z3)) .nl .nl)]) ⟨zb, _, zu, rfl⟩
 ·exact zk (Z9B (x1) (r1) (zl) (zp) (z7) (zd) (zh) (z2) (z6) ((Z3.mk 0 0 0 0 0 ([] : List Z8) ([] : List Z3))) zn zb .nl .nl zu rfl rfl)
theorem ZaN (x1 : Int) (zl : List Int) (zp : Int) (z7 : Int) (zd : Int) (zh : List Zq) (z2 : Int) (z6 : Int) {r} (h : Z3B x1 zl zp z7 zd zh z2 z6 = some r) : Z38 x1 zl zp z7 zd zh z2 z6 = some r :=
 pick_of (fun _ _ ha hb => RRun.uniq (Zb3 _ _ _ _) (ha .ex .ex rfl) (hb .ex .ex rfl)) (fun zn zb zu => Zau x1 zl zp z7 zd zh z2 z6 zn zb zu r h)
end Go.Proofs.YtadodmjdkphddaaDoor.N2
end
section
set_option linter.unusedSimpArgs false
set_option linter.unusedVariables false
namespace Go.Proofs.YtadodmjdkphddaaDoor.N2
open Go Go.Abs
set_option linter.unusedVariables false
set_option maxRecDepth 100000
noncomputable def Z3p (zl : List Int) (z2 : Int) (z6 : Int) : Option (Int × Int × Int) :=
 some ((zl.length : Int), z2, z6)
theorem Z71 (zl : List Int) (zp : Int) (z7 : Int) (zd : Int) (zh : List Zq) (z2 : Int) (z6 : Int) (zn : Own) (zb : Own) (zu : okApp zb = true) : Sim (Z4d zl z7 zd zh zn zb) (Z3p zl z2 z6) (Zeg 1 (.ptr 0 0) [(Zi (Zk.mk zl zp z7 zd zh (Zj.mk z2 z6)) zn zb)]) := by
 unfold Z3p
 refine zf (ZhA ..) ?_
 refine ze ?_
 refine zo (.ptr 0 0) ?_
 refine zo (.ptr 0 0) ?_
 refine zo (.p (.lst (shrO zn) (zl.map (eI .u8)))) ?_
 refine zo (iv (zl.length : Int)) ?_ (Eq.trans (by kernel_rfl) (xlen_of (P := PP) (t := 40) (d := 5) (by kernel_rfl) (eI .u8) (shrO zn) zl))
 refine zo (.ptr 0 0) ?_
 refine zo (.ptr 0 1) ?_
 refine zt [(Zi (Zk.mk zl (zl.length : Int) z7 zd zh (Zj.mk z2 z6)) zn zb)] ?_
 exact zr ((.p (.tup [])), [(Zi (Zk.mk zl (zl.length : Int) z7 zd zh (Zj.mk z2 z6)) zn zb)]) ⟨_, rfl⟩
noncomputable def Z55 (x1 : Int) (x2 : Int) (zl : List Int) (z2 : Int) (z6 : Int) : Option (Int × Int × Int) :=
 if ((z2 == 0)) = true then
 (Z3p zl x1 x2)
 else
 (Z3p zl z2 z6)
theorem Zbc (x1 : Int) (x2 : Int) (zl : List Int) (zp : Int) (z7 : Int) (zd : Int) (zh : List Zq) (z2 : Int) (z6 : Int) (zn : Own) (zb : Own) (zu : okApp zb = true) : Sim (Z4d zl z7 zd zh zn zb) (Z55 x1 x2 zl z2 z6) (EE 29 [(.ptr 0 0), (iv x1), (iv x2)] [(Zi (Zk.mk zl zp z7 zd zh (Zj.mk z2 z6)) zn zb)]) := by
 unfold Z55
 refine zf (Zkr ..) ?_
 refine ze ?_
 refine zo (.ptr 0 0) ?_
 refine zo (.ptr 0 5) ?_
 refine zo (.ptr 0 5) ?_
 refine zo (iv z2) ?_
 refine zo (bv (z2 == 0)) ?_
 refine za ((z2 == 0)) ?_ ?_
 ·refine ze ?_
  refine zo (.p (.agg (Z1Y (Zj.mk x1 x2)))) ?_
  refine zo (.ptr 0 0) ?_
  refine zo (.ptr 0 5) ?_
  refine zt [(Zi (Zk.mk zl zp z7 zd zh (Zj.mk x1 x2)) zn zb)] ?_
  exact zk (Z71 (zl) (zp) (z7) (zd) (zh) (x1) (x2) zn zb zu)
 ·exact zk (Z71 (zl) (zp) (z7) (zd) (zh) (z2) (z6) zn zb zu)
theorem Z8s (x1 : Int) (x2 : Int) (zl : List Int) (z2 : Int) (z6 : Int) {r} (h : Z55 x1 x2 zl z2 z6 = some r) : ZS x1 x2 zl z2 z6 = some r :=
 pick_of (fun _ _ ha hb => RRun.uniq (Zc8 _ _ _ _ _ _) (ha default default default default .ex .ex rfl) (hb default default default default .ex .ex rfl)) (fun zp z7 zd zh zn zb zu => Zbc x1 x2 zl zp z7 zd zh z2 z6 zn zb zu r h)
noncomputable def Z1O  : Option ((Own × (List Z8))) :=
 some ((.nl, ([] : List Z8)))
theorem Z27  : Sim (Z4X) (Z1O) (Z77 0  []) := by
 unfold Z1O
 refine zf (Zhs ..) ?_
 refine ze ?_
 exact zr ((.p (.lst .nl [])), []) ⟨_, rfl⟩
noncomputable def Z2J (x0 : Int) : Option ((Own × (List Z8))) :=
 if ((x0 == 100)) = true then
 (if ((x0 == 100)) = true then
 (some ((.ex, ([(Z8.mk 48 57)] : List Z8))))
 else
 (if ((x0 == 119)) = true then
 (if ((x0 == 119)) = true then
 ((Z1A 95).bind fun r1 =>
 some ((.ex, ([(Z8.mk 48 57), (Z8.mk 65 90), r1, (Z8.mk 97 122)] : List Z8))))
 else
 (if ((x0 == 115)) = true then
 (if ((x0 == 115)) = true then
 ((Z1A 32).bind fun r2 =>
 some ((.ex, ([(Z8.mk 9 13), r2] : List Z8))))
 else
 (Z1O))
 else
 (if ((x0 == 83)) = true then
 ((Z1A 32).bind fun r3 =>
 some ((.ex, ([(Z8.mk 9 13), r3] : List Z8))))
 else
 (Z1O))))
 else
 (if ((x0 == 87)) = true then
 ((Z1A 95).bind fun r4 =>
 some ((.ex, ([(Z8.mk 48 57), (Z8.mk 65 90), r4, (Z8.mk 97 122)] : List Z8))))
 else
 (if ((x0 == 115)) = true then
 (if ((x0 == 115)) = true then
 ((Z1A 32).bind fun r5 =>
 some ((.ex, ([(Z8.mk 9 13), r5] : List Z8))))
 else
 (Z1O))
 else
 (if ((x0 == 83)) = true then
 ((Z1A 32).bind fun r6 =>
 some ((.ex, ([(Z8.mk 9 13), r6] : List Z8))))
 else
 (Z1O))))))
 else
 (if ((x0 == 68)) = true then
 (some ((.ex, ([(Z8.mk 48 57)] : List Z8))))
 else
 (if ((x0 == 119)) = true then
 (if ((x0 == 119)) = true then
 ((Z1A 95).bind fun r7 =>
 some ((.ex, ([(Z8.mk 48 57), (Z8.mk 65 90), r7, (Z8.mk 97 122)] : List Z8))))
 else
 (if ((x0 == 115)) = true then
 (if ((x0 == 115)) = true then
 ((Z1A 32).bind fun r8 =>
 some ((.ex, ([(Z8.mk 9 13), r8] : List Z8))))
 else
 (Z1O))
 else
 (if ((x0 == 83)) = true then
 ((Z1A 32).bind fun r9 =>
 some ((.ex, ([(Z8.mk 9 13), r9] : List Z8))))
 else
 (Z1O))))
 else
 (if ((x0 == 87)) = true then
 ((Z1A 95).bind fun r10 =>
 some ((.ex, ([(Z8.mk 48 57), (Z8.mk 65 90), r10, (Z8.mk 97 122)] : List Z8))))
 else
 (if ((x0 == 115)) = true then
 (if ((x0 == 115)) = true then
 ((Z1A 32).bind fun r11 =>
 some ((.ex, ([(Z8.mk 9 13), r11] : List Z8))))
 else
 (Z1O))
 else
 (if ((x0 == 83)) = true then
 ((Z1A 32).bind fun r12 =>
 some ((.ex, ([(Z8.mk 9 13), r12] : List Z8))))
 else
 (Z1O))))))
theorem ZbK (x0 : Int) : Sim (Z4X) (Z2J x0) (EE 56 [(iv x0)] []) := by
 unfold Z2J
 refine zf (Zjw ..) ?_
 refine ze ?_
 refine ze ?_
 refine ze ?_
 refine zo (bv (x0 == 100)) ?_
 refine za ((x0 == 100)) ?_ ?_
 ·refine za ((x0 == 100)) ?_ ?_
  ·refine ze ?_
   refine zo (.p (.agg (ZF (Z8.mk 48 57)))) ?_
   refine zo (.p (.lst .ex (([(Z8.mk 48 57)] : List Z8).map Zv))) ?_
   exact zr ((.p (.lst .ex (([(Z8.mk 48 57)] : List Z8).map Zv))), []) ⟨_, rfl⟩
  ·refine ze ?_
   refine zo (bv (x0 == 119)) ?_
   refine za ((x0 == 119)) ?_ ?_
   ·refine za ((x0 == 119)) ?_ ?_
    ·refine ze ?_
     refine zo (.p (.agg (ZF (Z8.mk 48 57)))) ?_
     refine zo (.p (.agg (ZF (Z8.mk 65 90)))) ?_
     refine zi fun r1 hr1 => ?_
     obtain ⟨qr1, er1, exr1, rfl⟩ := Z1v (95) r1 hr1
     refine zc [] (.p (.agg (ZF r1))) [] er1 ?_
     refine zo (.p (.agg (ZF (Z8.mk 97 122)))) ?_
     refine zo (.p (.lst .ex (([(Z8.mk 48 57), (Z8.mk 65 90), r1, (Z8.mk 97 122)] : List Z8).map Zv))) ?_
     exact zr ((.p (.lst .ex (([(Z8.mk 48 57), (Z8.mk 65 90), r1, (Z8.mk 97 122)] : List Z8).map Zv))), []) ⟨_, rfl⟩
    ·refine ze ?_
     refine zo (bv (x0 == 115)) ?_
     refine za ((x0 == 115)) ?_ ?_
     ·refine za ((x0 == 115)) ?_ ?_
      ·refine ze ?_
       refine zo (.p (.agg (ZF (Z8.mk 9 13)))) ?_
       refine zi fun r2 hr2 => ?_
       obtain ⟨qr2, er2, exr2, rfl⟩ := Z1v (32) r2 hr2
       refine zc [] (.p (.agg (ZF r2))) [] er2 ?_
       refine zo (.p (.lst .ex (([(Z8.mk 9 13), r2] : List Z8).map Zv))) ?_
       exact zr ((.p (.lst .ex (([(Z8.mk 9 13), r2] : List Z8).map Zv))), []) ⟨_, rfl⟩
      ·exact zk (Z27 )
     ·refine ze ?_
      refine zo (bv (x0 == 83)) ?_
      refine za ((x0 == 83)) ?_ ?_
      ·refine ze ?_
       refine zo (.p (.agg (ZF (Z8.mk 9 13)))) ?_
       refine zi fun r3 hr3 => ?_
       obtain ⟨qr3, er3, exr3, rfl⟩ := Z1v (32) r3 hr3
       refine zc [] (.p (.agg (ZF r3))) [] er3 ?_
       refine zo (.p (.lst .ex (([(Z8.mk 9 13), r3] : List Z8).map Zv))) ?_
       exact zr ((.p (.lst .ex (([(Z8.mk 9 13), r3] : List Z8).map Zv))), []) ⟨_, rfl⟩
      ·exact zk (Z27 )
   ·refine ze ?_
    refine zo (bv (x0 == 87)) ?_
    refine za ((x0 == 87)) ?_ ?_
    ·refine ze ?_
     refine zo (.p (.agg (ZF (Z8.mk 48 57)))) ?_
     refine zo (.p (.agg (ZF (Z8.mk 65 90)))) ?_
     refine zi fun r4 hr4 => ?_
     obtain ⟨qr4, er4, exr4, rfl⟩ := Z1v (95) r4 hr4
     refine zc [] (.p (.agg (ZF r4))) [] er4 ?_
     refine zo (.p (.agg (ZF (Z8.mk 97 122)))) ?_
     refine zo (.p (.lst .ex (([(Z8.mk 48 57), (Z8.mk 65 90), r4, (Z8.mk 97 122)] : List Z8).map Zv))) ?_
     exact zr ((.p (.lst .ex (([(Z8.mk 48 57), (Z8.mk 65 90), r4, (Z8.mk 97 122)] : List Z8).map Zv))), []) ⟨_, rfl⟩
    ·refine ze ?_
     refine zo (bv (x0 == 115)) ?_
     refine za ((x0 == 115)) ?_ ?_
     ·refine za ((x0 == 115)) ?_ ?_
      ·refine ze ?_
       refine zo (.p (.agg (ZF (Z8.mk 9 13)))) ?_
       refine zi fun r5 hr5 => ?_
       obtain ⟨qr5, er5, exr5, rfl⟩ := Z1v (32) r5 hr5
       refine zc [] (.p (.agg (ZF r5))) [] er5 ?_
       refine zo (.p (.lst .ex (([(Z8.mk 9 13), r5] : List Z8).map Zv))) ?_
       exact zr ((.p (.lst .ex (([(Z8.mk 9 13), r5] : List Z8).map Zv))), []) ⟨_, rfl⟩
      ·exact zk (Z27 )
     ·refine ze ?_
      refine zo (bv (x0 == 83)) ?_
      refine za ((x0 == 83)) ?_ ?_
      ·refine ze ?_
       refine zo (.p (.agg (ZF (Z8.mk 9 13)))) ?_
       refine zi fun r6 hr6 => ?_
       obtain ⟨qr6, er6, exr6, rfl⟩ := Z1v (32) r6 hr6
       refine zc [] (.p (.agg (ZF r6))) [] er6 ?_
       refine zo (.p (.lst .ex (([(Z8.mk 9 13), r6] : List Z8).map Zv))) ?_
       exact zr ((.p (.lst .ex (([(Z8.mk 9 13), r6] : List Z8).map Zv))), []) ⟨_, rfl⟩
      ·exact zk (Z27 )
 ·refine ze ?_
  refine zo (bv (x0 == 68)) ?_
  refine za ((x0 == 68)) ?_ ?_
  ·refine ze ?_
   refine zo (.p (.agg (ZF (Z8.mk 48 57)))) ?_
   refine zo (.p (.lst .ex (([(Z8.mk 48 57)] : List Z8).map Zv))) ?_
   exact zr ((.p (.lst .ex (([(Z8.mk 48 57)] : List Z8).map Zv))), []) ⟨_, rfl⟩
  ·refine ze ?_
   refine zo (bv (x0 == 119)) ?_
   refine za ((x0 == 119)) ?_ ?_
   ·refine za ((x0 == 119)) ?_ ?_
    ·refine ze ?_
     refine zo (.p (.agg (ZF (Z8.mk 48 57)))) ?_
     refine zo (.p (.agg (ZF (Z8.mk 65 90)))) ?_
     refine zi fun r7 hr7 => ?_
     obtain ⟨qr7, er7, exr7, rfl⟩ := Z1v (95) r7 hr7
     refine zc [] (.p (.agg (ZF r7))) [] er7 ?_
     refine zo (.p (.agg (ZF (Z8.mk 97 122)))) ?_
     refine zo (.p (.lst .ex (([(Z8.mk 48 57), (Z8.mk 65 90), r7, (Z8.mk 97 122)] : List Z8).map Zv))) ?_
     exact zr ((.p (.lst .ex (([(Z8.mk 48 57), (Z8.mk 65 90), r7, (Z8.mk 97 122)] : List Z8).map Zv))), []) ⟨_, rfl⟩
    ·refine ze ?_
     refine zo (bv (x0 == 115)) ?_
     refine za ((x0 == 115)) ?_ ?_
     ·refine za ((x0 == 115)) ?_ ?_
      ·refine ze ?_
       refine zo (.p (.agg (ZF (Z8.mk 9 13)))) ?_
       refine zi fun r8 hr8 => ?_
       obtain ⟨qr8, er8, exr8, rfl⟩ := Z1v (32) r8 hr8
       refine zc [] (.p (.agg (ZF r8))) [] er8 ?_
       refine zo (.p (.lst .ex (([(Z8.mk 9 13), r8] : List Z8).map Zv))) ?_
       exact zr ((.p (.lst .ex (([(Z8.mk 9 13), r8] : List Z8).map Zv))), []) ⟨_, rfl⟩
      ·exact zk (Z27 )
     ·refine ze ?_
      refine zo (bv (x0 == 83)) ?_
      refine za ((x0 == 83)) ?_ ?_
      ·refine ze ?_
       refine zo (.p (.agg (ZF (Z8.mk 9 13)))) ?_
       refine zi fun r9 hr9 => ?_
       obtain ⟨qr9, er9, exr9, rfl⟩ := Z1v (32) r9 hr9
       refine zc [] (.p (.agg (ZF r9))) [] er9 ?_
       refine zo (.p (.lst .ex (([(Z8.mk 9 13), r9] : List Z8).map Zv))) ?_
       exact zr ((.p (.lst .ex (([(Z8.mk 9 13), r9] : List Z8).map Zv))), []) ⟨_, rfl⟩
      ·exact zk (Z27 )
   ·refine ze ?_
    refine zo (bv (x0 == 87)) ?_
    refine za ((x0 == 87)) ?_ ?_
    ·refine ze ?_
     refine zo (.p (.agg (ZF (Z8.mk 48 57)))) ?_
     refine zo (.p (.agg (ZF (Z8.mk 65 90)))) ?_
     refine zi fun r10 hr10 => ?_
     obtain ⟨qr10, er10, exr10, rfl⟩ := Z1v (95) r10 hr10
     refine zc [] (.p (.agg (ZF r10))) [] er10 ?_
     refine zo (.p (.agg (ZF (Z8.mk 97 122)))) ?_
     refine zo (.p (.lst .ex (([(Z8.mk 48 57), (Z8.mk 65 90), r10, (Z8.mk 97 122)] : List Z8).map Zv))) ?_
     exact zr ((.p (.lst .ex (([(Z8.mk 48 57), (Z8.mk 65 90), r10, (Z8.mk 97 122)] : List Z8).map Zv))), []) ⟨_, rfl⟩
    ·refine ze ?_
     refine zo (bv (x0 == 115)) ?_
     refine za ((x0 == 115)) ?_ ?_
     ·refine za ((x0 == 115)) ?_ ?_
      ·refine ze ?_
       refine zo (.p (.agg (ZF (Z8.mk 9 13)))) ?_
       refine zi fun r11 hr11 => ?_
       obtain ⟨qr11, er11, exr11, rfl⟩ := Z1v (32) r11 hr11
       refine zc [] (.p (.agg (ZF r11))) [] er11 ?_
       refine zo (.p (.lst .ex (([(Z8.mk 9 13), r11] : List Z8).map Zv))) ?_
       exact zr ((.p (.lst .ex (([(Z8.mk 9 13), r11] : List Z8).map Zv))), []) ⟨_, rfl⟩
      ·exact zk (Z27 )
     ·refine ze ?_
      refine zo (bv (x0 == 83)) ?_
      refine za ((x0 == 83)) ?_ ?_
      ·refine ze ?_
       refine zo (.p (.agg (ZF (Z8.mk 9 13)))) ?_
       refine zi fun r12 hr12 => ?_
       obtain ⟨qr12, er12, exr12, rfl⟩ := Z1v (32) r12 hr12
       refine zc [] (.p (.agg (ZF r12))) [] er12 ?_
       refine zo (.p (.lst .ex (([(Z8.mk 9 13), r12] : List Z8).map Zv))) ?_
       exact zr ((.p (.lst .ex (([(Z8.mk 9 13), r12] : List Z8).map Zv))), []) ⟨_, rfl⟩
      ·exact zk (Z27 )
theorem ZcD (x0 : Int) {r} (h : Z2J x0 = some r) : Z4W x0 = some r :=
 pick_of (fun _ _ ha hb => RRun.uniq (ZcM) (ha ) (hb )) (ZbK x0 r h)
noncomputable def Z1V (x2 : Int) (zl : List Int) (z2 : Int) (z6 : Int) : Option (Int × Int × Int × Int) :=
 (ZS 21 x2 zl z2 z6).bind fun r1 =>
 some (0, r1.1, r1.2.1, r1.2.2)
theorem Z37 (x2 : Int) (zl : List Int) (zp : Int) (z7 : Int) (zd : Int) (zh : List Zq) (z2 : Int) (z6 : Int) (zn : Own) (zb : Own) (zu : okApp zb = true) : Sim (Z3g zl z7 zd zh zn zb) (Z1V x2 zl z2 z6) (Z9x 1 (.ptr 0 0) (iv x2) [(Zi (Zk.mk zl zp z7 zd zh (Zj.mk z2 z6)) zn zb)]) := by
 unfold Z1V
 refine zf (Zh2 ..) ?_
 refine ze ?_
 refine zi fun r1 hr1 => ?_
 obtain ⟨qr1, er1, exr1, rfl⟩ := ZV (21) (x2) (zl) (zp) (z7) (zd) (zh) (z2) (z6) zn zb zu r1 hr1
 refine zc [0] (.p (.tup [])) [(Zi (Zk.mk zl r1.1 z7 zd zh (Zj.mk r1.2.1 r1.2.2)) zn zb)] er1 ?_
 refine ze ?_
 exact zr ((iv 0), [(Zi (Zk.mk zl r1.1 z7 zd zh (Zj.mk r1.2.1 r1.2.2)) zn zb)]) ⟨_, rfl⟩
noncomputable def Z62 (x1 : Int) (zp : Int) (z2 : Int) (z6 : Int) : Option (Int × Int × Int × Int) :=
 some (x1, zp, z2, z6)
theorem Z9M (x1 : Int) (zl : List Int) (zp : Int) (z7 : Int) (zd : Int) (zh : List Zq) (z2 : Int) (z6 : Int) (zn : Own) (zb : Own) (zu : okApp zb = true) : Sim (Z3g zl z7 zd zh zn zb) (Z62 x1 zp z2 z6) (ZeF 1 (iv x1) [(Zi (Zk.mk zl zp z7 zd zh (Zj.mk z2 z6)) zn zb)]) := by
 unfold Z62
 refine zf (Zhx ..) ?_
 refine ze ?_
 exact zr ((iv x1), [(Zi (Zk.mk zl zp z7 zd zh (Zj.mk z2 z6)) zn zb)]) ⟨_, rfl⟩
noncomputable def Z5O (x1 : Int) (x2 : Int) (zl : List Int) (zp : Int) (z7 : Int) (zd : Int) (zh : List Zq) (z2 : Int) (z6 : Int) : Option (Int × Int × Int × Int) :=
 if ((x1 == 110)) = true then
 (some (10, zp, z2, z6))
 else
 (if ((x1 == 116)) = true then
 (some (9, zp, z2, z6))
 else
 (if ((x1 == 114)) = true then
 (some (13, zp, z2, z6))
 else
 (if ((x1 == 120)) = true then
 ((Z1F ((Zk.mk zl zp z7 zd zh (Zj.mk z2 z6)))).bind fun r1 =>
 (Z8r r1).bind fun r2 =>
 if ((decide (0 ≤ r2))) = true then
 ((Z25 zl zp).bind fun r3 =>
 (Z1F ((Zk.mk zl r3.2 z7 zd zh (Zj.mk z2 z6)))).bind fun r4 =>
 (Z8r r4).bind fun r5 =>
 if ((decide (0 ≤ r5))) = true then
 ((Z25 zl r3.2).bind fun r6 =>
 some ((IntKind.i64.wrap ((IntKind.i64.wrap (16 * r2)) + r5)), r6.2, z2, z6))
 else
 (Z1V x2 zl z2 z6))
 else
 (Z1V x2 zl z2 z6))
 else
 (if ((decide (32 < x1))) = true then
 (if ((decide (x1 < 127))) = true then
 ((Z6k (([(Z8.mk 48 57), (Z8.mk 65 90), (Z8.mk 97 122)] : List Z8)) x1).bind fun r7 =>
 if ((!r7)) = true then
 (Z62 x1 zp z2 z6)
 else
 (Z1V x2 zl z2 z6))
 else
 (Z1V x2 zl z2 z6))
 else
 (Z1V x2 zl z2 z6)))))
theorem Zb0 (x1 : Int) (x2 : Int) (zl : List Int) (zp : Int) (z7 : Int) (zd : Int) (zh : List Zq) (z2 : Int) (z6 : Int) (zn : Own) (zb : Own) (zu : okApp zb = true) : Sim (Z3g zl z7 zd zh zn zb) (Z5O x1 x2 zl zp z7 zd zh z2 z6) (EE 57 [(.ptr 0 0), (iv x1), (iv x2)] [(Zi (Zk.mk zl zp z7 zd zh (Zj.mk z2 z6)) zn zb)]) := by
 unfold Z5O
 refine zf (ZkT ..) ?_
 refine ze ?_
 refine ze ?_
 refine zo (bv (x1 == 110)) ?_
 refine za ((x1 == 110)) ?_ ?_
 ·refine ze ?_
  exact zr ((iv 10), [(Zi (Zk.mk zl zp z7 zd zh (Zj.mk z2 z6)) zn zb)]) ⟨_, rfl⟩
 ·refine ze ?_
  refine zo (bv (x1 == 116)) ?_
  refine za ((x1 == 116)) ?_ ?_
  ·refine ze ?_
   exact zr ((iv 9), [(Zi (Zk.mk zl zp z7 zd zh (Zj.mk z2 z6)) zn zb)]) ⟨_, rfl⟩
  ·refine ze ?_
   refine zo (bv (x1 == 114)) ?_
   refine za ((x1 == 114)) ?_ ?_
   ·refine ze ?_
    exact zr ((iv 13), [(Zi (Zk.mk zl zp z7 zd zh (Zj.mk z2 z6)) zn zb)]) ⟨_, rfl⟩
   ·refine ze ?_
    refine zo (bv (x1 == 120)) ?_
    refine za ((x1 == 120)) ?_ ?_
    ·refine ze ?_
     refine zi fun r1 hr1 => ?_
     obtain ⟨qr1, er1, exr1, rfl⟩ := Z1K ((Zk.mk zl zp z7 zd zh (Zj.mk z2 z6))) zn zb zu r1 hr1
     refine zc [0] (iv r1) [(Zi (Zk.mk zl zp z7 zd zh (Zj.mk z2 z6)) zn zb)] er1 ?_
     refine zi fun r2 hr2 => ?_
     obtain ⟨qr2, er2, exr2, rfl⟩ := ZbQ (r1) r2 hr2
     refine zc [] (iv r2) [(Zi (Zk.mk zl zp z7 zd zh (Zj.mk z2 z6)) zn zb)] er2 ?_
     refine ze ?_
     refine zo (bv (decide (0 ≤ r2))) ?_
     refine za ((decide (0 ≤ r2))) ?_ ?_
     ·refine ze ?_
      refine zi fun r3 hr3 => ?_
      obtain ⟨qr3, er3, exr3, rfl⟩ := Z2t (zl) (zp) (z7) (zd) (zh) (z2) (z6) zn zb zu r3 hr3
      refine zc [0] (iv r3.1) [(Zi (Zk.mk zl r3.2 z7 zd zh (Zj.mk z2 z6)) zn zb)] er3 ?_
      refine ze ?_
      refine zi fun r4 hr4 => ?_
      obtain ⟨qr4, er4, exr4, rfl⟩ := Z1K ((Zk.mk zl r3.2 z7 zd zh (Zj.mk z2 z6))) zn zb zu r4 hr4
      refine zc [0] (iv r4) [(Zi (Zk.mk zl r3.2 z7 zd zh (Zj.mk z2 z6)) zn zb)] er4 ?_
      refine zi fun r5 hr5 => ?_
      obtain ⟨qr5, er5, exr5, rfl⟩ := ZbQ (r4) r5 hr5
      refine zc [] (iv r5) [(Zi (Zk.mk zl r3.2 z7 zd zh (Zj.mk z2 z6)) zn zb)] er5 ?_
      refine ze ?_
      refine zo (bv (decide (0 ≤ r5))) ?_
      refine za ((decide (0 ≤ r5))) ?_ ?_
      ·refine ze ?_
       refine zi fun r6 hr6 => ?_
       obtain ⟨qr6, er6, exr6, rfl⟩ := Z2t (zl) (r3.2) (z7) (zd) (zh) (z2) (z6) zn zb zu r6 hr6
       refine zc [0] (iv r6.1) [(Zi (Zk.mk zl r6.2 z7 zd zh (Zj.mk z2 z6)) zn zb)] er6 ?_
       refine ze ?_
       refine zo (iv (IntKind.i64.wrap (16 * r2))) ?_
       refine zo (iv (IntKind.i64.wrap ((IntKind.i64.wrap (16 * r2)) + r5))) ?_
       exact zr ((iv (IntKind.i64.wrap ((IntKind.i64.wrap (16 * r2)) + r5))), [(Zi (Zk.mk zl r6.2 z7 zd zh (Zj.mk z2 z6)) zn zb)]) ⟨_, rfl⟩
      ·exact zk (Z37 (x2) (zl) (r3.2) (z7) (zd) (zh) (z2) (z6) zn zb zu)
     ·exact zk (Z37 (x2) (zl) (zp) (z7) (zd) (zh) (z2) (z6) zn zb zu)
    ·refine ze ?_
     refine zo (bv (decide (32 < x1))) ?_
     refine za ((decide (32 < x1))) ?_ ?_
     ·refine zo (bv (decide (x1 < 127))) ?_
      refine za ((decide (x1 < 127))) ?_ ?_
      ·refine zo (.p (.agg (ZF (Z8.mk 48 57)))) ?_
       refine zo (.p (.agg (ZF (Z8.mk 65 90)))) ?_
       refine zo (.p (.agg (ZF (Z8.mk 97 122)))) ?_
       refine zo (.p (.lst .ex (([(Z8.mk 48 57), (Z8.mk 65 90), (Z8.mk 97 122)] : List Z8).map Zv))) ?_
       refine zi fun r7 hr7 => ?_
       obtain ⟨qr7, er7, exr7, rfl⟩ := Zdd (([(Z8.mk 48 57), (Z8.mk 65 90), (Z8.mk 97 122)] : List Z8)) (x1) .sh r7 hr7
       refine zc [] (bv r7) [(Zi (Zk.mk zl zp z7 zd zh (Zj.mk z2 z6)) zn zb)] er7 ?_
       refine zo (bv (!r7)) ?_
       refine za ((!r7)) ?_ ?_
       ·exact zk (Z9M (x1) (zl) (zp) (z7) (zd) (zh) (z2) (z6) zn zb zu)
       ·exact zk (Z37 (x2) (zl) (zp) (z7) (zd) (zh) (z2) (z6) zn zb zu)
      ·exact zk (Z37 (x2) (zl) (zp) (z7) (zd) (zh) (z2) (z6) zn zb zu)
     ·exact zk (Z37 (x2) (zl) (zp) (z7) (zd) (zh) (z2) (z6) zn zb zu)
theorem Zb7 (x1 : Int) (x2 : Int) (zl : List Int) (zp : Int) (z7 : Int) (zd : Int) (zh : List Zq) (z2 : Int) (z6 : Int) {r} (h : Z5O x1 x2 zl zp z7 zd zh z2 z6 = some r) : Z4L x1 x2 zl zp z7 zd zh z2 z6 = some r :=
 pick_of (fun _ _ ha hb => RRun.uniq (Zbu _ _ _ _ _ _) (ha .ex .ex rfl) (hb .ex .ex rfl)) (fun zn zb zu => Zb0 x1 x2 zl zp z7 zd zh z2 z6 zn zb zu r h)
noncomputable def Z7T (x0 : Int) : Option (Int) :=
 some ((IntKind.i64.wrap (x0 - 48)))
theorem Zd7 (x0 : Int) : Sim (Z5i) (Z7T x0) (Zgm 0 (iv x0) []) := by
 unfold Z7T
 refine zf (Zix ..) ?_
 refine ze ?_
 refine zo (iv (IntKind.i64.wrap (x0 - 48))) ?_
 exact zr ((iv (IntKind.i64.wrap (x0 - 48))), []) ⟨_, rfl⟩
noncomputable def Z7M (x0 : Int) : Option (Int) :=
 some ((IntKind.i64.wrap ((IntKind.i64.wrap (x0 - 97)) + 10)))
theorem Zdc (x0 : Int) : Sim (Z5i) (Z7M x0) (ZfL 0 (iv x0) []) := by
 unfold Z7M
 refine zf (Zjb ..) ?_
 refine ze ?_
 refine zo (iv (IntKind.i64.wrap (x0 - 97))) ?_
 refine zo (iv (IntKind.i64.wrap ((IntKind.i64.wrap (x0 - 97)) + 10))) ?_
 exact zr ((iv (IntKind.i64.wrap ((IntKind.i64.wrap (x0 - 97)) + 10))), []) ⟨_, rfl⟩
noncomputable def Z6G  : Option (Int) :=
 some ((-1))
theorem Za8  : Sim (Z5i) (Z6G) (Ze6 0  []) := by
 unfold Z6G
 refine zf (Zi2 ..) ?_
 refine ze ?_
 exact zr ((iv (-1)), []) ⟨_, rfl⟩
noncomputable def Z6P (x0 : Int) : Option (Int) :=
 if ((decide (97 ≤ x0))) = true then
 (if ((decide (x0 ≤ 102))) = true then
 (Z7M x0)
 else
 (Z6G))
 else
 (Z6G)
theorem Za9 (x0 : Int) : Sim (Z5i) (Z6P x0) (ZdZ 0 (iv x0) []) := by
 unfold Z6P
 refine zf (ZhI ..) ?_
 refine ze ?_
 refine zo (bv (decide (97 ≤ x0))) ?_
 refine za ((decide (97 ≤ x0))) ?_ ?_
 ·refine zo (bv (decide (x0 ≤ 102))) ?_
  refine za ((decide (x0 ≤ 102))) ?_ ?_
  ·exact zk (Zdc (x0))
  ·exact zk (Za8 )
 ·exact zk (Za8 )
noncomputable def Z9S (x0 : Int) : Option (Int) :=
 if ((decide (48 ≤ x0))) = true then
 (if ((decide (x0 ≤ 57))) = true then
 (Z7T x0)
 else
 (Z6P x0))
 else
 (Z6P x0)
theorem Zed (x0 : Int) : Sim (Z5i) (Z9S x0) (EE 71 [(iv x0)] []) := by
 unfold Z9S
 refine zf (ZjW ..) ?_
 refine ze ?_
 refine ze ?_
 refine zo (bv (decide (48 ≤ x0))) ?_
 refine za ((decide (48 ≤ x0))) ?_ ?_
 ·refine zo (bv (decide (x0 ≤ 57))) ?_
  refine za ((decide (x0 ≤ 57))) ?_ ?_
  ·exact zk (Zd7 (x0))
  ·exact zk (Za9 (x0))
 ·exact zk (Za9 (x0))
theorem ZeH (x0 : Int) {r} (h : Z9S x0 = some r) : Z8r x0 = some r :=
 pick_of (fun _ _ ha hb => RRun.uniq (Zf0) (ha ) (hb )) (Zed x0 r h)
noncomputable def Z7a (x0 : List Z8) (x1 : Int) : Option (Bool) :=
 (Z3i x0 x1).bind fun r1 =>
 some (r1)
theorem ZcK (x0 : List Z8) (x1 : Int) (ox0 : Own) : Sim (Z6p) (Z7a x0 x1) (EE 19 [(.p (.lst ox0 (x0.map Zv))), (iv x1)] []) := by
 unfold Z7a
 refine zf (Zjv ..) ?_
 refine ze ?_
 refine zx (.ptr 0 0) [[(iv x1)]] ?_
 refine ze ?_
 refine zi fun r1 hr1 => ?_
 obtain ⟨qr1, er1, exr1, rfl⟩ := Z8f (x0) (x1) .sh r1 hr1
 refine zc [0] (bv r1) [[(iv x1)]] er1 ?_
 exact zr ((bv r1), [[(iv x1)]]) ⟨_, rfl⟩
theorem Zda (x0 : List Z8) (x1 : Int) {r} (h : Z7a x0 x1 = some r) : Z6k x0 x1 = some r :=
 pick_of (fun _ _ ha hb => RRun.uniq (Zdu) (ha .ex) (hb .ex)) (fun ox0 => ZcK x0 x1 ox0 r h)
noncomputable def Z3n (x0 : List Z8) (zZ : Int) : Option (Bool) :=
 (Z3W x0 zZ).bind fun r1 =>
 some ((decide (0 ≤ r1)))
theorem Z7K (x0 : List Z8) (zZ : Int) (ox0 : Own) : Sim (Z2N zZ) (Z3n x0 zZ) (EE 30 [(.p (.lst ox0 (x0.map Zv))), (.clo 31 [] [(.ptr 0 0)])] [[(iv zZ)]]) := by
 unfold Z3n
 refine zf (ZkN ..) ?_
 refine ze ?_
 refine ze ?_
 refine zi fun r1 hr1 => ?_
 obtain ⟨qr1, er1, exr1, rfl⟩ := Z95 (x0) (zZ) .sh r1 hr1
 refine zc [0] (iv r1) [[(iv zZ)]] er1 ?_
 refine zo (bv (decide (0 ≤ r1))) ?_
 exact zr ((bv (decide (0 ≤ r1))), [[(iv zZ)]]) ⟨_, rfl⟩
theorem Z8k (x0 : List Z8) (zZ : Int) {r} (h : Z3n x0 zZ = some r) : Z3i x0 zZ = some r :=
 pick_of (fun _ _ ha hb => RRun.uniq (Z8q _) (ha .ex) (hb .ex)) (fun ox0 => Z7K x0 zZ ox0 r h)
noncomputable def Z3U (x0 : List Z8) (zZ : Int) : Option (Int) :=
 Z2P x0 ((x0.length : Int)) 0 zZ
theorem Z8J (x0 : List Z8) (zZ : Int) (ox0 : Own) : Sim (Z1r zZ) (Z3U x0 zZ) (EE 37 [(.p (.lst ox0 (x0.map Zv))), (.clo 31 [] [(.ptr 0 0)])] [[(iv zZ)]]) := by
 unfold Z3U
 refine zf (Zk3 ..) ?_
 refine ze ?_
 refine ze ?_
 refine zo (iv (x0.length : Int)) ?_ (Eq.trans (by kernel_rfl) (xlen_of (P := PP) (t := 24) (d := 39) (by kernel_rfl) Zv (shrO ox0) x0))
 exact zk (Z5L (x0) ((x0.length : Int)) (0) (zZ) ox0)
theorem Z96 (x0 : List Z8) (zZ : Int) {r} (h : Z3U x0 zZ = some r) : Z3W x0 zZ = some r :=
 pick_of (fun _ _ ha hb => RRun.uniq (Z6f _) (ha .ex) (hb .ex)) (fun ox0 => Z8J x0 zZ ox0 r h)
noncomputable def Z3l (x0 : List Z8) (x7 : Int) (x8 : Int) (zZ : Int) : Option (Int) :=
 Z2P x0 x7 ((IntKind.i64.wrap (x8 + 1))) zZ
theorem Z7X (x0 : List Z8) (x7 : Int) (x8 : Int) (zZ : Int) (ox0 : Own) : Sim (Z1r zZ) (Z3l x0 x7 x8 zZ) (Zft 1 (.p (.lst ox0 (x0.map Zv))) (.clo 31 [] [(.ptr 0 0)]) (iv x7) (iv x8) [[(iv zZ)]]) := by
 unfold Z3l
 refine zf (ZiW ..) ?_
 refine ze ?_
 refine zo (iv (IntKind.i64.wrap (x8 + 1))) ?_
 exact zk (Z5L (x0) (x7) ((IntKind.i64.wrap (x8 + 1))) (zZ) ox0)
noncomputable def Z2O (x0 : List Z8) (x7 : Int) (x8 : Int) (zZ : Int) : Option (Int) :=
 (lget x0 x8).bind fun a1 =>
 (Z6x a1 zZ).bind fun r2 =>
 if (r2) = true then
 (some (x8))
 else
 (Z3l x0 x7 x8 zZ)
theorem Z7H (x0 : List Z8) (x7 : Int) (x8 : Int) (zZ : Int) (ox0 : Own) : Sim (Z1r zZ) (Z2O x0 x7 x8 zZ) (Zg2 1 (.p (.lst ox0 (x0.map Zv))) (.clo 31 [] [(.ptr 0 0)]) (iv x7) (iv x8) [[(iv zZ)]]) := by
 unfold Z2O
 refine zf (ZhP ..) ?_
 refine ze ?_
 refine ze ?_
 refine zi fun a1 ha1 => ?_
 refine zo (.cptr (ZF a1)) ?_ (Eq.trans (by kernel_rfl) (xidx_of (o := (shrO ox0)) (k := .i64) (n := 2) (e := Zv) (cs := Z57) (fun _ => rfl) (fun _ => rfl) (by decide) ha1))
 refine zo (.p (.agg (ZF a1))) ?_
 refine zi fun r2 hr2 => ?_
 obtain ⟨qr2, er2, exr2, rfl⟩ := Zcw (a1) (zZ) r2 hr2
 refine zv [0] (bv r2) [[(iv zZ)]] er2 ?_
 refine za (r2) ?_ ?_
 ·refine ze ?_
  exact zr ((iv x8), [[(iv zZ)]]) ⟨_, rfl⟩
 ·exact zk (Z7X (x0) (x7) (x8) (zZ) ox0)
noncomputable def Z4G  : Option (Int) :=
 some ((-1))
theorem Z7Z (zZ : Int) : Sim (Z1r zZ) (Z4G) (ZfA 1  [[(iv zZ)]]) := by
 unfold Z4G
 refine zf (Zi6 ..) ?_
 refine ze ?_
 exact zr ((iv (-1)), [[(iv zZ)]]) ⟨_, rfl⟩
noncomputable def Z2d (x0 : List Z8) (x7 : Int) (x8 : Int) (zZ : Int) : Option (Int) :=
 if ((decide (x8 < x7))) = true then
 (Z2O x0 x7 x8 zZ)
 else
 (Z4G)
theorem Z7P (x0 : List Z8) (x7 : Int) (x8 : Int) (zZ : Int) (ox0 : Own) : Sim (Z1r zZ) (Z2d x0 x7 x8 zZ) (ZbI 1 (.p (.lst ox0 (x0.map Zv))) (.clo 31 [] [(.ptr 0 0)]) (iv x7) (iv x8) [[(iv zZ)]]) := by
 unfold Z2d
 refine zf (Zj3 ..) ?_
 refine ze ?_
 refine zo (bv (decide (x8 < x7))) ?_
 refine za ((decide (x8 < x7))) ?_ ?_
 ·exact zk (Z7H (x0) (x7) (x8) (zZ) ox0)
 ·exact zk (Z7Z (zZ))
theorem Z48 (x0 : List Z8) (x7 : Int) (x8 : Int) (zZ : Int) {r} (h : Z2d x0 x7 x8 zZ = some r) : Z2P x0 x7 x8 zZ = some r :=
 pick_of (fun _ _ ha hb => RRun.uniq (Z6f _) (ha .ex) (hb .ex)) (fun ox0 => Z7P x0 x7 x8 zZ ox0 r h)
noncomputable def Z6B (x0 : Z8) (zZ : Int) : Option (Bool) :=
 if ((decide (x0.Lo ≤ zZ))) = true then
 (some ((decide (zZ ≤ x0.Hi))))
 else
 (some (false))
theorem Zca (x0 : Z8) (zZ : Int) : Sim (Z5K zZ) (Z6B x0 zZ) (EE 31 [(.p (.agg (ZF x0))), (.ptr 0 0)] [[(iv zZ)]]) := by
 unfold Z6B
 refine zf (Zjx ..) ?_
 refine ze ?_
 refine zx (.ptr 1 0) [[(iv zZ)], (Z1B x0)] ?_
 refine ze ?_
 refine zo (.ptr 1 0) ?_
 refine zo (iv x0.Lo) ?_
 refine zo (iv zZ) ?_
 refine zo (bv (decide (x0.Lo ≤ zZ))) ?_
 refine za ((decide (x0.Lo ≤ zZ))) ?_ ?_
 ·refine zo (iv zZ) ?_
  refine zo (.ptr 1 1) ?_
  refine zo (iv x0.Hi) ?_
  refine zo (bv (decide (zZ ≤ x0.Hi))) ?_
  exact zr ((bv (decide (zZ ≤ x0.Hi))), [[(iv zZ)], (Z1B x0)]) ⟨_, rfl⟩
 ·exact zr ((bv false), [[(iv zZ)], (Z1B x0)]) ⟨_, rfl⟩
theorem Zcy (x0 : Z8) (zZ : Int) {r} (h : Z6B x0 zZ = some r) : Z6x x0 zZ = some r :=
 pick_of (fun _ _ ha hb => RRun.uniq (ZcT _) (ha ) (hb )) (Zca x0 zZ r h)
noncomputable def Z4K (x1 : Int) (zl : List Int) (zp : Int) (z7 : Int) (zd : Int) (zh : List Zq) (z2 : Int) (z6 : Int) : Option (Z3 × Int × Int × Int) :=
 (Z16 ((ByteArray.mk #[94])) zl zp).bind fun r1 =>
 Z2Q x1 r1.1 0 zl r1.2 z7 zd zh z2 z6 (([] : List Z8))
theorem ZaT (x1 : Int) (zl : List Int) (zp : Int) (z7 : Int) (zd : Int) (zh : List Zq) (z2 : Int) (z6 : Int) (zn : Own) (zb : Own) (zu : okApp zb = true) : Sim (Z19 zl z7 zd zh zn zb) (Z4K x1 zl zp z7 zd zh z2 z6) (EE 50 [(.ptr 0 0), (iv x1)] [(Zi (Zk.mk zl zp z7 zd zh (Zj.mk z2 z6)) zn zb)]) := by
 unfold Z4K
 refine zf (ZjD ..) ?_
 refine ze ?_
 refine zz (.ptr 1 0) [(Zi (Zk.mk zl zp z7 zd zh (Zj.mk z2 z6)) zn zb), (Zo (Z3.mk 0 0 0 0 0 ([] : List Z8) ([] : List Z3)) .nl .nl)] ?_
 refine ze ?_
 refine zi fun r1 hr1 => ?_
 obtain ⟨qr1, er1, exr1, rfl⟩ := Z1b ((ByteArray.mk #[94])) (zl) (zp) (z7) (zd) (zh) (z2) (z6) zn zb zu r1 hr1
 refine zc [0] (bv r1.1) [(Zi (Zk.mk zl r1.2 z7 zd zh (Zj.mk z2 z6)) zn zb), (Zo (Z3.mk 0 0 0 0 0 ([] : List Z8) ([] : List Z3)) .nl .nl)] er1 ?_
 refine ze ?_
 refine zz (.ptr 2 0) [(Zi (Zk.mk zl r1.2 z7 zd zh (Zj.mk z2 z6)) zn zb), (Zo (Z3.mk 0 0 0 0 0 ([] : List Z8) ([] : List Z3)) .nl .nl), [(.p (.lst .nl []))]] ?_
 refine ze ?_
 refine ze ?_
 exact zk (Z75 (x1) (r1.1) (0) (zl) (r1.2) (z7) (zd) (zh) (z2) (z6) ((Z3.mk 0 0 0 0 0 ([] : List Z8) ([] : List Z3))) (([] : List Z8)) zn zb .nl .nl .nl zu rfl rfl)
theorem Zbg (x1 : Int) (zl : List Int) (zp : Int) (z7 : Int) (zd : Int) (zh : List Zq) (z2 : Int) (z6 : Int) {r} (h : Z4K x1 zl zp z7 zd zh z2 z6 = some r) : Z5Q x1 zl zp z7 zd zh z2 z6 = some r :=
 pick_of (fun _ _ ha hb => RRun.uniq (Z8w _ _ _ _ _ _) (ha .ex .ex rfl) (hb .ex .ex rfl)) (fun zn zb zu => ZaT x1 zl zp z7 zd zh z2 z6 zn zb zu r h)
noncomputable def Z1e (x1 : Int) (x5 : Bool) (x8 : Int) (zl : List Int) (zp : Int) (z7 : Int) (zd : Int) (zh : List Zq) (z2 : Int) (z6 : Int) (z10 : List Z8) : Option (Z3 × Int × Int × Int) :=
 Z2Q x1 x5 ((IntKind.i64.wrap (x8 + 1))) zl zp z7 zd zh z2 z6 z10
theorem Z1I (x1 : Int) (x5 : Bool) (x8 : Int) (zl : List Int) (zp : Int) (z7 : Int) (zd : Int) (zh : List Zq) (z2 : Int) (z6 : Int) (b1 : Z3) (z10 : List Z8) (zn : Own) (zb : Own) (zB : Own) (zy : Own) (z1f : Own) (zu : okApp zb = true) (zP : okApp zB = true) (zI : okApp zy = true) : Sim (Z19 zl z7 zd zh zn zb) (Z1e x1 x5 x8 zl zp z7 zd zh z2 z6 z10) (Z7r 1 (.ptr 0 0) (iv x1) (.ptr 1 0) (bv x5) (.ptr 2 0) (.clo 58 [] [(.ptr 2 0)]) (iv x8) [(Zi (Zk.mk zl zp z7 zd zh (Zj.mk z2 z6)) zn zb), (Zo b1 zB zy), [(.p (.lst z1f (z10.map Zv)))]]) := by
 unfold Z1e
 refine zf (ZiI ..) ?_
 refine ze ?_
 refine zo (iv (IntKind.i64.wrap (x8 + 1))) ?_
 exact zk (Z75 (x1) (x5) ((IntKind.i64.wrap (x8 + 1))) (zl) (zp) (z7) (zd) (zh) (z2) (z6) (b1) (z10) zn zb zB zy z1f zu zP zI)
noncomputable def Z3M (zp : Int) (z2 : Int) (z6 : Int) (z10 : List Z8) : Option (Z3 × Int × Int × Int) :=
 some ((Z3.mk 1 0 0 0 0 z10 ([] : List Z3)), zp, z2, z6)
theorem Z6N (zl : List Int) (zp : Int) (z7 : Int) (zd : Int) (zh : List Zq) (z2 : Int) (z6 : Int) (b1 : Z3) (z10 : List Z8) (zn : Own) (zb : Own) (zB : Own) (zy : Own) (z1f : Own) (zu : okApp zb = true) (zP : okApp zB = true) (zI : okApp zy = true) : Sim (Z19 zl z7 zd zh zn zb) (Z3M zp z2 z6 z10) (Zds 1 (.ptr 1 0) (.ptr 2 0) [(Zi (Zk.mk zl zp z7 zd zh (Zj.mk z2 z6)) zn zb), (Zo b1 zB zy), [(.p (.lst z1f (z10.map Zv)))]]) := by
 unfold Z3M
 refine zf (Zha ..) ?_
 refine ze ?_
 refine zo (.p (.lst (shrO z1f) (z10.map Zv))) ?_
 refine zo (.p (.agg (Zz (Z3.mk 1 0 0 0 0 z10 ([] : List Z3)) (shrO (shrO z1f)) .nl))) ?_
 refine zt [(Zi (Zk.mk zl zp z7 zd zh (Zj.mk z2 z6)) zn zb), (Zo (Z3.mk 1 0 0 0 0 z10 ([] : List Z3)) (shrO (shrO z1f)) .nl), [(.p (.lst z1f (z10.map Zv)))]] ?_
 exact zr ((.p (.agg (Zz (Z3.mk 1 0 0 0 0 z10 ([] : List Z3)) .sh .sh))), [(Zi (Zk.mk zl zp z7 zd zh (Zj.mk z2 z6)) zn zb), (Zo (Z3.mk 1 0 0 0 0 z10 ([] : List Z3)) (shrO (shrO z1f)) .nl), [(.p (.lst z1f (z10.map Zv)))]]) ⟨_, rfl⟩
noncomputable def Z4O (x5 : Bool) (zl : List Int) (zp : Int) (z2 : Int) (z6 : Int) (z10 : List Z8) : Option (Z3 × Int × Int × Int) :=
 (Z25 zl zp).bind fun r1 =>
 if (x5) = true then
 ((Z6i z10).bind fun r2 =>
 Z3M r1.2 z2 z6 r2.1)
 else
 (Z3M r1.2 z2 z6 z10)
theorem Z9y (x5 : Bool) (zl : List Int) (zp : Int) (z7 : Int) (zd : Int) (zh : List Zq) (z2 : Int) (z6 : Int) (b1 : Z3) (z10 : List Z8) (zn : Own) (zb : Own) (zB : Own) (zy : Own) (z1f : Own) (zu : okApp zb = true) (zP : okApp zB = true) (zI : okApp zy = true) : Sim (Z19 zl z7 zd zh zn zb) (Z4O x5 zl zp z2 z6 z10) (ZeJ 1 (.ptr 0 0) (.ptr 1 0) (bv x5) (.ptr 2 0) [(Zi (Zk.mk zl zp z7 zd zh (Zj.mk z2 z6)) zn zb), (Zo b1 zB zy), [(.p (.lst z1f (z10.map Zv)))]]) := by
 unfold Z4O
 refine zf (Zh4 ..) ?_
 refine ze ?_
 refine zi fun r1 hr1 => ?_
 obtain ⟨qr1, er1, exr1, rfl⟩ := Z2t (zl) (zp) (z7) (zd) (zh) (z2) (z6) zn zb zu r1 hr1
 refine zc [0] (iv r1.1) [(Zi (Zk.mk zl r1.2 z7 zd zh (Zj.mk z2 z6)) zn zb), (Zo b1 zB zy), [(.p (.lst z1f (z10.map Zv)))]] er1 ?_
 refine ze ?_
 refine za (x5) ?_ ?_
 ·refine ze ?_
  refine zo (.p (.lst (shrO z1f) (z10.map Zv))) ?_
  refine zi fun r2 hr2 => ?_
  obtain ⟨qr2, er2, exr2, rfl⟩ := Z9Z (z10) .sh r2 hr2
  refine zc [] (.p (.tup [(.lst .sh (r2.1.map Zv)), (.v (.int .i64 r2.2))])) [(Zi (Zk.mk zl r1.2 z7 zd zh (Zj.mk z2 z6)) zn zb), (Zo b1 zB zy), [(.p (.lst z1f (z10.map Zv)))]] er2 ?_
  refine zo (.p (.lst .sh (r2.1.map Zv))) ?_
  refine zo (iv r2.2) ?_
  refine zt [(Zi (Zk.mk zl r1.2 z7 zd zh (Zj.mk z2 z6)) zn zb), (Zo b1 zB zy), [(.p (.lst .sh (r2.1.map Zv)))]] ?_
  exact zk (Z6N (zl) (r1.2) (z7) (zd) (zh) (z2) (z6) (b1) (r2.1) zn zb zB zy .sh zu zP zI)
 ·exact zk (Z6N (zl) (r1.2) (z7) (zd) (zh) (z2) (z6) (b1) (z10) zn zb zB zy z1f zu zP zI)
noncomputable def Z2D (x1 : Int) (x5 : Bool) (x8 : Int) (x9 : Int) (zl : List Int) (z7 : Int) (zd : Int) (zh : List Zq) (z2 : Int) (z6 : Int) (z10 : List Z8) : Option (Z3 × Int × Int × Int) :=
 (ZS 22 x9 zl z2 z6).bind fun r1 =>
 Z1e x1 x5 x8 zl r1.1 z7 zd zh r1.2.1 r1.2.2 z10
theorem Z41 (x1 : Int) (x5 : Bool) (x8 : Int) (x9 : Int) (zl : List Int) (zp : Int) (z7 : Int) (zd : Int) (zh : List Zq) (z2 : Int) (z6 : Int) (b1 : Z3) (z10 : List Z8) (zn : Own) (zb : Own) (zB : Own) (zy : Own) (z1f : Own) (zu : okApp zb = true) (zP : okApp zB = true) (zI : okApp zy = true) : Sim (Z19 zl z7 zd zh zn zb) (Z2D x1 x5 x8 x9 zl z7 zd zh z2 z6 z10) (ZaK 1 (.ptr 0 0) (iv x1) (.ptr 1 0) (bv x5) (.ptr 2 0) (.clo 58 [] [(.ptr 2 0)]) (iv x8) (iv x9) [(Zi (Zk.mk zl zp z7 zd zh (Zj.mk z2 z6)) zn zb), (Zo b1 zB zy), [(.p (.lst z1f (z10.map Zv)))]]) := by
 unfold Z2D
 refine zf (Zho ..) ?_
 refine ze ?_
 refine zi fun r1 hr1 => ?_
 obtain ⟨qr1, er1, exr1, rfl⟩ := ZV (22) (x9) (zl) (zp) (z7) (zd) (zh) (z2) (z6) zn zb zu r1 hr1
 refine zc [0] (.p (.tup [])) [(Zi (Zk.mk zl r1.1 z7 zd zh (Zj.mk r1.2.1 r1.2.2)) zn zb), (Zo b1 zB zy), [(.p (.lst z1f (z10.map Zv)))]] er1 ?_
 exact zk (Z1I (x1) (x5) (x8) (zl) (r1.1) (z7) (zd) (zh) (r1.2.1) (r1.2.2) (b1) (z10) zn zb zB zy z1f zu zP zI)
noncomputable def Z1D (x1 : Int) (x5 : Bool) (x8 : Int) (x11 : Int) (x15 : Int) (zl : List Int) (zp : Int) (z7 : Int) (zd : Int) (zh : List Zq) (z2 : Int) (z6 : Int) (z10 : List Z8) : Option (Z3 × Int × Int × Int) :=
 if ((z2 == 0)) = true then
 ((Z4h (([(Z8.mk x11 x15)] : List Z8)) z10).bind fun r1 =>
 Z1e x1 x5 x8 zl zp z7 zd zh z2 z6 r1)
 else
 (Z1e x1 x5 x8 zl zp z7 zd zh z2 z6 z10)
theorem Z3T (x1 : Int) (x5 : Bool) (x8 : Int) (x11 : Int) (x15 : Int) (zl : List Int) (zp : Int) (z7 : Int) (zd : Int) (zh : List Zq) (z2 : Int) (z6 : Int) (b1 : Z3) (z10 : List Z8) (zn : Own) (zb : Own) (zB : Own) (zy : Own) (z1f : Own) (zu : okApp zb = true) (zP : okApp zB = true) (zI : okApp zy = true) : Sim (Z19 zl z7 zd zh zn zb) (Z1D x1 x5 x8 x11 x15 zl zp z7 zd zh z2 z6 z10) (ZaM 1 (.ptr 0 0) (iv x1) (.ptr 1 0) (bv x5) (.ptr 2 0) (.clo 58 [] [(.ptr 2 0)]) (iv x8) (iv x11) (iv x15) [(Zi (Zk.mk zl zp z7 zd zh (Zj.mk z2 z6)) zn zb), (Zo b1 zB zy), [(.p (.lst z1f (z10.map Zv)))]]) := by
 unfold Z1D
 refine zf (Zhh ..) ?_
 refine ze ?_
 refine zo (.ptr 0 0) ?_
 refine zo (.ptr 0 5) ?_
 refine zo (.ptr 0 5) ?_
 refine zo (iv z2) ?_
 refine zo (bv (z2 == 0)) ?_
 refine za ((z2 == 0)) ?_ ?_
 ·refine ze ?_
  refine zo (.p (.agg (ZF (Z8.mk x11 x15)))) ?_
  refine zo (.p (.lst .ex (([(Z8.mk x11 x15)] : List Z8).map Zv))) ?_
  refine zi fun r1 hr1 => ?_
  obtain ⟨qr1, er1, or1_0_0, exr1, rfl⟩ := Z7f (([(Z8.mk x11 x15)] : List Z8)) (z10) .sh z1f r1 hr1
  refine zv [2] (.p (.tup [])) [(Zi (Zk.mk zl zp z7 zd zh (Zj.mk z2 z6)) zn zb), (Zo b1 zB zy), [(.p (.lst or1_0_0 (r1.map Zv)))]] er1 ?_
  exact zk (Z1I (x1) (x5) (x8) (zl) (zp) (z7) (zd) (zh) (z2) (z6) (b1) (r1) zn zb zB zy or1_0_0 zu zP zI)
 ·exact zk (Z1I (x1) (x5) (x8) (zl) (zp) (z7) (zd) (zh) (z2) (z6) (b1) (z10) zn zb zB zy z1f zu zP zI)
noncomputable def Z39 (x1 : Int) (x5 : Bool) (x8 : Int) (x9 : Int) (x11 : Int) (x15 : Int) (zl : List Int) (z7 : Int) (zd : Int) (zh : List Zq) (z2 : Int) (z6 : Int) (z10 : List Z8) : Option (Z3 × Int × Int × Int) :=
 (ZS 22 x9 zl z2 z6).bind fun r1 =>
 Z1D x1 x5 x8 x11 x15 zl r1.1 z7 zd zh r1.2.1 r1.2.2 z10
theorem Z6F (x1 : Int) (x5 : Bool) (x8 : Int) (x9 : Int) (x11 : Int) (x15 : Int) (zl : List Int) (zp : Int) (z7 : Int) (zd : Int) (zh : List Zq) (z2 : Int) (z6 : Int) (b1 : Z3) (z10 : List Z8) (zn : Own) (zb : Own) (zB : Own) (zy : Own) (z1f : Own) (zu : okApp zb = true) (zP : okApp zB = true) (zI : okApp zy = true) : Sim (Z19 zl z7 zd zh zn zb) (Z39 x1 x5 x8 x9 x11 x15 zl z7 zd zh z2 z6 z10) (Zdh 1 (.ptr 0 0) (iv x1) (.ptr 1 0) (bv x5) (.ptr 2 0) (.clo 58 [] [(.ptr 2 0)]) (iv x8) (iv x9) (iv x11) (iv x15) [(Zi (Zk.mk zl zp z7 zd zh (Zj.mk z2 z6)) zn zb), (Zo b1 zB zy), [(.p (.lst z1f (z10.map Zv)))]]) := by
 unfold Z39
 refine zf (Zhn ..) ?_
 refine ze ?_
 refine zi fun r1 hr1 => ?_
 obtain ⟨qr1, er1, exr1, rfl⟩ := ZV (22) (x9) (zl) (zp) (z7) (zd) (zh) (z2) (z6) zn zb zu r1 hr1
 refine zc [0] (.p (.tup [])) [(Zi (Zk.mk zl r1.1 z7 zd zh (Zj.mk r1.2.1 r1.2.2)) zn zb), (Zo b1 zB zy), [(.p (.lst z1f (z10.map Zv)))]] er1 ?_
 exact zk (Z3T (x1) (x5) (x8) (x11) (x15) (zl) (r1.1) (z7) (zd) (zh) (r1.2.1) (r1.2.2) (b1) (z10) zn zb zB zy z1f zu zP zI)
noncomputable def Z4M (x1 : Int) (x5 : Bool) (x8 : Int) (x9 : Int) (x11 : Int) (zl : List Int) (zp : Int) (z7 : Int) (zd : Int) (zh : List Zq) (z2 : Int) (z6 : Int) (z10 : List Z8) : Option (Z3 × Int × Int × Int) :=
 (Z3F zl zp z7 zd zh z2 z6).bind fun r1 =>
 if ((r1.2.2.2.2.1 == 0)) = true then
 ((nilO (shrO (shrO (shrO (shrO r1.2.1.1)))) r1.2.1.2).bind fun a2 =>
 if ((!a2)) = true then
 (Z39 x1 x5 x8 x9 x11 r1.1 zl z7 zd zh r1.2.2.2.2.1 r1.2.2.2.2.2 z10)
 else
 (if ((decide (r1.1 < x11))) = true then
 (Z39 x1 x5 x8 x9 x11 r1.1 zl z7 zd zh r1.2.2.2.2.1 r1.2.2.2.2.2 z10)
 else
 (Z1D x1 x5 x8 x11 r1.1 zl r1.2.2.2.1 z7 zd zh r1.2.2.2.2.1 r1.2.2.2.2.2 z10)))
 else
 (Z1D x1 x5 x8 x11 r1.1 zl r1.2.2.2.1 z7 zd zh r1.2.2.2.2.1 r1.2.2.2.2.2 z10)
theorem Z9F (x1 : Int) (x5 : Bool) (x8 : Int) (x9 : Int) (x11 : Int) (zl : List Int) (zp : Int) (z7 : Int) (zd : Int) (zh : List Zq) (z2 : Int) (z6 : Int) (b1 : Z3) (z10 : List Z8) (zn : Own) (zb : Own) (zB : Own) (zy : Own) (z1f : Own) (zu : okApp zb = true) (zP : okApp zB = true) (zI : okApp zy = true) : Sim (Z19 zl z7 zd zh zn zb) (Z4M x1 x5 x8 x9 x11 zl zp z7 zd zh z2 z6 z10) (Zex 1 (.ptr 0 0) (iv x1) (.ptr 1 0) (bv x5) (.ptr 2 0) (.clo 58 [] [(.ptr 2 0)]) (iv x8) (iv x9) (iv x11) [(Zi (Zk.mk zl zp z7 zd zh (Zj.mk z2 z6)) zn zb), (Zo b1 zB zy), [(.p (.lst z1f (z10.map Zv)))]]) := by
 unfold Z4M
 refine zf (Zhc ..) ?_
 refine ze ?_
 refine zi fun r1 hr1 => ?_
 obtain ⟨qr1, er1, exr1, rfl⟩ := Z7C (zl) (zp) (z7) (zd) (zh) (z2) (z6) zn zb zu r1 hr1
 refine zc [0] (.p (.tup [(.v (.int .i64 r1.1)), (.lst r1.2.1.1 (r1.2.1.2.map Zv)), (.v (.bool r1.2.2.1))])) [(Zi (Zk.mk zl r1.2.2.2.1 z7 zd zh (Zj.mk r1.2.2.2.2.1 r1.2.2.2.2.2)) zn zb), (Zo b1 zB zy), [(.p (.lst z1f (z10.map Zv)))]] er1 ?_
 refine zo (iv r1.1) ?_
 refine zo (.p (.lst (shrO r1.2.1.1) (r1.2.1.2.map Zv))) ?_
 refine zo (bv r1.2.2.1) ?_
 refine ze ?_
 refine zo (.ptr 0 0) ?_
 refine zo (.ptr 0 5) ?_
 refine zo (.ptr 0 5) ?_
 refine zo (iv r1.2.2.2.2.1) ?_
 refine zo (bv (r1.2.2.2.2.1 == 0)) ?_
 refine za ((r1.2.2.2.2.1 == 0)) ?_ ?_
 ·refine zi fun a2 ha2 => ?_
  refine zo (bv (!a2)) ?_ (Eq.trans (by kernel_rfl) (xnil_neq (P := PP) (t := 23) (c := .slice none 0 0) (e := Zv) (by kernel_rfl) ha2))
  refine za ((!a2)) ?_ ?_
  ·exact zk (Z6F (x1) (x5) (x8) (x9) (x11) (r1.1) (zl) (r1.2.2.2.1) (z7) (zd) (zh) (r1.2.2.2.2.1) (r1.2.2.2.2.2) (b1) (z10) zn zb zB zy z1f zu zP zI)
  ·refine zo (bv (decide (r1.1 < x11))) ?_
   refine za ((decide (r1.1 < x11))) ?_ ?_
   ·exact zk (Z6F (x1) (x5) (x8) (x9) (x11) (r1.1) (zl) (r1.2.2.2.1) (z7) (zd) (zh) (r1.2.2.2.2.1) (r1.2.2.2.2.2) (b1) (z10) zn zb zB zy z1f zu zP zI)
   ·exact zk (Z3T (x1) (x5) (x8) (x11) (r1.1) (zl) (r1.2.2.2.1) (z7) (zd) (zh) (r1.2.2.2.2.1) (r1.2.2.2.2.2) (b1) (z10) zn zb zB zy z1f zu zP zI)
 ·exact zk (Z3T (x1) (x5) (x8) (x11) (r1.1) (zl) (r1.2.2.2.1) (z7) (zd) (zh) (r1.2.2.2.2.1) (r1.2.2.2.2.2) (b1) (z10) zn zb zB zy z1f zu zP zI)
noncomputable def Z3P (x1 : Int) (x5 : Bool) (x8 : Int) (x9 : Int) (x11 : Int) (zl : List Int) (zp : Int) (z7 : Int) (zd : Int) (zh : List Zq) (z2 : Int) (z6 : Int) (z10 : List Z8) : Option (Z3 × Int × Int × Int) :=
 (Z16 ((ByteArray.mk #[45])) zl zp).bind fun r1 =>
 if (r1.1) = true then
 ((Z1F ((Zk.mk zl r1.2 z7 zd zh (Zj.mk z2 z6)))).bind fun r2 =>
 if ((r2 == 93)) = true then
 (Z2D x1 x5 x8 x9 zl z7 zd zh z2 z6 z10)
 else
 (if ((r2 == 91)) = true then
 (Z2D x1 x5 x8 x9 zl z7 zd zh z2 z6 z10)
 else
 (if ((r2 == 45)) = true then
 (Z2D x1 x5 x8 x9 zl z7 zd zh z2 z6 z10)
 else
 (if ((decide (r2 < 0))) = true then
 (Z2D x1 x5 x8 x9 zl z7 zd zh z2 z6 z10)
 else
 (Z4M x1 x5 x8 x9 x11 zl r1.2 z7 zd zh z2 z6 z10)))))
 else
 (Z1D x1 x5 x8 x11 x11 zl r1.2 z7 zd zh z2 z6 z10)
theorem Z9A (x1 : Int) (x5 : Bool) (x8 : Int) (x9 : Int) (x11 : Int) (zl : List Int) (zp : Int) (z7 : Int) (zd : Int) (zh : List Zq) (z2 : Int) (z6 : Int) (b1 : Z3) (z10 : List Z8) (zn : Own) (zb : Own) (zB : Own) (zy : Own) (z1f : Own) (zu : okApp zb = true) (zP : okApp zB = true) (zI : okApp zy = true) : Sim (Z19 zl z7 zd zh zn zb) (Z3P x1 x5 x8 x9 x11 zl zp z7 zd zh z2 z6 z10) (ZeE 1 (.ptr 0 0) (iv x1) (.ptr 1 0) (bv x5) (.ptr 2 0) (.clo 58 [] [(.ptr 2 0)]) (iv x8) (iv x9) (iv x11) [(Zi (Zk.mk zl zp z7 zd zh (Zj.mk z2 z6)) zn zb), (Zo b1 zB zy), [(.p (.lst z1f (z10.map Zv)))]]) := by
 unfold Z3P
 refine zf (ZgY ..) ?_
 refine ze ?_
 refine ze ?_
 refine zi fun r1 hr1 => ?_
 obtain ⟨qr1, er1, exr1, rfl⟩ := Z1b ((ByteArray.mk #[45])) (zl) (zp) (z7) (zd) (zh) (z2) (z6) zn zb zu r1 hr1
 refine zc [0] (bv r1.1) [(Zi (Zk.mk zl r1.2 z7 zd zh (Zj.mk z2 z6)) zn zb), (Zo b1 zB zy), [(.p (.lst z1f (z10.map Zv)))]] er1 ?_
 refine za (r1.1) ?_ ?_
 ·refine ze ?_
  refine zi fun r2 hr2 => ?_
  obtain ⟨qr2, er2, exr2, rfl⟩ := Z1K ((Zk.mk zl r1.2 z7 zd zh (Zj.mk z2 z6))) zn zb zu r2 hr2
  refine zc [0] (iv r2) [(Zi (Zk.mk zl r1.2 z7 zd zh (Zj.mk z2 z6)) zn zb), (Zo b1 zB zy), [(.p (.lst z1f (z10.map Zv)))]] er2 ?_
  refine ze ?_
  refine zo (bv (r2 == 93)) ?_
  refine za ((r2 == 93)) ?_ ?_
  ·exact zk (Z41 (x1) (x5) (x8) (x9) (zl) (r1.2) (z7) (zd) (zh) (z2) (z6) (b1) (z10) zn zb zB zy z1f zu zP zI)
  ·refine zo (bv (r2 == 91)) ?_
   refine za ((r2 == 91)) ?_ ?_
   ·exact zk (Z41 (x1) (x5) (x8) (x9) (zl) (r1.2) (z7) (zd) (zh) (z2) (z6) (b1) (z10) zn zb zB zy z1f zu zP zI)
   ·refine zo (bv (r2 == 45)) ?_
    refine za ((r2 == 45)) ?_ ?_
    ·exact zk (Z41 (x1) (x5) (x8) (x9) (zl) (r1.2) (z7) (zd) (zh) (z2) (z6) (b1) (z10) zn zb zB zy z1f zu zP zI)
    ·refine zo (bv (decide (r2 < 0))) ?_
     refine za ((decide (r2 < 0))) ?_ ?_
     ·exact zk (Z41 (x1) (x5) (x8) (x9) (zl) (r1.2) (z7) (zd) (zh) (z2) (z6) (b1) (z10) zn zb zB zy z1f zu zP zI)
     ·exact zk (Z9F (x1) (x5) (x8) (x9) (x11) (zl) (r1.2) (z7) (zd) (zh) (z2) (z6) (b1) (z10) zn zb zB zy z1f zu zP zI)
 ·exact zk (Z3T (x1) (x5) (x8) (x11) (x11) (zl) (r1.2) (z7) (zd) (zh) (z2) (z6) (b1) (z10) zn zb zB zy z1f zu zP zI)
noncomputable def Z3Q (x1 : Int) (x5 : Bool) (x8 : Int) (x9 : Int) (zl : List Int) (zp : Int) (z7 : Int) (zd : Int) (zh : List Zq) (z2 : Int) (z6 : Int) (z10 : List Z8) : Option (Z3 × Int × Int × Int) :=
 (Z3F zl zp z7 zd zh z2 z6).bind fun r1 =>
 (nilO (shrO (shrO (shrO (shrO r1.2.1.1)))) r1.2.1.2).bind fun a2 =>
 if ((!a2)) = true then
 ((Z2I r1.2.2.1 r1.2.1.2).bind fun r3 =>
 (Z4h r3.Set z10).bind fun r4 =>
 (Z1F ((Zk.mk zl r1.2.2.2.1 z7 zd zh (Zj.mk r1.2.2.2.2.1 r1.2.2.2.2.2)))).bind fun r5 =>
 if ((r5 == 45)) = true then
 ((ZS 22 r1.2.2.2.1 zl r1.2.2.2.2.1 r1.2.2.2.2.2).bind fun r6 =>
 Z1e x1 x5 x8 zl r6.1 z7 zd zh r6.2.1 r6.2.2 r4)
 else
 (Z1e x1 x5 x8 zl r1.2.2.2.1 z7 zd zh r1.2.2.2.2.1 r1.2.2.2.2.2 r4))
 else
 (Z3P x1 x5 x8 x9 r1.1 zl r1.2.2.2.1 z7 zd zh r1.2.2.2.2.1 r1.2.2.2.2.2 z10)
theorem Z6Q (x1 : Int) (x5 : Bool) (x8 : Int) (x9 : Int) (zl : List Int) (zp : Int) (z7 : Int) (zd : Int) (zh : List Zq) (z2 : Int) (z6 : Int) (b1 : Z3) (z10 : List Z8) (zn : Own) (zb : Own) (zB : Own) (zy : Own) (z1f : Own) (zu : okApp zb = true) (zP : okApp zB = true) (zI : okApp zy = true) : Sim (Z19 zl z7 zd zh zn zb) (Z3Q x1 x5 x8 x9 zl zp z7 zd zh z2 z6 z10) (Zdn 1 (.ptr 0 0) (iv x1) (.ptr 1 0) (bv x5) (.ptr 2 0) (.clo 58 [] [(.ptr 2 0)]) (iv x8) (iv x9) [(Zi (Zk.mk zl zp z7 zd zh (Zj.mk z2 z6)) zn zb), (Zo b1 zB zy), [(.p (.lst z1f (z10.map Zv)))]]) := by
 unfold Z3Q
 refine zf (Zhe ..) ?_
 refine ze ?_
 refine zi fun r1 hr1 => ?_
 obtain ⟨qr1, er1, exr1, rfl⟩ := Z7C (zl) (zp) (z7) (zd) (zh) (z2) (z6) zn zb zu r1 hr1
 refine zc [0] (.p (.tup [(.v (.int .i64 r1.1)), (.lst r1.2.1.1 (r1.2.1.2.map Zv)), (.v (.bool r1.2.2.1))])) [(Zi (Zk.mk zl r1.2.2.2.1 z7 zd zh (Zj.mk r1.2.2.2.2.1 r1.2.2.2.2.2)) zn zb), (Zo b1 zB zy), [(.p (.lst z1f (z10.map Zv)))]] er1 ?_
 refine zo (iv r1.1) ?_
 refine zo (.p (.lst (shrO r1.2.1.1) (r1.2.1.2.map Zv))) ?_
 refine zo (bv r1.2.2.1) ?_
 refine ze ?_
 refine zi fun a2 ha2 => ?_
 refine zo (bv (!a2)) ?_ (Eq.trans (by kernel_rfl) (xnil_neq (P := PP) (t := 23) (c := .slice none 0 0) (e := Zv) (by kernel_rfl) ha2))
 refine za ((!a2)) ?_ ?_
 ·refine ze ?_
  refine zi fun r3 hr3 => ?_
  obtain ⟨qr3, er3, exr3, rfl⟩ := Z2R (r1.2.2.1) (r1.2.1.2) .sh r3 hr3
  refine zc [] (.p (.agg (Zz r3 .sh .sh))) [(Zi (Zk.mk zl r1.2.2.2.1 z7 zd zh (Zj.mk r1.2.2.2.2.1 r1.2.2.2.2.2)) zn zb), (Zo b1 zB zy), [(.p (.lst z1f (z10.map Zv)))]] er3 ?_
  refine zz (.ptr 3 0) [(Zi (Zk.mk zl r1.2.2.2.1 z7 zd zh (Zj.mk r1.2.2.2.2.1 r1.2.2.2.2.2)) zn zb), (Zo b1 zB zy), [(.p (.lst z1f (z10.map Zv)))], (Zo (Z3.mk 0 0 0 0 0 ([] : List Z8) ([] : List Z3)) .nl .nl)] ?_
  refine zt [(Zi (Zk.mk zl r1.2.2.2.1 z7 zd zh (Zj.mk r1.2.2.2.2.1 r1.2.2.2.2.2)) zn zb), (Zo b1 zB zy), [(.p (.lst z1f (z10.map Zv)))], (Zo r3 .sh .sh)] ?_
  refine ze ?_
  refine zo (.ptr 3 5) ?_
  refine zo (.p (.lst .sh (r3.Set.map Zv))) ?_
  refine zi fun r4 hr4 => ?_
  obtain ⟨qr4, er4, or4_0_0, exr4, rfl⟩ := Z7f (r3.Set) (z10) .sh z1f r4 hr4
  refine zv [2] (.p (.tup [])) [(Zi (Zk.mk zl r1.2.2.2.1 z7 zd zh (Zj.mk r1.2.2.2.2.1 r1.2.2.2.2.2)) zn zb), (Zo b1 zB zy), [(.p (.lst or4_0_0 (r4.map Zv)))], (Zo r3 .sh .sh)] er4 ?_
  refine ze ?_
  refine zi fun r5 hr5 => ?_
  obtain ⟨qr5, er5, exr5, rfl⟩ := Z1K ((Zk.mk zl r1.2.2.2.1 z7 zd zh (Zj.mk r1.2.2.2.2.1 r1.2.2.2.2.2))) zn zb zu r5 hr5
  refine zc [0] (iv r5) [(Zi (Zk.mk zl r1.2.2.2.1 z7 zd zh (Zj.mk r1.2.2.2.2.1 r1.2.2.2.2.2)) zn zb), (Zo b1 zB zy), [(.p (.lst or4_0_0 (r4.map Zv)))], (Zo r3 .sh .sh)] er5 ?_
  refine zo (bv (r5 == 45)) ?_
  refine za ((r5 == 45)) ?_ ?_
  ·refine ze ?_
   refine zo (.ptr 0 0) ?_
   refine zo (.ptr 0 1) ?_
   refine zo (iv r1.2.2.2.1) ?_
   refine zi fun r6 hr6 => ?_
   obtain ⟨qr6, er6, exr6, rfl⟩ := ZV (22) (r1.2.2.2.1) (zl) (r1.2.2.2.1) (z7) (zd) (zh) (r1.2.2.2.2.1) (r1.2.2.2.2.2) zn zb zu r6 hr6
   refine zc [0] (.p (.tup [])) [(Zi (Zk.mk zl r6.1 z7 zd zh (Zj.mk r6.2.1 r6.2.2)) zn zb), (Zo b1 zB zy), [(.p (.lst or4_0_0 (r4.map Zv)))], (Zo r3 .sh .sh)] er6 ?_
   exact zk (Z1I (x1) (x5) (x8) (zl) (r6.1) (z7) (zd) (zh) (r6.2.1) (r6.2.2) (b1) (r4) zn zb zB zy or4_0_0 zu zP zI)
  ·exact zk (Z1I (x1) (x5) (x8) (zl) (r1.2.2.2.1) (z7) (zd) (zh) (r1.2.2.2.2.1) (r1.2.2.2.2.2) (b1) (r4) zn zb zB zy or4_0_0 zu zP zI)
 ·exact zk (Z9A (x1) (x5) (x8) (x9) (r1.1) (zl) (r1.2.2.2.1) (z7) (zd) (zh) (r1.2.2.2.2.1) (r1.2.2.2.2.2) (b1) (z10) zn zb zB zy z1f zu zP zI)
noncomputable def Z3b (x1 : Int) (x5 : Bool) (x8 : Int) (zl : List Int) (zp : Int) (z7 : Int) (zd : Int) (zh : List Zq) (z2 : Int) (z6 : Int) (z10 : List Z8) : Option (Z3 × Int × Int × Int) :=
 (Z1F ((Zk.mk zl zp z7 zd zh (Zj.mk z2 z6)))).bind fun r1 =>
 if ((r1 == (-1))) = true then
 ((ZS 22 x1 zl z2 z6).bind fun r2 =>
 Z1e x1 x5 x8 zl r2.1 z7 zd zh r2.2.1 r2.2.2 z10)
 else
 (if ((r1 == 93)) = true then
 (if ((x8 == 0)) = true then
 ((ZS 22 x1 zl z2 z6).bind fun r3 =>
 Z1e x1 x5 x8 zl r3.1 z7 zd zh r3.2.1 r3.2.2 z10)
 else
 (Z4O x5 zl zp z2 z6 z10))
 else
 (if ((r1 == 91)) = true then
 (if ((r1 == 91)) = true then
 ((ZS 22 zp zl z2 z6).bind fun r4 =>
 Z1e x1 x5 x8 zl r4.1 z7 zd zh r4.2.1 r4.2.2 z10)
 else
 (Z3Q x1 x5 x8 zp zl zp z7 zd zh z2 z6 z10))
 else
 (if ((r1 == 45)) = true then
 ((ZS 22 zp zl z2 z6).bind fun r5 =>
 Z1e x1 x5 x8 zl r5.1 z7 zd zh r5.2.1 r5.2.2 z10)
 else
 (Z3Q x1 x5 x8 zp zl zp z7 zd zh z2 z6 z10))))
theorem Za7 (x1 : Int) (x5 : Bool) (x8 : Int) (zl : List Int) (zp : Int) (z7 : Int) (zd : Int) (zh : List Zq) (z2 : Int) (z6 : Int) (b1 : Z3) (z10 : List Z8) (zn : Own) (zb : Own) (zB : Own) (zy : Own) (z1f : Own) (zu : okApp zb = true) (zP : okApp zB = true) (zI : okApp zy = true) : Sim (Z19 zl z7 zd zh zn zb) (Z3b x1 x5 x8 zl zp z7 zd zh z2 z6 z10) (Zgs 1 (.ptr 0 0) (iv x1) (.ptr 1 0) (bv x5) (.ptr 2 0) (.clo 58 [] [(.ptr 2 0)]) (iv x8) [(Zi (Zk.mk zl zp z7 zd zh (Zj.mk z2 z6)) zn zb), (Zo b1 zB zy), [(.p (.lst z1f (z10.map Zv)))]]) := by
 unfold Z3b
 refine zf (ZhT ..) ?_
 refine ze ?_
 refine zo (.ptr 0 0) ?_
 refine zo (.ptr 0 1) ?_
 refine zo (iv zp) ?_
 refine ze ?_
 refine zi fun r1 hr1 => ?_
 obtain ⟨qr1, er1, exr1, rfl⟩ := Z1K ((Zk.mk zl zp z7 zd zh (Zj.mk z2 z6))) zn zb zu r1 hr1
 refine zc [0] (iv r1) [(Zi (Zk.mk zl zp z7 zd zh (Zj.mk z2 z6)) zn zb), (Zo b1 zB zy), [(.p (.lst z1f (z10.map Zv)))]] er1 ?_
 refine ze ?_
 refine ze ?_
 refine zo (bv (r1 == (-1))) ?_
 refine za ((r1 == (-1))) ?_ ?_
 ·refine ze ?_
  refine zi fun r2 hr2 => ?_
  obtain ⟨qr2, er2, exr2, rfl⟩ := ZV (22) (x1) (zl) (zp) (z7) (zd) (zh) (z2) (z6) zn zb zu r2 hr2
  refine zc [0] (.p (.tup [])) [(Zi (Zk.mk zl r2.1 z7 zd zh (Zj.mk r2.2.1 r2.2.2)) zn zb), (Zo b1 zB zy), [(.p (.lst z1f (z10.map Zv)))]] er2 ?_
  exact zk (Z1I (x1) (x5) (x8) (zl) (r2.1) (z7) (zd) (zh) (r2.2.1) (r2.2.2) (b1) (z10) zn zb zB zy z1f zu zP zI)
 ·refine ze ?_
  refine zo (bv (r1 == 93)) ?_
  refine za ((r1 == 93)) ?_ ?_
  ·refine ze ?_
   refine zo (bv (x8 == 0)) ?_
   refine za ((x8 == 0)) ?_ ?_
   ·refine ze ?_
    refine zi fun r3 hr3 => ?_
    obtain ⟨qr3, er3, exr3, rfl⟩ := ZV (22) (x1) (zl) (zp) (z7) (zd) (zh) (z2) (z6) zn zb zu r3 hr3
    refine zc [0] (.p (.tup [])) [(Zi (Zk.mk zl r3.1 z7 zd zh (Zj.mk r3.2.1 r3.2.2)) zn zb), (Zo b1 zB zy), [(.p (.lst z1f (z10.map Zv)))]] er3 ?_
    exact zk (Z1I (x1) (x5) (x8) (zl) (r3.1) (z7) (zd) (zh) (r3.2.1) (r3.2.2) (b1) (z10) zn zb zB zy z1f zu zP zI)
   ·exact zk (Z9y (x5) (zl) (zp) (z7) (zd) (zh) (z2) (z6) (b1) (z10) zn zb zB zy z1f zu zP zI)
  ·refine ze ?_
   refine zo (bv (r1 == 91)) ?_
   refine za ((r1 == 91)) ?_ ?_
   ·refine za ((r1 == 91)) ?_ ?_
    ·refine ze ?_
     refine zi fun r4 hr4 => ?_
     obtain ⟨qr4, er4, exr4, rfl⟩ := ZV (22) (zp) (zl) (zp) (z7) (zd) (zh) (z2) (z6) zn zb zu r4 hr4
     refine zc [0] (.p (.tup [])) [(Zi (Zk.mk zl r4.1 z7 zd zh (Zj.mk r4.2.1 r4.2.2)) zn zb), (Zo b1 zB zy), [(.p (.lst z1f (z10.map Zv)))]] er4 ?_
     exact zk (Z1I (x1) (x5) (x8) (zl) (r4.1) (z7) (zd) (zh) (r4.2.1) (r4.2.2) (b1) (z10) zn zb zB zy z1f zu zP zI)
    ·exact zk (Z6Q (x1) (x5) (x8) (zp) (zl) (zp) (z7) (zd) (zh) (z2) (z6) (b1) (z10) zn zb zB zy z1f zu zP zI)
   ·refine ze ?_
    refine zo (bv (r1 == 45)) ?_
    refine za ((r1 == 45)) ?_ ?_
    ·refine ze ?_
     refine zi fun r5 hr5 => ?_
     obtain ⟨qr5, er5, exr5, rfl⟩ := ZV (22) (zp) (zl) (zp) (z7) (zd) (zh) (z2) (z6) zn zb zu r5 hr5
     refine zc [0] (.p (.tup [])) [(Zi (Zk.mk zl r5.1 z7 zd zh (Zj.mk r5.2.1 r5.2.2)) zn zb), (Zo b1 zB zy), [(.p (.lst z1f (z10.map Zv)))]] er5 ?_
     exact zk (Z1I (x1) (x5) (x8) (zl) (r5.1) (z7) (zd) (zh) (r5.2.1) (r5.2.2) (b1) (z10) zn zb zB zy z1f zu zP zI)
    ·exact zk (Z6Q (x1) (x5) (x8) (zp) (zl) (zp) (z7) (zd) (zh) (z2) (z6) (b1) (z10) zn zb zB zy z1f zu zP zI)
noncomputable def Z60 (zp : Int) (z2 : Int) (z6 : Int) : Option (Z3 × Int × Int × Int) :=
 some ((Z3.mk 0 0 0 0 0 ([] : List Z8) ([] : List Z3)), zp, z2, z6)
theorem Z9L (zl : List Int) (zp : Int) (z7 : Int) (zd : Int) (zh : List Zq) (z2 : Int) (z6 : Int) (b1 : Z3) (zn : Own) (zb : Own) (zB : Own) (zy : Own) (zu : okApp zb = true) (zP : okApp zB = true) (zI : okApp zy = true) : Sim (Z19 zl z7 zd zh zn zb) (Z60 zp z2 z6) (ZeS 1 (.ptr 1 0) [(Zi (Zk.mk zl zp z7 zd zh (Zj.mk z2 z6)) zn zb), (Zo b1 zB zy)]) := by
 unfold Z60
 refine zf (Zhw ..) ?_
 refine ze ?_
 refine zo (.p (.agg (Zz (Z3.mk 0 0 0 0 0 ([] : List Z8) ([] : List Z3)) .nl .nl))) ?_
 refine zt [(Zi (Zk.mk zl zp z7 zd zh (Zj.mk z2 z6)) zn zb), (Zo (Z3.mk 0 0 0 0 0 ([] : List Z8) ([] : List Z3)) .nl .nl)] ?_
 exact zr ((.p (.agg (Zz (Z3.mk 0 0 0 0 0 ([] : List Z8) ([] : List Z3)) .sh .sh))), [(Zi (Zk.mk zl zp z7 zd zh (Zj.mk z2 z6)) zn zb), (Zo (Z3.mk 0 0 0 0 0 ([] : List Z8) ([] : List Z3)) .nl .nl)]) ⟨_, rfl⟩
noncomputable def Z44 (x1 : Int) (x5 : Bool) (x8 : Int) (zl : List Int) (zp : Int) (z7 : Int) (zd : Int) (zh : List Zq) (z2 : Int) (z6 : Int) (z10 : List Z8) : Option (Z3 × Int × Int × Int) :=
 if ((z2 == 0)) = true then
 (Z3b x1 x5 x8 zl zp z7 zd zh z2 z6 z10)
 else
 (Z60 zp z2 z6)
theorem Z9V (x1 : Int) (x5 : Bool) (x8 : Int) (zl : List Int) (zp : Int) (z7 : Int) (zd : Int) (zh : List Zq) (z2 : Int) (z6 : Int) (b1 : Z3) (z10 : List Z8) (zn : Own) (zb : Own) (zB : Own) (zy : Own) (z1f : Own) (zu : okApp zb = true) (zP : okApp zB = true) (zI : okApp zy = true) : Sim (Z19 zl z7 zd zh zn zb) (Z44 x1 x5 x8 zl zp z7 zd zh z2 z6 z10) (Zc7 1 (.ptr 0 0) (iv x1) (.ptr 1 0) (bv x5) (.ptr 2 0) (.clo 58 [] [(.ptr 2 0)]) (iv x8) [(Zi (Zk.mk zl zp z7 zd zh (Zj.mk z2 z6)) zn zb), (Zo b1 zB zy), [(.p (.lst z1f (z10.map Zv)))]]) := by
 unfold Z44
 refine zf (ZhQ ..) ?_
 refine ze ?_
 refine zo (.ptr 0 0) ?_
 refine zo (.ptr 0 5) ?_
 refine zo (.ptr 0 5) ?_
 refine zo (iv z2) ?_
 refine zo (bv (z2 == 0)) ?_
 refine za ((z2 == 0)) ?_ ?_
 ·exact zk (Za7 (x1) (x5) (x8) (zl) (zp) (z7) (zd) (zh) (z2) (z6) (b1) (z10) zn zb zB zy z1f zu zP zI)
 ·exact zk (Z9L (zl) (zp) (z7) (zd) (zh) (z2) (z6) (b1) zn zb zB zy zu zP zI)
theorem Z73 (x1 : Int) (x5 : Bool) (x8 : Int) (zl : List Int) (zp : Int) (z7 : Int) (zd : Int) (zh : List Zq) (z2 : Int) (z6 : Int) (z10 : List Z8) {r} (h : Z44 x1 x5 x8 zl zp z7 zd zh z2 z6 z10 = some r) : Z2Q x1 x5 x8 zl zp z7 zd zh z2 z6 z10 = some r :=
 pick_of (fun _ _ ha hb => RRun.uniq (Z8w _ _ _ _ _ _) (ha default .ex .ex .ex .ex .ex rfl rfl rfl) (hb default .ex .ex .ex .ex .ex rfl rfl rfl)) (fun b1 zn zb zB zy z1f zu zP zI => Z9V x1 x5 x8 zl zp z7 zd zh z2 z6 b1 z10 zn zb zB zy z1f zu zP zI r h)
noncomputable def Z3y (x2 : Int) (x5 : Int) (zl : List Int) (zp : Int) (z7 : Int) (zd : Int) (zh : List Zq) (z2 : Int) (z6 : Int) : Option (Int × (Own × (List Z8)) × Bool × Int × Int × Int) :=
 (Z4L x2 x5 zl zp z7 zd zh z2 z6).bind fun r1 =>
 some (r1.1, (.nl, ([] : List Z8)), false, r1.2.1, r1.2.2.1, r1.2.2.2)
theorem Z9r (x2 : Int) (x5 : Int) (zl : List Int) (zp : Int) (z7 : Int) (zd : Int) (zh : List Zq) (z2 : Int) (z6 : Int) (zn : Own) (zb : Own) (zu : okApp zb = true) : Sim (Z2G zl z7 zd zh zn zb) (Z3y x2 x5 zl zp z7 zd zh z2 z6) (ZeA 1 (.ptr 0 0) (iv x2) (iv x5) [(Zi (Zk.mk zl zp z7 zd zh (Zj.mk z2 z6)) zn zb)]) := by
 unfold Z3y
 refine zf (ZgR ..) ?_
 refine ze ?_
 refine zi fun r1 hr1 => ?_
 obtain ⟨qr1, er1, exr1, rfl⟩ := Z85 (x2) (x5) (zl) (zp) (z7) (zd) (zh) (z2) (z6) zn zb zu r1 hr1
 refine zc [0] (iv r1.1) [(Zi (Zk.mk zl r1.2.1 z7 zd zh (Zj.mk r1.2.2.1 r1.2.2.2)) zn zb)] er1 ?_
 exact zr ((.p (.tup [(.v (.int .i64 r1.1)), (.lst .nl []), (.v (.bool false))])), [(Zi (Zk.mk zl r1.2.1 z7 zd zh (Zj.mk r1.2.2.1 r1.2.2.2)) zn zb)]) ⟨_, rfl⟩
noncomputable def Z4P (x2 : Int) (x5 : Int) (zl : List Int) (zp : Int) (z7 : Int) (zd : Int) (zh : List Zq) (z2 : Int) (z6 : Int) : Option (Int × (Own × (List Z8)) × Bool × Int × Int × Int) :=
 (Z25 zl zp).bind fun r1 =>
 (Z4W x2).bind fun r2 =>
 (nilO (shrO r2.1) r2.2).bind fun a3 =>
 if ((!a3)) = true then
 (some (0, ((shrO r2.1), r2.2), (decide (x2 < 97)), r1.2, z2, z6))
 else
 (Z3y x2 x5 zl r1.2 z7 zd zh z2 z6)
theorem Z9I (x2 : Int) (x5 : Int) (zl : List Int) (zp : Int) (z7 : Int) (zd : Int) (zh : List Zq) (z2 : Int) (z6 : Int) (zn : Own) (zb : Own) (zu : okApp zb = true) : Sim (Z2G zl z7 zd zh zn zb) (Z4P x2 x5 zl zp z7 zd zh z2 z6) (ZfC 1 (.ptr 0 0) (iv x2) (iv x5) [(Zi (Zk.mk zl zp z7 zd zh (Zj.mk z2 z6)) zn zb)]) := by
 unfold Z4P
 refine zf (Zin ..) ?_
 refine ze ?_
 refine zi fun r1 hr1 => ?_
 obtain ⟨qr1, er1, exr1, rfl⟩ := Z2t (zl) (zp) (z7) (zd) (zh) (z2) (z6) zn zb zu r1 hr1
 refine zc [0] (iv r1.1) [(Zi (Zk.mk zl r1.2 z7 zd zh (Zj.mk z2 z6)) zn zb)] er1 ?_
 refine ze ?_
 refine zi fun r2 hr2 => ?_
 obtain ⟨qr2, er2, exr2, rfl⟩ := Z6W (x2) r2 hr2
 refine zc [] (.p (.lst r2.1 (r2.2.map Zv))) [(Zi (Zk.mk zl r1.2 z7 zd zh (Zj.mk z2 z6)) zn zb)] er2 ?_
 refine ze ?_
 refine zi fun a3 ha3 => ?_
 refine zo (bv (!a3)) ?_ (Eq.trans (by kernel_rfl) (xnil_neq (P := PP) (t := 23) (c := .slice none 0 0) (e := Zv) (by kernel_rfl) ha3))
 refine za ((!a3)) ?_ ?_
 ·refine ze ?_
  refine zo (bv (decide (x2 < 97))) ?_
  exact zr ((.p (.tup [(.v (.int .i64 0)), (.lst (shrO r2.1) (r2.2.map Zv)), (.v (.bool (decide (x2 < 97))))])), [(Zi (Zk.mk zl r1.2 z7 zd zh (Zj.mk z2 z6)) zn zb)]) ⟨_, rfl⟩
 ·exact zk (Z9r (x2) (x5) (zl) (r1.2) (z7) (zd) (zh) (z2) (z6) zn zb zu)
noncomputable def Z4J (x5 : Int) (zl : List Int) (zp : Int) (z7 : Int) (zd : Int) (zh : List Zq) (z2 : Int) (z6 : Int) : Option (Int × (Own × (List Z8)) × Bool × Int × Int × Int) :=
 (Z1F ((Zk.mk zl zp z7 zd zh (Zj.mk z2 z6)))).bind fun r1 =>
 if ((decide (r1 < 0))) = true then
 ((ZS 21 x5 zl z2 z6).bind fun r2 =>
 some (0, (.nl, ([] : List Z8)), false, r2.1, r2.2.1, r2.2.2))
 else
 (Z4P r1 x5 zl zp z7 zd zh z2 z6)
theorem Z9E (x5 : Int) (zl : List Int) (zp : Int) (z7 : Int) (zd : Int) (zh : List Zq) (z2 : Int) (z6 : Int) (zn : Own) (zb : Own) (zu : okApp zb = true) : Sim (Z2G zl z7 zd zh zn zb) (Z4J x5 zl zp z7 zd zh z2 z6) (Zf9 1 (.ptr 0 0) (iv x5) [(Zi (Zk.mk zl zp z7 zd zh (Zj.mk z2 z6)) zn zb)]) := by
 unfold Z4J
 refine zf (ZiL ..) ?_
 refine ze ?_
 refine zi fun r1 hr1 => ?_
 obtain ⟨qr1, er1, exr1, rfl⟩ := Z1K ((Zk.mk zl zp z7 zd zh (Zj.mk z2 z6))) zn zb zu r1 hr1
 refine zc [0] (iv r1) [(Zi (Zk.mk zl zp z7 zd zh (Zj.mk z2 z6)) zn zb)] er1 ?_
 refine ze ?_
 refine zo (bv (decide (r1 < 0))) ?_
 refine za ((decide (r1 < 0))) ?_ ?_
 ·refine ze ?_
  refine zi fun r2 hr2 => ?_
  obtain ⟨qr2, er2, exr2, rfl⟩ := ZV (21) (x5) (zl) (zp) (z7) (zd) (zh) (z2) (z6) zn zb zu r2 hr2
  refine zc [0] (.p (.tup [])) [(Zi (Zk.mk zl r2.1 z7 zd zh (Zj.mk r2.2.1 r2.2.2)) zn zb)] er2 ?_
  refine ze ?_
  exact zr ((.p (.tup [(.v (.int .i64 0)), (.lst .nl []), (.v (.bool false))])), [(Zi (Zk.mk zl r2.1 z7 zd zh (Zj.mk r2.2.1 r2.2.2)) zn zb)]) ⟨_, rfl⟩
 ·exact zk (Z9I (r1) (x5) (zl) (zp) (z7) (zd) (zh) (z2) (z6) zn zb zu)
noncomputable def Z4w (zl : List Int) (zp : Int) (z7 : Int) (zd : Int) (zh : List Zq) (z2 : Int) (z6 : Int) : Option (Int × (Own × (List Z8)) × Bool × Int × Int × Int) :=
 (Z25 zl zp).bind fun r1 =>
 if ((r1.1 != 92)) = true then
 (some (r1.1, (.nl, ([] : List Z8)), false, r1.2, z2, z6))
 else
 (Z4J zp zl r1.2 z7 zd zh z2 z6)
theorem Zao (zl : List Int) (zp : Int) (z7 : Int) (zd : Int) (zh : List Zq) (z2 : Int) (z6 : Int) (zn : Own) (zb : Own) (zu : okApp zb = true) : Sim (Z2G zl z7 zd zh zn zb) (Z4w zl zp z7 zd zh z2 z6) (EE 60 [(.ptr 0 0)] [(Zi (Zk.mk zl zp z7 zd zh (Zj.mk z2 z6)) zn zb)]) := by
 unfold Z4w
 refine zf (ZjF ..) ?_
 refine ze ?_
 refine ze ?_
 refine zo (.ptr 0 0) ?_
 refine zo (.ptr 0 1) ?_
 refine zo (iv zp) ?_
 refine ze ?_
 refine zi fun r1 hr1 => ?_
 obtain ⟨qr1, er1, exr1, rfl⟩ := Z2t (zl) (zp) (z7) (zd) (zh) (z2) (z6) zn zb zu r1 hr1
 refine zc [0] (iv r1.1) [(Zi (Zk.mk zl r1.2 z7 zd zh (Zj.mk z2 z6)) zn zb)] er1 ?_
 refine ze ?_
 refine zo (bv (r1.1 != 92)) ?_
 refine za ((r1.1 != 92)) ?_ ?_
 ·refine ze ?_
  exact zr ((.p (.tup [(.v (.int .i64 r1.1)), (.lst .nl []), (.v (.bool false))])), [(Zi (Zk.mk zl r1.2 z7 zd zh (Zj.mk z2 z6)) zn zb)]) ⟨_, rfl⟩
 ·exact zk (Z9E (zp) (zl) (r1.2) (z7) (zd) (zh) (z2) (z6) zn zb zu)
theorem Z7t (zl : List Int) (zp : Int) (z7 : Int) (zd : Int) (zh : List Zq) (z2 : Int) (z6 : Int) {r} (h : Z4w zl zp z7 zd zh z2 z6 = some r) : Z3F zl zp z7 zd zh z2 z6 = some r :=
 pick_of (fun _ _ ha hb => RRun.uniq (Zb5 _ _ _ _ _ _) (ha .ex .ex rfl) (hb .ex .ex rfl)) (fun zn zb zu => Zao zl zp z7 zd zh z2 z6 zn zb zu r h)
end Go.Proofs.YtadodmjdkphddaaDoor.N2
end
