/- The functions' typed texts. No condition. -/
import Derived.Test.YtadodmjdkphddaaDoorTypA

section
set_option linter.unusedSimpArgs false
set_option linter.unusedVariables false
namespace Go.Proofs.YtadodmjdkphddaaDoor.N2
open Go Go.Abs
set_option linter.unusedVariables false
set_option maxRecDepth 100000
noncomputable def ZY  : Option (Bool) :=
 some (true)
theorem Z12  : Sim (Z1k) (ZY) (Z5P 0  []) := by
 unfold ZY
 refine zf (ZgP ..) ?_
 refine ze ?_
 exact zr ((bv true), []) ⟨_, rfl⟩
noncomputable def Z1I (x0 : Int) (b1 : Zi) : Option (Bool) :=
 if ((b1.Code == 23)) = true then
 ((Z6e x0).bind fun r1 =>
 some ((b1.At == (r1.length : Int))))
 else
 (some (false))
theorem Z3p (x0 : Int) (b0 : ZD) (b1 : Zi) (zH : Own) (zF : Own) : Sim (Z1k) (Z1I x0 b1) (ZbK 0 (iv x0) (.ptr 1 0) [(Zv b0 zH zF), (ZC b1)]) := by
 unfold Z1I
 refine zf (ZfZ ..) ?_
 refine ze ?_
 refine zo (.ptr 1 0) ?_
 refine zo (iv b1.Code) ?_
 refine zo (bv (b1.Code == 23)) ?_
 refine za ((b1.Code == 23)) ?_ ?_
 ·refine zo (.ptr 1 1) ?_
  refine zo (iv b1.At) ?_
  refine zi fun r1 hr1 => ?_
  obtain ⟨qr1, er1, exr1, rfl⟩ := Z9S (x0) r1 hr1
  refine zc [] (.p (.lst .sh (r1.map (eI .u8)))) [(Zv b0 zH zF), (ZC b1)] er1 ?_
  refine zo (iv (r1.length : Int)) ?_ (Eq.trans (by kernel_rfl) (xlen_of (P := PP) (t := 40) (d := 5) (by kernel_rfl) (eI .u8) .sh r1))
  refine zo (bv (b1.At == (r1.length : Int))) ?_
  refine zg ?_
  exact zr ((bv (b1.At == (r1.length : Int))), [(Zv b0 zH zF), (ZC b1)]) ⟨_, rfl⟩
 ·refine zg ?_
  exact zr ((bv false), [(Zv b0 zH zF), (ZC b1)]) ⟨_, rfl⟩
noncomputable def Z21 (x0 : Int) (x1 : Int) (x2 : Int) (x3 : Int) (b0 : ZD) (b1 : Zi) : Option (Bool) :=
 if ((b1.Code == 0)) = true then
 (if ((b0.Root.Kind == 4)) = true then
 (if ((b0.Root.Lo == x1)) = true then
 (if ((b0.Root.Hi == x2)) = true then
 (if ((b0.Root.Mode == x3)) = true then
 (if (((b0.Root.Kids.length : Int) == 1)) = true then
 ((lget b0.Root.Kids 0).bind fun a1 =>
 (Z3N a1.Set (([(Z7.mk x0 x0)] : List Z7))).bind fun r2 =>
 some (r2))
 else
 (some (false)))
 else
 (some (false)))
 else
 (some (false)))
 else
 (some (false)))
 else
 (some (false)))
 else
 (some (false))
theorem Z4R (x0 : Int) (x1 : Int) (x2 : Int) (x3 : Int) (b0 : ZD) (b1 : Zi) (zH : Own) (zF : Own) : Sim (Z1k) (Z21 x0 x1 x2 x3 b0 b1) (ZcJ 0 (iv x0) (iv x1) (iv x2) (iv x3) (.ptr 0 0) (.ptr 1 0) [(Zv b0 zH zF), (ZC b1)]) := by
 unfold Z21
 refine zf (ZfX ..) ?_
 refine ze ?_
 refine zo (.ptr 0 0) ?_
 refine zo (.p (.agg (ZE b0.Root (shrO zH) (shrO zF)))) ?_
 refine zz (.ptr 2 0) [(Zv b0 zH zF), (ZC b1), (Zr (Z8.mk 0 0 0 0 0 ([] : List Z7) ([] : List Z8)) .nl .nl)] ?_
 refine zt [(Zv b0 zH zF), (ZC b1), (Zr b0.Root (shrO zH) (shrO zF))] ?_
 refine ze ?_
 refine zo (.ptr 1 0) ?_
 refine zo (iv b1.Code) ?_
 refine zo (bv (b1.Code == 0)) ?_
 refine za ((b1.Code == 0)) ?_ ?_
 ·refine zo (.ptr 2 0) ?_
  refine zo (iv b0.Root.Kind) ?_
  refine zo (bv (b0.Root.Kind == 4)) ?_
  refine za ((b0.Root.Kind == 4)) ?_ ?_
  ·refine zo (.ptr 2 1) ?_
   refine zo (iv b0.Root.Lo) ?_
   refine zo (bv (b0.Root.Lo == x1)) ?_
   refine za ((b0.Root.Lo == x1)) ?_ ?_
   ·refine zo (.ptr 2 2) ?_
    refine zo (iv b0.Root.Hi) ?_
    refine zo (bv (b0.Root.Hi == x2)) ?_
    refine za ((b0.Root.Hi == x2)) ?_ ?_
    ·refine zo (.ptr 2 3) ?_
     refine zo (iv b0.Root.Mode) ?_
     refine zo (bv (b0.Root.Mode == x3)) ?_
     refine za ((b0.Root.Mode == x3)) ?_ ?_
     ·refine zo (.ptr 2 6) ?_
      refine zo (.p (.lst (shrO (shrO zF)) (b0.Root.Kids.map ZR))) ?_
      refine zo (iv (b0.Root.Kids.length : Int)) ?_ (Eq.trans (by kernel_rfl) (xlen_of (P := PP) (t := 25) (d := 27) (by kernel_rfl) ZR (shrO (shrO zF)) b0.Root.Kids))
      refine zo (bv ((b0.Root.Kids.length : Int) == 1)) ?_
      refine za (((b0.Root.Kids.length : Int) == 1)) ?_ ?_
      ·refine zo (.ptr 2 6) ?_
       refine zo (.p (.lst (shrO (shrO zF)) (b0.Root.Kids.map ZR))) ?_
       refine zi fun a1 ha1 => ?_
       refine zo (.cptr (ZE a1 .sh .sh)) ?_ (Eq.trans (by kernel_rfl) (xidx_of (o := (shrO (shrO zF))) (k := .i64) (n := 7) (e := ZR) (cs := Z2D) Z72 (fun _ => rfl) (by decide) ha1))
       refine zo (.cptr [(.lst .sh (a1.Set.map Zs)), (.lst .sh (a1.Kids.map ZR))]) ?_
       refine zo (.p (.lst .sh (a1.Set.map Zs))) ?_
       refine zo (.p (.agg (ZG (Z7.mk x0 x0)))) ?_
       refine zo (.p (.lst .ex (([(Z7.mk x0 x0)] : List Z7).map Zs))) ?_
       refine zi fun r2 hr2 => ?_
       obtain ⟨qr2, er2, exr2, rfl⟩ := Z9r (a1.Set) (([(Z7.mk x0 x0)] : List Z7)) .sh .sh r2 hr2
       refine zc [] (bv r2) [(Zv b0 zH zF), (ZC b1), (Zr b0.Root (shrO zH) (shrO zF))] er2 ?_
       exact zr ((bv r2), [(Zv b0 zH zF), (ZC b1), (Zr b0.Root (shrO zH) (shrO zF))]) ⟨_, rfl⟩
      ·exact zr ((bv false), [(Zv b0 zH zF), (ZC b1), (Zr b0.Root (shrO zH) (shrO zF))]) ⟨_, rfl⟩
     ·exact zr ((bv false), [(Zv b0 zH zF), (ZC b1), (Zr b0.Root (shrO zH) (shrO zF))]) ⟨_, rfl⟩
    ·exact zr ((bv false), [(Zv b0 zH zF), (ZC b1), (Zr b0.Root (shrO zH) (shrO zF))]) ⟨_, rfl⟩
   ·exact zr ((bv false), [(Zv b0 zH zF), (ZC b1), (Zr b0.Root (shrO zH) (shrO zF))]) ⟨_, rfl⟩
  ·exact zr ((bv false), [(Zv b0 zH zF), (ZC b1), (Zr b0.Root (shrO zH) (shrO zF))]) ⟨_, rfl⟩
 ·exact zr ((bv false), [(Zv b0 zH zF), (ZC b1), (Zr b0.Root (shrO zH) (shrO zF))]) ⟨_, rfl⟩
noncomputable def Z24 (x0 : Int) (x1 : Int) (x2 : Int) (x3 : Int) (x9 : ByteArray) : Option (Bool) :=
 (lget ([(ByteArray.mk #[]), (ByteArray.mk #[63]), (ByteArray.mk #[43])] : List ByteArray) x3).bind fun a1 =>
 (sadd (ByteArray.mk #[125]) a1).bind fun a2 =>
 (sadd x9 a2).bind fun a3 =>
 (Z4s a3).bind fun r4 =>
 if ((decide (64 < x1))) = true then
 (Z1I x0 r4.2)
 else
 (if ((decide (64 < x2))) = true then
 (Z1I x0 r4.2)
 else
 (if ((decide (0 ≤ x2))) = true then
 (if ((decide (x2 < x1))) = true then
 (Z1I x0 r4.2)
 else
 (Z21 x0 x1 x2 x3 r4.1 r4.2))
 else
 (Z21 x0 x1 x2 x3 r4.1 r4.2)))
theorem Z4Y (x0 : Int) (x1 : Int) (x2 : Int) (x3 : Int) (x9 : ByteArray) : Sim (Z1k) (Z24 x0 x1 x2 x3 x9) (Zdi 0 (iv x0) (iv x1) (iv x2) (iv x3) (.p (.v (.string x9))) []) := by
 unfold Z24
 refine zf (ZgR ..) ?_
 refine ze ?_
 refine zo (.p (.lst .ex (([(ByteArray.mk #[]), (ByteArray.mk #[63]), (ByteArray.mk #[43])] : List ByteArray).map eS))) ?_
 refine zi fun a1 ha1 => ?_
 refine zo (.cptr [(.v (.string a1))]) ?_ (Eq.trans (by kernel_rfl) (xidx_of (o := .ex) (k := .i64) (n := 1) (e := eS) (cs := (fun a => [eS a])) (fun _ => rfl) (fun _ => rfl) (by decide) ha1))
 refine zo (.p (.v (.string a1))) ?_
 refine zi fun a2 ha2 => ?_
 refine zo (.p (.v (.string a2))) ?_ (Eq.trans (by kernel_rfl) (xsadd_of (P := PP) (t := 9) ha2))
 refine zi fun a3 ha3 => ?_
 refine zo (.p (.v (.string a3))) ?_ (Eq.trans (by kernel_rfl) (xsadd_of (P := PP) (t := 9) ha3))
 refine ze ?_
 refine zi fun r4 hr4 => ?_
 obtain ⟨qr4, er4, exr4, rfl⟩ := Z5l (a3) r4 hr4
 refine zc [] (.p (.tup [(.agg (Z1u r4.1 .sh .sh)), (.agg (Z16 r4.2))])) [] er4 ?_
 refine zo (.p (.agg (Z1u r4.1 .sh .sh))) ?_
 refine zo (.p (.agg (Z16 r4.2))) ?_
 refine zz (.ptr 0 0) [(Zv (ZD.mk (Z8.mk 0 0 0 0 0 ([] : List Z7) ([] : List Z8)) 0 false) .nl .nl)] ?_
 refine zz (.ptr 1 0) [(Zv (ZD.mk (Z8.mk 0 0 0 0 0 ([] : List Z7) ([] : List Z8)) 0 false) .nl .nl), (ZC (Zi.mk 0 0))] ?_
 refine zt [(Zv r4.1 .sh .sh), (ZC (Zi.mk 0 0))] ?_
 refine zt [(Zv r4.1 .sh .sh), (ZC r4.2)] ?_
 refine ze ?_
 refine zo (bv (decide (64 < x1))) ?_
 refine za ((decide (64 < x1))) ?_ ?_
 ·exact zk (Z3p (x0) (r4.1) (r4.2) .sh .sh)
 ·refine zo (bv (decide (64 < x2))) ?_
  refine za ((decide (64 < x2))) ?_ ?_
  ·exact zk (Z3p (x0) (r4.1) (r4.2) .sh .sh)
  ·refine zo (bv (decide (0 ≤ x2))) ?_
   refine za ((decide (0 ≤ x2))) ?_ ?_
   ·refine zo (bv (decide (x2 < x1))) ?_
    refine za ((decide (x2 < x1))) ?_ ?_
    ·exact zk (Z3p (x0) (r4.1) (r4.2) .sh .sh)
    ·exact zk (Z4R (x0) (x1) (x2) (x3) (r4.1) (r4.2) .sh .sh)
   ·exact zk (Z4R (x0) (x1) (x2) (x3) (r4.1) (r4.2) .sh .sh)
noncomputable def Z1N (x0 : Int) (x1 : Int) (x2 : Int) (x3 : Int) : Option (Bool) :=
 (Z6e x0).bind fun r1 =>
 (sadd (strI r1) (ByteArray.mk #[123])).bind fun a2 =>
 (Z4A x1).bind fun r3 =>
 (sadd a2 r3).bind fun a4 =>
 (sadd a4 (ByteArray.mk #[44])).bind fun a5 =>
 if ((decide (0 ≤ x2))) = true then
 ((Z4A x2).bind fun r6 =>
 (sadd a5 r6).bind fun a7 =>
 Z24 x0 x1 x2 x3 a7)
 else
 (Z24 x0 x1 x2 x3 a5)
theorem Z50 (x0 : Int) (x1 : Int) (x2 : Int) (x3 : Int) : Sim (Z1k) (Z1N x0 x1 x2 x3) (Zdj 0 (iv x0) (iv x1) (iv x2) (iv x3) []) := by
 unfold Z1N
 refine zf (ZgO ..) ?_
 refine ze ?_
 refine zi fun r1 hr1 => ?_
 obtain ⟨qr1, er1, exr1, rfl⟩ := Z9S (x0) r1 hr1
 refine zc [] (.p (.lst .sh (r1.map (eI .u8)))) [] er1 ?_
 refine zo (.p (.v (.string (strI r1)))) ?_ (Eq.trans (by kernel_rfl) (xcnv_str (P := PP) (s := 40) (d := 9) (by kernel_rfl) .sh r1))
 refine zi fun a2 ha2 => ?_
 refine zo (.p (.v (.string a2))) ?_ (Eq.trans (by kernel_rfl) (xsadd_of (P := PP) (t := 9) ha2))
 refine zi fun r3 hr3 => ?_
 obtain ⟨qr3, er3, exr3, rfl⟩ := Z7u (x1) r3 hr3
 refine zc [] (.p (.v (.string r3))) [] er3 ?_
 refine zi fun a4 ha4 => ?_
 refine zo (.p (.v (.string a4))) ?_ (Eq.trans (by kernel_rfl) (xsadd_of (P := PP) (t := 9) ha4))
 refine zi fun a5 ha5 => ?_
 refine zo (.p (.v (.string a5))) ?_ (Eq.trans (by kernel_rfl) (xsadd_of (P := PP) (t := 9) ha5))
 refine ze ?_
 refine zo (bv (decide (0 ≤ x2))) ?_
 refine za ((decide (0 ≤ x2))) ?_ ?_
 ·refine ze ?_
  refine zi fun r6 hr6 => ?_
  obtain ⟨qr6, er6, exr6, rfl⟩ := Z7u (x2) r6 hr6
  refine zc [] (.p (.v (.string r6))) [] er6 ?_
  refine zi fun a7 ha7 => ?_
  refine zo (.p (.v (.string a7))) ?_ (Eq.trans (by kernel_rfl) (xsadd_of (P := PP) (t := 9) ha7))
  exact zk (Z4Y (x0) (x1) (x2) (x3) (a7))
 ·exact zk (Z4Y (x0) (x1) (x2) (x3) (a5))
noncomputable def Z31 (x0 : Int) (x1 : Int) (x2 : Int) (x3 : Int) : Option (Bool) :=
 (Z5L x0).bind fun r1 =>
 if ((!r1)) = true then
 (ZY)
 else
 (if ((decide (x0 < 128))) = true then
 ((Z4X (([(Z7.mk 48 57), (Z7.mk 65 90), (Z7.mk 97 122)] : List Z7)) x0).bind fun r2 =>
 if ((!r2)) = true then
 (ZY)
 else
 (if ((decide (x1 < 0))) = true then
 (ZY)
 else
 (if ((decide (99 < x1))) = true then
 (ZY)
 else
 (if ((decide (x2 < (-1)))) = true then
 (ZY)
 else
 (if ((decide (99 < x2))) = true then
 (ZY)
 else
 (if ((decide (x3 < 0))) = true then
 (ZY)
 else
 (if ((decide (2 < x3))) = true then
 (ZY)
 else
 (Z1N x0 x1 x2 x3))))))))
 else
 (if ((decide (x1 < 0))) = true then
 (ZY)
 else
 (if ((decide (99 < x1))) = true then
 (ZY)
 else
 (if ((decide (x2 < (-1)))) = true then
 (ZY)
 else
 (if ((decide (99 < x2))) = true then
 (ZY)
 else
 (if ((decide (x3 < 0))) = true then
 (ZY)
 else
 (if ((decide (2 < x3))) = true then
 (ZY)
 else
 (Z1N x0 x1 x2 x3))))))))
theorem Z6X (x0 : Int) (x1 : Int) (x2 : Int) (x3 : Int) : Sim (Z1k) (Z31 x0 x1 x2 x3) (Zf8 0 (iv x0) (iv x1) (iv x2) (iv x3) []) := by
 unfold Z31
 refine zf (ZgQ ..) ?_
 refine ze ?_
 refine zi fun r1 hr1 => ?_
 obtain ⟨qr1, er1, exr1, rfl⟩ := Zbo (x0) r1 hr1
 refine zc [] (bv r1) [] er1 ?_
 refine zo (bv (!r1)) ?_
 refine za ((!r1)) ?_ ?_
 ·exact zk (Z12 )
 ·refine zo (bv (decide (x0 < 128))) ?_
  refine za ((decide (x0 < 128))) ?_ ?_
  ·refine zo (.p (.agg (ZG (Z7.mk 48 57)))) ?_
   refine zo (.p (.agg (ZG (Z7.mk 65 90)))) ?_
   refine zo (.p (.agg (ZG (Z7.mk 97 122)))) ?_
   refine zo (.p (.lst .ex (([(Z7.mk 48 57), (Z7.mk 65 90), (Z7.mk 97 122)] : List Z7).map Zs))) ?_
   refine zi fun r2 hr2 => ?_
   obtain ⟨qr2, er2, exr2, rfl⟩ := Z8Y (([(Z7.mk 48 57), (Z7.mk 65 90), (Z7.mk 97 122)] : List Z7)) (x0) .sh r2 hr2
   refine zc [] (bv r2) [] er2 ?_
   refine zo (bv (!r2)) ?_
   refine za ((!r2)) ?_ ?_
   ·exact zk (Z12 )
   ·refine zo (bv (decide (x1 < 0))) ?_
    refine za ((decide (x1 < 0))) ?_ ?_
    ·exact zk (Z12 )
    ·refine zo (bv (decide (99 < x1))) ?_
     refine za ((decide (99 < x1))) ?_ ?_
     ·exact zk (Z12 )
     ·refine zo (bv (decide (x2 < (-1)))) ?_
      refine za ((decide (x2 < (-1)))) ?_ ?_
      ·exact zk (Z12 )
      ·refine zo (bv (decide (99 < x2))) ?_
       refine za ((decide (99 < x2))) ?_ ?_
       ·exact zk (Z12 )
       ·refine zo (bv (decide (x3 < 0))) ?_
        refine za ((decide (x3 < 0))) ?_ ?_
        ·exact zk (Z12 )
        ·refine zo (bv (decide (2 < x3))) ?_
         refine za ((decide (2 < x3))) ?_ ?_
         ·exact zk (Z12 )
         ·exact zk (Z50 (x0) (x1) (x2) (x3))
  ·refine zo (bv (decide (x1 < 0))) ?_
   refine za ((decide (x1 < 0))) ?_ ?_
   ·exact zk (Z12 )
   ·refine zo (bv (decide (99 < x1))) ?_
    refine za ((decide (99 < x1))) ?_ ?_
    ·exact zk (Z12 )
    ·refine zo (bv (decide (x2 < (-1)))) ?_
     refine za ((decide (x2 < (-1)))) ?_ ?_
     ·exact zk (Z12 )
     ·refine zo (bv (decide (99 < x2))) ?_
      refine za ((decide (99 < x2))) ?_ ?_
      ·exact zk (Z12 )
      ·refine zo (bv (decide (x3 < 0))) ?_
       refine za ((decide (x3 < 0))) ?_ ?_
       ·exact zk (Z12 )
       ·refine zo (bv (decide (2 < x3))) ?_
        refine za ((decide (2 < x3))) ?_ ?_
        ·exact zk (Z12 )
        ·exact zk (Z50 (x0) (x1) (x2) (x3))
noncomputable def Z3y (x0 : Int) (x1 : Int) (x2 : Int) (x3 : Int) : Option (Bool) :=
 (Z4M).bind fun r1 =>
 if ((!r1)) = true then
 (some (false))
 else
 (Z31 x0 x1 x2 x3)
theorem Z7R (x0 : Int) (x1 : Int) (x2 : Int) (x3 : Int) : Sim (Z1k) (Z3y x0 x1 x2 x3) (EE 5 [(iv x0), (iv x1), (iv x2), (iv x3)] []) := by
 unfold Z3y
 refine zf (Ziy ..) ?_
 refine ze ?_
 refine ze ?_
 refine zi fun r1 hr1 => ?_
 obtain ⟨qr1, er1, exr1, rfl⟩ := Z9j  r1 hr1
 refine zc [] (bv r1) [] er1 ?_
 refine zo (bv (!r1)) ?_
 refine za ((!r1)) ?_ ?_
 ·refine ze ?_
  exact zr ((bv false), []) ⟨_, rfl⟩
 ·exact zk (Z6X (x0) (x1) (x2) (x3))
theorem Z82 (x0 : Int) (x1 : Int) (x2 : Int) (x3 : Int) {r} (h : Z3y x0 x1 x2 x3 = some r) : Z4D x0 x1 x2 x3 = some r :=
 pick_of (fun _ _ ha hb => RRun.uniq (Z8c) (ha ) (hb )) (Z7R x0 x1 x2 x3 r h)
noncomputable def Z2e  : Option (Bool) :=
 some (false)
theorem Z2I  : Sim (Z2G) (Z2e) (Z9F 0  []) := by
 unfold Z2e
 refine zf (Zg3 ..) ?_
 refine ze ?_
 exact zr ((bv false), []) ⟨_, rfl⟩
noncomputable def Z5f (b3 : Zi) (b5 : Zi) (b7 : Zi) : Option (Bool) :=
 if (((b3.Code == 23) && ((b3.At == 2) && true))) = true then
 (if (((b5.Code == 20) && ((b5.At == 0) && true))) = true then
 (some (((b7.Code == 26) && ((b7.At == 0) && true))))
 else
 (some (false)))
 else
 (some (false))
theorem Z8j (b0 : ZD) (b1 : Zi) (b2 : ZD) (b3 : Zi) (b4 : ZD) (b5 : Zi) (b6 : ZD) (b7 : Zi) (zH : Own) (zF : Own) (z88 : Own) (z7H : Own) (z8a : Own) (z7D : Own) (z89 : Own) (z7G : Own) : Sim (Z2G) (Z5f b3 b5 b7) (Zek 0 (.ptr 3 0) (.ptr 5 0) (.ptr 7 0) [(Zv b0 zH zF), (ZC b1), (Zv b2 z88 z7H), (ZC b3), (Zv b4 z8a z7D), (ZC b5), (Zv b6 z89 z7G), (ZC b7)]) := by
 unfold Z5f
 refine zf (ZfP ..) ?_
 refine ze ?_
 refine zo (.p (.agg (Z16 b3))) ?_
 refine zo (.p (.agg (Z16 (Zi.mk 23 2)))) ?_
 refine zo (bv ((b3.Code == 23) && ((b3.At == 2) && true))) ?_ (Eq.trans (b := xbin PP .eql 32 (.p (.agg (Z16 b3))) (.p (.agg (Z16 (Zi.mk 23 2))))) (by kernel_rfl) (xeq_eql (by kernel_rfl) (by kernel_rfl) (by kernel_rfl) (by kernel_rfl) (by kernel_rfl)))
 refine za (((b3.Code == 23) && ((b3.At == 2) && true))) ?_ ?_
 ·refine zo (.p (.agg (Z16 b5))) ?_
  refine zo (.p (.agg (Z16 (Zi.mk 20 0)))) ?_
  refine zo (bv ((b5.Code == 20) && ((b5.At == 0) && true))) ?_ (Eq.trans (b := xbin PP .eql 32 (.p (.agg (Z16 b5))) (.p (.agg (Z16 (Zi.mk 20 0))))) (by kernel_rfl) (xeq_eql (by kernel_rfl) (by kernel_rfl) (by kernel_rfl) (by kernel_rfl) (by kernel_rfl)))
  refine za (((b5.Code == 20) && ((b5.At == 0) && true))) ?_ ?_
  ·refine zo (.p (.agg (Z16 b7))) ?_
   refine zo (.p (.agg (Z16 (Zi.mk 26 0)))) ?_
   refine zo (bv ((b7.Code == 26) && ((b7.At == 0) && true))) ?_ (Eq.trans (b := xbin PP .eql 32 (.p (.agg (Z16 b7))) (.p (.agg (Z16 (Zi.mk 26 0))))) (by kernel_rfl) (xeq_eql (by kernel_rfl) (by kernel_rfl) (by kernel_rfl) (by kernel_rfl) (by kernel_rfl)))
   exact zr ((bv ((b7.Code == 26) && ((b7.At == 0) && true))), [(Zv b0 zH zF), (ZC b1), (Zv b2 z88 z7H), (ZC b3), (Zv b4 z8a z7D), (ZC b5), (Zv b6 z89 z7G), (ZC b7)]) ⟨_, rfl⟩
  ·exact zr ((bv false), [(Zv b0 zH zF), (ZC b1), (Zv b2 z88 z7H), (ZC b3), (Zv b4 z8a z7D), (ZC b5), (Zv b6 z89 z7G), (ZC b7)]) ⟨_, rfl⟩
 ·exact zr ((bv false), [(Zv b0 zH zF), (ZC b1), (Zv b2 z88 z7H), (ZC b3), (Zv b4 z8a z7D), (ZC b5), (Zv b6 z89 z7G), (ZC b7)]) ⟨_, rfl⟩
noncomputable def Z4Q  : Option (Bool) :=
 (Z4s ((ByteArray.mk #[97, 124, 98, 42, 63]))).bind fun r1 =>
 (Z4s ((ByteArray.mk #[97, 42, 42]))).bind fun r2 =>
 (Z4s ((ByteArray.mk #[40, 97]))).bind fun r3 =>
 (Z4s ((ByteArray.mk #[92, 49]))).bind fun r4 =>
 if ((r1.2.Code != 0)) = true then
 (Z2e)
 else
 (if ((r1.1.Root.Kind != 3)) = true then
 (Z2e)
 else
 (if (((r1.1.Root.Kids.length : Int) != 2)) = true then
 (Z2e)
 else
 ((lget r1.1.Root.Kids 1).bind fun a5 =>
 if ((a5.Kind != 4)) = true then
 (Z2e)
 else
 ((lget r1.1.Root.Kids 1).bind fun a6 =>
 if ((a6.Mode != 1)) = true then
 (Z2e)
 else
 (Z5f r2.2 r3.2 r4.2)))))
theorem Z93  : Sim (Z2G) (Z4Q) (EE 15 [] []) := by
 unfold Z4Q
 refine zf (Zhr ..) ?_
 refine ze ?_
 refine ze ?_
 refine zi fun r1 hr1 => ?_
 obtain ⟨qr1, er1, exr1, rfl⟩ := Z5l ((ByteArray.mk #[97, 124, 98, 42, 63])) r1 hr1
 refine zc [] (.p (.tup [(.agg (Z1u r1.1 .sh .sh)), (.agg (Z16 r1.2))])) [] er1 ?_
 refine zo (.p (.agg (Z1u r1.1 .sh .sh))) ?_
 refine zo (.p (.agg (Z16 r1.2))) ?_
 refine zz (.ptr 0 0) [(Zv (ZD.mk (Z8.mk 0 0 0 0 0 ([] : List Z7) ([] : List Z8)) 0 false) .nl .nl)] ?_
 refine zz (.ptr 1 0) [(Zv (ZD.mk (Z8.mk 0 0 0 0 0 ([] : List Z7) ([] : List Z8)) 0 false) .nl .nl), (ZC (Zi.mk 0 0))] ?_
 refine zt [(Zv r1.1 .sh .sh), (ZC (Zi.mk 0 0))] ?_
 refine zt [(Zv r1.1 .sh .sh), (ZC r1.2)] ?_
 refine ze ?_
 refine zi fun r2 hr2 => ?_
 obtain ⟨qr2, er2, exr2, rfl⟩ := Z5l ((ByteArray.mk #[97, 42, 42])) r2 hr2
 refine zc [] (.p (.tup [(.agg (Z1u r2.1 .sh .sh)), (.agg (Z16 r2.2))])) [(Zv r1.1 .sh .sh), (ZC r1.2)] er2 ?_
 refine zo (.p (.agg (Z1u r2.1 .sh .sh))) ?_
 refine zo (.p (.agg (Z16 r2.2))) ?_
 refine zz (.ptr 2 0) [(Zv r1.1 .sh .sh), (ZC r1.2), (Zv (ZD.mk (Z8.mk 0 0 0 0 0 ([] : List Z7) ([] : List Z8)) 0 false) .nl .nl)] ?_
 refine zz (.ptr 3 0) [(Zv r1.1 .sh .sh), (ZC r1.2), (Zv (ZD.mk (Z8.mk 0 0 0 0 0 ([] : List Z7) ([] : List Z8)) 0 false) .nl .nl), (ZC (Zi.mk 0 0))] ?_
 refine zt [(Zv r1.1 .sh .sh), (ZC r1.2), (Zv r2.1 .sh .sh), (ZC (Zi.mk 0 0))] ?_
 refine zt [(Zv r1.1 .sh .sh), (ZC r1.2), (Zv r2.1 .sh .sh), (ZC r2.2)] ?_
 refine ze ?_
 refine zi fun r3 hr3 => ?_
 obtain ⟨qr3, er3, exr3, rfl⟩ := Z5l ((ByteArray.mk #[40, 97])) r3 hr3
 refine zc [] (.p (.tup [(.agg (Z1u r3.1 .sh .sh)), (.agg (Z16 r3.2))])) [(Zv r1.1 .sh .sh), (ZC r1.2), (Zv r2.1 .sh .sh), (ZC r2.2)] er3 ?_
 refine zo (.p (.agg (Z1u r3.1 .sh .sh))) ?_
 refine zo (.p (.agg (Z16 r3.2))) ?_
 refine zz (.ptr 4 0) [(Zv r1.1 .sh .sh), (ZC r1.2), (Zv r2.1 .sh .sh), (ZC r2.2), (Zv (ZD.mk (Z8.mk 0 0 0 0 0 ([] : List Z7) ([] : List Z8)) 0 false) .nl .nl)] ?_
 refine zz (.ptr 5 0) [(Zv r1.1 .sh .sh), (ZC r1.2), (Zv r2.1 .sh .sh), (ZC r2.2), (Zv (ZD.mk (Z8.mk 0 0 0 0 0 ([] : List Z7) ([] : List Z8)) 0 false) .nl .nl), (ZC (Zi.mk 0 0))] ?_
 refine zt [(Zv r1.1 .sh .sh), (ZC r1.2), (Zv r2.1 .sh .sh), (ZC r2.2), (Zv r3.1 .sh .sh), (ZC (Zi.mk 0 0))] ?_
 refine zt [(Zv r1.1 .sh .sh), (ZC r1.2), (Zv r2.1 .sh .sh), (ZC r2.2), (Zv r3.1 .sh .sh), (ZC r3.2)] ?_
 refine ze ?_
 refine zi fun r4 hr4 => ?_
 obtain ⟨qr4, er4, exr4, rfl⟩ := Z5l ((ByteArray.mk #[92, 49])) r4 hr4
 refine zc [] (.p (.tup [(.agg (Z1u r4.1 .sh .sh)), (.agg (Z16 r4.2))])) [(Zv r1.1 .sh .sh), (ZC r1.2), (Zv r2.1 .sh .sh), (ZC r2.2), (Zv r3.1 .sh .sh), (ZC r3.2)] er4 ?_
 refine zo (.p (.agg (Z1u r4.1 .sh .sh))) ?_
 refine zo (.p (.agg (Z16 r4.2))) ?_
 refine zz (.ptr 6 0) [(Zv r1.1 .sh .sh), (ZC r1.2), (Zv r2.1 .sh .sh), (ZC r2.2), (Zv r3.1 .sh .sh), (ZC r3.2), (Zv (ZD.mk (Z8.mk 0 0 0 0 0 ([] : List Z7) ([] : List Z8)) 0 false) .nl .nl)] ?_
 refine zz (.ptr 7 0) [(Zv r1.1 .sh .sh), (ZC r1.2), (Zv r2.1 .sh .sh), (ZC r2.2), (Zv r3.1 .sh .sh), (ZC r3.2), (Zv (ZD.mk (Z8.mk 0 0 0 0 0 ([] : List Z7) ([] : List Z8)) 0 false) .nl .nl), (ZC (Zi.mk 0 0))] ?_
 refine zt [(Zv r1.1 .sh .sh), (ZC r1.2), (Zv r2.1 .sh .sh), (ZC r2.2), (Zv r3.1 .sh .sh), (ZC r3.2), (Zv r4.1 .sh .sh), (ZC (Zi.mk 0 0))] ?_
 refine zt [(Zv r1.1 .sh .sh), (ZC r1.2), (Zv r2.1 .sh .sh), (ZC r2.2), (Zv r3.1 .sh .sh), (ZC r3.2), (Zv r4.1 .sh .sh), (ZC r4.2)] ?_
 refine ze ?_
 refine zo (.ptr 1 0) ?_
 refine zo (iv r1.2.Code) ?_
 refine zo (bv (r1.2.Code != 0)) ?_
 refine za ((r1.2.Code != 0)) ?_ ?_
 ·exact zk (Z2I )
 ·refine zo (.ptr 0 0) ?_
  refine zo (.ptr 0 0) ?_
  refine zo (iv r1.1.Root.Kind) ?_
  refine zo (bv (r1.1.Root.Kind != 3)) ?_
  refine za ((r1.1.Root.Kind != 3)) ?_ ?_
  ·exact zk (Z2I )
  ·refine zo (.ptr 0 0) ?_
   refine zo (.ptr 0 6) ?_
   refine zo (.p (.lst .sh (r1.1.Root.Kids.map ZR))) ?_
   refine zo (iv (r1.1.Root.Kids.length : Int)) ?_ (Eq.trans (by kernel_rfl) (xlen_of (P := PP) (t := 25) (d := 27) (by kernel_rfl) ZR .sh r1.1.Root.Kids))
   refine zo (bv ((r1.1.Root.Kids.length : Int) != 2)) ?_
   refine za (((r1.1.Root.Kids.length : Int) != 2)) ?_ ?_
   ·exact zk (Z2I )
   ·refine zo (.ptr 0 0) ?_
    refine zo (.ptr 0 6) ?_
    refine zo (.p (.lst .sh (r1.1.Root.Kids.map ZR))) ?_
    refine zi fun a5 ha5 => ?_
    refine zo (.cptr (ZE a5 .sh .sh)) ?_ (Eq.trans (by kernel_rfl) (xidx_of (o := .sh) (k := .i64) (n := 7) (e := ZR) (cs := Z2D) Z72 (fun _ => rfl) (by decide) ha5))
    refine zo (.cptr [(.v (.int .i64 a5.Kind)), (.v (.int .i64 a5.Lo)), (.v (.int .i64 a5.Hi)), (.v (.int .i64 a5.Mode)), (.v (.int .i64 a5.Ref)), (.lst .sh (a5.Set.map Zs)), (.lst .sh (a5.Kids.map ZR))]) ?_
    refine zo (iv a5.Kind) ?_
    refine zo (bv (a5.Kind != 4)) ?_
    refine za ((a5.Kind != 4)) ?_ ?_
    ·exact zk (Z2I )
    ·refine zo (.ptr 0 0) ?_
     refine zo (.ptr 0 6) ?_
     refine zo (.p (.lst .sh (r1.1.Root.Kids.map ZR))) ?_
     refine zi fun a6 ha6 => ?_
     refine zo (.cptr (ZE a6 .sh .sh)) ?_ (Eq.trans (by kernel_rfl) (xidx_of (o := .sh) (k := .i64) (n := 7) (e := ZR) (cs := Z2D) Z72 (fun _ => rfl) (by decide) ha6))
     refine zo (.cptr [(.v (.int .i64 a6.Mode)), (.v (.int .i64 a6.Ref)), (.lst .sh (a6.Set.map Zs)), (.lst .sh (a6.Kids.map ZR))]) ?_
     refine zo (iv a6.Mode) ?_
     refine zo (bv (a6.Mode != 1)) ?_
     refine za ((a6.Mode != 1)) ?_ ?_
     ·exact zk (Z2I )
     ·exact zk (Z8j (r1.1) (r1.2) (r2.1) (r2.2) (r3.1) (r3.2) (r4.1) (r4.2) .sh .sh .sh .sh .sh .sh .sh .sh)
theorem Z9g  {r} (h : Z4Q = some r) : Z4M = some r :=
 pick_of (fun _ _ ha hb => RRun.uniq (Z9P) (ha ) (hb )) (Z93  r h)
noncomputable def Z2W (z1O : List Int) (zQ : Int) (z1d : List Zq) (zI : Int) (zS : Int) (zK : Int) (zU : Int) (zV : Int) (zM : Int) (zO : Int) (zN : List Z7) (zL : List Z8) (z13 : Bool) : Option (ZD × Zi) :=
 Z4C z1d ((z1d.length : Int)) 0 z1O zQ zI zS zK zU zV zM zO zN zL z13
theorem Z6d (b0 : ZD) (b1 : Zi) (z1O : List Int) (z1G : Int) (zQ : Int) (z1w : Int) (z1d : List Zq) (zI : Int) (zS : Int) (zK : Int) (zU : Int) (zV : Int) (zM : Int) (zO : Int) (zN : List Z7) (zL : List Z8) (z1o : Int) (z13 : Bool) (zH : Own) (zF : Own) (z28 : Own) (z17 : Own) (z10 : Own) (zX : Own) (z1r : okApp zH = true) (z1l : okApp zF = true) (z2g : okApp z17 = true) : Sim (Z2b) (Z2W z1O zQ z1d zI zS zK zU zV zM zO zN zL z13) (ZbN 0 (.ptr 0 0) (.ptr 1 0) (.ptr 2 0) (.ptr 3 0) [(Zv b0 zH zF), (ZC b1), (Zj (Zk.mk z1O z1G zQ z1w z1d (Zi.mk zI zS)) z28 z17), (Zv (ZD.mk (Z8.mk zK zU zV zM zO zN zL) z1o z13) z10 zX)]) := by
 unfold Z2W
 refine zf (ZfB ..) ?_
 refine ze ?_
 refine zo (.ptr 2 0) ?_
 refine zo (.ptr 2 4) ?_
 refine zo (.p (.lst (shrO z17) (z1d.map Z1y))) ?_
 refine zo (iv (z1d.length : Int)) ?_ (Eq.trans (by kernel_rfl) (xlen_of (P := PP) (t := 56) (d := 62) (by kernel_rfl) Z1y (shrO z17) z1d))
 exact zk (Z8q (z1d) ((z1d.length : Int)) (0) (b0) (b1) (z1O) (z1G) (zQ) (z1w) (z1d) (zI) (zS) (zK) (zU) (zV) (zM) (zO) (zN) (zL) (z1o) (z13) (shrO z17) zH zF z28 z17 z10 zX z1r z1l z2g)
noncomputable def Z5p (z1O : List Int) (z1G : Int) (zQ : Int) (z1d : List Zq) (zI : Int) (zS : Int) (zK : Int) (zU : Int) (zV : Int) (zM : Int) (zO : Int) (zN : List Z7) (zL : List Z8) (z13 : Bool) : Option (ZD × Zi) :=
 (ZT 20 z1G z1O zI zS).bind fun r1 =>
 Z2W z1O zQ z1d r1.2.1 r1.2.2 zK zU zV zM zO zN zL z13
theorem Zbk (b0 : ZD) (b1 : Zi) (z1O : List Int) (z1G : Int) (zQ : Int) (z1w : Int) (z1d : List Zq) (zI : Int) (zS : Int) (zK : Int) (zU : Int) (zV : Int) (zM : Int) (zO : Int) (zN : List Z7) (zL : List Z8) (z1o : Int) (z13 : Bool) (zH : Own) (zF : Own) (z28 : Own) (z17 : Own) (z10 : Own) (zX : Own) (z1r : okApp zH = true) (z1l : okApp zF = true) (z2g : okApp z17 = true) : Sim (Z2b) (Z5p z1O z1G zQ z1d zI zS zK zU zV zM zO zN zL z13) (Zet 0 (.ptr 0 0) (.ptr 1 0) (.ptr 2 0) (.ptr 3 0) [(Zv b0 zH zF), (ZC b1), (Zj (Zk.mk z1O z1G zQ z1w z1d (Zi.mk zI zS)) z28 z17), (Zv (ZD.mk (Z8.mk zK zU zV zM zO zN zL) z1o z13) z10 zX)]) := by
 unfold Z5p
 refine zf (Zfq ..) ?_
 refine ze ?_
 refine zo (.ptr 2 0) ?_
 refine zo (.ptr 2 1) ?_
 refine zo (iv z1G) ?_
 refine zi fun r1 hr1 => ?_
 obtain ⟨qr1, er1, exr1, rfl⟩ := ZW (20) (z1G) (z1O) (z1G) (zQ) (z1w) (z1d) (zI) (zS) z28 z17 z2g r1 hr1
 refine zc [2] (.p (.tup [])) [(Zv b0 zH zF), (ZC b1), (Zj (Zk.mk z1O r1.1 zQ z1w z1d (Zi.mk r1.2.1 r1.2.2)) z28 z17), (Zv (ZD.mk (Z8.mk zK zU zV zM zO zN zL) z1o z13) z10 zX)] er1 ?_
 exact zk (Z6d (b0) (b1) (z1O) (r1.1) (zQ) (z1w) (z1d) (r1.2.1) (r1.2.2) (zK) (zU) (zV) (zM) (zO) (zN) (zL) (z1o) (z13) zH zF z28 z17 z10 zX z1r z1l z2g)
noncomputable def Z69 (x0 : ByteArray) : Option (ZD × Zi) :=
 (Z14 ((ByteArray.mk #[40, 63, 105, 41])) ((bytesI x0)) 0).bind fun r1 =>
 (Z2F ((bytesI x0)) r1.2 0 0 (([] : List Zq)) 0 0).bind fun r2 =>
 if ((r2.2.2.2.2.2.1 == 0)) = true then
 (if ((decide (r2.2.1 < ((bytesI x0).length : Int)))) = true then
 (Z5p ((bytesI x0)) r2.2.1 r2.2.2.1 r2.2.2.2.2.1 r2.2.2.2.2.2.1 r2.2.2.2.2.2.2 r2.1.Kind r2.1.Lo r2.1.Hi r2.1.Mode r2.1.Ref r2.1.Set r2.1.Kids r1.1)
 else
 (Z2W ((bytesI x0)) r2.2.2.1 r2.2.2.2.2.1 r2.2.2.2.2.2.1 r2.2.2.2.2.2.2 r2.1.Kind r2.1.Lo r2.1.Hi r2.1.Mode r2.1.Ref r2.1.Set r2.1.Kids r1.1))
 else
 (Z2W ((bytesI x0)) r2.2.2.1 r2.2.2.2.2.1 r2.2.2.2.2.2.1 r2.2.2.2.2.2.2 r2.1.Kind r2.1.Lo r2.1.Hi r2.1.Mode r2.1.Ref r2.1.Set r2.1.Kids r1.1)
theorem Zbm (x0 : ByteArray) (b0 : ZD) (b1 : Zi) (zH : Own) (zF : Own) (z1r : okApp zH = true) (z1l : okApp zF = true) : Sim (Z2b) (Z69 x0) (ZdY 0 (.p (.v (.string x0))) (.ptr 0 0) (.ptr 1 0) [(Zv b0 zH zF), (ZC b1)]) := by
 unfold Z69
 refine zf (ZfL ..) ?_
 refine ze ?_
 refine zo (.p (.lst .sh ((bytesI x0).map (eI .u8)))) ?_ (Eq.trans (by kernel_rfl) (xcnv_byt (P := PP) (s := 9) (d := 40) (by kernel_rfl) (by kernel_rfl) x0))
 refine zo (.p (.agg (ZcI (Zk.mk (bytesI x0) 0 0 0 ([] : List Zq) (Zi.mk 0 0)) .sh .nl))) ?_
 refine zx (.ptr 2 0) [(Zv b0 zH zF), (ZC b1), (Zj (Zk.mk (bytesI x0) 0 0 0 ([] : List Zq) (Zi.mk 0 0)) .sh .nl)] ?_
 refine ze ?_
 refine zi fun r1 hr1 => ?_
 obtain ⟨qr1, er1, exr1, rfl⟩ := Z1a ((ByteArray.mk #[40, 63, 105, 41])) ((bytesI x0)) (0) (0) (0) (([] : List Zq)) (0) (0) .sh .nl rfl r1 hr1
 refine zc [2] (bv r1.1) [(Zv b0 zH zF), (ZC b1), (Zj (Zk.mk (bytesI x0) r1.2 0 0 ([] : List Zq) (Zi.mk 0 0)) .sh .nl)] er1 ?_
 refine zo (.p (.agg (Z1u (ZD.mk (Z8.mk 0 0 0 0 0 ([] : List Z7) ([] : List Z8)) 0 r1.1) .nl .nl))) ?_
 refine zz (.ptr 3 0) [(Zv b0 zH zF), (ZC b1), (Zj (Zk.mk (bytesI x0) r1.2 0 0 ([] : List Zq) (Zi.mk 0 0)) .sh .nl), (Zv (ZD.mk (Z8.mk 0 0 0 0 0 ([] : List Z7) ([] : List Z8)) 0 false) .nl .nl)] ?_
 refine zt [(Zv b0 zH zF), (ZC b1), (Zj (Zk.mk (bytesI x0) r1.2 0 0 ([] : List Zq) (Zi.mk 0 0)) .sh .nl), (Zv (ZD.mk (Z8.mk 0 0 0 0 0 ([] : List Z7) ([] : List Z8)) 0 r1.1) .nl .nl)] ?_
 refine ze ?_
 refine zi fun r2 hr2 => ?_
 obtain ⟨qr2, er2, or2_0_4, exr2, hor2_0_4, rfl⟩ := Z7Z ((bytesI x0)) (r1.2) (0) (0) (([] : List Zq)) (0) (0) .sh .nl rfl r2 hr2
 refine zc [2] (.p (.agg (ZE r2.1 .sh .sh))) [(Zv b0 zH zF), (ZC b1), (Zj (Zk.mk (bytesI x0) r2.2.1 r2.2.2.1 r2.2.2.2.1 r2.2.2.2.2.1 (Zi.mk r2.2.2.2.2.2.1 r2.2.2.2.2.2.2)) .sh or2_0_4), (Zv (ZD.mk (Z8.mk 0 0 0 0 0 ([] : List Z7) ([] : List Z8)) 0 r1.1) .nl .nl)] er2 ?_
 refine zo (.ptr 3 0) ?_
 refine zt [(Zv b0 zH zF), (ZC b1), (Zj (Zk.mk (bytesI x0) r2.2.1 r2.2.2.1 r2.2.2.2.1 r2.2.2.2.2.1 (Zi.mk r2.2.2.2.2.2.1 r2.2.2.2.2.2.2)) .sh or2_0_4), (Zv (ZD.mk (Z8.mk r2.1.Kind r2.1.Lo r2.1.Hi r2.1.Mode r2.1.Ref r2.1.Set r2.1.Kids) 0 r1.1) .sh .sh)] ?_
 refine ze ?_
 refine zo (.ptr 2 0) ?_
 refine zo (.ptr 2 5) ?_
 refine zo (.ptr 2 5) ?_
 refine zo (iv r2.2.2.2.2.2.1) ?_
 refine zo (bv (r2.2.2.2.2.2.1 == 0)) ?_
 refine za ((r2.2.2.2.2.2.1 == 0)) ?_ ?_
 ·refine zo (.ptr 2 0) ?_
  refine zo (.ptr 2 1) ?_
  refine zo (iv r2.2.1) ?_
  refine zo (.ptr 2 0) ?_
  refine zo (.ptr 2 0) ?_
  refine zo (.p (.lst .sh ((bytesI x0).map (eI .u8)))) ?_
  refine zo (iv ((bytesI x0).length : Int)) ?_ (Eq.trans (by kernel_rfl) (xlen_of (P := PP) (t := 40) (d := 5) (by kernel_rfl) (eI .u8) .sh (bytesI x0)))
  refine zo (bv (decide (r2.2.1 < ((bytesI x0).length : Int)))) ?_
  refine za ((decide (r2.2.1 < ((bytesI x0).length : Int)))) ?_ ?_
  ·exact zk (Zbk (b0) (b1) ((bytesI x0)) (r2.2.1) (r2.2.2.1) (r2.2.2.2.1) (r2.2.2.2.2.1) (r2.2.2.2.2.2.1) (r2.2.2.2.2.2.2) (r2.1.Kind) (r2.1.Lo) (r2.1.Hi) (r2.1.Mode) (r2.1.Ref) (r2.1.Set) (r2.1.Kids) (0) (r1.1) zH zF .sh or2_0_4 .sh .sh z1r z1l hor2_0_4)
  ·exact zk (Z6d (b0) (b1) ((bytesI x0)) (r2.2.1) (r2.2.2.1) (r2.2.2.2.1) (r2.2.2.2.2.1) (r2.2.2.2.2.2.1) (r2.2.2.2.2.2.2) (r2.1.Kind) (r2.1.Lo) (r2.1.Hi) (r2.1.Mode) (r2.1.Ref) (r2.1.Set) (r2.1.Kids) (0) (r1.1) zH zF .sh or2_0_4 .sh .sh z1r z1l hor2_0_4)
 ·exact zk (Z6d (b0) (b1) ((bytesI x0)) (r2.2.1) (r2.2.2.1) (r2.2.2.2.1) (r2.2.2.2.2.1) (r2.2.2.2.2.2.1) (r2.2.2.2.2.2.2) (r2.1.Kind) (r2.1.Lo) (r2.1.Hi) (r2.1.Mode) (r2.1.Ref) (r2.1.Set) (r2.1.Kids) (0) (r1.1) zH zF .sh or2_0_4 .sh .sh z1r z1l hor2_0_4)
noncomputable def Z7E (x0 : ByteArray) : Option (ZD × Zi) :=
 if ((decide (256 < (x0.size : Int)))) = true then
 (some ((ZD.mk (Z8.mk 0 0 0 0 0 ([] : List Z7) ([] : List Z8)) 0 false), (Zi.mk 12 0)))
 else
 (Z69 x0)
theorem Zc7 (x0 : ByteArray) : Sim (Z2b) (Z7E x0) (EE 16 [(.p (.v (.string x0)))] []) := by
 unfold Z7E
 refine zf (Zip ..) ?_
 refine ze ?_
 refine zz (.ptr 0 0) [(Zv (ZD.mk (Z8.mk 0 0 0 0 0 ([] : List Z7) ([] : List Z8)) 0 false) .nl .nl)] ?_
 refine zz (.ptr 1 0) [(Zv (ZD.mk (Z8.mk 0 0 0 0 0 ([] : List Z7) ([] : List Z8)) 0 false) .nl .nl), (ZC (Zi.mk 0 0))] ?_
 refine ze ?_
 refine zo (iv (x0.size : Int)) ?_
 refine zo (bv (decide (256 < (x0.size : Int)))) ?_
 refine za ((decide (256 < (x0.size : Int)))) ?_ ?_
 ·refine ze ?_
  refine zo (.p (.agg (Z1u (ZD.mk (Z8.mk 0 0 0 0 0 ([] : List Z7) ([] : List Z8)) 0 false) .nl .nl))) ?_
  refine zo (.p (.agg (Z16 (Zi.mk 12 0)))) ?_
  refine zt [(Zv (ZD.mk (Z8.mk 0 0 0 0 0 ([] : List Z7) ([] : List Z8)) 0 false) .nl .nl), (ZC (Zi.mk 0 0))] ?_
  refine zt [(Zv (ZD.mk (Z8.mk 0 0 0 0 0 ([] : List Z7) ([] : List Z8)) 0 false) .nl .nl), (ZC (Zi.mk 12 0))] ?_
  exact zr ((.p (.tup [(.agg (Z1u (ZD.mk (Z8.mk 0 0 0 0 0 ([] : List Z7) ([] : List Z8)) 0 false) .sh .sh)), (.agg (Z16 (Zi.mk 12 0)))])), [(Zv (ZD.mk (Z8.mk 0 0 0 0 0 ([] : List Z7) ([] : List Z8)) 0 false) .nl .nl), (ZC (Zi.mk 12 0))]) ⟨_, rfl⟩
 ·exact zk (Zbm (x0) ((ZD.mk (Z8.mk 0 0 0 0 0 ([] : List Z7) ([] : List Z8)) 0 false)) ((Zi.mk 0 0)) .nl .nl rfl rfl)
theorem Zcg (x0 : ByteArray) {r} (h : Z7E x0 = some r) : Z4s x0 = some r :=
 pick_of (fun _ _ ha hb => RRun.uniq (Zaa) (ha ) (hb )) (Zc7 x0 r h)
noncomputable def Z37 (x50 : List Zq) (x51 : Int) (x52 : Int) (z1O : List Int) (zQ : Int) (zI : Int) (zS : Int) (zK : Int) (zU : Int) (zV : Int) (zM : Int) (zO : Int) (zN : List Z7) (zL : List Z8) (z13 : Bool) : Option (ZD × Zi) :=
 Z4C x50 x51 ((IntKind.i64.wrap (x52 + 1))) z1O zQ zI zS zK zU zV zM zO zN zL z13
theorem Z7Y (x50 : List Zq) (x51 : Int) (x52 : Int) (b0 : ZD) (b1 : Zi) (z1O : List Int) (z1G : Int) (zQ : Int) (z1w : Int) (z1d : List Zq) (zI : Int) (zS : Int) (zK : Int) (zU : Int) (zV : Int) (zM : Int) (zO : Int) (zN : List Z7) (zL : List Z8) (z1o : Int) (z13 : Bool) (ox50 : Own) (zH : Own) (zF : Own) (z28 : Own) (z17 : Own) (z10 : Own) (zX : Own) (z1r : okApp zH = true) (z1l : okApp zF = true) (z2g : okApp z17 = true) : Sim (Z2b) (Z37 x50 x51 x52 z1O zQ zI zS zK zU zV zM zO zN zL z13) (ZbV 0 (.ptr 0 0) (.ptr 1 0) (.ptr 2 0) (.ptr 3 0) (.p (.lst ox50 (x50.map Z1y))) (iv x51) (iv x52) [(Zv b0 zH zF), (ZC b1), (Zj (Zk.mk z1O z1G zQ z1w z1d (Zi.mk zI zS)) z28 z17), (Zv (ZD.mk (Z8.mk zK zU zV zM zO zN zL) z1o z13) z10 zX)]) := by
 unfold Z37
 refine zf (Zf2 ..) ?_
 refine ze ?_
 refine zo (iv (IntKind.i64.wrap (x52 + 1))) ?_
 exact zk (Z8q (x50) (x51) ((IntKind.i64.wrap (x52 + 1))) (b0) (b1) (z1O) (z1G) (zQ) (z1w) (z1d) (zI) (zS) (zK) (zU) (zV) (zM) (zO) (zN) (zL) (z1o) (z13) ox50 zH zF z28 z17 z10 zX z1r z1l z2g)
noncomputable def Z5b (x50 : List Zq) (x51 : Int) (x52 : Int) (z1O : List Int) (zQ : Int) (zI : Int) (zS : Int) (zK : Int) (zU : Int) (zV : Int) (zM : Int) (zO : Int) (zN : List Z7) (zL : List Z8) (z13 : Bool) : Option (ZD × Zi) :=
 (lget x50 x52).bind fun a1 =>
 if ((decide (zQ < a1.group))) = true then
 ((ZT 26 a1.at_ z1O zI zS).bind fun r2 =>
 Z37 x50 x51 x52 z1O zQ r2.2.1 r2.2.2 zK zU zV zM zO zN zL z13)
 else
 (Z37 x50 x51 x52 z1O zQ zI zS zK zU zV zM zO zN zL z13)
theorem ZaW (x50 : List Zq) (x51 : Int) (x52 : Int) (b0 : ZD) (b1 : Zi) (z1O : List Int) (z1G : Int) (zQ : Int) (z1w : Int) (z1d : List Zq) (zI : Int) (zS : Int) (zK : Int) (zU : Int) (zV : Int) (zM : Int) (zO : Int) (zN : List Z7) (zL : List Z8) (z1o : Int) (z13 : Bool) (ox50 : Own) (zH : Own) (zF : Own) (z28 : Own) (z17 : Own) (z10 : Own) (zX : Own) (z1r : okApp zH = true) (z1l : okApp zF = true) (z2g : okApp z17 = true) : Sim (Z2b) (Z5b x50 x51 x52 z1O zQ zI zS zK zU zV zM zO zN zL z13) (Zd0 0 (.ptr 0 0) (.ptr 1 0) (.ptr 2 0) (.ptr 3 0) (.p (.lst ox50 (x50.map Z1y))) (iv x51) (iv x52) [(Zv b0 zH zF), (ZC b1), (Zj (Zk.mk z1O z1G zQ z1w z1d (Zi.mk zI zS)) z28 z17), (Zv (ZD.mk (Z8.mk zK zU zV zM zO zN zL) z1o z13) z10 zX)]) := by
 unfold Z5b
 refine zf (Zf4 ..) ?_
 refine ze ?_
 refine zi fun a1 ha1 => ?_
 refine zo (.cptr (Z7P a1)) ?_ (Eq.trans (by kernel_rfl) (xidx_of (o := ox50) (k := .i64) (n := 2) (e := Z1y) (cs := Z6a) (fun _ => rfl) (fun _ => rfl) (by decide) ha1))
 refine zo (.p (.agg (Z7P a1))) ?_
 refine zz (.ptr 4 0) [(Zv b0 zH zF), (ZC b1), (Zj (Zk.mk z1O z1G zQ z1w z1d (Zi.mk zI zS)) z28 z17), (Zv (ZD.mk (Z8.mk zK zU zV zM zO zN zL) z1o z13) z10 zX), (Z7J (Zq.mk 0 0))] ?_
 refine zt [(Zv b0 zH zF), (ZC b1), (Zj (Zk.mk z1O z1G zQ z1w z1d (Zi.mk zI zS)) z28 z17), (Zv (ZD.mk (Z8.mk zK zU zV zM zO zN zL) z1o z13) z10 zX), (Z7J a1)] ?_
 refine ze ?_
 refine zo (.ptr 4 0) ?_
 refine zo (iv a1.group) ?_
 refine zo (.ptr 2 0) ?_
 refine zo (.ptr 2 2) ?_
 refine zo (iv zQ) ?_
 refine zo (bv (decide (zQ < a1.group))) ?_
 refine za ((decide (zQ < a1.group))) ?_ ?_
 ·refine ze ?_
  refine zo (.ptr 4 1) ?_
  refine zo (iv a1.at_) ?_
  refine zi fun r2 hr2 => ?_
  obtain ⟨qr2, er2, exr2, rfl⟩ := ZW (26) (a1.at_) (z1O) (z1G) (zQ) (z1w) (z1d) (zI) (zS) z28 z17 z2g r2 hr2
  refine zc [2] (.p (.tup [])) [(Zv b0 zH zF), (ZC b1), (Zj (Zk.mk z1O r2.1 zQ z1w z1d (Zi.mk r2.2.1 r2.2.2)) z28 z17), (Zv (ZD.mk (Z8.mk zK zU zV zM zO zN zL) z1o z13) z10 zX), (Z7J a1)] er2 ?_
  exact zk (Z7Y (x50) (x51) (x52) (b0) (b1) (z1O) (r2.1) (zQ) (z1w) (z1d) (r2.2.1) (r2.2.2) (zK) (zU) (zV) (zM) (zO) (zN) (zL) (z1o) (z13) ox50 zH zF z28 z17 z10 zX z1r z1l z2g)
 ·exact zk (Z7Y (x50) (x51) (x52) (b0) (b1) (z1O) (z1G) (zQ) (z1w) (z1d) (zI) (zS) (zK) (zU) (zV) (zM) (zO) (zN) (zL) (z1o) (z13) ox50 zH zF z28 z17 z10 zX z1r z1l z2g)
noncomputable def Z7m (zQ : Int) (zK : Int) (zU : Int) (zV : Int) (zM : Int) (zO : Int) (zN : List Z7) (zL : List Z8) (z13 : Bool) : Option (ZD × Zi) :=
 some ((ZD.mk (Z8.mk zK zU zV zM zO zN zL) zQ z13), (Zi.mk 0 0))
theorem ZaL (b0 : ZD) (b1 : Zi) (z1O : List Int) (z1G : Int) (zQ : Int) (z1w : Int) (z1d : List Zq) (zI : Int) (zS : Int) (zK : Int) (zU : Int) (zV : Int) (zM : Int) (zO : Int) (zN : List Z7) (zL : List Z8) (z1o : Int) (z13 : Bool) (zH : Own) (zF : Own) (z28 : Own) (z17 : Own) (z10 : Own) (zX : Own) (z1r : okApp zH = true) (z1l : okApp zF = true) (z2g : okApp z17 = true) : Sim (Z2b) (Z7m zQ zK zU zV zM zO zN zL z13) (ZcS 0 (.ptr 0 0) (.ptr 1 0) (.ptr 2 0) (.ptr 3 0) [(Zv b0 zH zF), (ZC b1), (Zj (Zk.mk z1O z1G zQ z1w z1d (Zi.mk zI zS)) z28 z17), (Zv (ZD.mk (Z8.mk zK zU zV zM zO zN zL) z1o z13) z10 zX)]) := by
 unfold Z7m
 refine zf (Zf9 ..) ?_
 refine ze ?_
 refine zo (.ptr 2 0) ?_
 refine zo (.ptr 2 2) ?_
 refine zo (iv zQ) ?_
 refine zo (.ptr 3 7) ?_
 refine zt [(Zv b0 zH zF), (ZC b1), (Zj (Zk.mk z1O z1G zQ z1w z1d (Zi.mk zI zS)) z28 z17), (Zv (ZD.mk (Z8.mk zK zU zV zM zO zN zL) zQ z13) z10 zX)] ?_
 refine ze ?_
 refine zo (.p (.agg (Z1u (ZD.mk (Z8.mk zK zU zV zM zO zN zL) zQ z13) (shrO z10) (shrO zX)))) ?_
 refine zo (.p (.agg (Z16 (Zi.mk 0 0)))) ?_
 refine zt [(Zv (ZD.mk (Z8.mk zK zU zV zM zO zN zL) zQ z13) (shrO z10) (shrO zX)), (ZC b1), (Zj (Zk.mk z1O z1G zQ z1w z1d (Zi.mk zI zS)) z28 z17), (Zv (ZD.mk (Z8.mk zK zU zV zM zO zN zL) zQ z13) z10 zX)] ?_
 refine zt [(Zv (ZD.mk (Z8.mk zK zU zV zM zO zN zL) zQ z13) (shrO z10) (shrO zX)), (ZC (Zi.mk 0 0)), (Zj (Zk.mk z1O z1G zQ z1w z1d (Zi.mk zI zS)) z28 z17), (Zv (ZD.mk (Z8.mk zK zU zV zM zO zN zL) zQ z13) z10 zX)] ?_
 exact zr ((.p (.tup [(.agg (Z1u (ZD.mk (Z8.mk zK zU zV zM zO zN zL) zQ z13) .sh .sh)), (.agg (Z16 (Zi.mk 0 0)))])), [(Zv (ZD.mk (Z8.mk zK zU zV zM zO zN zL) zQ z13) (shrO z10) (shrO zX)), (ZC (Zi.mk 0 0)), (Zj (Zk.mk z1O z1G zQ z1w z1d (Zi.mk zI zS)) z28 z17), (Zv (ZD.mk (Z8.mk zK zU zV zM zO zN zL) zQ z13) z10 zX)]) ⟨_, rfl⟩
noncomputable def Z5d (zQ : Int) (zI : Int) (zS : Int) (zK : Int) (zU : Int) (zV : Int) (zM : Int) (zO : Int) (zN : List Z7) (zL : List Z8) (z13 : Bool) : Option (ZD × Zi) :=
 if ((zI != 0)) = true then
 (some ((ZD.mk (Z8.mk 0 0 0 0 0 ([] : List Z7) ([] : List Z8)) 0 false), (Zi.mk zI zS)))
 else
 (Z7m zQ zK zU zV zM zO zN zL z13)
theorem Zba (b0 : ZD) (b1 : Zi) (z1O : List Int) (z1G : Int) (zQ : Int) (z1w : Int) (z1d : List Zq) (zI : Int) (zS : Int) (zK : Int) (zU : Int) (zV : Int) (zM : Int) (zO : Int) (zN : List Z7) (zL : List Z8) (z1o : Int) (z13 : Bool) (zH : Own) (zF : Own) (z28 : Own) (z17 : Own) (z10 : Own) (zX : Own) (z1r : okApp zH = true) (z1l : okApp zF = true) (z2g : okApp z17 = true) : Sim (Z2b) (Z5d zQ zI zS zK zU zV zM zO zN zL z13) (Zd3 0 (.ptr 0 0) (.ptr 1 0) (.ptr 2 0) (.ptr 3 0) [(Zv b0 zH zF), (ZC b1), (Zj (Zk.mk z1O z1G zQ z1w z1d (Zi.mk zI zS)) z28 z17), (Zv (ZD.mk (Z8.mk zK zU zV zM zO zN zL) z1o z13) z10 zX)]) := by
 unfold Z5d
 refine zf (Zf1 ..) ?_
 refine ze ?_
 refine zo (.ptr 2 0) ?_
 refine zo (.ptr 2 5) ?_
 refine zo (.ptr 2 5) ?_
 refine zo (iv zI) ?_
 refine zo (bv (zI != 0)) ?_
 refine za ((zI != 0)) ?_ ?_
 ·refine ze ?_
  refine zo (.p (.agg (Z1u (ZD.mk (Z8.mk 0 0 0 0 0 ([] : List Z7) ([] : List Z8)) 0 false) .nl .nl))) ?_
  refine zo (.ptr 2 0) ?_
  refine zo (.ptr 2 5) ?_
  refine zo (.p (.agg (Z16 (Zi.mk zI zS)))) ?_
  refine zt [(Zv (ZD.mk (Z8.mk 0 0 0 0 0 ([] : List Z7) ([] : List Z8)) 0 false) .nl .nl), (ZC b1), (Zj (Zk.mk z1O z1G zQ z1w z1d (Zi.mk zI zS)) z28 z17), (Zv (ZD.mk (Z8.mk zK zU zV zM zO zN zL) z1o z13) z10 zX)] ?_
  refine zt [(Zv (ZD.mk (Z8.mk 0 0 0 0 0 ([] : List Z7) ([] : List Z8)) 0 false) .nl .nl), (ZC (Zi.mk zI zS)), (Zj (Zk.mk z1O z1G zQ z1w z1d (Zi.mk zI zS)) z28 z17), (Zv (ZD.mk (Z8.mk zK zU zV zM zO zN zL) z1o z13) z10 zX)] ?_
  refine zg ?_
  exact zr ((.p (.tup [(.agg (Z1u (ZD.mk (Z8.mk 0 0 0 0 0 ([] : List Z7) ([] : List Z8)) 0 false) .sh .sh)), (.agg (Z16 (Zi.mk zI zS)))])), [(Zv (ZD.mk (Z8.mk 0 0 0 0 0 ([] : List Z7) ([] : List Z8)) 0 false) .nl .nl), (ZC (Zi.mk zI zS)), (Zj (Zk.mk z1O z1G zQ z1w z1d (Zi.mk zI zS)) z28 z17), (Zv (ZD.mk (Z8.mk zK zU zV zM zO zN zL) z1o z13) z10 zX)]) ⟨_, rfl⟩
 ·exact zk (ZaL (b0) (b1) (z1O) (z1G) (zQ) (z1w) (z1d) (zI) (zS) (zK) (zU) (zV) (zM) (zO) (zN) (zL) (z1o) (z13) zH zF z28 z17 z10 zX z1r z1l z2g)
noncomputable def Z3Q (x50 : List Zq) (x51 : Int) (x52 : Int) (z1O : List Int) (zQ : Int) (zI : Int) (zS : Int) (zK : Int) (zU : Int) (zV : Int) (zM : Int) (zO : Int) (zN : List Z7) (zL : List Z8) (z13 : Bool) : Option (ZD × Zi) :=
 if ((decide (x52 < x51))) = true then
 (Z5b x50 x51 x52 z1O zQ zI zS zK zU zV zM zO zN zL z13)
 else
 (Z5d zQ zI zS zK zU zV zM zO zN zL z13)
theorem Zbi (x50 : List Zq) (x51 : Int) (x52 : Int) (b0 : ZD) (b1 : Zi) (z1O : List Int) (z1G : Int) (zQ : Int) (z1w : Int) (z1d : List Zq) (zI : Int) (zS : Int) (zK : Int) (zU : Int) (zV : Int) (zM : Int) (zO : Int) (zN : List Z7) (zL : List Z8) (z1o : Int) (z13 : Bool) (ox50 : Own) (zH : Own) (zF : Own) (z28 : Own) (z17 : Own) (z10 : Own) (zX : Own) (z1r : okApp zH = true) (z1l : okApp zF = true) (z2g : okApp z17 = true) : Sim (Z2b) (Z3Q x50 x51 x52 z1O zQ zI zS zK zU zV zM zO zN zL z13) (ZaH 0 (.ptr 0 0) (.ptr 1 0) (.ptr 2 0) (.ptr 3 0) (.p (.lst ox50 (x50.map Z1y))) (iv x51) (iv x52) [(Zv b0 zH zF), (ZC b1), (Zj (Zk.mk z1O z1G zQ z1w z1d (Zi.mk zI zS)) z28 z17), (Zv (ZD.mk (Z8.mk zK zU zV zM zO zN zL) z1o z13) z10 zX)]) := by
 unfold Z3Q
 refine zf (Zfp ..) ?_
 refine ze ?_
 refine zo (bv (decide (x52 < x51))) ?_
 refine za ((decide (x52 < x51))) ?_ ?_
 ·exact zk (ZaW (x50) (x51) (x52) (b0) (b1) (z1O) (z1G) (zQ) (z1w) (z1d) (zI) (zS) (zK) (zU) (zV) (zM) (zO) (zN) (zL) (z1o) (z13) ox50 zH zF z28 z17 z10 zX z1r z1l z2g)
 ·exact zk (Zba (b0) (b1) (z1O) (z1G) (zQ) (z1w) (z1d) (zI) (zS) (zK) (zU) (zV) (zM) (zO) (zN) (zL) (z1o) (z13) zH zF z28 z17 z10 zX z1r z1l z2g)
theorem Z5u (x50 : List Zq) (x51 : Int) (x52 : Int) (z1O : List Int) (zQ : Int) (zI : Int) (zS : Int) (zK : Int) (zU : Int) (zV : Int) (zM : Int) (zO : Int) (zN : List Z7) (zL : List Z8) (z13 : Bool) {r} (h : Z3Q x50 x51 x52 z1O zQ zI zS zK zU zV zM zO zN zL z13 = some r) : Z4C x50 x51 x52 z1O zQ zI zS zK zU zV zM zO zN zL z13 = some r :=
 pick_of (fun _ _ ha hb => RRun.uniq (Zaa) (ha default default default default default default .ex .ex .ex .ex .ex .ex .ex rfl rfl rfl) (hb default default default default default default .ex .ex .ex .ex .ex .ex .ex rfl rfl rfl)) (fun b0 b1 z1G z1w z1d z1o ox50 zH zF z28 z17 z10 zX z1r z1l z2g => Zbi x50 x51 x52 b0 b1 z1O z1G zQ z1w z1d zI zS zK zU zV zM zO zN zL z1o z13 ox50 zH zF z28 z17 z10 zX z1r z1l z2g r h)
noncomputable def Z4J (zp : Int) : Option (Bool × Int) :=
 some (false, zp)
theorem Z6f (zl : List Int) (zp : Int) (z6 : Int) (zd : Int) (zh : List Zq) (z1 : Int) (z2 : Int) (zn : Own) (zb : Own) (zu : okApp zb = true) : Sim (Z38 zl z6 zd zh z1 z2 zn zb) (Z4J zp) (ZcB 1  [(Zj (Zk.mk zl zp z6 zd zh (Zi.mk z1 z2)) zn zb)]) := by
 unfold Z4J
 refine zf (Zgp ..) ?_
 refine ze ?_
 exact zr ((bv false), [(Zj (Zk.mk zl zp z6 zd zh (Zi.mk z1 z2)) zn zb)]) ⟨_, rfl⟩
noncomputable def Z4P (x1 : ByteArray) (zp : Int) : Option (Bool × Int) :=
 some (true, (IntKind.i64.wrap (zp + (x1.size : Int))))
theorem Z96 (x1 : ByteArray) (zl : List Int) (zp : Int) (z6 : Int) (zd : Int) (zh : List Zq) (z1 : Int) (z2 : Int) (zn : Own) (zb : Own) (zu : okApp zb = true) : Sim (Z38 zl z6 zd zh z1 z2 zn zb) (Z4P x1 zp) (Zei 1 (.ptr 0 0) (.p (.v (.string x1))) [(Zj (Zk.mk zl zp z6 zd zh (Zi.mk z1 z2)) zn zb)]) := by
 unfold Z4P
 refine zf (ZfW ..) ?_
 refine ze ?_
 refine zo (.ptr 0 0) ?_
 refine zo (.ptr 0 1) ?_
 refine zo (iv zp) ?_
 refine zo (iv (x1.size : Int)) ?_
 refine zo (iv (IntKind.i64.wrap (zp + (x1.size : Int)))) ?_
 refine zo (.ptr 0 0) ?_
 refine zo (.ptr 0 1) ?_
 refine zt [(Zj (Zk.mk zl (IntKind.i64.wrap (zp + (x1.size : Int))) z6 zd zh (Zi.mk z1 z2)) zn zb)] ?_
 refine ze ?_
 exact zr ((bv true), [(Zj (Zk.mk zl (IntKind.i64.wrap (zp + (x1.size : Int))) z6 zd zh (Zi.mk z1 z2)) zn zb)]) ⟨_, rfl⟩
noncomputable def Z5t (x1 : ByteArray) (zl : List Int) (zp : Int) : Option (Bool × Int) :=
 if ((decide ((IntKind.i64.wrap ((zl.length : Int) - zp)) < (x1.size : Int)))) = true then
 (Z4J zp)
 else
 ((lsl zl zp (IntKind.i64.wrap (zp + (x1.size : Int)))).bind fun a1 =>
 if ((!(seq (strI a1) x1))) = true then
 (Z4J zp)
 else
 (Z4P x1 zp))
theorem Z9Z (x1 : ByteArray) (zl : List Int) (zp : Int) (z6 : Int) (zd : Int) (zh : List Zq) (z1 : Int) (z2 : Int) (zn : Own) (zb : Own) (zu : okApp zb = true) : Sim (Z38 zl z6 zd zh z1 z2 zn zb) (Z5t x1 zl zp) (EE 27 [(.ptr 0 0), (.p (.v (.string x1)))] [(Zj (Zk.mk zl zp z6 zd zh (Zi.mk z1 z2)) zn zb)]) := by
 unfold Z5t
 refine zf (ZhG ..) ?_
 refine ze ?_
 refine ze ?_
 refine zo (.ptr 0 0) ?_
 refine zo (.ptr 0 0) ?_
 refine zo (.p (.lst (shrO zn) (zl.map (eI .u8)))) ?_
 refine zo (iv (zl.length : Int)) ?_ (Eq.trans (by kernel_rfl) (xlen_of (P := PP) (t := 40) (d := 5) (by kernel_rfl) (eI .u8) (shrO zn) zl))
 refine zo (.ptr 0 0) ?_
 refine zo (.ptr 0 1) ?_
 refine zo (iv zp) ?_
 refine zo (iv (IntKind.i64.wrap ((zl.length : Int) - zp))) ?_
 refine zo (iv (x1.size : Int)) ?_
 refine zo (bv (decide ((IntKind.i64.wrap ((zl.length : Int) - zp)) < (x1.size : Int)))) ?_
 refine za ((decide ((IntKind.i64.wrap ((zl.length : Int) - zp)) < (x1.size : Int)))) ?_ ?_
 ·exact zk (Z6f (zl) (zp) (z6) (zd) (zh) (z1) (z2) zn zb zu)
 ·refine zo (.ptr 0 0) ?_
  refine zo (.ptr 0 0) ?_
  refine zo (.p (.lst (shrO zn) (zl.map (eI .u8)))) ?_
  refine zo (.ptr 0 0) ?_
  refine zo (.ptr 0 1) ?_
  refine zo (iv zp) ?_
  refine zo (.ptr 0 0) ?_
  refine zo (.ptr 0 1) ?_
  refine zo (iv zp) ?_
  refine zo (iv (x1.size : Int)) ?_
  refine zo (iv (IntKind.i64.wrap (zp + (x1.size : Int)))) ?_
  refine zi fun a1 ha1 => ?_
  refine zo (.p (.lst (slO (shrO zn)) (a1.map (eI .u8)))) ?_ (Eq.trans (by kernel_rfl) <| xsl_of (n := 1) (o := (shrO zn)) (lo := (some (iv zp))) (hi := (some (iv (IntKind.i64.wrap (zp + (x1.size : Int)))))) (e := (eI .u8)) (fun _ => rfl) (by decide) (by kernel_rfl) (by kernel_rfl) ha1)
  refine zo (.p (.v (.string (strI a1)))) ?_ (Eq.trans (by kernel_rfl) (xcnv_str (P := PP) (s := 40) (d := 9) (by kernel_rfl) (slO (shrO zn)) a1))
  refine zo (bv (!(seq (strI a1) x1))) ?_
  refine za ((!(seq (strI a1) x1))) ?_ ?_
  ·exact zk (Z6f (zl) (zp) (z6) (zd) (zh) (z1) (z2) zn zb zu)
  ·exact zk (Z96 (x1) (zl) (zp) (z6) (zd) (zh) (z1) (z2) zn zb zu)
theorem Zax (x1 : ByteArray) (zl : List Int) (zp : Int) {r} (h : Z5t x1 zl zp = some r) : Z14 x1 zl zp = some r :=
 pick_of (fun _ _ ha hb => RRun.uniq (ZaM _ _ _ _ _ _ _ _) (ha default default default default default .ex .ex rfl) (hb default default default default default .ex .ex rfl)) (fun z6 zd zh z1 z2 zn zb zu => Z9Z x1 zl zp z6 zd zh z1 z2 zn zb zu r h)
noncomputable def Z40 (zl : List Int) (zp : Int) (z6 : Int) (zd : Int) (zh : List Zq) (z1 : Int) (z2 : Int) : Option (Z8 × Int × Int × Int × (List Zq) × Int × Int) :=
 (Z3X zl zp z6 zd zh z1 z2).bind fun r1 =>
 Z3i (([r1.1] : List Z8)) zl r1.2.1 r1.2.2.1 r1.2.2.2.1 r1.2.2.2.2.1 r1.2.2.2.2.2.1 r1.2.2.2.2.2.2
theorem Zaw (zl : List Int) (zp : Int) (z6 : Int) (zd : Int) (zh : List Zq) (z1 : Int) (z2 : Int) (zn : Own) (zb : Own) (zu : okApp zb = true) : Sim (Z2h zl zn) (Z40 zl zp z6 zd zh z1 z2) (EE 28 [(.ptr 0 0)] [(Zj (Zk.mk zl zp z6 zd zh (Zi.mk z1 z2)) zn zb)]) := by
 unfold Z40
 refine zf (ZhN ..) ?_
 refine ze ?_
 refine zz (.ptr 1 0) [(Zj (Zk.mk zl zp z6 zd zh (Zi.mk z1 z2)) zn zb), (Zr (Z8.mk 0 0 0 0 0 ([] : List Z7) ([] : List Z8)) .nl .nl)] ?_
 refine ze ?_
 refine zi fun r1 hr1 => ?_
 obtain ⟨qr1, er1, or1_0_4, exr1, hor1_0_4, rfl⟩ := Z7U (zl) (zp) (z6) (zd) (zh) (z1) (z2) zn zb zu r1 hr1
 refine zc [0] (.p (.agg (ZE r1.1 .sh .sh))) [(Zj (Zk.mk zl r1.2.1 r1.2.2.1 r1.2.2.2.1 r1.2.2.2.2.1 (Zi.mk r1.2.2.2.2.2.1 r1.2.2.2.2.2.2)) zn or1_0_4), (Zr (Z8.mk 0 0 0 0 0 ([] : List Z7) ([] : List Z8)) .nl .nl)] er1 ?_
 refine zo (.p (.lst .ex (([r1.1] : List Z8).map ZR))) ?_ (Eq.trans (b := some (.p (.lst .ex [.agg (Z2D r1.1)]))) (by kernel_rfl) (by simp only [List.map_cons, List.map_nil, Z2U]))
 exact zk (Z6x (([r1.1] : List Z8)) (zl) (r1.2.1) (r1.2.2.1) (r1.2.2.2.1) (r1.2.2.2.2.1) (r1.2.2.2.2.2.1) (r1.2.2.2.2.2.2) ((Z8.mk 0 0 0 0 0 ([] : List Z7) ([] : List Z8))) .ex zn or1_0_4 .nl .nl rfl hor1_0_4 rfl rfl)
theorem Z7T (zl : List Int) (zp : Int) (z6 : Int) (zd : Int) (zh : List Zq) (z1 : Int) (z2 : Int) {r} (h : Z40 zl zp z6 zd zh z1 z2 = some r) : Z2F zl zp z6 zd zh z1 z2 = some r :=
 pick_of (fun _ _ ha hb => RRun.uniq (Z8b _ _) (ha .ex .ex rfl) (hb .ex .ex rfl)) (fun zn zb zu => Zaw zl zp z6 zd zh z1 z2 zn zb zu r h)
noncomputable def Z53 (x3 : List Z8) (zl : List Int) (zp : Int) (z6 : Int) (zd : Int) (zh : List Zq) (z1 : Int) (z2 : Int) : Option (Z8 × Int × Int × Int × (List Zq) × Int × Int) :=
 (Z3X zl zp z6 zd zh z1 z2).bind fun r1 =>
 (lapp x3 ([r1.1] : List Z8)).bind fun a2 =>
 Z3i a2 zl r1.2.1 r1.2.2.1 r1.2.2.2.1 r1.2.2.2.2.1 r1.2.2.2.2.2.1 r1.2.2.2.2.2.2
theorem Z9q (x3 : List Z8) (zl : List Int) (zp : Int) (z6 : Int) (zd : Int) (zh : List Zq) (z1 : Int) (z2 : Int) (b1 : Z8) (ox3 : Own) (zn : Own) (zb : Own) (zB : Own) (zy : Own) (hox3 : okApp ox3 = true) (zu : okApp zb = true) (zP : okApp zB = true) (zJ : okApp zy = true) : Sim (Z2h zl zn) (Z53 x3 zl zp z6 zd zh z1 z2) (Zew 1 (.ptr 0 0) (.ptr 1 0) (.p (.lst ox3 (x3.map ZR))) [(Zj (Zk.mk zl zp z6 zd zh (Zi.mk z1 z2)) zn zb), (Zr b1 zB zy)]) := by
 unfold Z53
 refine zf (Zft ..) ?_
 refine ze ?_
 refine zi fun r1 hr1 => ?_
 obtain ⟨qr1, er1, or1_0_4, exr1, hor1_0_4, rfl⟩ := Z7U (zl) (zp) (z6) (zd) (zh) (z1) (z2) zn zb zu r1 hr1
 refine zc [0] (.p (.agg (ZE r1.1 .sh .sh))) [(Zj (Zk.mk zl r1.2.1 r1.2.2.1 r1.2.2.2.1 r1.2.2.2.2.1 (Zi.mk r1.2.2.2.2.2.1 r1.2.2.2.2.2.2)) zn or1_0_4), (Zr b1 zB zy)] er1 ?_
 refine zo (.p (.lst .ex (([r1.1] : List Z8).map ZR))) ?_ (Eq.trans (b := some (.p (.lst .ex [.agg (Z2D r1.1)]))) (by kernel_rfl) (by simp only [List.map_cons, List.map_nil, Z2U]))
 refine zi fun a2 ha2 => ?_
 refine zo (.p (.lst .un (a2.map ZR))) ?_ (Eq.trans (by kernel_rfl) <| xapp_of (n := 7) (o := ox3) (o' := .ex) (e := ZR) (ys := ([r1.1] : List Z8)) ZaO (by decide) hox3 ha2)
 exact zk (Z6x (a2) (zl) (r1.2.1) (r1.2.2.1) (r1.2.2.2.1) (r1.2.2.2.2.1) (r1.2.2.2.2.2.1) (r1.2.2.2.2.2.2) (b1) .un zn or1_0_4 zB zy rfl hor1_0_4 zP zJ)
noncomputable def Z43 (x3 : List Z8) (zp : Int) (z6 : Int) (zd : Int) (zh : List Zq) (z1 : Int) (z2 : Int) : Option (Z8 × Int × Int × Int × (List Zq) × Int × Int) :=
 (Z63 3 x3).bind fun r1 =>
 some (r1, zp, z6, zd, zh, z1, z2)
theorem Z9h (x3 : List Z8) (zl : List Int) (zp : Int) (z6 : Int) (zd : Int) (zh : List Zq) (z1 : Int) (z2 : Int) (b1 : Z8) (ox3 : Own) (zn : Own) (zb : Own) (zB : Own) (zy : Own) (hox3 : okApp ox3 = true) (zu : okApp zb = true) (zP : okApp zB = true) (zJ : okApp zy = true) : Sim (Z2h zl zn) (Z43 x3 zp z6 zd zh z1 z2) (Zea 1 (.ptr 1 0) (.p (.lst ox3 (x3.map ZR))) [(Zj (Zk.mk zl zp z6 zd zh (Zi.mk z1 z2)) zn zb), (Zr b1 zB zy)]) := by
 unfold Z43
 refine zf (Zg1 ..) ?_
 refine ze ?_
 refine zi fun r1 hr1 => ?_
 obtain ⟨qr1, er1, exr1, rfl⟩ := Z99 (3) (x3) .sh r1 hr1
 refine zc [] (.p (.agg (ZE r1 .sh .sh))) [(Zj (Zk.mk zl zp z6 zd zh (Zi.mk z1 z2)) zn zb), (Zr b1 zB zy)] er1 ?_
 refine zt [(Zj (Zk.mk zl zp z6 zd zh (Zi.mk z1 z2)) zn zb), (Zr r1 .sh .sh)] ?_
 exact zr ((.p (.agg (ZE r1 .sh .sh))), [(Zj (Zk.mk zl zp z6 zd zh (Zi.mk z1 z2)) zn zb), (Zr r1 .sh .sh)]) ⟨zb, _, zu, rfl⟩
noncomputable def Z3g (x3 : List Z8) (zl : List Int) (zp : Int) (z6 : Int) (zd : Int) (zh : List Zq) (z1 : Int) (z2 : Int) : Option (Z8 × Int × Int × Int × (List Zq) × Int × Int) :=
 (Z14 ((ByteArray.mk #[124])) zl zp).bind fun r1 =>
 if (r1.1) = true then
 (Z53 x3 zl r1.2 z6 zd zh z1 z2)
 else
 (Z43 x3 r1.2 z6 zd zh z1 z2)
theorem Z9d (x3 : List Z8) (zl : List Int) (zp : Int) (z6 : Int) (zd : Int) (zh : List Zq) (z1 : Int) (z2 : Int) (b1 : Z8) (ox3 : Own) (zn : Own) (zb : Own) (zB : Own) (zy : Own) (hox3 : okApp ox3 = true) (zu : okApp zb = true) (zP : okApp zB = true) (zJ : okApp zy = true) : Sim (Z2h zl zn) (Z3g x3 zl zp z6 zd zh z1 z2) (ZaX 1 (.ptr 0 0) (.ptr 1 0) (.p (.lst ox3 (x3.map ZR))) [(Zj (Zk.mk zl zp z6 zd zh (Zi.mk z1 z2)) zn zb), (Zr b1 zB zy)]) := by
 unfold Z3g
 refine zf (ZfR ..) ?_
 refine ze ?_
 refine zi fun r1 hr1 => ?_
 obtain ⟨qr1, er1, exr1, rfl⟩ := Z1a ((ByteArray.mk #[124])) (zl) (zp) (z6) (zd) (zh) (z1) (z2) zn zb zu r1 hr1
 refine zc [0] (bv r1.1) [(Zj (Zk.mk zl r1.2 z6 zd zh (Zi.mk z1 z2)) zn zb), (Zr b1 zB zy)] er1 ?_
 refine za (r1.1) ?_ ?_
 ·exact zk (Z9q (x3) (zl) (r1.2) (z6) (zd) (zh) (z1) (z2) (b1) ox3 zn zb zB zy hox3 zu zP zJ)
 ·exact zk (Z9h (x3) (zl) (r1.2) (z6) (zd) (zh) (z1) (z2) (b1) ox3 zn zb zB zy hox3 zu zP zJ)
theorem Z6G (x3 : List Z8) (zl : List Int) (zp : Int) (z6 : Int) (zd : Int) (zh : List Zq) (z1 : Int) (z2 : Int) {r} (h : Z3g x3 zl zp z6 zd zh z1 z2 = some r) : Z3i x3 zl zp z6 zd zh z1 z2 = some r :=
 pick_of (fun _ _ ha hb => RRun.uniq (Z8b _ _) (ha default .ex .ex .ex .ex .ex rfl rfl rfl rfl) (hb default .ex .ex .ex .ex .ex rfl rfl rfl rfl)) (fun b1 ox3 zn zb zB zy hox3 zu zP zJ => Z9d x3 zl zp z6 zd zh z1 z2 b1 ox3 zn zb zB zy hox3 zu zP zJ r h)
noncomputable def Z4U (zl : List Int) (zp : Int) (z6 : Int) (zd : Int) (zh : List Zq) (z1 : Int) (z2 : Int) : Option (Z8 × Int × Int × Int × (List Zq) × Int × Int) :=
 Z3e (([] : List Z8)) zl zp z6 zd zh z1 z2
theorem Zao (zl : List Int) (zp : Int) (z6 : Int) (zd : Int) (zh : List Zq) (z1 : Int) (z2 : Int) (zn : Own) (zb : Own) (zu : okApp zb = true) : Sim (Z26 zl zn) (Z4U zl zp z6 zd zh z1 z2) (EE 35 [(.ptr 0 0)] [(Zj (Zk.mk zl zp z6 zd zh (Zi.mk z1 z2)) zn zb)]) := by
 unfold Z4U
 refine zf (Zi8 ..) ?_
 refine ze ?_
 refine zz (.ptr 1 0) [(Zj (Zk.mk zl zp z6 zd zh (Zi.mk z1 z2)) zn zb), (Zr (Z8.mk 0 0 0 0 0 ([] : List Z7) ([] : List Z8)) .nl .nl)] ?_
 refine ze ?_
 exact zk (Z6M (([] : List Z8)) (zl) (zp) (z6) (zd) (zh) (z1) (z2) ((Z8.mk 0 0 0 0 0 ([] : List Z7) ([] : List Z8))) .nl zn zb .nl .nl rfl zu rfl rfl)
theorem Z7X (zl : List Int) (zp : Int) (z6 : Int) (zd : Int) (zh : List Zq) (z1 : Int) (z2 : Int) {r} (h : Z4U zl zp z6 zd zh z1 z2 = some r) : Z3X zl zp z6 zd zh z1 z2 = some r :=
 pick_of (fun _ _ ha hb => RRun.uniq (Z8g _ _) (ha .ex .ex rfl) (hb .ex .ex rfl)) (fun zn zb zu => Zao zl zp z6 zd zh z1 z2 zn zb zu r h)
noncomputable def Z2a (x3 : List Z8) (zp : Int) (z6 : Int) (zd : Int) (zh : List Zq) (z1 : Int) (z2 : Int) : Option (Z8 × Int × Int × Int × (List Zq) × Int × Int) :=
 (Z63 2 x3).bind fun r1 =>
 some (r1, zp, z6, zd, zh, z1, z2)
theorem Z4b (x3 : List Z8) (zl : List Int) (zp : Int) (z6 : Int) (zd : Int) (zh : List Zq) (z1 : Int) (z2 : Int) (b1 : Z8) (ox3 : Own) (zn : Own) (zb : Own) (zB : Own) (zy : Own) (hox3 : okApp ox3 = true) (zu : okApp zb = true) (zP : okApp zB = true) (zJ : okApp zy = true) : Sim (Z26 zl zn) (Z2a x3 zp z6 zd zh z1 z2) (ZaV 1 (.ptr 1 0) (.p (.lst ox3 (x3.map ZR))) [(Zj (Zk.mk zl zp z6 zd zh (Zi.mk z1 z2)) zn zb), (Zr b1 zB zy)]) := by
 unfold Z2a
 refine zf (Zgq ..) ?_
 refine ze ?_
 refine zi fun r1 hr1 => ?_
 obtain ⟨qr1, er1, exr1, rfl⟩ := Z99 (2) (x3) .sh r1 hr1
 refine zc [] (.p (.agg (ZE r1 .sh .sh))) [(Zj (Zk.mk zl zp z6 zd zh (Zi.mk z1 z2)) zn zb), (Zr b1 zB zy)] er1 ?_
 refine zt [(Zj (Zk.mk zl zp z6 zd zh (Zi.mk z1 z2)) zn zb), (Zr r1 .sh .sh)] ?_
 exact zr ((.p (.agg (ZE r1 .sh .sh))), [(Zj (Zk.mk zl zp z6 zd zh (Zi.mk z1 z2)) zn zb), (Zr r1 .sh .sh)]) ⟨zb, _, zu, rfl⟩
noncomputable def Z2O (x3 : List Z8) (zl : List Int) (zp : Int) (z6 : Int) (zd : Int) (zh : List Zq) (z1 : Int) (z2 : Int) : Option (Z8 × Int × Int × Int × (List Zq) × Int × Int) :=
 (Z5r zl zp z6 zd zh z1 z2).bind fun r1 =>
 (Z3Y r1.1 r1.2.1 zl r1.2.2.1 r1.2.2.2.1 r1.2.2.2.2.1 r1.2.2.2.2.2.1 r1.2.2.2.2.2.2.1 r1.2.2.2.2.2.2.2).bind fun r2 =>
 (lapp x3 ([r2.1] : List Z8)).bind fun a3 =>
 Z3e a3 zl r2.2.1 r1.2.2.2.1 r1.2.2.2.2.1 r1.2.2.2.2.2.1 r2.2.2.1 r2.2.2.2
theorem Z5i (x3 : List Z8) (zl : List Int) (zp : Int) (z6 : Int) (zd : Int) (zh : List Zq) (z1 : Int) (z2 : Int) (b1 : Z8) (ox3 : Own) (zn : Own) (zb : Own) (zB : Own) (zy : Own) (hox3 : okApp ox3 = true) (zu : okApp zb = true) (zP : okApp zB = true) (zJ : okApp zy = true) : Sim (Z26 zl zn) (Z2O x3 zl zp z6 zd zh z1 z2) (ZbL 1 (.ptr 0 0) (.ptr 1 0) (.p (.lst ox3 (x3.map ZR))) [(Zj (Zk.mk zl zp z6 zd zh (Zi.mk z1 z2)) zn zb), (Zr b1 zB zy)]) := by
 unfold Z2O
 refine zf (Zgl ..) ?_
 refine ze ?_
 refine zi fun r1 hr1 => ?_
 obtain ⟨qr1, er1, or1_0_4, exr1, hor1_0_4, rfl⟩ := Zan (zl) (zp) (z6) (zd) (zh) (z1) (z2) zn zb zu r1 hr1
 refine zc [0] (.p (.tup [(.agg (ZE r1.1 .sh .sh)), (.v (.bool r1.2.1))])) [(Zj (Zk.mk zl r1.2.2.1 r1.2.2.2.1 r1.2.2.2.2.1 r1.2.2.2.2.2.1 (Zi.mk r1.2.2.2.2.2.2.1 r1.2.2.2.2.2.2.2)) zn or1_0_4), (Zr b1 zB zy)] er1 ?_
 refine zo (.p (.agg (ZE r1.1 .sh .sh))) ?_
 refine zo (bv r1.2.1) ?_
 refine zz (.ptr 2 0) [(Zj (Zk.mk zl r1.2.2.1 r1.2.2.2.1 r1.2.2.2.2.1 r1.2.2.2.2.2.1 (Zi.mk r1.2.2.2.2.2.2.1 r1.2.2.2.2.2.2.2)) zn or1_0_4), (Zr b1 zB zy), (Zr (Z8.mk 0 0 0 0 0 ([] : List Z7) ([] : List Z8)) .nl .nl)] ?_
 refine zt [(Zj (Zk.mk zl r1.2.2.1 r1.2.2.2.1 r1.2.2.2.2.1 r1.2.2.2.2.2.1 (Zi.mk r1.2.2.2.2.2.2.1 r1.2.2.2.2.2.2.2)) zn or1_0_4), (Zr b1 zB zy), (Zr r1.1 .sh .sh)] ?_
 refine ze ?_
 refine zo (.p (.agg (ZE r1.1 .sh .sh))) ?_
 refine zi fun r2 hr2 => ?_
 obtain ⟨qr2, er2, exr2, rfl⟩ := Z9E (r1.1) (r1.2.1) (zl) (r1.2.2.1) (r1.2.2.2.1) (r1.2.2.2.2.1) (r1.2.2.2.2.2.1) (r1.2.2.2.2.2.2.1) (r1.2.2.2.2.2.2.2) .sh .sh zn or1_0_4 hor1_0_4 r2 hr2
 refine zc [0] (.p (.agg (ZE r2.1 .sh .sh))) [(Zj (Zk.mk zl r2.2.1 r1.2.2.2.1 r1.2.2.2.2.1 r1.2.2.2.2.2.1 (Zi.mk r2.2.2.1 r2.2.2.2)) zn or1_0_4), (Zr b1 zB zy), (Zr r1.1 .sh .sh)] er2 ?_
 refine zo (.p (.lst .ex (([r2.1] : List Z8).map ZR))) ?_ (Eq.trans (b := some (.p (.lst .ex [.agg (Z2D r2.1)]))) (by kernel_rfl) (by simp only [List.map_cons, List.map_nil, Z2U]))
 refine zi fun a3 ha3 => ?_
 refine zo (.p (.lst .un (a3.map ZR))) ?_ (Eq.trans (by kernel_rfl) <| xapp_of (n := 7) (o := ox3) (o' := .ex) (e := ZR) (ys := ([r2.1] : List Z8)) ZaO (by decide) hox3 ha3)
 exact zk (Z6M (a3) (zl) (r2.2.1) (r1.2.2.2.1) (r1.2.2.2.2.1) (r1.2.2.2.2.2.1) (r2.2.2.1) (r2.2.2.2) (b1) .un zn or1_0_4 zB zy rfl hor1_0_4 zP zJ)
noncomputable def Z3W (x3 : List Z8) (zl : List Int) (zp : Int) (z6 : Int) (zd : Int) (zh : List Zq) (z1 : Int) (z2 : Int) : Option (Z8 × Int × Int × Int × (List Zq) × Int × Int) :=
 (Z1B ((Zk.mk zl zp z6 zd zh (Zi.mk z1 z2)))).bind fun r1 =>
 if ((r1 == (-1))) = true then
 (if ((r1 == (-1))) = true then
 (Z2a x3 zp z6 zd zh z1 z2)
 else
 (Z2O x3 zl zp z6 zd zh z1 z2))
 else
 (if ((r1 == 124)) = true then
 (if ((r1 == 124)) = true then
 (Z2a x3 zp z6 zd zh z1 z2)
 else
 (Z2O x3 zl zp z6 zd zh z1 z2))
 else
 (if ((r1 == 41)) = true then
 (Z2a x3 zp z6 zd zh z1 z2)
 else
 (Z2O x3 zl zp z6 zd zh z1 z2)))
theorem Z9n (x3 : List Z8) (zl : List Int) (zp : Int) (z6 : Int) (zd : Int) (zh : List Zq) (z1 : Int) (z2 : Int) (b1 : Z8) (ox3 : Own) (zn : Own) (zb : Own) (zB : Own) (zy : Own) (hox3 : okApp ox3 = true) (zu : okApp zb = true) (zP : okApp zB = true) (zJ : okApp zy = true) : Sim (Z26 zl zn) (Z3W x3 zl zp z6 zd zh z1 z2) (Ze5 1 (.ptr 0 0) (.ptr 1 0) (.p (.lst ox3 (x3.map ZR))) [(Zj (Zk.mk zl zp z6 zd zh (Zi.mk z1 z2)) zn zb), (Zr b1 zB zy)]) := by
 unfold Z3W
 refine zf (ZgC ..) ?_
 refine ze ?_
 refine zi fun r1 hr1 => ?_
 obtain ⟨qr1, er1, exr1, rfl⟩ := Z1F ((Zk.mk zl zp z6 zd zh (Zi.mk z1 z2))) zn zb zu r1 hr1
 refine zc [0] (iv r1) [(Zj (Zk.mk zl zp z6 zd zh (Zi.mk z1 z2)) zn zb), (Zr b1 zB zy)] er1 ?_
 refine ze ?_
 refine zo (bv (r1 == (-1))) ?_
 refine za ((r1 == (-1))) ?_ ?_
 ·refine za ((r1 == (-1))) ?_ ?_
  ·exact zk (Z4b (x3) (zl) (zp) (z6) (zd) (zh) (z1) (z2) (b1) ox3 zn zb zB zy hox3 zu zP zJ)
  ·exact zk (Z5i (x3) (zl) (zp) (z6) (zd) (zh) (z1) (z2) (b1) ox3 zn zb zB zy hox3 zu zP zJ)
 ·refine ze ?_
  refine zo (bv (r1 == 124)) ?_
  refine za ((r1 == 124)) ?_ ?_
  ·refine za ((r1 == 124)) ?_ ?_
   ·exact zk (Z4b (x3) (zl) (zp) (z6) (zd) (zh) (z1) (z2) (b1) ox3 zn zb zB zy hox3 zu zP zJ)
   ·exact zk (Z5i (x3) (zl) (zp) (z6) (zd) (zh) (z1) (z2) (b1) ox3 zn zb zB zy hox3 zu zP zJ)
  ·refine ze ?_
   refine zo (bv (r1 == 41)) ?_
   refine za ((r1 == 41)) ?_ ?_
   ·exact zk (Z4b (x3) (zl) (zp) (z6) (zd) (zh) (z1) (z2) (b1) ox3 zn zb zB zy hox3 zu zP zJ)
   ·exact zk (Z5i (x3) (zl) (zp) (z6) (zd) (zh) (z1) (z2) (b1) ox3 zn zb zB zy hox3 zu zP zJ)
noncomputable def Z3U (x3 : List Z8) (zl : List Int) (zp : Int) (z6 : Int) (zd : Int) (zh : List Zq) (z1 : Int) (z2 : Int) : Option (Z8 × Int × Int × Int × (List Zq) × Int × Int) :=
 if ((z1 == 0)) = true then
 (Z3W x3 zl zp z6 zd zh z1 z2)
 else
 (Z2a x3 zp z6 zd zh z1 z2)
theorem Z9l (x3 : List Z8) (zl : List Int) (zp : Int) (z6 : Int) (zd : Int) (zh : List Zq) (z1 : Int) (z2 : Int) (b1 : Z8) (ox3 : Own) (zn : Own) (zb : Own) (zB : Own) (zy : Own) (hox3 : okApp ox3 = true) (zu : okApp zb = true) (zP : okApp zB = true) (zJ : okApp zy = true) : Sim (Z26 zl zn) (Z3U x3 zl zp z6 zd zh z1 z2) (ZaJ 1 (.ptr 0 0) (.ptr 1 0) (.p (.lst ox3 (x3.map ZR))) [(Zj (Zk.mk zl zp z6 zd zh (Zi.mk z1 z2)) zn zb), (Zr b1 zB zy)]) := by
 unfold Z3U
 refine zf (ZgG ..) ?_
 refine ze ?_
 refine zo (.ptr 0 0) ?_
 refine zo (.ptr 0 5) ?_
 refine zo (.ptr 0 5) ?_
 refine zo (iv z1) ?_
 refine zo (bv (z1 == 0)) ?_
 refine za ((z1 == 0)) ?_ ?_
 ·exact zk (Z9n (x3) (zl) (zp) (z6) (zd) (zh) (z1) (z2) (b1) ox3 zn zb zB zy hox3 zu zP zJ)
 ·exact zk (Z4b (x3) (zl) (zp) (z6) (zd) (zh) (z1) (z2) (b1) ox3 zn zb zB zy hox3 zu zP zJ)
theorem Z6B (x3 : List Z8) (zl : List Int) (zp : Int) (z6 : Int) (zd : Int) (zh : List Zq) (z1 : Int) (z2 : Int) {r} (h : Z3U x3 zl zp z6 zd zh z1 z2 = some r) : Z3e x3 zl zp z6 zd zh z1 z2 = some r :=
 pick_of (fun _ _ ha hb => RRun.uniq (Z8g _ _) (ha default .ex .ex .ex .ex .ex rfl rfl rfl rfl) (hb default .ex .ex .ex .ex .ex rfl rfl rfl rfl)) (fun b1 ox3 zn zb zB zy hox3 zu zP zJ => Z9l x3 zl zp z6 zd zh z1 z2 b1 ox3 zn zb zB zy hox3 zu zP zJ r h)
end Go.Proofs.YtadodmjdkphddaaDoor.N2
end
section
set_option linter.unusedSimpArgs false
set_option linter.unusedVariables false
namespace Go.Proofs.YtadodmjdkphddaaDoor.N2
open Go Go.Abs
set_option linter.unusedVariables false
set_option maxRecDepth 100000
noncomputable def Z4O (b0 : Zk) : Option (Int) :=
 (Z7p b0.b b0.at_).bind fun r1 =>
 some (r1.1)
theorem Z94 (b0 : Zk) (zn : Own) (zb : Own) (zu : okApp zb = true) : Sim (Z3I b0 zn zb) (Z4O b0) (Ze0 1 (.ptr 0 0) [(Zj b0 zn zb)]) := by
 unfold Z4O
 refine zf (Zfr ..) ?_
 refine ze ?_
 refine zo (.ptr 0 0) ?_
 refine zo (.ptr 0 0) ?_
 refine zo (.p (.lst (shrO zn) (b0.b.map (eI .u8)))) ?_
 refine zo (.ptr 0 0) ?_
 refine zo (.ptr 0 1) ?_
 refine zo (iv b0.at_) ?_
 refine zi fun r1 hr1 => ?_
 obtain ⟨qr1, er1, exr1, rfl⟩ := ZaY (b0.b) (b0.at_) .sh r1 hr1
 refine zc [] (.p (.tup [(.v (.int .i64 r1.1)), (.v (.int .i64 r1.2))])) [(Zj b0 zn zb)] er1 ?_
 refine zo (iv r1.1) ?_
 refine zo (iv r1.2) ?_
 refine ze ?_
 exact zr ((iv r1.1), [(Zj b0 zn zb)]) ⟨_, rfl⟩
noncomputable def Z5q (b0 : Zk) : Option (Int) :=
 if ((decide ((b0.b.length : Int) ≤ b0.at_))) = true then
 (some ((-1)))
 else
 (Z4O b0)
theorem Za2 (b0 : Zk) (zn : Own) (zb : Own) (zu : okApp zb = true) : Sim (Z3I b0 zn zb) (Z5q b0) (EE 41 [(.ptr 0 0)] [(Zj b0 zn zb)]) := by
 unfold Z5q
 refine zf (Zha ..) ?_
 refine ze ?_
 refine ze ?_
 refine zo (.ptr 0 0) ?_
 refine zo (.ptr 0 1) ?_
 refine zo (iv b0.at_) ?_
 refine zo (.ptr 0 0) ?_
 refine zo (.ptr 0 0) ?_
 refine zo (.p (.lst (shrO zn) (b0.b.map (eI .u8)))) ?_
 refine zo (iv (b0.b.length : Int)) ?_ (Eq.trans (by kernel_rfl) (xlen_of (P := PP) (t := 40) (d := 5) (by kernel_rfl) (eI .u8) (shrO zn) b0.b))
 refine zo (bv (decide ((b0.b.length : Int) ≤ b0.at_))) ?_
 refine za ((decide ((b0.b.length : Int) ≤ b0.at_))) ?_ ?_
 ·refine ze ?_
  exact zr ((iv (-1)), [(Zj b0 zn zb)]) ⟨_, rfl⟩
 ·exact zk (Z94 (b0) zn zb zu)
theorem Zay (b0 : Zk) {r} (h : Z5q b0 = some r) : Z1B b0 = some r :=
 pick_of (fun _ _ ha hb => RRun.uniq (Zb1 _ _ _) (ha .ex .ex rfl) (hb .ex .ex rfl)) (fun zn zb zu => Za2 b0 zn zb zu r h)
noncomputable def Z78  : Option (Int × Int) :=
 some (0, 0)
theorem Z8W  : Sim (Z4I) (Z78) (ZcK 0  []) := by
 unfold Z78
 refine zf (ZgI ..) ?_
 refine ze ?_
 exact zr ((.p (.tup [(.v (.int .i64 0)), (.v (.int .i64 0))])), []) ⟨_, rfl⟩
noncomputable def Z6U (x0 : List Int) (x1 : Int) : Option (Int × Int) :=
 (lget x0 x1).bind fun a1 =>
 some ((IntKind.i64.wrap (1114112 + (IntKind.i64.wrap a1))), 1)
theorem ZbF (x0 : List Int) (x1 : Int) (ox0 : Own) : Sim (Z4I) (Z6U x0 x1) (ZdS 0 (.p (.lst ox0 (x0.map (eI .u8)))) (iv x1) []) := by
 unfold Z6U
 refine zf (ZfM ..) ?_
 refine ze ?_
 refine zi fun a1 ha1 => ?_
 refine zo (.cptr [(.v (.int .u8 a1))]) ?_ (Eq.trans (by kernel_rfl) (xidx_of (o := (shrO ox0)) (k := .i64) (n := 1) (e := (eI .u8)) (cs := (fun a => [(eI .u8) a])) (fun _ => rfl) (fun _ => rfl) (by decide) ha1))
 refine zo (.p (.v (.int .u8 a1))) ?_
 refine zo (iv (IntKind.i64.wrap a1)) ?_
 refine zo (iv (IntKind.i64.wrap (1114112 + (IntKind.i64.wrap a1)))) ?_
 exact zr ((.p (.tup [(.v (.int .i64 (IntKind.i64.wrap (1114112 + (IntKind.i64.wrap a1))))), (.v (.int .i64 1))])), []) ⟨_, rfl⟩
noncomputable def Z5k (x6 : Int) (x7 : Int) : Option (Int × Int) :=
 some ((IntKind.i64.wrap x6), x7)
theorem Z8U (x6 : Int) (x7 : Int) : Sim (Z4I) (Z5k x6 x7) (ZcL 0 (.p (.v (.int .i32 x6))) (iv x7) []) := by
 unfold Z5k
 refine zf (Zg5 ..) ?_
 refine ze ?_
 refine zo (iv (IntKind.i64.wrap x6)) ?_
 exact zr ((.p (.tup [(.v (.int .i64 (IntKind.i64.wrap x6))), (.v (.int .i64 x7))])), []) ⟨_, rfl⟩
noncomputable def Z6S (x0 : List Int) (x1 : Int) : Option (Int × Int) :=
 (lsl x0 x1 (x0.length : Int)).bind fun a1 =>
 (Z5e a1).bind fun r2 =>
 if ((r2.1 == 65533)) = true then
 (if ((r2.2 == 1)) = true then
 (Z6U x0 x1)
 else
 (Z5k r2.1 r2.2))
 else
 (Z5k r2.1 r2.2)
theorem ZbJ (x0 : List Int) (x1 : Int) (ox0 : Own) : Sim (Z4I) (Z6S x0 x1) (ZdV 0 (.p (.lst ox0 (x0.map (eI .u8)))) (iv x1) []) := by
 unfold Z6S
 refine zf (Zgi ..) ?_
 refine ze ?_
 refine zi fun a1 ha1 => ?_
 refine zo (.p (.lst (slO (shrO ox0)) (a1.map (eI .u8)))) ?_ (Eq.trans (by kernel_rfl) <| xsl_of (n := 1) (o := (shrO ox0)) (lo := (some (iv x1))) (hi := none) (e := (eI .u8)) (fun _ => rfl) (by decide) (by kernel_rfl) (by kernel_rfl) ha1)
 refine zi fun r2 hr2 => ?_
 obtain ⟨qr2, er2, exr2, rfl⟩ := Z8F (a1) .sh r2 hr2
 refine zc [] (.p (.tup [(.v (.int .i32 r2.1)), (.v (.int .i64 r2.2))])) [] er2 ?_
 refine zo (.p (.v (.int .i32 r2.1))) ?_
 refine zo (iv r2.2) ?_
 refine ze ?_
 refine zo (bv (r2.1 == 65533)) ?_
 refine za ((r2.1 == 65533)) ?_ ?_
 ·refine zo (bv (r2.2 == 1)) ?_
  refine za ((r2.2 == 1)) ?_ ?_
  ·exact zk (ZbF (x0) (x1) ox0)
  ·exact zk (Z8U (r2.1) (r2.2))
 ·exact zk (Z8U (r2.1) (r2.2))
noncomputable def Z8J (x0 : List Int) (x1 : Int) : Option (Int × Int) :=
 if ((decide (x1 < 0))) = true then
 (Z78)
 else
 (if ((decide ((x0.length : Int) ≤ x1))) = true then
 (Z78)
 else
 (Z6S x0 x1))
theorem Zcs (x0 : List Int) (x1 : Int) (ox0 : Own) : Sim (Z4I) (Z8J x0 x1) (EE 45 [(.p (.lst ox0 (x0.map (eI .u8)))), (iv x1)] []) := by
 unfold Z8J
 refine zf (ZhI ..) ?_
 refine ze ?_
 refine ze ?_
 refine zo (bv (decide (x1 < 0))) ?_
 refine za ((decide (x1 < 0))) ?_ ?_
 ·exact zk (Z8W )
 ·refine zo (iv (x0.length : Int)) ?_ (Eq.trans (by kernel_rfl) (xlen_of (P := PP) (t := 40) (d := 5) (by kernel_rfl) (eI .u8) (shrO ox0) x0))
  refine zo (bv (decide ((x0.length : Int) ≤ x1))) ?_
  refine za ((decide ((x0.length : Int) ≤ x1))) ?_ ?_
  ·exact zk (Z8W )
  ·exact zk (ZbJ (x0) (x1) ox0)
theorem ZcW (x0 : List Int) (x1 : Int) {r} (h : Z8J x0 x1 = some r) : Z7p x0 x1 = some r :=
 pick_of (fun _ _ ha hb => RRun.uniq (Zde) (ha .ex) (hb .ex)) (fun ox0 => Zcs x0 x1 ox0 r h)
noncomputable def Z7j (x0 : Int) (x1 : List Z8) : Option (Z8) :=
 some ((Z8.mk x0 0 0 0 0 ([] : List Z7) x1))
theorem ZaZ (x0 : Int) (x1 : List Z8) (b0 : Z8) (ox1 : Own) (zaE : Own) (z9H : Own) (zgN : okApp zaE = true) (zfz : okApp z9H = true) : Sim (Z5j) (Z7j x0 x1) (Zdw 0 (iv x0) (.p (.lst ox1 (x1.map ZR))) (.ptr 0 0) [(Zr b0 zaE z9H)]) := by
 unfold Z7j
 refine zf (Zgk ..) ?_
 refine ze ?_
 refine zo (.p (.agg (ZE (Z8.mk x0 0 0 0 0 ([] : List Z7) x1) .nl (shrO (shrO ox1))))) ?_
 refine zt [(Zr (Z8.mk x0 0 0 0 0 ([] : List Z7) x1) .nl (shrO (shrO ox1)))] ?_
 exact zr ((.p (.agg (ZE (Z8.mk x0 0 0 0 0 ([] : List Z7) x1) .sh .sh))), [(Zr (Z8.mk x0 0 0 0 0 ([] : List Z7) x1) .nl (shrO (shrO ox1)))]) ⟨_, rfl⟩
noncomputable def Z74 (x0 : Int) (x1 : List Z8) : Option (Z8) :=
 if (((x1.length : Int) == 0)) = true then
 (some ((Z8.mk 0 0 0 0 0 ([] : List Z7) ([] : List Z8))))
 else
 (if (((x1.length : Int) == 1)) = true then
 ((lget x1 0).bind fun a1 =>
 some (a1))
 else
 (Z7j x0 x1))
theorem ZbD (x0 : Int) (x1 : List Z8) (ox1 : Own) : Sim (Z5j) (Z74 x0 x1) (EE 36 [(iv x0), (.p (.lst ox1 (x1.map ZR)))] []) := by
 unfold Z74
 refine zf (Zhs ..) ?_
 refine ze ?_
 refine zz (.ptr 0 0) [(Zr (Z8.mk 0 0 0 0 0 ([] : List Z7) ([] : List Z8)) .nl .nl)] ?_
 refine ze ?_
 refine zo (iv (x1.length : Int)) ?_ (Eq.trans (by kernel_rfl) (xlen_of (P := PP) (t := 25) (d := 27) (by kernel_rfl) ZR (shrO ox1) x1))
 refine ze ?_
 refine zo (bv ((x1.length : Int) == 0)) ?_
 refine za (((x1.length : Int) == 0)) ?_ ?_
 ·refine ze ?_
  refine zo (.p (.agg (ZE (Z8.mk 0 0 0 0 0 ([] : List Z7) ([] : List Z8)) .nl .nl))) ?_
  refine zt [(Zr (Z8.mk 0 0 0 0 0 ([] : List Z7) ([] : List Z8)) .nl .nl)] ?_
  exact zr ((.p (.agg (ZE (Z8.mk 0 0 0 0 0 ([] : List Z7) ([] : List Z8)) .sh .sh))), [(Zr (Z8.mk 0 0 0 0 0 ([] : List Z7) ([] : List Z8)) .nl .nl)]) ⟨_, rfl⟩
 ·refine ze ?_
  refine zo (bv ((x1.length : Int) == 1)) ?_
  refine za (((x1.length : Int) == 1)) ?_ ?_
  ·refine ze ?_
   refine zi fun a1 ha1 => ?_
   refine zo (.cptr (ZE a1 .sh .sh)) ?_ (Eq.trans (by kernel_rfl) (xidx_of (o := (shrO ox1)) (k := .i64) (n := 7) (e := ZR) (cs := Z2D) Z72 (fun _ => rfl) (by decide) ha1))
   refine zo (.p (.agg (ZE a1 .sh .sh))) ?_
   refine zt [(Zr a1 .sh .sh)] ?_
   exact zr ((.p (.agg (ZE a1 .sh .sh))), [(Zr a1 .sh .sh)]) ⟨_, rfl⟩
  ·exact zk (ZaZ (x0) (x1) ((Z8.mk 0 0 0 0 0 ([] : List Z7) ([] : List Z8))) ox1 .nl .nl rfl rfl)
theorem Zc9 (x0 : Int) (x1 : List Z8) {r} (h : Z74 x0 x1 = some r) : Z63 x0 x1 = some r :=
 pick_of (fun _ _ ha hb => RRun.uniq (Zcj) (ha .ex) (hb .ex)) (fun ox1 => ZbD x0 x1 ox1 r h)
noncomputable def Z1e (zp : Int) (z6 : Int) (zd : Int) (zh : List Zq) (z1 : Int) (z2 : Int) : Option (Z8 × Bool × Int × Int × Int × (List Zq) × Int × Int) :=
 some ((Z8.mk 0 0 0 0 0 ([] : List Z7) ([] : List Z8)), true, zp, z6, zd, zh, z1, z2)
theorem Z1f (zl : List Int) (zp : Int) (z6 : Int) (zd : Int) (zh : List Zq) (z1 : Int) (z2 : Int) (b1 : Z8) (zn : Own) (zb : Own) (zB : Own) (zy : Own) (zu : okApp zb = true) (zP : okApp zB = true) (zJ : okApp zy = true) : Sim (Z3J zl zn) (Z1e zp z6 zd zh z1 z2) (Z4W 1 (.ptr 1 0) [(Zj (Zk.mk zl zp z6 zd zh (Zi.mk z1 z2)) zn zb), (Zr b1 zB zy)]) := by
 unfold Z1e
 refine zf (Zfc ..) ?_
 refine ze ?_
 refine zo (.p (.agg (ZE (Z8.mk 0 0 0 0 0 ([] : List Z7) ([] : List Z8)) .nl .nl))) ?_
 refine zt [(Zj (Zk.mk zl zp z6 zd zh (Zi.mk z1 z2)) zn zb), (Zr (Z8.mk 0 0 0 0 0 ([] : List Z7) ([] : List Z8)) .nl .nl)] ?_
 exact zr ((.p (.tup [(.agg (ZE (Z8.mk 0 0 0 0 0 ([] : List Z7) ([] : List Z8)) .sh .sh)), (.v (.bool true))])), [(Zj (Zk.mk zl zp z6 zd zh (Zi.mk z1 z2)) zn zb), (Zr (Z8.mk 0 0 0 0 0 ([] : List Z7) ([] : List Z8)) .nl .nl)]) ⟨zb, _, zu, rfl⟩
noncomputable def Z4v (zl : List Int) (zp : Int) (z6 : Int) (zd : Int) (zh : List Zq) (z1 : Int) (z2 : Int) : Option (Z8 × Bool × Int × Int × Int × (List Zq) × Int × Int) :=
 (Z1W zl zp).bind fun r1 =>
 if ((r1.1 == 46)) = true then
 ((Z1v 10).bind fun r2 =>
 (Z2u true (([r2] : List Z7))).bind fun r3 =>
 some (r3, true, r1.2, z6, zd, zh, z1, z2))
 else
 (if ((r1.1 == 94)) = true then
 (some ((Z8.mk 9 0 0 0 0 ([] : List Z7) ([] : List Z8)), false, r1.2, z6, zd, zh, z1, z2))
 else
 (if ((r1.1 == 36)) = true then
 (some ((Z8.mk 9 0 0 0 1 ([] : List Z7) ([] : List Z8)), false, r1.2, z6, zd, zh, z1, z2))
 else
 (if ((r1.1 == 92)) = true then
 ((Z2M zp zl r1.2 z6 zd zh z1 z2).bind fun r4 =>
 some (r4.1, (r4.1.Kind != 9), r4.2.1, z6, zd, r4.2.2.1, r4.2.2.2.1, r4.2.2.2.2))
 else
 (if ((r1.1 == 91)) = true then
 ((Z5h zp zl r1.2 z6 zd zh z1 z2).bind fun r5 =>
 some (r5.1, true, r5.2.1, z6, zd, zh, r5.2.2.1, r5.2.2.2))
 else
 (if ((r1.1 == 40)) = true then
 ((Z2T zp zl r1.2 z6 zd zh z1 z2).bind fun r6 =>
 some (r6.1, r6.2.1, r6.2.2.1, r6.2.2.2.1, r6.2.2.2.2.1, r6.2.2.2.2.2.1, r6.2.2.2.2.2.2.1, r6.2.2.2.2.2.2.2))
 else
 (if ((r1.1 == 42)) = true then
 (if ((r1.1 == 42)) = true then
 ((ZT 23 zp zl z1 z2).bind fun r7 =>
 Z1e r7.1 z6 zd zh r7.2.1 r7.2.2)
 else
 (if ((r1.1 == 93)) = true then
 (if ((r1.1 == 93)) = true then
 ((ZT 20 zp zl z1 z2).bind fun r8 =>
 Z1e r8.1 z6 zd zh r8.2.1 r8.2.2)
 else
 ((Z1v r1.1).bind fun r9 =>
 (Z2u false (([r9] : List Z7))).bind fun r10 =>
 some (r10, true, r1.2, z6, zd, zh, z1, z2)))
 else
 (if ((r1.1 == 125)) = true then
 ((ZT 20 zp zl z1 z2).bind fun r11 =>
 Z1e r11.1 z6 zd zh r11.2.1 r11.2.2)
 else
 ((Z1v r1.1).bind fun r12 =>
 (Z2u false (([r12] : List Z7))).bind fun r13 =>
 some (r13, true, r1.2, z6, zd, zh, z1, z2)))))
 else
 (if ((r1.1 == 43)) = true then
 (if ((r1.1 == 43)) = true then
 ((ZT 23 zp zl z1 z2).bind fun r14 =>
 Z1e r14.1 z6 zd zh r14.2.1 r14.2.2)
 else
 (if ((r1.1 == 93)) = true then
 (if ((r1.1 == 93)) = true then
 ((ZT 20 zp zl z1 z2).bind fun r15 =>
 Z1e r15.1 z6 zd zh r15.2.1 r15.2.2)
 else
 ((Z1v r1.1).bind fun r16 =>
 (Z2u false (([r16] : List Z7))).bind fun r17 =>
 some (r17, true, r1.2, z6, zd, zh, z1, z2)))
 else
 (if ((r1.1 == 125)) = true then
 ((ZT 20 zp zl z1 z2).bind fun r18 =>
 Z1e r18.1 z6 zd zh r18.2.1 r18.2.2)
 else
 ((Z1v r1.1).bind fun r19 =>
 (Z2u false (([r19] : List Z7))).bind fun r20 =>
 some (r20, true, r1.2, z6, zd, zh, z1, z2)))))
 else
 (if ((r1.1 == 63)) = true then
 (if ((r1.1 == 63)) = true then
 ((ZT 23 zp zl z1 z2).bind fun r21 =>
 Z1e r21.1 z6 zd zh r21.2.1 r21.2.2)
 else
 (if ((r1.1 == 93)) = true then
 (if ((r1.1 == 93)) = true then
 ((ZT 20 zp zl z1 z2).bind fun r22 =>
 Z1e r22.1 z6 zd zh r22.2.1 r22.2.2)
 else
 ((Z1v r1.1).bind fun r23 =>
 (Z2u false (([r23] : List Z7))).bind fun r24 =>
 some (r24, true, r1.2, z6, zd, zh, z1, z2)))
 else
 (if ((r1.1 == 125)) = true then
 ((ZT 20 zp zl z1 z2).bind fun r25 =>
 Z1e r25.1 z6 zd zh r25.2.1 r25.2.2)
 else
 ((Z1v r1.1).bind fun r26 =>
 (Z2u false (([r26] : List Z7))).bind fun r27 =>
 some (r27, true, r1.2, z6, zd, zh, z1, z2)))))
 else
 (if ((r1.1 == 123)) = true then
 ((ZT 23 zp zl z1 z2).bind fun r28 =>
 Z1e r28.1 z6 zd zh r28.2.1 r28.2.2)
 else
 (if ((r1.1 == 93)) = true then
 (if ((r1.1 == 93)) = true then
 ((ZT 20 zp zl z1 z2).bind fun r29 =>
 Z1e r29.1 z6 zd zh r29.2.1 r29.2.2)
 else
 ((Z1v r1.1).bind fun r30 =>
 (Z2u false (([r30] : List Z7))).bind fun r31 =>
 some (r31, true, r1.2, z6, zd, zh, z1, z2)))
 else
 (if ((r1.1 == 125)) = true then
 ((ZT 20 zp zl z1 z2).bind fun r32 =>
 Z1e r32.1 z6 zd zh r32.2.1 r32.2.2)
 else
 ((Z1v r1.1).bind fun r33 =>
 (Z2u false (([r33] : List Z7))).bind fun r34 =>
 some (r34, true, r1.2, z6, zd, zh, z1, z2)))))))))))))
theorem Za5 (zl : List Int) (zp : Int) (z6 : Int) (zd : Int) (zh : List Zq) (z1 : Int) (z2 : Int) (zn : Own) (zb : Own) (zu : okApp zb = true) : Sim (Z3J zl zn) (Z4v zl zp z6 zd zh z1 z2) (EE 42 [(.ptr 0 0)] [(Zj (Zk.mk zl zp z6 zd zh (Zi.mk z1 z2)) zn zb)]) := by
 unfold Z4v
 refine zf (ZhZ ..) ?_
 refine ze ?_
 refine zz (.ptr 1 0) [(Zj (Zk.mk zl zp z6 zd zh (Zi.mk z1 z2)) zn zb), (Zr (Z8.mk 0 0 0 0 0 ([] : List Z7) ([] : List Z8)) .nl .nl)] ?_
 refine ze ?_
 refine zo (.ptr 0 0) ?_
 refine zo (.ptr 0 1) ?_
 refine zo (iv zp) ?_
 refine ze ?_
 refine zi fun r1 hr1 => ?_
 obtain ⟨qr1, er1, exr1, rfl⟩ := Z2j (zl) (zp) (z6) (zd) (zh) (z1) (z2) zn zb zu r1 hr1
 refine zc [0] (iv r1.1) [(Zj (Zk.mk zl r1.2 z6 zd zh (Zi.mk z1 z2)) zn zb), (Zr (Z8.mk 0 0 0 0 0 ([] : List Z7) ([] : List Z8)) .nl .nl)] er1 ?_
 refine ze ?_
 refine ze ?_
 refine zo (bv (r1.1 == 46)) ?_
 refine za ((r1.1 == 46)) ?_ ?_
 ·refine ze ?_
  refine zi fun r2 hr2 => ?_
  obtain ⟨qr2, er2, exr2, rfl⟩ := Z1p (10) r2 hr2
  refine zc [] (.p (.agg (ZG r2))) [(Zj (Zk.mk zl r1.2 z6 zd zh (Zi.mk z1 z2)) zn zb), (Zr (Z8.mk 0 0 0 0 0 ([] : List Z7) ([] : List Z8)) .nl .nl)] er2 ?_
  refine zo (.p (.lst .ex (([r2] : List Z7).map Zs))) ?_
  refine zi fun r3 hr3 => ?_
  obtain ⟨qr3, er3, exr3, rfl⟩ := Z2E (true) (([r2] : List Z7)) .sh r3 hr3
  refine zc [] (.p (.agg (ZE r3 .sh .sh))) [(Zj (Zk.mk zl r1.2 z6 zd zh (Zi.mk z1 z2)) zn zb), (Zr (Z8.mk 0 0 0 0 0 ([] : List Z7) ([] : List Z8)) .nl .nl)] er3 ?_
  refine zt [(Zj (Zk.mk zl r1.2 z6 zd zh (Zi.mk z1 z2)) zn zb), (Zr r3 .sh .sh)] ?_
  exact zr ((.p (.tup [(.agg (ZE r3 .sh .sh)), (.v (.bool true))])), [(Zj (Zk.mk zl r1.2 z6 zd zh (Zi.mk z1 z2)) zn zb), (Zr r3 .sh .sh)]) ⟨zb, _, zu, rfl⟩
 ·refine ze ?_
  refine zo (bv (r1.1 == 94)) ?_
  refine za ((r1.1 == 94)) ?_ ?_
  ·refine ze ?_
   refine zo (.p (.agg (ZE (Z8.mk 9 0 0 0 0 ([] : List Z7) ([] : List Z8)) .nl .nl))) ?_
   refine zt [(Zj (Zk.mk zl r1.2 z6 zd zh (Zi.mk z1 z2)) zn zb), (Zr (Z8.mk 9 0 0 0 0 ([] : List Z7) ([] : List Z8)) .nl .nl)] ?_
   exact zr ((.p (.tup [(.agg (ZE (Z8.mk 9 0 0 0 0 ([] : List Z7) ([] : List Z8)) .sh .sh)), (.v (.bool false))])), [(Zj (Zk.mk zl r1.2 z6 zd zh (Zi.mk z1 z2)) zn zb), (Zr (Z8.mk 9 0 0 0 0 ([] : List Z7) ([] : List Z8)) .nl .nl)]) ⟨zb, _, zu, rfl⟩
  ·refine ze ?_
   refine zo (bv (r1.1 == 36)) ?_
   refine za ((r1.1 == 36)) ?_ ?_
   ·refine ze ?_
    refine zo (.p (.agg (ZE (Z8.mk 9 0 0 0 1 ([] : List Z7) ([] : List Z8)) .nl .nl))) ?_
    refine zt [(Zj (Zk.mk zl r1.2 z6 zd zh (Zi.mk z1 z2)) zn zb), (Zr (Z8.mk 9 0 0 0 1 ([] : List Z7) ([] : List Z8)) .nl .nl)] ?_
    exact zr ((.p (.tup [(.agg (ZE (Z8.mk 9 0 0 0 1 ([] : List Z7) ([] : List Z8)) .sh .sh)), (.v (.bool false))])), [(Zj (Zk.mk zl r1.2 z6 zd zh (Zi.mk z1 z2)) zn zb), (Zr (Z8.mk 9 0 0 0 1 ([] : List Z7) ([] : List Z8)) .nl .nl)]) ⟨zb, _, zu, rfl⟩
   ·refine ze ?_
    refine zo (bv (r1.1 == 92)) ?_
    refine za ((r1.1 == 92)) ?_ ?_
    ·refine ze ?_
     refine zi fun r4 hr4 => ?_
     obtain ⟨qr4, er4, or4_0_4, exr4, hor4_0_4, rfl⟩ := Z9D (zp) (zl) (r1.2) (z6) (zd) (zh) (z1) (z2) zn zb zu r4 hr4
     refine zc [0] (.p (.agg (ZE r4.1 .sh .sh))) [(Zj (Zk.mk zl r4.2.1 z6 zd r4.2.2.1 (Zi.mk r4.2.2.2.1 r4.2.2.2.2)) zn or4_0_4), (Zr (Z8.mk 0 0 0 0 0 ([] : List Z7) ([] : List Z8)) .nl .nl)] er4 ?_
     refine zz (.ptr 2 0) [(Zj (Zk.mk zl r4.2.1 z6 zd r4.2.2.1 (Zi.mk r4.2.2.2.1 r4.2.2.2.2)) zn or4_0_4), (Zr (Z8.mk 0 0 0 0 0 ([] : List Z7) ([] : List Z8)) .nl .nl), (Zr (Z8.mk 0 0 0 0 0 ([] : List Z7) ([] : List Z8)) .nl .nl)] ?_
     refine zt [(Zj (Zk.mk zl r4.2.1 z6 zd r4.2.2.1 (Zi.mk r4.2.2.2.1 r4.2.2.2.2)) zn or4_0_4), (Zr (Z8.mk 0 0 0 0 0 ([] : List Z7) ([] : List Z8)) .nl .nl), (Zr r4.1 .sh .sh)] ?_
     refine ze ?_
     refine zo (.p (.agg (ZE r4.1 .sh .sh))) ?_
     refine zo (.ptr 2 0) ?_
     refine zo (iv r4.1.Kind) ?_
     refine zo (bv (r4.1.Kind != 9)) ?_
     refine zt [(Zj (Zk.mk zl r4.2.1 z6 zd r4.2.2.1 (Zi.mk r4.2.2.2.1 r4.2.2.2.2)) zn or4_0_4), (Zr r4.1 .sh .sh), (Zr r4.1 .sh .sh)] ?_
     refine zg ?_
     exact zr ((.p (.tup [(.agg (ZE r4.1 .sh .sh)), (.v (.bool (r4.1.Kind != 9)))])), [(Zj (Zk.mk zl r4.2.1 z6 zd r4.2.2.1 (Zi.mk r4.2.2.2.1 r4.2.2.2.2)) zn or4_0_4), (Zr r4.1 .sh .sh), (Zr r4.1 .sh .sh)]) ⟨or4_0_4, _, hor4_0_4, rfl⟩
    ·refine ze ?_
     refine zo (bv (r1.1 == 91)) ?_
     refine za ((r1.1 == 91)) ?_ ?_
     ·refine ze ?_
      refine zi fun r5 hr5 => ?_
      obtain ⟨qr5, er5, exr5, rfl⟩ := Za0 (zp) (zl) (r1.2) (z6) (zd) (zh) (z1) (z2) zn zb zu r5 hr5
      refine zc [0] (.p (.agg (ZE r5.1 .sh .sh))) [(Zj (Zk.mk zl r5.2.1 z6 zd zh (Zi.mk r5.2.2.1 r5.2.2.2)) zn zb), (Zr (Z8.mk 0 0 0 0 0 ([] : List Z7) ([] : List Z8)) .nl .nl)] er5 ?_
      refine zt [(Zj (Zk.mk zl r5.2.1 z6 zd zh (Zi.mk r5.2.2.1 r5.2.2.2)) zn zb), (Zr r5.1 .sh .sh)] ?_
      exact zr ((.p (.tup [(.agg (ZE r5.1 .sh .sh)), (.v (.bool true))])), [(Zj (Zk.mk zl r5.2.1 z6 zd zh (Zi.mk r5.2.2.1 r5.2.2.2)) zn zb), (Zr r5.1 .sh .sh)]) ⟨zb, _, zu, rfl⟩
     ·refine ze ?_
      refine zo (bv (r1.1 == 40)) ?_
      refine za ((r1.1 == 40)) ?_ ?_
      ·refine ze ?_
       refine zi fun r6 hr6 => ?_
       obtain ⟨qr6, er6, or6_0_4, exr6, hor6_0_4, rfl⟩ := Za7 (zp) (zl) (r1.2) (z6) (zd) (zh) (z1) (z2) zn zb zu r6 hr6
       refine zc [0] (.p (.tup [(.agg (ZE r6.1 .sh .sh)), (.v (.bool r6.2.1))])) [(Zj (Zk.mk zl r6.2.2.1 r6.2.2.2.1 r6.2.2.2.2.1 r6.2.2.2.2.2.1 (Zi.mk r6.2.2.2.2.2.2.1 r6.2.2.2.2.2.2.2)) zn or6_0_4), (Zr (Z8.mk 0 0 0 0 0 ([] : List Z7) ([] : List Z8)) .nl .nl)] er6 ?_
       refine zo (.p (.agg (ZE r6.1 .sh .sh))) ?_
       refine zo (bv r6.2.1) ?_
       refine zt [(Zj (Zk.mk zl r6.2.2.1 r6.2.2.2.1 r6.2.2.2.2.1 r6.2.2.2.2.2.1 (Zi.mk r6.2.2.2.2.2.2.1 r6.2.2.2.2.2.2.2)) zn or6_0_4), (Zr r6.1 .sh .sh)] ?_
       exact zr ((.p (.tup [(.agg (ZE r6.1 .sh .sh)), (.v (.bool r6.2.1))])), [(Zj (Zk.mk zl r6.2.2.1 r6.2.2.2.1 r6.2.2.2.2.1 r6.2.2.2.2.2.1 (Zi.mk r6.2.2.2.2.2.2.1 r6.2.2.2.2.2.2.2)) zn or6_0_4), (Zr r6.1 .sh .sh)]) ⟨or6_0_4, _, hor6_0_4, rfl⟩
      ·refine ze ?_
       refine zo (bv (r1.1 == 42)) ?_
       refine za ((r1.1 == 42)) ?_ ?_
       ·refine za ((r1.1 == 42)) ?_ ?_
        ·refine ze ?_
         refine zi fun r7 hr7 => ?_
         obtain ⟨qr7, er7, exr7, rfl⟩ := ZW (23) (zp) (zl) (r1.2) (z6) (zd) (zh) (z1) (z2) zn zb zu r7 hr7
         refine zc [0] (.p (.tup [])) [(Zj (Zk.mk zl r7.1 z6 zd zh (Zi.mk r7.2.1 r7.2.2)) zn zb), (Zr (Z8.mk 0 0 0 0 0 ([] : List Z7) ([] : List Z8)) .nl .nl)] er7 ?_
         exact zk (Z1f (zl) (r7.1) (z6) (zd) (zh) (r7.2.1) (r7.2.2) ((Z8.mk 0 0 0 0 0 ([] : List Z7) ([] : List Z8))) zn zb .nl .nl zu rfl rfl)
        ·refine ze ?_
         refine zo (bv (r1.1 == 93)) ?_
         refine za ((r1.1 == 93)) ?_ ?_
         ·refine za ((r1.1 == 93)) ?_ ?_
          ·refine ze ?_
           refine zi fun r8 hr8 => ?_
           obtain ⟨qr8, er8, exr8, rfl⟩ := ZW (20) (zp) (zl) (r1.2) (z6) (zd) (zh) (z1) (z2) zn zb zu r8 hr8
           refine zc [0] (.p (.tup [])) [(Zj (Zk.mk zl r8.1 z6 zd zh (Zi.mk r8.2.1 r8.2.2)) zn zb), (Zr (Z8.mk 0 0 0 0 0 ([] : List Z7) ([] : List Z8)) .nl .nl)] er8 ?_
           exact zk (Z1f (zl) (r8.1) (z6) (zd) (zh) (r8.2.1) (r8.2.2) ((Z8.mk 0 0 0 0 0 ([] : List Z7) ([] : List Z8))) zn zb .nl .nl zu rfl rfl)
          ·refine ze ?_
           refine zi fun r9 hr9 => ?_
           obtain ⟨qr9, er9, exr9, rfl⟩ := Z1p (r1.1) r9 hr9
           refine zc [] (.p (.agg (ZG r9))) [(Zj (Zk.mk zl r1.2 z6 zd zh (Zi.mk z1 z2)) zn zb), (Zr (Z8.mk 0 0 0 0 0 ([] : List Z7) ([] : List Z8)) .nl .nl)] er9 ?_
           refine zo (.p (.lst .ex (([r9] : List Z7).map Zs))) ?_
           refine zi fun r10 hr10 => ?_
           obtain ⟨qr10, er10, exr10, rfl⟩ := Z2E (false) (([r9] : List Z7)) .sh r10 hr10
           refine zc [] (.p (.agg (ZE r10 .sh .sh))) [(Zj (Zk.mk zl r1.2 z6 zd zh (Zi.mk z1 z2)) zn zb), (Zr (Z8.mk 0 0 0 0 0 ([] : List Z7) ([] : List Z8)) .nl .nl)] er10 ?_
           refine zt [(Zj (Zk.mk zl r1.2 z6 zd zh (Zi.mk z1 z2)) zn zb), (Zr r10 .sh .sh)] ?_
           exact zr ((.p (.tup [(.agg (ZE r10 .sh .sh)), (.v (.bool true))])), [(Zj (Zk.mk zl r1.2 z6 zd zh (Zi.mk z1 z2)) zn zb), (Zr r10 .sh .sh)]) ⟨zb, _, zu, rfl⟩
         ·refine ze ?_
          refine zo (bv (r1.1 == 125)) ?_
          refine za ((r1.1 == 125)) ?_ ?_
          ·refine ze ?_
           refine zi fun r11 hr11 => ?_
           obtain ⟨qr11, er11, exr11, rfl⟩ := ZW (20) (zp) (zl) (r1.2) (z6) (zd) (zh) (z1) (z2) zn zb zu r11 hr11
           refine zc [0] (.p (.tup [])) [(Zj (Zk.mk zl r11.1 z6 zd zh (Zi.mk r11.2.1 r11.2.2)) zn zb), (Zr (Z8.mk 0 0 0 0 0 ([] : List Z7) ([] : List Z8)) .nl .nl)] er11 ?_
           exact zk (Z1f (zl) (r11.1) (z6) (zd) (zh) (r11.2.1) (r11.2.2) ((Z8.mk 0 0 0 0 0 ([] : List Z7) ([] : List Z8))) zn zb .nl .nl zu rfl rfl)
          ·refine ze ?_
           refine zi fun r12 hr12 => ?_
           obtain ⟨qr12, er12, exr12, rfl⟩ := Z1p (r1.1) r12 hr12
           refine zc [] (.p (.agg (ZG r12))) [(Zj (Zk.mk zl r1.2 z6 zd zh (Zi.mk z1 z2)) zn zb), (Zr (Z8.mk 0 0 0 0 0 ([] : List Z7) ([] : List Z8)) .nl .nl)] er12 ?_
           refine zo (.p (.lst .ex (([r12] : List Z7).map Zs))) ?_
           refine zi fun r13 hr13 => ?_
           obtain ⟨qr13, er13, exr13, rfl⟩ := Z2E (false) (([r12] : List Z7)) .sh r13 hr13
           refine zc [] (.p (.agg (ZE r13 .sh .sh))) [(Zj (Zk.mk zl r1.2 z6 zd zh (Zi.mk z1 z2)) zn zb), (Zr (Z8.mk 0 0 0 0 0 ([] : List Z7) ([] : List Z8)) .nl .nl)] er13 ?_
           refine zt [(Zj (Zk.mk zl r1.2 z6 zd zh (Zi.mk z1 z2)) zn zb), (Zr r13 .sh .sh)] ?_
           exact zr ((.p (.tup [(.agg (ZE r13 .sh .sh)), (.v (.bool true))])), [(Zj (Zk.mk zl r1.2 z6 zd zh (Zi.mk z1 z2)) zn zb), (Zr r13 .sh .sh)]) ⟨zb, _, zu, rfl⟩
       ·refine ze ?_
        refine zo (bv (r1.1 == 43)) ?_
        refine za ((r1.1 == 43)) ?_ ?_
        ·refine za ((r1.1 == 43)) ?_ ?_
         ·refine ze ?_
          refine zi fun r14 hr14 => ?_
          obtain ⟨qr14, er14, exr14, rfl⟩ := ZW (23) (zp) (zl) (r1.2) (z6) (zd) (zh) (z1) (z2) zn zb zu r14 hr14
          refine zc [0] (.p (.tup [])) [(Zj (Zk.mk zl r14.1 z6 zd zh (Zi.mk r14.2.1 r14.2.2)) zn zb), (Zr (Z8.mk 0 0 0 0 0 ([] : List Z7) ([] : List Z8)) .nl .nl)] er14 ?_
          exact zk (Z1f (zl) (r14.1) (z6) (zd) (zh) (r14.2.1) (r14.2.2) ((Z8.mk 0 0 0 0 0 ([] : List Z7) ([] : List Z8))) zn zb .nl .nl zu rfl rfl)
         ·refine ze ?_
          refine zo (bv (r1.1 == 93)) ?_
          refine za ((r1.1 == 93)) ?_ ?_
          ·refine za ((r1.1 == 93)) ?_ ?_
           ·refine ze ?_
            refine zi fun r15 hr15 => ?_
            obtain ⟨qr15, er15, exr15, rfl⟩ := ZW (20) (zp) (zl) (r1.2) (z6) (zd) (zh) (z1) (z2) zn zb zu r15 hr15
            refine zc [0] (.p (.tup [])) [(Zj (Zk.mk zl r15.1 z6 zd zh (Zi.mk r15.2.1 r15.2.2)) zn zb), (Zr (Z8.mk 0 0 0 0 0 ([] : List Z7) ([] : List Z8)) .nl .nl)] er15 ?_
            exact zk (Z1f (zl) (r15.1) (z6) (zd) (zh) (r15.2.1) (r15.2.2) ((Z8.mk 0 0 0 0 0 ([] : List Z7) ([] : List Z8))) zn zb .nl .nl zu rfl rfl)
           ·refine ze ?_
            refine zi fun r16 hr16 => ?_
            obtain ⟨qr16, er16, exr16, rfl⟩ := Z1p (r1.1) r16 hr16
            refine zc [] (.p (.agg (ZG r16))) [(Zj (Zk.mk zl r1.2 z6 zd zh (Zi.mk z1 z2)) zn zb), (Zr (Z8.mk 0 0 0 0 0 ([] : List Z7) ([] : List Z8)) .nl .nl)] er16 ?_
            refine zo (.p (.lst .ex (([r16] : List Z7).map Zs))) ?_
            refine zi fun r17 hr17 => ?_
            obtain ⟨qr17, er17, exr17, rfl⟩ := Z2E (false) (([r16] : List Z7)) .sh r17 hr17
            refine zc [] (.p (.agg (ZE r17 .sh .sh))) [(Zj (Zk.mk zl r1.2 z6 zd zh (Zi.mk z1 z2)) zn zb), (Zr (Z8.mk 0 0 0 0 0 ([] : List Z7) ([] : List Z8)) .nl .nl)] er17 ?_
            refine zt [(Zj (Zk.mk zl r1.2 z6 zd zh (Zi.mk z1 z2)) zn zb), (Zr r17 .sh .sh)] ?_
            exact zr ((.p (.tup [(.agg (ZE r17 .sh .sh)), (.v (.bool true))])), [(Zj (Zk.mk zl r1.2 z6 zd zh (Zi.mk z1 z2)) zn zb), (Zr r17 .sh .sh)]) ⟨zb, _, zu, rfl⟩
          ·refine ze ?_
           refine zo (bv (r1.1 == 125)) ?_
           refine za ((r1.1 == 125)) ?_ ?_
           ·refine ze ?_
            refine zi fun r18 hr18 => ?_
            obtain ⟨qr18, er18, exr18, rfl⟩ := ZW (20) (zp) (zl) (r1.2) (z6) (zd) (zh) (z1) (z2) zn zb zu r18 hr18
            refine zc [0] (.p (.tup [])) [(Zj (Zk.mk zl r18.1 z6 zd zh (Zi.mk r18.2.1 r18.2.2)) zn zb), (Zr (Z8.mk 0 0 0 0 0 ([] : List Z7) ([] : List Z8)) .nl .nl)] er18 ?_
            exact zk (Z1f (zl) (r18.1) (z6) (zd) (zh) (r18.2.1) (r18.2.2) ((Z8.mk 0 0 0 0 0 ([] : List Z7) ([] : List Z8))) zn zb .nl .nl zu rfl rfl)
           ·refine ze ?_
            refine zi fun r19 hr19 => ?_
            obtain ⟨qr19, er19, exr19, rfl⟩ := Z1p (r1.1) r19 hr19
            refine zc [] (.p (.agg (ZG r19))) [(Zj (Zk.mk zl r1.2 z6 zd zh (Zi.mk z1 z2)) zn zb), (Zr (Z8.mk 0 0 0 0 0 ([] : List Z7) ([] : List Z8)) .nl .nl)] er19 ?_
            refine zo (.p (.lst .ex (([r19] : List Z7).map Zs))) ?_
            refine zi fun r20 hr20 => ?_
            obtain ⟨qr20, er20, exr20, rfl⟩ := Z2E (false) (([r19] : List Z7)) .sh r20 hr20
            refine zc [] (.p (.agg (ZE r20 .sh .sh))) [(Zj (Zk.mk zl r1.2 z6 zd zh (Zi.mk z1 z2)) zn zb), (Zr (Z8.mk 0 0 0 0 0 ([] : List Z7) ([] : List Z8)) .nl .nl)] er20 ?_
            refine zt [(Zj (Zk.mk zl r1.2 z6 zd zh (Zi.mk z1 z2)) zn zb), (Zr r20 .sh .sh)] ?_
            exact zr ((.p (.tup [(.agg (ZE r20 .sh .sh)), (.v (.bool true))])), [(Zj (Zk.mk zl r1.2 z6 zd zh (Zi.mk z1 z2)) zn zb), (Zr r20 .sh .sh)]) ⟨zb, _, zu, rfl⟩
        ·refine ze ?_
         refine zo (bv (r1.1 == 63)) ?_
         refine za ((r1.1 == 63)) ?_ ?_
         ·refine za ((r1.1 == 63)) ?_ ?_
          ·refine ze ?_
           refine zi fun r21 hr21 => ?_
           obtain ⟨qr21, er21, exr21, rfl⟩ := ZW (23) (zp) (zl) (r1.2) (z6) (zd) (zh) (z1) (z2) zn zb zu r21 hr21
           refine zc [0] (.p (.tup [])) [(Zj (Zk.mk zl r21.1 z6 zd zh (Zi.mk r21.2.1 r21.2.2)) zn zb), (Zr (Z8.mk 0 0 0 0 0 ([] : List Z7) ([] : List Z8)) .nl .nl)] er21 ?_
           exact zk (Z1f (zl) (r21.1) (z6) (zd) (zh) (r21.2.1) (r21.2.2) ((Z8.mk 0 0 0 0 0 ([] : List Z7) ([] : List Z8))) zn zb .nl .nl zu rfl rfl)
          ·refine ze ?_
           refine zo (bv (r1.1 == 93)) ?_
           refine za ((r1.1 == 93)) ?_ ?_
           ·refine za ((r1.1 == 93)) ?_ ?_
            ·refine ze ?_
             refine zi fun r22 hr22 => ?_
             obtain ⟨qr22, er22, exr22, rfl⟩ := ZW (20) (zp) (zl) (r1.2) (z6) (zd) (zh) (z1) (z2) zn zb zu r22 hr22
             refine zc [0] (.p (.tup [])) [(Zj (Zk.mk zl r22.1 z6 zd zh (Zi.mk r22.2.1 r22.2.2)) zn zb), (Zr (Z8.mk 0 0 0 0 0 ([] : List Z7) ([] : List Z8)) .nl .nl)] er22 ?_
             exact zk (Z1f (zl) (r22.1) (z6) (zd) (zh) (r22.2.1) (r22.2.2) ((Z8.mk 0 0 0 0 0 ([] : List Z7) ([] : List Z8))) zn zb .nl .nl zu rfl rfl)
            ·refine ze ?_
             refine zi fun r23 hr23 => ?_
             obtain ⟨qr23, er23, exr23, rfl⟩ := Z1p (r1.1) r23 hr23
             refine zc [] (.p (.agg (ZG r23))) [(Zj (Zk.mk zl r1.2 z6 zd zh (Zi.mk z1 z2)) zn zb), (Zr (Z8.mk 0 0 0 0 0 ([] : List Z7) ([] : List Z8)) .nl .nl)] er23 ?_
             refine zo (.p (.lst .ex (([r23] : List Z7).map Zs))) ?_
             refine zi fun r24 hr24 => ?_
             obtain ⟨qr24, er24, exr24, rfl⟩ := Z2E (false) (([r23] : List Z7)) .sh r24 hr24
             refine zc [] (.p (.agg (ZE r24 .sh .sh))) [(Zj (Zk.mk zl r1.2 z6 zd zh (Zi.mk z1 z2)) zn zb), (Zr (Z8.mk 0 0 0 0 0 ([] : List Z7) ([] : List Z8)) .nl .nl)] er24 ?_
             refine zt [(Zj (Zk.mk zl r1.2 z6 zd zh (Zi.mk z1 z2)) zn zb), (Zr r24 .sh .sh)] ?_
             exact zr ((.p (.tup [(.agg (ZE r24 .sh .sh)), (.v (.bool true))])), [(Zj (Zk.mk zl r1.2 z6 zd zh (Zi.mk z1 z2)) zn zb), (Zr r24 .sh .sh)]) ⟨zb, _, zu, rfl⟩
           ·refine ze ?_
            refine zo (bv (r1.1 == 125)) ?_
            refine za ((r1.1 == 125)) ?_ ?_
            ·refine ze ?_
             refine zi fun r25 hr25 => ?_
             obtain ⟨qr25, er25, exr25, rfl⟩ := ZW (20) (zp) (zl) (r1.2) (z6) (zd) (zh) (z1) (z2) zn zb zu r25 hr25
             refine zc [0] (.p (.tup [])) [(Zj (Zk.mk zl r25.1 z6 zd zh (Zi.mk r25.2.1 r25.2.2)) zn zb), (Zr (Z8.mk 0 0 0 0 0 ([] : List Z7) ([] : List Z8)) .nl .nl)] er25 ?_
             exact zk (Z1f (zl) (r25.1) (z6) (zd) (zh) (r25.2.1) (r25.2.2) ((Z8.mk 0 0 0 0 0 ([] : List Z7) ([] : List Z8))) zn zb .nl .nl zu rfl rfl)
            ·refine ze ?_
             refine zi fun r26 hr26 => ?_
             obtain ⟨qr26, er26, exr26, rfl⟩ := Z1p (r1.1) r26 hr26
             refine zc [] (.p (.agg (ZG r26))) [(Zj (Zk.mk zl r1.2 z6 zd zh (Zi.mk z1 z2)) zn zb), (Zr (Z8.mk 0 0 0 0 0 ([] : List Z7) ([] : List Z8)) .nl .nl)] er26 ?_
             refine zo (.p (.lst .ex (([r26] : List Z7).map Zs))) ?_
             refine zi fun r27 hr27 => ?_
             obtain ⟨qr27, er27, exr27, rfl⟩ := Z2E (false) (([r26] : List Z7)) .sh r27 hr27
             refine zc [] (.p (.agg (ZE r27 .sh .sh))) [(Zj (Zk.mk zl r1.2 z6 zd zh (Zi.mk z1 z2)) zn zb), (Zr (Z8.mk 0 0 0 0 0 ([] : List Z7) ([] : List Z8)) .nl .nl)] er27 ?_
             refine zt [(Zj (Zk.mk zl r1.2 z6 zd zh (Zi.mk z1 z2)) zn zb), (Zr r27 .sh .sh)] ?_
             exact zr ((.p (.tup [(.agg (ZE r27 .sh .sh)), (.v (.bool true))])), [(Zj (Zk.mk zl r1.2 z6 zd zh (Zi.mk z1 z2)) zn zb), (Zr r27 .sh .sh)]) ⟨zb, _, zu, rfl⟩
         ·refine ze ?_
          refine zo (bv (r1.1 == 123)) ?_
          refine za ((r1.1 == 123)) ?_ ?_
          ·refine ze ?_
           refine zi fun r28 hr28 => ?_
           obtain ⟨qr28, er28, exr28, rfl⟩ := ZW (23) (zp) (zl) (r1.2) (z6) (zd) (zh) (z1) (z2) zn zb zu r28 hr28
           refine zc [0] (.p (.tup [])) [(Zj (Zk.mk zl r28.1 z6 zd zh (Zi.mk r28.2.1 r28.2.2)) zn zb), (Zr (Z8.mk 0 0 0 0 0 ([] : List Z7) ([] : List Z8)) .nl .nl)] er28 ?_
           exact zk (Z1f (zl) (r28.1) (z6) (zd) (zh) (r28.2.1) (r28.2.2) ((Z8.mk 0 0 0 0 0 ([] : List Z7) ([] : List Z8))) zn zb .nl .nl zu rfl rfl)
          ·refine ze ?_
           refine zo (bv (r1.1 == 93)) ?_
           refine za ((r1.1 == 93)) ?_ ?_
           ·refine za ((r1.1 == 93)) ?_ ?_
            ·refine ze ?_
             refine zi fun r29 hr29 => ?_
             obtain ⟨qr29, er29, exr29, rfl⟩ := ZW (20) (zp) (zl) (r1.2) (z6) (zd) (zh) (z1) (z2) zn zb zu r29 hr29
             refine zc [0] (.p (.tup [])) [(Zj (Zk.mk zl r29.1 z6 zd zh (Zi.mk r29.2.1 r29.2.2)) zn zb), (Zr (Z8.mk 0 0 0 0 0 ([] : List Z7) ([] : List Z8)) .nl .nl)] er29 ?_
             exact zk (Z1f (zl) (r29.1) (z6) (zd) (zh) (r29.2.1) (r29.2.2) ((Z8.mk 0 0 0 0 0 ([] : List Z7) ([] : List Z8))) zn zb .nl .nl zu rfl rfl)
            ·refine ze ?_
             refine zi fun r30 hr30 => ?_
             obtain ⟨qr30, er30, exr30, rfl⟩ := Z1p (r1.1) r30 hr30
             refine zc [] (.p (.agg (ZG r30))) [(Zj (Zk.mk zl r1.2 z6 zd zh (Zi.mk z1 z2)) zn zb), (Zr (Z8.mk 0 0 0 0 0 ([] : List Z7) ([] : List Z8)) .nl .nl)] er30 ?_
             refine zo (.p (.lst .ex (([r30] : List Z7).map Zs))) ?_
             refine zi fun r31 hr31 => ?_
             obtain ⟨qr31, er31, exr31, rfl⟩ := Z2E (false) (([r30] : List Z7)) .sh r31 hr31
             refine zc [] (.p (.agg (ZE r31 .sh .sh))) [(Zj (Zk.mk zl r1.2 z6 zd zh (Zi.mk z1 z2)) zn zb), (Zr (Z8.mk 0 0 0 0 0 ([] : List Z7) ([] : List Z8)) .nl .nl)] er31 ?_
             refine zt [(Zj (Zk.mk zl r1.2 z6 zd zh (Zi.mk z1 z2)) zn zb), (Zr r31 .sh .sh)] ?_
             exact zr ((.p (.tup [(.agg (ZE r31 .sh .sh)), (.v (.bool true))])), [(Zj (Zk.mk zl r1.2 z6 zd zh (Zi.mk z1 z2)) zn zb), (Zr r31 .sh .sh)]) ⟨zb, _, zu, rfl⟩
           ·refine ze ?_
            refine zo (bv (r1.1 == 125)) ?_
            refine za ((r1.1 == 125)) ?_ ?_
            ·refine ze ?_
             refine zi fun r32 hr32 => ?_
             obtain ⟨qr32, er32, exr32, rfl⟩ := ZW (20) (zp) (zl) (r1.2) (z6) (zd) (zh) (z1) (z2) zn zb zu r32 hr32
             refine zc [0] (.p (.tup [])) [(Zj (Zk.mk zl r32.1 z6 zd zh (Zi.mk r32.2.1 r32.2.2)) zn zb), (Zr (Z8.mk 0 0 0 0 0 ([] : List Z7) ([] : List Z8)) .nl .nl)] er32 ?_
             exact zk (Z1f (zl) (r32.1) (z6) (zd) (zh) (r32.2.1) (r32.2.2) ((Z8.mk 0 0 0 0 0 ([] : List Z7) ([] : List Z8))) zn zb .nl .nl zu rfl rfl)
            ·refine ze ?_
             refine zi fun r33 hr33 => ?_
             obtain ⟨qr33, er33, exr33, rfl⟩ := Z1p (r1.1) r33 hr33
             refine zc [] (.p (.agg (ZG r33))) [(Zj (Zk.mk zl r1.2 z6 zd zh (Zi.mk z1 z2)) zn zb), (Zr (Z8.mk 0 0 0 0 0 ([] : List Z7) ([] : List Z8)) .nl .nl)] er33 ?_
             refine zo (.p (.lst .ex (([r33] : List Z7).map Zs))) ?_
             refine zi fun r34 hr34 => ?_
             obtain ⟨qr34, er34, exr34, rfl⟩ := Z2E (false) (([r33] : List Z7)) .sh r34 hr34
             refine zc [] (.p (.agg (ZE r34 .sh .sh))) [(Zj (Zk.mk zl r1.2 z6 zd zh (Zi.mk z1 z2)) zn zb), (Zr (Z8.mk 0 0 0 0 0 ([] : List Z7) ([] : List Z8)) .nl .nl)] er34 ?_
             refine zt [(Zj (Zk.mk zl r1.2 z6 zd zh (Zi.mk z1 z2)) zn zb), (Zr r34 .sh .sh)] ?_
             exact zr ((.p (.tup [(.agg (ZE r34 .sh .sh)), (.v (.bool true))])), [(Zj (Zk.mk zl r1.2 z6 zd zh (Zi.mk z1 z2)) zn zb), (Zr r34 .sh .sh)]) ⟨zb, _, zu, rfl⟩
theorem Zav (zl : List Int) (zp : Int) (z6 : Int) (zd : Int) (zh : List Zq) (z1 : Int) (z2 : Int) {r} (h : Z4v zl zp z6 zd zh z1 z2 = some r) : Z5r zl zp z6 zd zh z1 z2 = some r :=
 pick_of (fun _ _ ha hb => RRun.uniq (ZaF _ _) (ha .ex .ex rfl) (hb .ex .ex rfl)) (fun zn zb zu => Za5 zl zp z6 zd zh z1 z2 zn zb zu r h)
noncomputable def Z5s (zl : List Int) (zp : Int) : Option (Int × Int) :=
 (Z7p zl zp).bind fun r1 =>
 some (r1.1, (IntKind.i64.wrap (zp + r1.2)))
theorem Za6 (zl : List Int) (zp : Int) (z6 : Int) (zd : Int) (zh : List Zq) (z1 : Int) (z2 : Int) (zn : Own) (zb : Own) (zu : okApp zb = true) : Sim (Z4x zl z6 zd zh z1 z2 zn zb) (Z5s zl zp) (EE 46 [(.ptr 0 0)] [(Zj (Zk.mk zl zp z6 zd zh (Zi.mk z1 z2)) zn zb)]) := by
 unfold Z5s
 refine zf (Zir ..) ?_
 refine ze ?_
 refine ze ?_
 refine zo (.ptr 0 0) ?_
 refine zo (.ptr 0 0) ?_
 refine zo (.p (.lst (shrO zn) (zl.map (eI .u8)))) ?_
 refine zo (.ptr 0 0) ?_
 refine zo (.ptr 0 1) ?_
 refine zo (iv zp) ?_
 refine zi fun r1 hr1 => ?_
 obtain ⟨qr1, er1, exr1, rfl⟩ := ZaY (zl) (zp) .sh r1 hr1
 refine zc [] (.p (.tup [(.v (.int .i64 r1.1)), (.v (.int .i64 r1.2))])) [(Zj (Zk.mk zl zp z6 zd zh (Zi.mk z1 z2)) zn zb)] er1 ?_
 refine zo (iv r1.1) ?_
 refine zo (iv r1.2) ?_
 refine ze ?_
 refine zo (.ptr 0 0) ?_
 refine zo (.ptr 0 1) ?_
 refine zo (iv zp) ?_
 refine zo (iv (IntKind.i64.wrap (zp + r1.2))) ?_
 refine zo (.ptr 0 0) ?_
 refine zo (.ptr 0 1) ?_
 refine zt [(Zj (Zk.mk zl (IntKind.i64.wrap (zp + r1.2)) z6 zd zh (Zi.mk z1 z2)) zn zb)] ?_
 refine ze ?_
 exact zr ((iv r1.1), [(Zj (Zk.mk zl (IntKind.i64.wrap (zp + r1.2)) z6 zd zh (Zi.mk z1 z2)) zn zb)]) ⟨_, rfl⟩
theorem Zau (zl : List Int) (zp : Int) {r} (h : Z5s zl zp = some r) : Z1W zl zp = some r :=
 pick_of (fun _ _ ha hb => RRun.uniq (Zb3 _ _ _ _ _ _ _ _) (ha default default default default default .ex .ex rfl) (hb default default default default default .ex .ex rfl)) (fun z6 zd zh z1 z2 zn zb zu => Za6 zl zp z6 zd zh z1 z2 zn zb zu r h)
noncomputable def Zar (x0 : Int) : Option (Z7) :=
 some ((Z7.mk x0 x0))
theorem ZcE (x0 : Int) : Sim (Z7q) (Zar x0) (EE 48 [(iv x0)] []) := by
 unfold Zar
 refine zf (Zig ..) ?_
 refine ze ?_
 refine zz (.ptr 0 0) [(Z1m (Z7.mk 0 0))] ?_
 refine ze ?_
 refine zo (.p (.agg (ZG (Z7.mk x0 x0)))) ?_
 refine zt [(Z1m (Z7.mk x0 x0))] ?_
 exact zr ((.p (.agg (ZG (Z7.mk x0 x0)))), [(Z1m (Z7.mk x0 x0))]) ⟨_, rfl⟩
theorem Zdc (x0 : Int) {r} (h : Zar x0 = some r) : Z1v x0 = some r :=
 pick_of (fun _ _ ha hb => RRun.uniq (Zdh) (ha ) (hb )) (ZcE x0 r h)
noncomputable def Z76 (x5 : List Z7) : Option (Z8) :=
 some ((Z8.mk 1 0 0 0 0 x5 ([] : List Z8)))
theorem Z8R (x5 : List Z7) (b0 : Z8) (ox5 : Own) (zaE : Own) (z9H : Own) (zgN : okApp zaE = true) (zfz : okApp z9H = true) : Sim (Z6k) (Z76 x5) (Zcn 0 (.ptr 0 0) (.p (.lst ox5 (x5.map Zs))) [(Zr b0 zaE z9H)]) := by
 unfold Z76
 refine zf (ZgE ..) ?_
 refine ze ?_
 refine zo (.p (.agg (ZE (Z8.mk 1 0 0 0 0 x5 ([] : List Z8)) (shrO (shrO ox5)) .nl))) ?_
 refine zt [(Zr (Z8.mk 1 0 0 0 0 x5 ([] : List Z8)) (shrO (shrO ox5)) .nl)] ?_
 exact zr ((.p (.agg (ZE (Z8.mk 1 0 0 0 0 x5 ([] : List Z8)) .sh .sh))), [(Zr (Z8.mk 1 0 0 0 0 x5 ([] : List Z8)) (shrO (shrO ox5)) .nl)]) ⟨_, rfl⟩
noncomputable def Z8K (x0 : Bool) (x1 : List Z7) : Option (Z8) :=
 (Z8e x1).bind fun r1 =>
 if (x0) = true then
 ((Z5A r1.1).bind fun r2 =>
 Z76 r2.1)
 else
 (Z76 r1.1)
theorem Zcy (x0 : Bool) (x1 : List Z7) (ox1 : Own) : Sim (Z6k) (Z8K x0 x1) (EE 47 [(bv x0), (.p (.lst ox1 (x1.map Zs)))] []) := by
 unfold Z8K
 refine zf (ZhS ..) ?_
 refine ze ?_
 refine zz (.ptr 0 0) [(Zr (Z8.mk 0 0 0 0 0 ([] : List Z7) ([] : List Z8)) .nl .nl)] ?_
 refine ze ?_
 refine zi fun r1 hr1 => ?_
 obtain ⟨qr1, er1, exr1, rfl⟩ := ZcD (x1) .sh r1 hr1
 refine zc [] (.p (.tup [(.lst .sh (r1.1.map Zs)), (.v (.int .i64 r1.2))])) [(Zr (Z8.mk 0 0 0 0 0 ([] : List Z7) ([] : List Z8)) .nl .nl)] er1 ?_
 refine zo (.p (.lst .sh (r1.1.map Zs))) ?_
 refine zo (iv r1.2) ?_
 refine ze ?_
 refine za (x0) ?_ ?_
 ·refine ze ?_
  refine zi fun r2 hr2 => ?_
  obtain ⟨qr2, er2, exr2, rfl⟩ := Z8X (r1.1) .sh r2 hr2
  refine zc [] (.p (.tup [(.lst .sh (r2.1.map Zs)), (.v (.int .i64 r2.2))])) [(Zr (Z8.mk 0 0 0 0 0 ([] : List Z7) ([] : List Z8)) .nl .nl)] er2 ?_
  refine zo (.p (.lst .sh (r2.1.map Zs))) ?_
  refine zo (iv r2.2) ?_
  exact zk (Z8R (r2.1) ((Z8.mk 0 0 0 0 0 ([] : List Z7) ([] : List Z8))) .sh .nl .nl rfl rfl)
 ·exact zk (Z8R (r1.1) ((Z8.mk 0 0 0 0 0 ([] : List Z7) ([] : List Z8))) .sh .nl .nl rfl rfl)
theorem Zdb (x0 : Bool) (x1 : List Z7) {r} (h : Z8K x0 x1 = some r) : Z2u x0 x1 = some r :=
 pick_of (fun _ _ ha hb => RRun.uniq (Zdg) (ha .ex) (hb .ex)) (fun ox1 => Zcy x0 x1 ox1 r h)
noncomputable def Z6o (x0 : List Z7) : Option ((List Z7) × Int) :=
 (Z79 x0).bind fun r1 =>
 some (r1, 0)
theorem Zbv (x0 : List Z7) (ox0 : Own) : Sim (Z5X) (Z6o x0) (Ze3 0 (.p (.lst ox0 (x0.map Zs))) []) := by
 unfold Z6o
 refine zf (ZfJ ..) ?_
 refine ze ?_
 refine zi fun r1 hr1 => ?_
 obtain ⟨qr1, er1, exr1, rfl⟩ := Z98 (x0) .sh r1 hr1
 refine zc [] (.p (.lst .sh (r1.map Zs))) [] er1 ?_
 exact zr ((.p (.tup [(.lst .sh (r1.map Zs)), (.v (.int .i64 0))])), []) ⟨_, rfl⟩
noncomputable def Z8d (x0 : List Z7) : Option ((List Z7) × Int) :=
 (Z30 x0).bind fun r1 =>
 if (r1) = true then
 (some (([] : List Z7), 13))
 else
 (Z6o x0)
theorem Zch (x0 : List Z7) (ox0 : Own) : Sim (Z5X) (Z8d x0) (EE 54 [(.p (.lst ox0 (x0.map Zs)))] []) := by
 unfold Z8d
 refine zf (Zhk ..) ?_
 refine ze ?_
 refine ze ?_
 refine zi fun r1 hr1 => ?_
 obtain ⟨qr1, er1, exr1, rfl⟩ := Z7n (x0) .sh r1 hr1
 refine zc [] (bv r1) [] er1 ?_
 refine za (r1) ?_ ?_
 ·refine ze ?_
  exact zr ((.p (.tup [(.lst .sh []), (.v (.int .i64 13))])), []) ⟨_, rfl⟩
 ·exact zk (Zbv (x0) ox0)
theorem ZcA (x0 : List Z7) {r} (h : Z8d x0 = some r) : Z8e x0 = some r :=
 pick_of (fun _ _ ha hb => RRun.uniq (Zd5) (ha .ex) (hb .ex)) (fun ox0 => Zch x0 ox0 r h)
noncomputable def Z35 (x0 : List Z7) : Option (Bool) :=
 (Z3z x0).bind fun r1 =>
 some ((decide (0 ≤ r1)))
theorem Z73 (x0 : List Z7) (ox0 : Own) : Sim (Z2y) (Z35 x0) (EE 65 [(.p (.lst ox0 (x0.map Zs))), (.clo 66 [] [])] []) := by
 unfold Z35
 refine zf (Zho ..) ?_
 refine ze ?_
 refine ze ?_
 refine zi fun r1 hr1 => ?_
 obtain ⟨qr1, er1, exr1, rfl⟩ := Z86 (x0) .sh r1 hr1
 refine zc [] (iv r1) [] er1 ?_
 refine zo (bv (decide (0 ≤ r1))) ?_
 exact zr ((bv (decide (0 ≤ r1))), []) ⟨_, rfl⟩
theorem Z7l (x0 : List Z7) {r} (h : Z35 x0 = some r) : Z30 x0 = some r :=
 pick_of (fun _ _ ha hb => RRun.uniq (Z7x) (ha .ex) (hb .ex)) (fun ox0 => Z73 x0 ox0 r h)
noncomputable def Z3B (x0 : List Z7) : Option (Int) :=
 Z2A x0 ((x0.length : Int)) 0
theorem Z7K (x0 : List Z7) (ox0 : Own) : Sim (Z1n) (Z3B x0) (EE 73 [(.p (.lst ox0 (x0.map Zs))), (.clo 66 [] [])] []) := by
 unfold Z3B
 refine zf (Zhc ..) ?_
 refine ze ?_
 refine ze ?_
 refine zo (iv (x0.length : Int)) ?_ (Eq.trans (by kernel_rfl) (xlen_of (P := PP) (t := 23) (d := 39) (by kernel_rfl) Zs (shrO ox0) x0))
 exact zk (Z57 (x0) ((x0.length : Int)) (0) ox0)
theorem Z81 (x0 : List Z7) {r} (h : Z3B x0 = some r) : Z3z x0 = some r :=
 pick_of (fun _ _ ha hb => RRun.uniq (Z5D) (ha .ex) (hb .ex)) (fun ox0 => Z7K x0 ox0 r h)
noncomputable def Z2Z (x0 : List Z7) (x7 : Int) (x8 : Int) : Option (Int) :=
 Z2A x0 x7 ((IntKind.i64.wrap (x8 + 1)))
theorem Z6T (x0 : List Z7) (x7 : Int) (x8 : Int) (ox0 : Own) : Sim (Z1n) (Z2Z x0 x7 x8) (ZdQ 0 (.p (.lst ox0 (x0.map Zs))) (.clo 66 [] []) (iv x7) (iv x8) []) := by
 unfold Z2Z
 refine zf (ZfC ..) ?_
 refine ze ?_
 refine zo (iv (IntKind.i64.wrap (x8 + 1))) ?_
 exact zk (Z57 (x0) (x7) ((IntKind.i64.wrap (x8 + 1))) ox0)
noncomputable def Z32 (x0 : List Z7) (x7 : Int) (x8 : Int) : Option (Int) :=
 (lget x0 x8).bind fun a1 =>
 (Z7c a1).bind fun r2 =>
 if (r2) = true then
 (some (x8))
 else
 (Z2Z x0 x7 x8)
theorem Z7f (x0 : List Z7) (x7 : Int) (x8 : Int) (ox0 : Own) : Sim (Z1n) (Z32 x0 x7 x8) (Ze4 0 (.p (.lst ox0 (x0.map Zs))) (.clo 66 [] []) (iv x7) (iv x8) []) := by
 unfold Z32
 refine zf (Zg0 ..) ?_
 refine ze ?_
 refine ze ?_
 refine zi fun a1 ha1 => ?_
 refine zo (.cptr (ZG a1)) ?_ (Eq.trans (by kernel_rfl) (xidx_of (o := (shrO ox0)) (k := .i64) (n := 2) (e := Zs) (cs := Z3w) (fun _ => rfl) (fun _ => rfl) (by decide) ha1))
 refine zo (.p (.agg (ZG a1))) ?_
 refine zi fun r2 hr2 => ?_
 obtain ⟨qr2, er2, exr2, rfl⟩ := Zc4 (a1) r2 hr2
 refine zv [] (bv r2) [] er2 ?_
 refine za (r2) ?_ ?_
 ·refine ze ?_
  exact zr ((iv x8), []) ⟨_, rfl⟩
 ·exact zk (Z6T (x0) (x7) (x8) ox0)
noncomputable def Z4e  : Option (Int) :=
 some ((-1))
theorem Z71  : Sim (Z1n) (Z4e) (Ze1 0  []) := by
 unfold Z4e
 refine zf (ZfH ..) ?_
 refine ze ?_
 exact zr ((iv (-1)), []) ⟨_, rfl⟩
noncomputable def Z2x (x0 : List Z7) (x7 : Int) (x8 : Int) : Option (Int) :=
 if ((decide (x8 < x7))) = true then
 (Z32 x0 x7 x8)
 else
 (Z4e)
theorem Z70 (x0 : List Z7) (x7 : Int) (x8 : Int) (ox0 : Own) : Sim (Z1n) (Z2x x0 x7 x8) (ZaG 0 (.p (.lst ox0 (x0.map Zs))) (.clo 66 [] []) (iv x7) (iv x8) []) := by
 unfold Z2x
 refine zf (Zg2 ..) ?_
 refine ze ?_
 refine zo (bv (decide (x8 < x7))) ?_
 refine za ((decide (x8 < x7))) ?_ ?_
 ·exact zk (Z7f (x0) (x7) (x8) ox0)
 ·exact zk (Z71 )
theorem Z5c (x0 : List Z7) (x7 : Int) (x8 : Int) {r} (h : Z2x x0 x7 x8 = some r) : Z2A x0 x7 x8 = some r :=
 pick_of (fun _ _ ha hb => RRun.uniq (Z5D) (ha .ex) (hb .ex)) (fun ox0 => Z70 x0 x7 x8 ox0 r h)
noncomputable def Z6V (x0 : Z7) : Option (Bool) :=
 (Z4y x0).bind fun r1 =>
 some ((!r1))
theorem ZbB (x0 : Z7) : Sim (Z5U) (Z6V x0) (EE 66 [(.p (.agg (ZG x0)))] []) := by
 unfold Z6V
 refine zf (Zid ..) ?_
 refine ze ?_
 refine zx (.ptr 0 0) [(Z1m x0)] ?_
 refine ze ?_
 refine zo (.p (.agg (ZG x0))) ?_
 refine zi fun r1 hr1 => ?_
 obtain ⟨qr1, er1, exr1, rfl⟩ := Z7t (x0) r1 hr1
 refine zc [] (bv r1) [(Z1m x0)] er1 ?_
 refine zo (bv (!r1)) ?_
 exact zr ((bv (!r1)), [(Z1m x0)]) ⟨_, rfl⟩
theorem Zc5 (x0 : Z7) {r} (h : Z6V x0 = some r) : Z7c x0 = some r :=
 pick_of (fun _ _ ha hb => RRun.uniq (Zcd) (ha ) (hb )) (ZbB x0 r h)
noncomputable def Z5w (x0 : Z7) : Option (Bool) :=
 if ((decide (0 ≤ x0.Lo))) = true then
 (if ((decide (x0.Lo ≤ x0.Hi))) = true then
 (some ((decide (x0.Hi ≤ 1114367))))
 else
 (some (false)))
 else
 (some (false))
theorem Za9 (x0 : Z7) : Sim (Z4z) (Z5w x0) (EE 67 [(.p (.agg (ZG x0)))] []) := by
 unfold Z5w
 refine zf (Zht ..) ?_
 refine ze ?_
 refine zx (.ptr 0 0) [(Z1m x0)] ?_
 refine ze ?_
 refine zo (.ptr 0 0) ?_
 refine zo (iv x0.Lo) ?_
 refine zo (bv (decide (0 ≤ x0.Lo))) ?_
 refine za ((decide (0 ≤ x0.Lo))) ?_ ?_
 ·refine zo (.ptr 0 0) ?_
  refine zo (iv x0.Lo) ?_
  refine zo (.ptr 0 1) ?_
  refine zo (iv x0.Hi) ?_
  refine zo (bv (decide (x0.Lo ≤ x0.Hi))) ?_
  refine za ((decide (x0.Lo ≤ x0.Hi))) ?_ ?_
  ·refine zo (.ptr 0 1) ?_
   refine zo (iv x0.Hi) ?_
   refine zo (bv (decide (x0.Hi ≤ 1114367))) ?_
   exact zr ((bv (decide (x0.Hi ≤ 1114367))), [(Z1m x0)]) ⟨_, rfl⟩
  ·exact zr ((bv false), [(Z1m x0)]) ⟨_, rfl⟩
 ·exact zr ((bv false), [(Z1m x0)]) ⟨_, rfl⟩
theorem Zap (x0 : Z7) {r} (h : Z5w x0 = some r) : Z4y x0 = some r :=
 pick_of (fun _ _ ha hb => RRun.uniq (ZaQ) (ha ) (hb )) (Za9 x0 r h)
noncomputable def Z5E (x0 : List Z7) : Option ((List Z7) × Int) :=
 (Z6p x0).bind fun r1 =>
 some (r1, 0)
theorem Zaq (x0 : List Z7) (ox0 : Own) : Sim (Z55) (Z5E x0) (Zes 0 (.p (.lst ox0 (x0.map Zs))) []) := by
 unfold Z5E
 refine zf (Zgc ..) ?_
 refine ze ?_
 refine zi fun r1 hr1 => ?_
 obtain ⟨qr1, er1, exr1, rfl⟩ := ZbC (x0) .sh r1 hr1
 refine zc [] (.p (.lst .sh (r1.map Zs))) [] er1 ?_
 exact zr ((.p (.tup [(.lst .sh (r1.map Zs)), (.v (.int .i64 0))])), []) ⟨_, rfl⟩
noncomputable def Z6s (x0 : List Z7) : Option ((List Z7) × Int) :=
 (Z3T x0).bind fun r1 =>
 if ((!r1)) = true then
 (some (([] : List Z7), 10))
 else
 (Z5E x0)
theorem Zbs (x0 : List Z7) (ox0 : Own) : Sim (Z55) (Z6s x0) (EE 55 [(.p (.lst ox0 (x0.map Zs)))] []) := by
 unfold Z6s
 refine zf (ZhH ..) ?_
 refine ze ?_
 refine ze ?_
 refine zi fun r1 hr1 => ?_
 obtain ⟨qr1, er1, exr1, rfl⟩ := Z65 (x0) .sh r1 hr1
 refine zc [] (bv r1) [] er1 ?_
 refine zo (bv (!r1)) ?_
 refine za ((!r1)) ?_ ?_
 ·refine ze ?_
  exact zr ((.p (.tup [(.lst .sh []), (.v (.int .i64 10))])), []) ⟨_, rfl⟩
 ·exact zk (Zaq (x0) ox0)
theorem ZbI (x0 : List Z7) {r} (h : Z6s x0 = some r) : Z5A x0 = some r :=
 pick_of (fun _ _ ha hb => RRun.uniq (Zc3) (ha .ex) (hb .ex)) (fun ox0 => Zbs x0 ox0 r h)
noncomputable def Z5C (x0 : List Z7) : Option (Bool) :=
 Z3R ((-2)) x0 ((x0.length : Int)) 0
theorem Zal (x0 : List Z7) (ox0 : Own) : Sim (Z1J) (Z5C x0) (EE 69 [(.p (.lst ox0 (x0.map Zs)))] []) := by
 unfold Z5C
 refine zf (ZhO ..) ?_
 refine ze ?_
 refine ze ?_
 refine ze ?_
 refine zo (iv (x0.length : Int)) ?_ (Eq.trans (by kernel_rfl) (xlen_of (P := PP) (t := 24) (d := 39) (by kernel_rfl) Zs (shrO ox0) x0))
 exact zk (Z6J ((-2)) (x0) ((x0.length : Int)) (0) (shrO ox0))
theorem ZaA (x0 : List Z7) {r} (h : Z5C x0 = some r) : Z3T x0 = some r :=
 pick_of (fun _ _ ha hb => RRun.uniq (Z8f) (ha .ex) (hb .ex)) (fun ox0 => Zal x0 ox0 r h)
noncomputable def Z52  : Option (Bool) :=
 some (false)
theorem Z6t  : Sim (Z1J) (Z52) (ZcF 0  []) := by
 unfold Z52
 refine zf (ZgM ..) ?_
 refine ze ?_
 exact zr ((bv false), []) ⟨_, rfl⟩
noncomputable def Z54 (x3 : Int) (x6 : List Z7) (x7 : Int) (x8 : Int) : Option (Bool) :=
 Z3R x3 x6 x7 ((IntKind.i64.wrap (x8 + 1)))
theorem Z9c (x3 : Int) (x6 : List Z7) (x7 : Int) (x8 : Int) (ox6 : Own) : Sim (Z1J) (Z54 x3 x6 x7 x8) (ZdB 0 (iv x3) (.p (.lst ox6 (x6.map Zs))) (iv x7) (iv x8) []) := by
 unfold Z54
 refine zf (Zge ..) ?_
 refine ze ?_
 refine zo (iv (IntKind.i64.wrap (x8 + 1))) ?_
 exact zk (Z6J (x3) (x6) (x7) ((IntKind.i64.wrap (x8 + 1))) ox6)
noncomputable def Z4Z (x6 : List Z7) (x7 : Int) (x8 : Int) (b0 : Z7) : Option (Bool) :=
 Z54 b0.Hi x6 x7 x8
theorem Z9v (x6 : List Z7) (x7 : Int) (x8 : Int) (b0 : Z7) (ox6 : Own) : Sim (Z1J) (Z4Z x6 x7 x8 b0) (ZdP 0 (.ptr 0 0) (.p (.lst ox6 (x6.map Zs))) (iv x7) (iv x8) [(Z1m b0)]) := by
 unfold Z4Z
 refine zf (Zgt ..) ?_
 refine ze ?_
 refine zo (.ptr 0 1) ?_
 refine zo (iv b0.Hi) ?_
 exact zk (Z9c (b0.Hi) (x6) (x7) (x8) ox6)
noncomputable def Z4V (x3 : Int) (x6 : List Z7) (x7 : Int) (x8 : Int) : Option (Bool) :=
 (lget x6 x8).bind fun a1 =>
 (Z4y a1).bind fun r2 =>
 if ((!r2)) = true then
 (Z52)
 else
 (if ((decide (a1.Lo < (IntKind.i64.wrap (x3 + 2))))) = true then
 (Z52)
 else
 (Z4Z x6 x7 x8 a1))
theorem Z9o (x3 : Int) (x6 : List Z7) (x7 : Int) (x8 : Int) (ox6 : Own) : Sim (Z1J) (Z4V x3 x6 x7 x8) (Zee 0 (iv x3) (.p (.lst ox6 (x6.map Zs))) (iv x7) (iv x8) []) := by
 unfold Z4V
 refine zf (Zfu ..) ?_
 refine ze ?_
 refine zi fun a1 ha1 => ?_
 refine zo (.cptr (ZG a1)) ?_ (Eq.trans (by kernel_rfl) (xidx_of (o := ox6) (k := .i64) (n := 2) (e := Zs) (cs := Z3w) (fun _ => rfl) (fun _ => rfl) (by decide) ha1))
 refine zo (.p (.agg (ZG a1))) ?_
 refine zz (.ptr 0 0) [(Z1m (Z7.mk 0 0))] ?_
 refine zt [(Z1m a1)] ?_
 refine ze ?_
 refine zo (.p (.agg (ZG a1))) ?_
 refine zi fun r2 hr2 => ?_
 obtain ⟨qr2, er2, exr2, rfl⟩ := Z7t (a1) r2 hr2
 refine zc [] (bv r2) [(Z1m a1)] er2 ?_
 refine zo (bv (!r2)) ?_
 refine za ((!r2)) ?_ ?_
 ·exact zk (Z6t )
 ·refine zo (.ptr 0 0) ?_
  refine zo (iv a1.Lo) ?_
  refine zo (iv (IntKind.i64.wrap (x3 + 2))) ?_
  refine zo (bv (decide (a1.Lo < (IntKind.i64.wrap (x3 + 2))))) ?_
  refine za ((decide (a1.Lo < (IntKind.i64.wrap (x3 + 2))))) ?_ ?_
  ·exact zk (Z6t )
  ·exact zk (Z9v (x6) (x7) (x8) (a1) ox6)
noncomputable def Z5W  : Option (Bool) :=
 some (true)
theorem Z9k  : Sim (Z1J) (Z5W) (Ze6 0  []) := by
 unfold Z5W
 refine zf (Zgh ..) ?_
 refine ze ?_
 exact zr ((bv true), []) ⟨_, rfl⟩
noncomputable def Z3S (x3 : Int) (x6 : List Z7) (x7 : Int) (x8 : Int) : Option (Bool) :=
 if ((decide (x8 < x7))) = true then
 (Z4V x3 x6 x7 x8)
 else
 (Z5W)
theorem Z9m (x3 : Int) (x6 : List Z7) (x7 : Int) (x8 : Int) (ox6 : Own) : Sim (Z1J) (Z3S x3 x6 x7 x8) (Zbb 0 (iv x3) (.p (.lst ox6 (x6.map Zs))) (iv x7) (iv x8) []) := by
 unfold Z3S
 refine zf (ZfA ..) ?_
 refine ze ?_
 refine zo (bv (decide (x8 < x7))) ?_
 refine za ((decide (x8 < x7))) ?_ ?_
 ·exact zk (Z9o (x3) (x6) (x7) (x8) ox6)
 ·exact zk (Z9k )
theorem Z6F (x3 : Int) (x6 : List Z7) (x7 : Int) (x8 : Int) {r} (h : Z3S x3 x6 x7 x8 = some r) : Z3R x3 x6 x7 x8 = some r :=
 pick_of (fun _ _ ha hb => RRun.uniq (Z8f) (ha .ex) (hb .ex)) (fun ox6 => Z9m x3 x6 x7 x8 ox6 r h)
noncomputable def Z6n (x0 : List Z7) : Option ((List Z7)) :=
 Z4T (([] : List Z7)) 0 x0 ((x0.length : Int)) 0
theorem Zbt (x0 : List Z7) (ox0 : Own) : Sim (Z29) (Z6n x0) (EE 70 [(.p (.lst ox0 (x0.map Zs)))] []) := by
 unfold Z6n
 refine zf (Zhf ..) ?_
 refine ze ?_
 refine ze ?_
 refine ze ?_
 refine ze ?_
 refine zo (iv (x0.length : Int)) ?_ (Eq.trans (by kernel_rfl) (xlen_of (P := PP) (t := 24) (d := 39) (by kernel_rfl) Zs (shrO ox0) x0))
 exact zk (Z80 (([] : List Z7)) (0) (x0) ((x0.length : Int)) (0) .nl (shrO ox0) rfl)
theorem ZbH (x0 : List Z7) {r} (h : Z6n x0 = some r) : Z6p x0 = some r :=
 pick_of (fun _ _ ha hb => RRun.uniq (Z9b) (ha .ex) (hb .ex)) (fun ox0 => Zbt x0 ox0 r h)
noncomputable def Z5z (x3 : List Z7) (x4 : Int) (x7 : List Z7) (x8 : Int) (x9 : Int) : Option ((List Z7)) :=
 Z4T x3 x4 x7 x8 ((IntKind.i64.wrap (x9 + 1)))
theorem Zat (x3 : List Z7) (x4 : Int) (x7 : List Z7) (x8 : Int) (x9 : Int) (ox3 : Own) (ox7 : Own) (hox3 : okApp ox3 = true) : Sim (Z29) (Z5z x3 x4 x7 x8 x9) (Zdz 0 (.p (.lst ox3 (x3.map Zs))) (iv x4) (.p (.lst ox7 (x7.map Zs))) (iv x8) (iv x9) []) := by
 unfold Z5z
 refine zf (ZfS ..) ?_
 refine ze ?_
 refine zo (iv (IntKind.i64.wrap (x9 + 1))) ?_
 exact zk (Z80 (x3) (x4) (x7) (x8) ((IntKind.i64.wrap (x9 + 1))) ox3 ox7 hox3)
noncomputable def Z42 (x3 : List Z7) (x7 : List Z7) (x8 : Int) (x9 : Int) (b0 : Z7) : Option ((List Z7)) :=
 Z5z x3 ((IntKind.i64.wrap (b0.Hi + 1))) x7 x8 x9
theorem Z7y (x3 : List Z7) (x7 : List Z7) (x8 : Int) (x9 : Int) (b0 : Z7) (ox3 : Own) (ox7 : Own) (hox3 : okApp ox3 = true) : Sim (Z29) (Z42 x3 x7 x8 x9 b0) (ZcN 0 (.p (.lst ox3 (x3.map Zs))) (.ptr 0 0) (.p (.lst ox7 (x7.map Zs))) (iv x8) (iv x9) [(Z1m b0)]) := by
 unfold Z42
 refine zf (ZfO ..) ?_
 refine ze ?_
 refine zo (.ptr 0 1) ?_
 refine zo (iv b0.Hi) ?_
 refine zo (iv (IntKind.i64.wrap (b0.Hi + 1))) ?_
 exact zk (Zat (x3) ((IntKind.i64.wrap (b0.Hi + 1))) (x7) (x8) (x9) ox3 ox7 hox3)
noncomputable def Z5B (x3 : List Z7) (x4 : Int) (x7 : List Z7) (x8 : Int) (x9 : Int) : Option ((List Z7)) :=
 (lget x7 x9).bind fun a1 =>
 if ((decide (x4 < a1.Lo))) = true then
 ((lapp x3 ([(Z7.mk x4 (IntKind.i64.wrap (a1.Lo - 1)))] : List Z7)).bind fun a2 =>
 Z42 a2 x7 x8 x9 a1)
 else
 (Z42 x3 x7 x8 x9 a1)
theorem Zak (x3 : List Z7) (x4 : Int) (x7 : List Z7) (x8 : Int) (x9 : Int) (ox3 : Own) (ox7 : Own) (hox3 : okApp ox3 = true) : Sim (Z29) (Z5B x3 x4 x7 x8 x9) (Zej 0 (.p (.lst ox3 (x3.map Zs))) (iv x4) (.p (.lst ox7 (x7.map Zs))) (iv x8) (iv x9) []) := by
 unfold Z5B
 refine zf (Zgs ..) ?_
 refine ze ?_
 refine zi fun a1 ha1 => ?_
 refine zo (.cptr (ZG a1)) ?_ (Eq.trans (by kernel_rfl) (xidx_of (o := ox7) (k := .i64) (n := 2) (e := Zs) (cs := Z3w) (fun _ => rfl) (fun _ => rfl) (by decide) ha1))
 refine zo (.p (.agg (ZG a1))) ?_
 refine zz (.ptr 0 0) [(Z1m (Z7.mk 0 0))] ?_
 refine zt [(Z1m a1)] ?_
 refine ze ?_
 refine zo (.ptr 0 0) ?_
 refine zo (iv a1.Lo) ?_
 refine zo (bv (decide (x4 < a1.Lo))) ?_
 refine za ((decide (x4 < a1.Lo))) ?_ ?_
 ·refine ze ?_
  refine zo (.ptr 0 0) ?_
  refine zo (iv a1.Lo) ?_
  refine zo (iv (IntKind.i64.wrap (a1.Lo - 1))) ?_
  refine zo (.p (.agg (ZG (Z7.mk x4 (IntKind.i64.wrap (a1.Lo - 1)))))) ?_
  refine zo (.p (.lst .ex (([(Z7.mk x4 (IntKind.i64.wrap (a1.Lo - 1)))] : List Z7).map Zs))) ?_
  refine zi fun a2 ha2 => ?_
  refine zo (.p (.lst .un (a2.map Zs))) ?_ (Eq.trans (by kernel_rfl) <| xapp_of (n := 2) (o := ox3) (o' := .ex) (e := Zs) (ys := ([(Z7.mk x4 (IntKind.i64.wrap (a1.Lo - 1)))] : List Z7)) (fun _ => rfl) (by decide) hox3 ha2)
  exact zk (Z7y (a2) (x7) (x8) (x9) (a1) .un ox7 rfl)
 ·exact zk (Z7y (x3) (x7) (x8) (x9) (a1) ox3 ox7 hox3)
noncomputable def Z3K (x3 : List Z7) : Option ((List Z7)) :=
 some (x3)
theorem Z7g (x3 : List Z7) (ox3 : Own) (hox3 : okApp ox3 = true) : Sim (Z29) (Z3K x3) (ZbQ 0 (.p (.lst ox3 (x3.map Zs))) []) := by
 unfold Z3K
 refine zf (Zf7 ..) ?_
 refine ze ?_
 exact zr ((.p (.lst .sh (x3.map Zs))), []) ⟨_, rfl⟩
noncomputable def Z5v (x3 : List Z7) (x4 : Int) : Option ((List Z7)) :=
 if ((decide (x4 ≤ 1114367))) = true then
 ((lapp x3 ([(Z7.mk x4 1114367)] : List Z7)).bind fun a1 =>
 Z3K a1)
 else
 (Z3K x3)
theorem Z9U (x3 : List Z7) (x4 : Int) (ox3 : Own) (hox3 : okApp ox3 = true) : Sim (Z29) (Z5v x3 x4) (Zd8 0 (.p (.lst ox3 (x3.map Zs))) (iv x4) []) := by
 unfold Z5v
 refine zf (ZeZ ..) ?_
 refine ze ?_
 refine zo (bv (decide (x4 ≤ 1114367))) ?_
 refine za ((decide (x4 ≤ 1114367))) ?_ ?_
 ·refine ze ?_
  refine zo (.p (.agg (ZG (Z7.mk x4 1114367)))) ?_
  refine zo (.p (.lst .ex (([(Z7.mk x4 1114367)] : List Z7).map Zs))) ?_
  refine zi fun a1 ha1 => ?_
  refine zo (.p (.lst .un (a1.map Zs))) ?_ (Eq.trans (by kernel_rfl) <| xapp_of (n := 2) (o := ox3) (o' := .ex) (e := Zs) (ys := ([(Z7.mk x4 1114367)] : List Z7)) (fun _ => rfl) (by decide) hox3 ha1)
  exact zk (Z7g (a1) .un rfl)
 ·exact zk (Z7g (x3) ox3 hox3)
noncomputable def Z4S (x3 : List Z7) (x4 : Int) (x7 : List Z7) (x8 : Int) (x9 : Int) : Option ((List Z7)) :=
 if ((decide (x9 < x8))) = true then
 (Z5B x3 x4 x7 x8 x9)
 else
 (Z5v x3 x4)
theorem Zai (x3 : List Z7) (x4 : Int) (x7 : List Z7) (x8 : Int) (x9 : Int) (ox3 : Own) (ox7 : Own) (hox3 : okApp ox3 = true) : Sim (Z29) (Z4S x3 x4 x7 x8 x9) (ZaS 0 (.p (.lst ox3 (x3.map Zs))) (iv x4) (.p (.lst ox7 (x7.map Zs))) (iv x8) (iv x9) []) := by
 unfold Z4S
 refine zf (ZfN ..) ?_
 refine ze ?_
 refine zo (bv (decide (x9 < x8))) ?_
 refine za ((decide (x9 < x8))) ?_ ?_
 ·exact zk (Zak (x3) (x4) (x7) (x8) (x9) ox3 ox7 hox3)
 ·exact zk (Z9U (x3) (x4) ox3 hox3)
theorem Z7S (x3 : List Z7) (x4 : Int) (x7 : List Z7) (x8 : Int) (x9 : Int) {r} (h : Z4S x3 x4 x7 x8 x9 = some r) : Z4T x3 x4 x7 x8 x9 = some r :=
 pick_of (fun _ _ ha hb => RRun.uniq (Z9b) (ha .ex .ex rfl) (hb .ex .ex rfl)) (fun ox3 ox7 hox3 => Zai x3 x4 x7 x8 x9 ox3 ox7 hox3 r h)
noncomputable def Z3b (x1 : Int) (x5 : Int) (zp : Int) (zh : List Zq) (z1 : Int) (z2 : Int) : Option (Z8 × Int × (List Zq) × Int × Int) :=
 (lapp zh ([(Zq.mk (IntKind.i64.wrap (x5 - 48)) x1)] : List Zq)).bind fun a1 =>
 some ((Z8.mk 6 0 0 0 (IntKind.i64.wrap (x5 - 48)) ([] : List Z7) ([] : List Z8)), zp, a1, z1, z2)
theorem Z8k (x1 : Int) (x5 : Int) (zl : List Int) (zp : Int) (z6 : Int) (zd : Int) (zh : List Zq) (z1 : Int) (z2 : Int) (b1 : Z8) (zn : Own) (zb : Own) (zB : Own) (zy : Own) (zu : okApp zb = true) (zP : okApp zB = true) (zJ : okApp zy = true) : Sim (Z2s zl z6 zd zn) (Z3b x1 x5 zp zh z1 z2) (Zda 1 (.ptr 0 0) (iv x1) (.ptr 1 0) (iv x5) [(Zj (Zk.mk zl zp z6 zd zh (Zi.mk z1 z2)) zn zb), (Zr b1 zB zy)]) := by
 unfold Z3b
 refine zf (Zfm ..) ?_
 refine ze ?_
 refine zo (.ptr 0 0) ?_
 refine zo (.ptr 0 4) ?_
 refine zw (.p (.lst zb (zh.map Z1y))) [(Zj (Zk.mk zl zp z6 zd zh (Zi.mk z1 z2)) zn (shrO zb)), (Zr b1 zB zy)] ?_
 refine zo (iv (IntKind.i64.wrap (x5 - 48))) ?_
 refine zo (.p (.agg (Z7P (Zq.mk (IntKind.i64.wrap (x5 - 48)) x1)))) ?_
 refine zo (.p (.lst .ex (([(Zq.mk (IntKind.i64.wrap (x5 - 48)) x1)] : List Zq).map Z1y))) ?_
 refine zi fun a1 ha1 => ?_
 refine zo (.p (.lst .un (a1.map Z1y))) ?_ (Eq.trans (by kernel_rfl) <| xapp_of (n := 2) (o := zb) (o' := .ex) (e := Z1y) (ys := ([(Zq.mk (IntKind.i64.wrap (x5 - 48)) x1)] : List Zq)) (fun _ => rfl) (by decide) zu ha1)
 refine zo (.ptr 0 0) ?_
 refine zo (.ptr 0 4) ?_
 refine zt [(Zj (Zk.mk zl zp z6 zd a1 (Zi.mk z1 z2)) zn .un), (Zr b1 zB zy)] ?_
 refine ze ?_
 refine zo (iv (IntKind.i64.wrap (x5 - 48))) ?_
 refine zo (.p (.agg (ZE (Z8.mk 6 0 0 0 (IntKind.i64.wrap (x5 - 48)) ([] : List Z7) ([] : List Z8)) .nl .nl))) ?_
 refine zt [(Zj (Zk.mk zl zp z6 zd a1 (Zi.mk z1 z2)) zn .un), (Zr (Z8.mk 6 0 0 0 (IntKind.i64.wrap (x5 - 48)) ([] : List Z7) ([] : List Z8)) .nl .nl)] ?_
 exact zr ((.p (.agg (ZE (Z8.mk 6 0 0 0 (IntKind.i64.wrap (x5 - 48)) ([] : List Z7) ([] : List Z8)) .sh .sh))), [(Zj (Zk.mk zl zp z6 zd a1 (Zi.mk z1 z2)) zn .un), (Zr (Z8.mk 6 0 0 0 (IntKind.i64.wrap (x5 - 48)) ([] : List Z7) ([] : List Z8)) .nl .nl)]) ⟨.un, _, rfl, rfl⟩
noncomputable def Z1Y (x1 : Int) (x5 : Int) (zl : List Int) (zp : Int) (z6 : Int) (zd : Int) (zh : List Zq) (z1 : Int) (z2 : Int) : Option (Z8 × Int × (List Zq) × Int × Int) :=
 (Z4f x5 x1 zl zp z6 zd zh z1 z2).bind fun r1 =>
 (Z1v r1.1).bind fun r2 =>
 (Z2u false (([r2] : List Z7))).bind fun r3 =>
 some (r3, r1.2.1, zh, r1.2.2.1, r1.2.2.2)
theorem Z5H (x1 : Int) (x5 : Int) (zl : List Int) (zp : Int) (z6 : Int) (zd : Int) (zh : List Zq) (z1 : Int) (z2 : Int) (b1 : Z8) (zn : Own) (zb : Own) (zB : Own) (zy : Own) (zu : okApp zb = true) (zP : okApp zB = true) (zJ : okApp zy = true) : Sim (Z2s zl z6 zd zn) (Z1Y x1 x5 zl zp z6 zd zh z1 z2) (ZbT 1 (.ptr 0 0) (iv x1) (.ptr 1 0) (iv x5) [(Zj (Zk.mk zl zp z6 zd zh (Zi.mk z1 z2)) zn zb), (Zr b1 zB zy)]) := by
 unfold Z1Y
 refine zf (Zfa ..) ?_
 refine ze ?_
 refine zi fun r1 hr1 => ?_
 obtain ⟨qr1, er1, exr1, rfl⟩ := Z7i (x5) (x1) (zl) (zp) (z6) (zd) (zh) (z1) (z2) zn zb zu r1 hr1
 refine zc [0] (iv r1.1) [(Zj (Zk.mk zl r1.2.1 z6 zd zh (Zi.mk r1.2.2.1 r1.2.2.2)) zn zb), (Zr b1 zB zy)] er1 ?_
 refine zi fun r2 hr2 => ?_
 obtain ⟨qr2, er2, exr2, rfl⟩ := Z1p (r1.1) r2 hr2
 refine zc [] (.p (.agg (ZG r2))) [(Zj (Zk.mk zl r1.2.1 z6 zd zh (Zi.mk r1.2.2.1 r1.2.2.2)) zn zb), (Zr b1 zB zy)] er2 ?_
 refine zo (.p (.lst .ex (([r2] : List Z7).map Zs))) ?_
 refine zi fun r3 hr3 => ?_
 obtain ⟨qr3, er3, exr3, rfl⟩ := Z2E (false) (([r2] : List Z7)) .sh r3 hr3
 refine zc [] (.p (.agg (ZE r3 .sh .sh))) [(Zj (Zk.mk zl r1.2.1 z6 zd zh (Zi.mk r1.2.2.1 r1.2.2.2)) zn zb), (Zr b1 zB zy)] er3 ?_
 refine zt [(Zj (Zk.mk zl r1.2.1 z6 zd zh (Zi.mk r1.2.2.1 r1.2.2.2)) zn zb), (Zr r3 .sh .sh)] ?_
 exact zr ((.p (.agg (ZE r3 .sh .sh))), [(Zj (Zk.mk zl r1.2.1 z6 zd zh (Zi.mk r1.2.2.1 r1.2.2.2)) zn zb), (Zr r3 .sh .sh)]) ⟨zb, _, zu, rfl⟩
noncomputable def Z27 (x1 : Int) (x5 : Int) (zl : List Int) (zp : Int) (z6 : Int) (zd : Int) (zh : List Zq) (z1 : Int) (z2 : Int) : Option (Z8 × Int × (List Zq) × Int × Int) :=
 (Z1W zl zp).bind fun r1 =>
 (Z4q x5).bind fun r2 =>
 (nilO r2.1 r2.2).bind fun a3 =>
 if ((!a3)) = true then
 ((Z4q x5).bind fun r4 =>
 (Z2u ((decide (x5 < 97))) r4.2).bind fun r5 =>
 some (r5, r1.2, zh, z1, z2))
 else
 (if ((x5 == 98)) = true then
 (some ((Z8.mk 9 0 0 0 2 ([] : List Z7) ([] : List Z8)), r1.2, zh, z1, z2))
 else
 (if ((x5 == 66)) = true then
 (some ((Z8.mk 9 0 0 0 3 ([] : List Z7) ([] : List Z8)), r1.2, zh, z1, z2))
 else
 (if ((decide (49 ≤ x5))) = true then
 (if ((decide (x5 ≤ 57))) = true then
 (Z3b x1 x5 r1.2 zh z1 z2)
 else
 (Z1Y x1 x5 zl r1.2 z6 zd zh z1 z2))
 else
 (Z1Y x1 x5 zl r1.2 z6 zd zh z1 z2))))
theorem Z8u (x1 : Int) (x5 : Int) (zl : List Int) (zp : Int) (z6 : Int) (zd : Int) (zh : List Zq) (z1 : Int) (z2 : Int) (b1 : Z8) (zn : Own) (zb : Own) (zB : Own) (zy : Own) (zu : okApp zb = true) (zP : okApp zB = true) (zJ : okApp zy = true) : Sim (Z2s zl z6 zd zn) (Z27 x1 x5 zl zp z6 zd zh z1 z2) (ZdR 1 (.ptr 0 0) (iv x1) (.ptr 1 0) (iv x5) [(Zj (Zk.mk zl zp z6 zd zh (Zi.mk z1 z2)) zn zb), (Zr b1 zB zy)]) := by
 unfold Z27
 refine zf (Zg7 ..) ?_
 refine ze ?_
 refine zi fun r1 hr1 => ?_
 obtain ⟨qr1, er1, exr1, rfl⟩ := Z2j (zl) (zp) (z6) (zd) (zh) (z1) (z2) zn zb zu r1 hr1
 refine zc [0] (iv r1.1) [(Zj (Zk.mk zl r1.2 z6 zd zh (Zi.mk z1 z2)) zn zb), (Zr b1 zB zy)] er1 ?_
 refine ze ?_
 refine zi fun r2 hr2 => ?_
 obtain ⟨qr2, er2, exr2, rfl⟩ := Z6c (x5) r2 hr2
 refine zc [] (.p (.lst r2.1 (r2.2.map Zs))) [(Zj (Zk.mk zl r1.2 z6 zd zh (Zi.mk z1 z2)) zn zb), (Zr b1 zB zy)] er2 ?_
 refine zi fun a3 ha3 => ?_
 refine zo (bv (!a3)) ?_ (Eq.trans (by kernel_rfl) (xnil_neq (P := PP) (t := 23) (c := .slice none 0 0) (e := Zs) (by kernel_rfl) ha3))
 refine za ((!a3)) ?_ ?_
 ·refine ze ?_
  refine zo (bv (decide (x5 < 97))) ?_
  refine zi fun r4 hr4 => ?_
  obtain ⟨qr4, er4, exr4, rfl⟩ := Z6c (x5) r4 hr4
  refine zc [] (.p (.lst r4.1 (r4.2.map Zs))) [(Zj (Zk.mk zl r1.2 z6 zd zh (Zi.mk z1 z2)) zn zb), (Zr b1 zB zy)] er4 ?_
  refine zi fun r5 hr5 => ?_
  obtain ⟨qr5, er5, exr5, rfl⟩ := Z2E ((decide (x5 < 97))) (r4.2) .sh r5 hr5
  refine zc [] (.p (.agg (ZE r5 .sh .sh))) [(Zj (Zk.mk zl r1.2 z6 zd zh (Zi.mk z1 z2)) zn zb), (Zr b1 zB zy)] er5 ?_
  refine zt [(Zj (Zk.mk zl r1.2 z6 zd zh (Zi.mk z1 z2)) zn zb), (Zr r5 .sh .sh)] ?_
  exact zr ((.p (.agg (ZE r5 .sh .sh))), [(Zj (Zk.mk zl r1.2 z6 zd zh (Zi.mk z1 z2)) zn zb), (Zr r5 .sh .sh)]) ⟨zb, _, zu, rfl⟩
 ·refine ze ?_
  refine zo (bv (x5 == 98)) ?_
  refine za ((x5 == 98)) ?_ ?_
  ·refine ze ?_
   refine zo (.p (.agg (ZE (Z8.mk 9 0 0 0 2 ([] : List Z7) ([] : List Z8)) .nl .nl))) ?_
   refine zt [(Zj (Zk.mk zl r1.2 z6 zd zh (Zi.mk z1 z2)) zn zb), (Zr (Z8.mk 9 0 0 0 2 ([] : List Z7) ([] : List Z8)) .nl .nl)] ?_
   exact zr ((.p (.agg (ZE (Z8.mk 9 0 0 0 2 ([] : List Z7) ([] : List Z8)) .sh .sh))), [(Zj (Zk.mk zl r1.2 z6 zd zh (Zi.mk z1 z2)) zn zb), (Zr (Z8.mk 9 0 0 0 2 ([] : List Z7) ([] : List Z8)) .nl .nl)]) ⟨zb, _, zu, rfl⟩
  ·refine ze ?_
   refine zo (bv (x5 == 66)) ?_
   refine za ((x5 == 66)) ?_ ?_
   ·refine ze ?_
    refine zo (.p (.agg (ZE (Z8.mk 9 0 0 0 3 ([] : List Z7) ([] : List Z8)) .nl .nl))) ?_
    refine zt [(Zj (Zk.mk zl r1.2 z6 zd zh (Zi.mk z1 z2)) zn zb), (Zr (Z8.mk 9 0 0 0 3 ([] : List Z7) ([] : List Z8)) .nl .nl)] ?_
    exact zr ((.p (.agg (ZE (Z8.mk 9 0 0 0 3 ([] : List Z7) ([] : List Z8)) .sh .sh))), [(Zj (Zk.mk zl r1.2 z6 zd zh (Zi.mk z1 z2)) zn zb), (Zr (Z8.mk 9 0 0 0 3 ([] : List Z7) ([] : List Z8)) .nl .nl)]) ⟨zb, _, zu, rfl⟩
   ·refine ze ?_
    refine zo (bv (decide (49 ≤ x5))) ?_
    refine za ((decide (49 ≤ x5))) ?_ ?_
    ·refine zo (bv (decide (x5 ≤ 57))) ?_
     refine za ((decide (x5 ≤ 57))) ?_ ?_
     ·exact zk (Z8k (x1) (x5) (zl) (r1.2) (z6) (zd) (zh) (z1) (z2) (b1) zn zb zB zy zu zP zJ)
     ·exact zk (Z5H (x1) (x5) (zl) (r1.2) (z6) (zd) (zh) (z1) (z2) (b1) zn zb zB zy zu zP zJ)
    ·exact zk (Z5H (x1) (x5) (zl) (r1.2) (z6) (zd) (zh) (z1) (z2) (b1) zn zb zB zy zu zP zJ)
noncomputable def Z3d (x1 : Int) (zl : List Int) (zp : Int) (z6 : Int) (zd : Int) (zh : List Zq) (z1 : Int) (z2 : Int) : Option (Z8 × Int × (List Zq) × Int × Int) :=
 (Z1B ((Zk.mk zl zp z6 zd zh (Zi.mk z1 z2)))).bind fun r1 =>
 if ((decide (r1 < 0))) = true then
 ((ZT 21 x1 zl z1 z2).bind fun r2 =>
 some ((Z8.mk 0 0 0 0 0 ([] : List Z7) ([] : List Z8)), r2.1, zh, r2.2.1, r2.2.2))
 else
 (Z27 x1 r1 zl zp z6 zd zh z1 z2)
theorem Z9i (x1 : Int) (zl : List Int) (zp : Int) (z6 : Int) (zd : Int) (zh : List Zq) (z1 : Int) (z2 : Int) (zn : Own) (zb : Own) (zu : okApp zb = true) : Sim (Z2s zl z6 zd zn) (Z3d x1 zl zp z6 zd zh z1 z2) (EE 49 [(.ptr 0 0), (iv x1)] [(Zj (Zk.mk zl zp z6 zd zh (Zi.mk z1 z2)) zn zb)]) := by
 unfold Z3d
 refine zf (Zh7 ..) ?_
 refine ze ?_
 refine zz (.ptr 1 0) [(Zj (Zk.mk zl zp z6 zd zh (Zi.mk z1 z2)) zn zb), (Zr (Z8.mk 0 0 0 0 0 ([] : List Z7) ([] : List Z8)) .nl .nl)] ?_
 refine ze ?_
 refine zi fun r1 hr1 => ?_
 obtain ⟨qr1, er1, exr1, rfl⟩ := Z1F ((Zk.mk zl zp z6 zd zh (Zi.mk z1 z2))) zn zb zu r1 hr1
 refine zc [0] (iv r1) [(Zj (Zk.mk zl zp z6 zd zh (Zi.mk z1 z2)) zn zb), (Zr (Z8.mk 0 0 0 0 0 ([] : List Z7) ([] : List Z8)) .nl .nl)] er1 ?_
 refine ze ?_
 refine zo (bv (decide (r1 < 0))) ?_
 refine za ((decide (r1 < 0))) ?_ ?_
 ·refine ze ?_
  refine zi fun r2 hr2 => ?_
  obtain ⟨qr2, er2, exr2, rfl⟩ := ZW (21) (x1) (zl) (zp) (z6) (zd) (zh) (z1) (z2) zn zb zu r2 hr2
  refine zc [0] (.p (.tup [])) [(Zj (Zk.mk zl r2.1 z6 zd zh (Zi.mk r2.2.1 r2.2.2)) zn zb), (Zr (Z8.mk 0 0 0 0 0 ([] : List Z7) ([] : List Z8)) .nl .nl)] er2 ?_
  refine ze ?_
  refine zo (.p (.agg (ZE (Z8.mk 0 0 0 0 0 ([] : List Z7) ([] : List Z8)) .nl .nl))) ?_
  refine zt [(Zj (Zk.mk zl r2.1 z6 zd zh (Zi.mk r2.2.1 r2.2.2)) zn zb), (Zr (Z8.mk 0 0 0 0 0 ([] : List Z7) ([] : List Z8)) .nl .nl)] ?_
  exact zr ((.p (.agg (ZE (Z8.mk 0 0 0 0 0 ([] : List Z7) ([] : List Z8)) .sh .sh))), [(Zj (Zk.mk zl r2.1 z6 zd zh (Zi.mk r2.2.1 r2.2.2)) zn zb), (Zr (Z8.mk 0 0 0 0 0 ([] : List Z7) ([] : List Z8)) .nl .nl)]) ⟨zb, _, zu, rfl⟩
 ·exact zk (Z8u (x1) (r1) (zl) (zp) (z6) (zd) (zh) (z1) (z2) ((Z8.mk 0 0 0 0 0 ([] : List Z7) ([] : List Z8))) zn zb .nl .nl zu rfl rfl)
theorem Z9G (x1 : Int) (zl : List Int) (zp : Int) (z6 : Int) (zd : Int) (zh : List Zq) (z1 : Int) (z2 : Int) {r} (h : Z3d x1 zl zp z6 zd zh z1 z2 = some r) : Z2M x1 zl zp z6 zd zh z1 z2 = some r :=
 pick_of (fun _ _ ha hb => RRun.uniq (Za8 _ _ _ _) (ha .ex .ex rfl) (hb .ex .ex rfl)) (fun zn zb zu => Z9i x1 zl zp z6 zd zh z1 z2 zn zb zu r h)
end Go.Proofs.YtadodmjdkphddaaDoor.N2
end
section
set_option linter.unusedSimpArgs false
set_option linter.unusedVariables false
namespace Go.Proofs.YtadodmjdkphddaaDoor.N2
open Go Go.Abs
set_option linter.unusedVariables false
set_option maxRecDepth 100000
noncomputable def Z36 (zl : List Int) (z1 : Int) (z2 : Int) : Option (Int × Int × Int) :=
 some ((zl.length : Int), z1, z2)
theorem Z6h (zl : List Int) (zp : Int) (z6 : Int) (zd : Int) (zh : List Zq) (z1 : Int) (z2 : Int) (zn : Own) (zb : Own) (zu : okApp zb = true) : Sim (Z3L zl z6 zd zh zn zb) (Z36 zl z1 z2) (Zcz 1 (.ptr 0 0) [(Zj (Zk.mk zl zp z6 zd zh (Zi.mk z1 z2)) zn zb)]) := by
 unfold Z36
 refine zf (Zgo ..) ?_
 refine ze ?_
 refine zo (.ptr 0 0) ?_
 refine zo (.ptr 0 0) ?_
 refine zo (.p (.lst (shrO zn) (zl.map (eI .u8)))) ?_
 refine zo (iv (zl.length : Int)) ?_ (Eq.trans (by kernel_rfl) (xlen_of (P := PP) (t := 40) (d := 5) (by kernel_rfl) (eI .u8) (shrO zn) zl))
 refine zo (.ptr 0 0) ?_
 refine zo (.ptr 0 1) ?_
 refine zt [(Zj (Zk.mk zl (zl.length : Int) z6 zd zh (Zi.mk z1 z2)) zn zb)] ?_
 exact zr ((.p (.tup [])), [(Zj (Zk.mk zl (zl.length : Int) z6 zd zh (Zi.mk z1 z2)) zn zb)]) ⟨_, rfl⟩
noncomputable def Z4w (x1 : Int) (x2 : Int) (zl : List Int) (z1 : Int) (z2 : Int) : Option (Int × Int × Int) :=
 if ((z1 == 0)) = true then
 (Z36 zl x1 x2)
 else
 (Z36 zl z1 z2)
theorem Za1 (x1 : Int) (x2 : Int) (zl : List Int) (zp : Int) (z6 : Int) (zd : Int) (zh : List Zq) (z1 : Int) (z2 : Int) (zn : Own) (zb : Own) (zu : okApp zb = true) : Sim (Z3L zl z6 zd zh zn zb) (Z4w x1 x2 zl z1 z2) (EE 29 [(.ptr 0 0), (iv x1), (iv x2)] [(Zj (Zk.mk zl zp z6 zd zh (Zi.mk z1 z2)) zn zb)]) := by
 unfold Z4w
 refine zf (Ziq ..) ?_
 refine ze ?_
 refine zo (.ptr 0 0) ?_
 refine zo (.ptr 0 5) ?_
 refine zo (.ptr 0 5) ?_
 refine zo (iv z1) ?_
 refine zo (bv (z1 == 0)) ?_
 refine za ((z1 == 0)) ?_ ?_
 ·refine ze ?_
  refine zo (.p (.agg (Z16 (Zi.mk x1 x2)))) ?_
  refine zo (.ptr 0 0) ?_
  refine zo (.ptr 0 5) ?_
  refine zt [(Zj (Zk.mk zl zp z6 zd zh (Zi.mk x1 x2)) zn zb)] ?_
  exact zk (Z6h (zl) (zp) (z6) (zd) (zh) (x1) (x2) zn zb zu)
 ·exact zk (Z6h (zl) (zp) (z6) (zd) (zh) (z1) (z2) zn zb zu)
theorem Z7v (x1 : Int) (x2 : Int) (zl : List Int) (z1 : Int) (z2 : Int) {r} (h : Z4w x1 x2 zl z1 z2 = some r) : ZT x1 x2 zl z1 z2 = some r :=
 pick_of (fun _ _ ha hb => RRun.uniq (Zb9 _ _ _ _ _ _) (ha default default default default .ex .ex rfl) (hb default default default default .ex .ex rfl)) (fun zp z6 zd zh zn zb zu => Za1 x1 x2 zl zp z6 zd zh z1 z2 zn zb zu r h)
noncomputable def Z1L  : Option ((Own × (List Z7))) :=
 some ((.nl, ([] : List Z7)))
theorem Z1Z  : Sim (Z4p) (Z1L) (Z6l 0  []) := by
 unfold Z1L
 refine zf (ZeT ..) ?_
 refine ze ?_
 exact zr ((.p (.lst .nl [])), []) ⟨_, rfl⟩
noncomputable def Z2t (x0 : Int) : Option ((Own × (List Z7))) :=
 if ((x0 == 100)) = true then
 (if ((x0 == 100)) = true then
 (some ((.ex, ([(Z7.mk 48 57)] : List Z7))))
 else
 (if ((x0 == 119)) = true then
 (if ((x0 == 119)) = true then
 ((Z1v 95).bind fun r1 =>
 some ((.ex, ([(Z7.mk 48 57), (Z7.mk 65 90), r1, (Z7.mk 97 122)] : List Z7))))
 else
 (if ((x0 == 115)) = true then
 (if ((x0 == 115)) = true then
 ((Z1v 32).bind fun r2 =>
 some ((.ex, ([(Z7.mk 9 13), r2] : List Z7))))
 else
 (Z1L))
 else
 (if ((x0 == 83)) = true then
 ((Z1v 32).bind fun r3 =>
 some ((.ex, ([(Z7.mk 9 13), r3] : List Z7))))
 else
 (Z1L))))
 else
 (if ((x0 == 87)) = true then
 ((Z1v 95).bind fun r4 =>
 some ((.ex, ([(Z7.mk 48 57), (Z7.mk 65 90), r4, (Z7.mk 97 122)] : List Z7))))
 else
 (if ((x0 == 115)) = true then
 (if ((x0 == 115)) = true then
 ((Z1v 32).bind fun r5 =>
 some ((.ex, ([(Z7.mk 9 13), r5] : List Z7))))
 else
 (Z1L))
 else
 (if ((x0 == 83)) = true then
 ((Z1v 32).bind fun r6 =>
 some ((.ex, ([(Z7.mk 9 13), r6] : List Z7))))
 else
 (Z1L))))))
 else
 (if ((x0 == 68)) = true then
 (some ((.ex, ([(Z7.mk 48 57)] : List Z7))))
 else
 (if ((x0 == 119)) = true then
 (if ((x0 == 119)) = true then
 ((Z1v 95).bind fun r7 =>
 some ((.ex, ([(Z7.mk 48 57), (Z7.mk 65 90), r7, (Z7.mk 97 122)] : List Z7))))
 else
 (if ((x0 == 115)) = true then
 (if ((x0 == 115)) = true then
 ((Z1v 32).bind fun r8 =>
 some ((.ex, ([(Z7.mk 9 13), r8] : List Z7))))
 else
 (Z1L))
 else
 (if ((x0 == 83)) = true then
 ((Z1v 32).bind fun r9 =>
 some ((.ex, ([(Z7.mk 9 13), r9] : List Z7))))
 else
 (Z1L))))
 else
 (if ((x0 == 87)) = true then
 ((Z1v 95).bind fun r10 =>
 some ((.ex, ([(Z7.mk 48 57), (Z7.mk 65 90), r10, (Z7.mk 97 122)] : List Z7))))
 else
 (if ((x0 == 115)) = true then
 (if ((x0 == 115)) = true then
 ((Z1v 32).bind fun r11 =>
 some ((.ex, ([(Z7.mk 9 13), r11] : List Z7))))
 else
 (Z1L))
 else
 (if ((x0 == 83)) = true then
 ((Z1v 32).bind fun r12 =>
 some ((.ex, ([(Z7.mk 9 13), r12] : List Z7))))
 else
 (Z1L))))))
theorem ZaT (x0 : Int) : Sim (Z4p) (Z2t x0) (EE 56 [(iv x0)] []) := by
 unfold Z2t
 refine zf (ZhF ..) ?_
 refine ze ?_
 refine ze ?_
 refine ze ?_
 refine zo (bv (x0 == 100)) ?_
 refine za ((x0 == 100)) ?_ ?_
 ·refine za ((x0 == 100)) ?_ ?_
  ·refine ze ?_
   refine zo (.p (.agg (ZG (Z7.mk 48 57)))) ?_
   refine zo (.p (.lst .ex (([(Z7.mk 48 57)] : List Z7).map Zs))) ?_
   exact zr ((.p (.lst .ex (([(Z7.mk 48 57)] : List Z7).map Zs))), []) ⟨_, rfl⟩
  ·refine ze ?_
   refine zo (bv (x0 == 119)) ?_
   refine za ((x0 == 119)) ?_ ?_
   ·refine za ((x0 == 119)) ?_ ?_
    ·refine ze ?_
     refine zo (.p (.agg (ZG (Z7.mk 48 57)))) ?_
     refine zo (.p (.agg (ZG (Z7.mk 65 90)))) ?_
     refine zi fun r1 hr1 => ?_
     obtain ⟨qr1, er1, exr1, rfl⟩ := Z1p (95) r1 hr1
     refine zc [] (.p (.agg (ZG r1))) [] er1 ?_
     refine zo (.p (.agg (ZG (Z7.mk 97 122)))) ?_
     refine zo (.p (.lst .ex (([(Z7.mk 48 57), (Z7.mk 65 90), r1, (Z7.mk 97 122)] : List Z7).map Zs))) ?_
     exact zr ((.p (.lst .ex (([(Z7.mk 48 57), (Z7.mk 65 90), r1, (Z7.mk 97 122)] : List Z7).map Zs))), []) ⟨_, rfl⟩
    ·refine ze ?_
     refine zo (bv (x0 == 115)) ?_
     refine za ((x0 == 115)) ?_ ?_
     ·refine za ((x0 == 115)) ?_ ?_
      ·refine ze ?_
       refine zo (.p (.agg (ZG (Z7.mk 9 13)))) ?_
       refine zi fun r2 hr2 => ?_
       obtain ⟨qr2, er2, exr2, rfl⟩ := Z1p (32) r2 hr2
       refine zc [] (.p (.agg (ZG r2))) [] er2 ?_
       refine zo (.p (.lst .ex (([(Z7.mk 9 13), r2] : List Z7).map Zs))) ?_
       exact zr ((.p (.lst .ex (([(Z7.mk 9 13), r2] : List Z7).map Zs))), []) ⟨_, rfl⟩
      ·exact zk (Z1Z )
     ·refine ze ?_
      refine zo (bv (x0 == 83)) ?_
      refine za ((x0 == 83)) ?_ ?_
      ·refine ze ?_
       refine zo (.p (.agg (ZG (Z7.mk 9 13)))) ?_
       refine zi fun r3 hr3 => ?_
       obtain ⟨qr3, er3, exr3, rfl⟩ := Z1p (32) r3 hr3
       refine zc [] (.p (.agg (ZG r3))) [] er3 ?_
       refine zo (.p (.lst .ex (([(Z7.mk 9 13), r3] : List Z7).map Zs))) ?_
       exact zr ((.p (.lst .ex (([(Z7.mk 9 13), r3] : List Z7).map Zs))), []) ⟨_, rfl⟩
      ·exact zk (Z1Z )
   ·refine ze ?_
    refine zo (bv (x0 == 87)) ?_
    refine za ((x0 == 87)) ?_ ?_
    ·refine ze ?_
     refine zo (.p (.agg (ZG (Z7.mk 48 57)))) ?_
     refine zo (.p (.agg (ZG (Z7.mk 65 90)))) ?_
     refine zi fun r4 hr4 => ?_
     obtain ⟨qr4, er4, exr4, rfl⟩ := Z1p (95) r4 hr4
     refine zc [] (.p (.agg (ZG r4))) [] er4 ?_
     refine zo (.p (.agg (ZG (Z7.mk 97 122)))) ?_
     refine zo (.p (.lst .ex (([(Z7.mk 48 57), (Z7.mk 65 90), r4, (Z7.mk 97 122)] : List Z7).map Zs))) ?_
     exact zr ((.p (.lst .ex (([(Z7.mk 48 57), (Z7.mk 65 90), r4, (Z7.mk 97 122)] : List Z7).map Zs))), []) ⟨_, rfl⟩
    ·refine ze ?_
     refine zo (bv (x0 == 115)) ?_
     refine za ((x0 == 115)) ?_ ?_
     ·refine za ((x0 == 115)) ?_ ?_
      ·refine ze ?_
       refine zo (.p (.agg (ZG (Z7.mk 9 13)))) ?_
       refine zi fun r5 hr5 => ?_
       obtain ⟨qr5, er5, exr5, rfl⟩ := Z1p (32) r5 hr5
       refine zc [] (.p (.agg (ZG r5))) [] er5 ?_
       refine zo (.p (.lst .ex (([(Z7.mk 9 13), r5] : List Z7).map Zs))) ?_
       exact zr ((.p (.lst .ex (([(Z7.mk 9 13), r5] : List Z7).map Zs))), []) ⟨_, rfl⟩
      ·exact zk (Z1Z )
     ·refine ze ?_
      refine zo (bv (x0 == 83)) ?_
      refine za ((x0 == 83)) ?_ ?_
      ·refine ze ?_
       refine zo (.p (.agg (ZG (Z7.mk 9 13)))) ?_
       refine zi fun r6 hr6 => ?_
       obtain ⟨qr6, er6, exr6, rfl⟩ := Z1p (32) r6 hr6
       refine zc [] (.p (.agg (ZG r6))) [] er6 ?_
       refine zo (.p (.lst .ex (([(Z7.mk 9 13), r6] : List Z7).map Zs))) ?_
       exact zr ((.p (.lst .ex (([(Z7.mk 9 13), r6] : List Z7).map Zs))), []) ⟨_, rfl⟩
      ·exact zk (Z1Z )
 ·refine ze ?_
  refine zo (bv (x0 == 68)) ?_
  refine za ((x0 == 68)) ?_ ?_
  ·refine ze ?_
   refine zo (.p (.agg (ZG (Z7.mk 48 57)))) ?_
   refine zo (.p (.lst .ex (([(Z7.mk 48 57)] : List Z7).map Zs))) ?_
   exact zr ((.p (.lst .ex (([(Z7.mk 48 57)] : List Z7).map Zs))), []) ⟨_, rfl⟩
  ·refine ze ?_
   refine zo (bv (x0 == 119)) ?_
   refine za ((x0 == 119)) ?_ ?_
   ·refine za ((x0 == 119)) ?_ ?_
    ·refine ze ?_
     refine zo (.p (.agg (ZG (Z7.mk 48 57)))) ?_
     refine zo (.p (.agg (ZG (Z7.mk 65 90)))) ?_
     refine zi fun r7 hr7 => ?_
     obtain ⟨qr7, er7, exr7, rfl⟩ := Z1p (95) r7 hr7
     refine zc [] (.p (.agg (ZG r7))) [] er7 ?_
     refine zo (.p (.agg (ZG (Z7.mk 97 122)))) ?_
     refine zo (.p (.lst .ex (([(Z7.mk 48 57), (Z7.mk 65 90), r7, (Z7.mk 97 122)] : List Z7).map Zs))) ?_
     exact zr ((.p (.lst .ex (([(Z7.mk 48 57), (Z7.mk 65 90), r7, (Z7.mk 97 122)] : List Z7).map Zs))), []) ⟨_, rfl⟩
    ·refine ze ?_
     refine zo (bv (x0 == 115)) ?_
     refine za ((x0 == 115)) ?_ ?_
     ·refine za ((x0 == 115)) ?_ ?_
      ·refine ze ?_
       refine zo (.p (.agg (ZG (Z7.mk 9 13)))) ?_
       refine zi fun r8 hr8 => ?_
       obtain ⟨qr8, er8, exr8, rfl⟩ := Z1p (32) r8 hr8
       refine zc [] (.p (.agg (ZG r8))) [] er8 ?_
       refine zo (.p (.lst .ex (([(Z7.mk 9 13), r8] : List Z7).map Zs))) ?_
       exact zr ((.p (.lst .ex (([(Z7.mk 9 13), r8] : List Z7).map Zs))), []) ⟨_, rfl⟩
      ·exact zk (Z1Z )
     ·refine ze ?_
      refine zo (bv (x0 == 83)) ?_
      refine za ((x0 == 83)) ?_ ?_
      ·refine ze ?_
       refine zo (.p (.agg (ZG (Z7.mk 9 13)))) ?_
       refine zi fun r9 hr9 => ?_
       obtain ⟨qr9, er9, exr9, rfl⟩ := Z1p (32) r9 hr9
       refine zc [] (.p (.agg (ZG r9))) [] er9 ?_
       refine zo (.p (.lst .ex (([(Z7.mk 9 13), r9] : List Z7).map Zs))) ?_
       exact zr ((.p (.lst .ex (([(Z7.mk 9 13), r9] : List Z7).map Zs))), []) ⟨_, rfl⟩
      ·exact zk (Z1Z )
   ·refine ze ?_
    refine zo (bv (x0 == 87)) ?_
    refine za ((x0 == 87)) ?_ ?_
    ·refine ze ?_
     refine zo (.p (.agg (ZG (Z7.mk 48 57)))) ?_
     refine zo (.p (.agg (ZG (Z7.mk 65 90)))) ?_
     refine zi fun r10 hr10 => ?_
     obtain ⟨qr10, er10, exr10, rfl⟩ := Z1p (95) r10 hr10
     refine zc [] (.p (.agg (ZG r10))) [] er10 ?_
     refine zo (.p (.agg (ZG (Z7.mk 97 122)))) ?_
     refine zo (.p (.lst .ex (([(Z7.mk 48 57), (Z7.mk 65 90), r10, (Z7.mk 97 122)] : List Z7).map Zs))) ?_
     exact zr ((.p (.lst .ex (([(Z7.mk 48 57), (Z7.mk 65 90), r10, (Z7.mk 97 122)] : List Z7).map Zs))), []) ⟨_, rfl⟩
    ·refine ze ?_
     refine zo (bv (x0 == 115)) ?_
     refine za ((x0 == 115)) ?_ ?_
     ·refine za ((x0 == 115)) ?_ ?_
      ·refine ze ?_
       refine zo (.p (.agg (ZG (Z7.mk 9 13)))) ?_
       refine zi fun r11 hr11 => ?_
       obtain ⟨qr11, er11, exr11, rfl⟩ := Z1p (32) r11 hr11
       refine zc [] (.p (.agg (ZG r11))) [] er11 ?_
       refine zo (.p (.lst .ex (([(Z7.mk 9 13), r11] : List Z7).map Zs))) ?_
       exact zr ((.p (.lst .ex (([(Z7.mk 9 13), r11] : List Z7).map Zs))), []) ⟨_, rfl⟩
      ·exact zk (Z1Z )
     ·refine ze ?_
      refine zo (bv (x0 == 83)) ?_
      refine za ((x0 == 83)) ?_ ?_
      ·refine ze ?_
       refine zo (.p (.agg (ZG (Z7.mk 9 13)))) ?_
       refine zi fun r12 hr12 => ?_
       obtain ⟨qr12, er12, exr12, rfl⟩ := Z1p (32) r12 hr12
       refine zc [] (.p (.agg (ZG r12))) [] er12 ?_
       refine zo (.p (.lst .ex (([(Z7.mk 9 13), r12] : List Z7).map Zs))) ?_
       exact zr ((.p (.lst .ex (([(Z7.mk 9 13), r12] : List Z7).map Zs))), []) ⟨_, rfl⟩
      ·exact zk (Z1Z )
theorem Zbf (x0 : Int) {r} (h : Z2t x0 = some r) : Z4q x0 = some r :=
 pick_of (fun _ _ ha hb => RRun.uniq (Zbu) (ha ) (hb )) (ZaT x0 r h)
noncomputable def Z1R (x2 : Int) (zl : List Int) (z1 : Int) (z2 : Int) : Option (Int × Int × Int × Int) :=
 (ZT 21 x2 zl z1 z2).bind fun r1 =>
 some (0, r1.1, r1.2.1, r1.2.2)
theorem Z2P (x2 : Int) (zl : List Int) (zp : Int) (z6 : Int) (zd : Int) (zh : List Zq) (z1 : Int) (z2 : Int) (zn : Own) (zb : Own) (zu : okApp zb = true) : Sim (Z2X zl z6 zd zh zn zb) (Z1R x2 zl z1 z2) (Z8z 1 (.ptr 0 0) (iv x2) [(Zj (Zk.mk zl zp z6 zd zh (Zi.mk z1 z2)) zn zb)]) := by
 unfold Z1R
 refine zf (Zfk ..) ?_
 refine ze ?_
 refine zi fun r1 hr1 => ?_
 obtain ⟨qr1, er1, exr1, rfl⟩ := ZW (21) (x2) (zl) (zp) (z6) (zd) (zh) (z1) (z2) zn zb zu r1 hr1
 refine zc [0] (.p (.tup [])) [(Zj (Zk.mk zl r1.1 z6 zd zh (Zi.mk r1.2.1 r1.2.2)) zn zb)] er1 ?_
 refine ze ?_
 exact zr ((iv 0), [(Zj (Zk.mk zl r1.1 z6 zd zh (Zi.mk r1.2.1 r1.2.2)) zn zb)]) ⟨_, rfl⟩
noncomputable def Z5o (x1 : Int) (zp : Int) (z1 : Int) (z2 : Int) : Option (Int × Int × Int × Int) :=
 some (x1, zp, z1, z2)
theorem Z8A (x1 : Int) (zl : List Int) (zp : Int) (z6 : Int) (zd : Int) (zh : List Zq) (z1 : Int) (z2 : Int) (zn : Own) (zb : Own) (zu : okApp zb = true) : Sim (Z2X zl z6 zd zh zn zb) (Z5o x1 zp z1 z2) (Zd4 1 (iv x1) [(Zj (Zk.mk zl zp z6 zd zh (Zi.mk z1 z2)) zn zb)]) := by
 unfold Z5o
 refine zf (Zfe ..) ?_
 refine ze ?_
 exact zr ((iv x1), [(Zj (Zk.mk zl zp z6 zd zh (Zi.mk z1 z2)) zn zb)]) ⟨_, rfl⟩
noncomputable def Z5g (x1 : Int) (x2 : Int) (zl : List Int) (zp : Int) (z6 : Int) (zd : Int) (zh : List Zq) (z1 : Int) (z2 : Int) : Option (Int × Int × Int × Int) :=
 if ((x1 == 110)) = true then
 (some (10, zp, z1, z2))
 else
 (if ((x1 == 116)) = true then
 (some (9, zp, z1, z2))
 else
 (if ((x1 == 114)) = true then
 (some (13, zp, z1, z2))
 else
 (if ((x1 == 120)) = true then
 ((Z1B ((Zk.mk zl zp z6 zd zh (Zi.mk z1 z2)))).bind fun r1 =>
 (Z7z r1).bind fun r2 =>
 if ((decide (0 ≤ r2))) = true then
 ((Z1W zl zp).bind fun r3 =>
 (Z1B ((Zk.mk zl r3.2 z6 zd zh (Zi.mk z1 z2)))).bind fun r4 =>
 (Z7z r4).bind fun r5 =>
 if ((decide (0 ≤ r5))) = true then
 ((Z1W zl r3.2).bind fun r6 =>
 some ((IntKind.i64.wrap ((IntKind.i64.wrap (16 * r2)) + r5)), r6.2, z1, z2))
 else
 (Z1R x2 zl z1 z2))
 else
 (Z1R x2 zl z1 z2))
 else
 (if ((decide (32 < x1))) = true then
 (if ((decide (x1 < 127))) = true then
 ((Z4X (([(Z7.mk 48 57), (Z7.mk 65 90), (Z7.mk 97 122)] : List Z7)) x1).bind fun r7 =>
 if ((!r7)) = true then
 (Z5o x1 zp z1 z2)
 else
 (Z1R x2 zl z1 z2))
 else
 (Z1R x2 zl z1 z2))
 else
 (Z1R x2 zl z1 z2)))))
theorem Z9Q (x1 : Int) (x2 : Int) (zl : List Int) (zp : Int) (z6 : Int) (zd : Int) (zh : List Zq) (z1 : Int) (z2 : Int) (zn : Own) (zb : Own) (zu : okApp zb = true) : Sim (Z2X zl z6 zd zh zn zb) (Z5g x1 x2 zl zp z6 zd zh z1 z2) (EE 57 [(.ptr 0 0), (iv x1), (iv x2)] [(Zj (Zk.mk zl zp z6 zd zh (Zi.mk z1 z2)) zn zb)]) := by
 unfold Z5g
 refine zf (Zim ..) ?_
 refine ze ?_
 refine ze ?_
 refine zo (bv (x1 == 110)) ?_
 refine za ((x1 == 110)) ?_ ?_
 ·refine ze ?_
  exact zr ((iv 10), [(Zj (Zk.mk zl zp z6 zd zh (Zi.mk z1 z2)) zn zb)]) ⟨_, rfl⟩
 ·refine ze ?_
  refine zo (bv (x1 == 116)) ?_
  refine za ((x1 == 116)) ?_ ?_
  ·refine ze ?_
   exact zr ((iv 9), [(Zj (Zk.mk zl zp z6 zd zh (Zi.mk z1 z2)) zn zb)]) ⟨_, rfl⟩
  ·refine ze ?_
   refine zo (bv (x1 == 114)) ?_
   refine za ((x1 == 114)) ?_ ?_
   ·refine ze ?_
    exact zr ((iv 13), [(Zj (Zk.mk zl zp z6 zd zh (Zi.mk z1 z2)) zn zb)]) ⟨_, rfl⟩
   ·refine ze ?_
    refine zo (bv (x1 == 120)) ?_
    refine za ((x1 == 120)) ?_ ?_
    ·refine ze ?_
     refine zi fun r1 hr1 => ?_
     obtain ⟨qr1, er1, exr1, rfl⟩ := Z1F ((Zk.mk zl zp z6 zd zh (Zi.mk z1 z2))) zn zb zu r1 hr1
     refine zc [0] (iv r1) [(Zj (Zk.mk zl zp z6 zd zh (Zi.mk z1 z2)) zn zb)] er1 ?_
     refine zi fun r2 hr2 => ?_
     obtain ⟨qr2, er2, exr2, rfl⟩ := Zb6 (r1) r2 hr2
     refine zc [] (iv r2) [(Zj (Zk.mk zl zp z6 zd zh (Zi.mk z1 z2)) zn zb)] er2 ?_
     refine ze ?_
     refine zo (bv (decide (0 ≤ r2))) ?_
     refine za ((decide (0 ≤ r2))) ?_ ?_
     ·refine ze ?_
      refine zi fun r3 hr3 => ?_
      obtain ⟨qr3, er3, exr3, rfl⟩ := Z2j (zl) (zp) (z6) (zd) (zh) (z1) (z2) zn zb zu r3 hr3
      refine zc [0] (iv r3.1) [(Zj (Zk.mk zl r3.2 z6 zd zh (Zi.mk z1 z2)) zn zb)] er3 ?_
      refine ze ?_
      refine zi fun r4 hr4 => ?_
      obtain ⟨qr4, er4, exr4, rfl⟩ := Z1F ((Zk.mk zl r3.2 z6 zd zh (Zi.mk z1 z2))) zn zb zu r4 hr4
      refine zc [0] (iv r4) [(Zj (Zk.mk zl r3.2 z6 zd zh (Zi.mk z1 z2)) zn zb)] er4 ?_
      refine zi fun r5 hr5 => ?_
      obtain ⟨qr5, er5, exr5, rfl⟩ := Zb6 (r4) r5 hr5
      refine zc [] (iv r5) [(Zj (Zk.mk zl r3.2 z6 zd zh (Zi.mk z1 z2)) zn zb)] er5 ?_
      refine ze ?_
      refine zo (bv (decide (0 ≤ r5))) ?_
      refine za ((decide (0 ≤ r5))) ?_ ?_
      ·refine ze ?_
       refine zi fun r6 hr6 => ?_
       obtain ⟨qr6, er6, exr6, rfl⟩ := Z2j (zl) (r3.2) (z6) (zd) (zh) (z1) (z2) zn zb zu r6 hr6
       refine zc [0] (iv r6.1) [(Zj (Zk.mk zl r6.2 z6 zd zh (Zi.mk z1 z2)) zn zb)] er6 ?_
       refine ze ?_
       refine zo (iv (IntKind.i64.wrap (16 * r2))) ?_
       refine zo (iv (IntKind.i64.wrap ((IntKind.i64.wrap (16 * r2)) + r5))) ?_
       exact zr ((iv (IntKind.i64.wrap ((IntKind.i64.wrap (16 * r2)) + r5))), [(Zj (Zk.mk zl r6.2 z6 zd zh (Zi.mk z1 z2)) zn zb)]) ⟨_, rfl⟩
      ·exact zk (Z2P (x2) (zl) (r3.2) (z6) (zd) (zh) (z1) (z2) zn zb zu)
     ·exact zk (Z2P (x2) (zl) (zp) (z6) (zd) (zh) (z1) (z2) zn zb zu)
    ·refine ze ?_
     refine zo (bv (decide (32 < x1))) ?_
     refine za ((decide (32 < x1))) ?_ ?_
     ·refine zo (bv (decide (x1 < 127))) ?_
      refine za ((decide (x1 < 127))) ?_ ?_
      ·refine zo (.p (.agg (ZG (Z7.mk 48 57)))) ?_
       refine zo (.p (.agg (ZG (Z7.mk 65 90)))) ?_
       refine zo (.p (.agg (ZG (Z7.mk 97 122)))) ?_
       refine zo (.p (.lst .ex (([(Z7.mk 48 57), (Z7.mk 65 90), (Z7.mk 97 122)] : List Z7).map Zs))) ?_
       refine zi fun r7 hr7 => ?_
       obtain ⟨qr7, er7, exr7, rfl⟩ := Z8Y (([(Z7.mk 48 57), (Z7.mk 65 90), (Z7.mk 97 122)] : List Z7)) (x1) .sh r7 hr7
       refine zc [] (bv r7) [(Zj (Zk.mk zl zp z6 zd zh (Zi.mk z1 z2)) zn zb)] er7 ?_
       refine zo (bv (!r7)) ?_
       refine za ((!r7)) ?_ ?_
       ·exact zk (Z8A (x1) (zl) (zp) (z6) (zd) (zh) (z1) (z2) zn zb zu)
       ·exact zk (Z2P (x2) (zl) (zp) (z6) (zd) (zh) (z1) (z2) zn zb zu)
      ·exact zk (Z2P (x2) (zl) (zp) (z6) (zd) (zh) (z1) (z2) zn zb zu)
     ·exact zk (Z2P (x2) (zl) (zp) (z6) (zd) (zh) (z1) (z2) zn zb zu)
theorem Z9W (x1 : Int) (x2 : Int) (zl : List Int) (zp : Int) (z6 : Int) (zd : Int) (zh : List Zq) (z1 : Int) (z2 : Int) {r} (h : Z5g x1 x2 zl zp z6 zd zh z1 z2 = some r) : Z4f x1 x2 zl zp z6 zd zh z1 z2 = some r :=
 pick_of (fun _ _ ha hb => RRun.uniq (Zam _ _ _ _ _ _) (ha .ex .ex rfl) (hb .ex .ex rfl)) (fun zn zb zu => Z9Q x1 x2 zl zp z6 zd zh z1 z2 zn zb zu r h)
noncomputable def Z7a (x0 : Int) : Option (Int) :=
 some ((IntKind.i64.wrap (x0 - 48)))
theorem ZbE (x0 : Int) : Sim (Z4N) (Z7a x0) (Zer 0 (iv x0) []) := by
 unfold Z7a
 refine zf (ZgA ..) ?_
 refine ze ?_
 refine zo (iv (IntKind.i64.wrap (x0 - 48))) ?_
 exact zr ((iv (IntKind.i64.wrap (x0 - 48))), []) ⟨_, rfl⟩
noncomputable def Z6R (x0 : Int) : Option (Int) :=
 some ((IntKind.i64.wrap ((IntKind.i64.wrap (x0 - 97)) + 10)))
theorem ZbA (x0 : Int) : Sim (Z4N) (Z6R x0) (ZdC 0 (iv x0) []) := by
 unfold Z6R
 refine zf (Zfx ..) ?_
 refine ze ?_
 refine zo (iv (IntKind.i64.wrap (x0 - 97))) ?_
 refine zo (iv (IntKind.i64.wrap ((IntKind.i64.wrap (x0 - 97)) + 10))) ?_
 exact zr ((iv (IntKind.i64.wrap ((IntKind.i64.wrap (x0 - 97)) + 10))), []) ⟨_, rfl⟩
noncomputable def Z62  : Option (Int) :=
 some ((-1))
theorem Z8Z  : Sim (Z4N) (Z62) (ZcM 0  []) := by
 unfold Z62
 refine zf (Zgv ..) ?_
 refine ze ?_
 exact zr ((iv (-1)), []) ⟨_, rfl⟩
noncomputable def Z5Y (x0 : Int) : Option (Int) :=
 if ((decide (97 ≤ x0))) = true then
 (if ((decide (x0 ≤ 102))) = true then
 (Z6R x0)
 else
 (Z62))
 else
 (Z62)
theorem Z90 (x0 : Int) : Sim (Z4N) (Z5Y x0) (ZcG 0 (iv x0) []) := by
 unfold Z5Y
 refine zf (ZfV ..) ?_
 refine ze ?_
 refine zo (bv (decide (97 ≤ x0))) ?_
 refine za ((decide (97 ≤ x0))) ?_ ?_
 ·refine zo (bv (decide (x0 ≤ 102))) ?_
  refine za ((decide (x0 ≤ 102))) ?_ ?_
  ·exact zk (ZbA (x0))
  ·exact zk (Z8Z )
 ·exact zk (Z8Z )
noncomputable def Z8I (x0 : Int) : Option (Int) :=
 if ((decide (48 ≤ x0))) = true then
 (if ((decide (x0 ≤ 57))) = true then
 (Z7a x0)
 else
 (Z5Y x0))
 else
 (Z5Y x0)
theorem Zcu (x0 : Int) : Sim (Z4N) (Z8I x0) (EE 71 [(iv x0)] []) := by
 unfold Z8I
 refine zf (Zi2 ..) ?_
 refine ze ?_
 refine ze ?_
 refine zo (bv (decide (48 ≤ x0))) ?_
 refine za ((decide (48 ≤ x0))) ?_ ?_
 ·refine zo (bv (decide (x0 ≤ 57))) ?_
  refine za ((decide (x0 ≤ 57))) ?_ ?_
  ·exact zk (ZbE (x0))
  ·exact zk (Z90 (x0))
 ·exact zk (Z90 (x0))
theorem ZcT (x0 : Int) {r} (h : Z8I x0 = some r) : Z7z x0 = some r :=
 pick_of (fun _ _ ha hb => RRun.uniq (Zdf) (ha ) (hb )) (Zcu x0 r h)
noncomputable def Z6r (x0 : List Z7) (x1 : Int) : Option (Bool) :=
 (Z2Y x0 x1).bind fun r1 =>
 some (r1)
theorem Zbx (x0 : List Z7) (x1 : Int) (ox0 : Own) : Sim (Z5G) (Z6r x0 x1) (EE 19 [(.p (.lst ox0 (x0.map Zs))), (iv x1)] []) := by
 unfold Z6r
 refine zf (ZhM ..) ?_
 refine ze ?_
 refine zx (.ptr 0 0) [[(iv x1)]] ?_
 refine ze ?_
 refine zi fun r1 hr1 => ?_
 obtain ⟨qr1, er1, exr1, rfl⟩ := Z7k (x0) (x1) .sh r1 hr1
 refine zc [0] (bv r1) [[(iv x1)]] er1 ?_
 exact zr ((bv r1), [[(iv x1)]]) ⟨_, rfl⟩
theorem ZbO (x0 : List Z7) (x1 : Int) {r} (h : Z6r x0 x1 = some r) : Z4X x0 x1 = some r :=
 pick_of (fun _ _ ha hb => RRun.uniq (Zc8) (ha .ex) (hb .ex)) (fun ox0 => Zbx x0 x1 ox0 r h)
noncomputable def Z33 (x0 : List Z7) (zZ : Int) : Option (Bool) :=
 (Z3A x0 zZ).bind fun r1 =>
 some ((decide (0 ≤ r1)))
theorem Z77 (x0 : List Z7) (zZ : Int) (ox0 : Own) : Sim (Z2z zZ) (Z33 x0 zZ) (EE 30 [(.p (.lst ox0 (x0.map Zs))), (.clo 31 [] [(.ptr 0 0)])] [[(iv zZ)]]) := by
 unfold Z33
 refine zf (Zhz ..) ?_
 refine ze ?_
 refine ze ?_
 refine zi fun r1 hr1 => ?_
 obtain ⟨qr1, er1, exr1, rfl⟩ := Z84 (x0) (zZ) .sh r1 hr1
 refine zc [0] (iv r1) [[(iv zZ)]] er1 ?_
 refine zo (bv (decide (0 ≤ r1))) ?_
 exact zr ((bv (decide (0 ≤ r1))), [[(iv zZ)]]) ⟨_, rfl⟩
theorem Z7o (x0 : List Z7) (zZ : Int) {r} (h : Z33 x0 zZ = some r) : Z2Y x0 zZ = some r :=
 pick_of (fun _ _ ha hb => RRun.uniq (Z7r _) (ha .ex) (hb .ex)) (fun ox0 => Z77 x0 zZ ox0 r h)
noncomputable def Z3C (x0 : List Z7) (zZ : Int) : Option (Int) :=
 Z2B x0 ((x0.length : Int)) 0 zZ
theorem Z7N (x0 : List Z7) (zZ : Int) (ox0 : Own) : Sim (Z1j zZ) (Z3C x0 zZ) (EE 37 [(.p (.lst ox0 (x0.map Zs))), (.clo 31 [] [(.ptr 0 0)])] [[(iv zZ)]]) := by
 unfold Z3C
 refine zf (Zhp ..) ?_
 refine ze ?_
 refine ze ?_
 refine zo (iv (x0.length : Int)) ?_ (Eq.trans (by kernel_rfl) (xlen_of (P := PP) (t := 24) (d := 39) (by kernel_rfl) Zs (shrO ox0) x0))
 exact zk (Z59 (x0) ((x0.length : Int)) (0) (zZ) ox0)
theorem Z83 (x0 : List Z7) (zZ : Int) {r} (h : Z3C x0 zZ = some r) : Z3A x0 zZ = some r :=
 pick_of (fun _ _ ha hb => RRun.uniq (Z5F _) (ha .ex) (hb .ex)) (fun ox0 => Z7N x0 zZ ox0 r h)
noncomputable def Z34 (x0 : List Z7) (x7 : Int) (x8 : Int) (zZ : Int) : Option (Int) :=
 Z2B x0 x7 ((IntKind.i64.wrap (x8 + 1))) zZ
theorem Z6Y (x0 : List Z7) (x7 : Int) (x8 : Int) (zZ : Int) (ox0 : Own) : Sim (Z1j zZ) (Z34 x0 x7 x8 zZ) (Zey 1 (.p (.lst ox0 (x0.map Zs))) (.clo 31 [] [(.ptr 0 0)]) (iv x7) (iv x8) [[(iv zZ)]]) := by
 unfold Z34
 refine zf (ZgD ..) ?_
 refine ze ?_
 refine zo (iv (IntKind.i64.wrap (x8 + 1))) ?_
 exact zk (Z59 (x0) (x7) ((IntKind.i64.wrap (x8 + 1))) (zZ) ox0)
noncomputable def Z2w (x0 : List Z7) (x7 : Int) (x8 : Int) (zZ : Int) : Option (Int) :=
 (lget x0 x8).bind fun a1 =>
 (Z5K a1 zZ).bind fun r2 =>
 if (r2) = true then
 (some (x8))
 else
 (Z34 x0 x7 x8 zZ)
theorem Z6W (x0 : List Z7) (x7 : Int) (x8 : Int) (zZ : Int) (ox0 : Own) : Sim (Z1j zZ) (Z2w x0 x7 x8 zZ) (Zdp 1 (.p (.lst ox0 (x0.map Zs))) (.clo 31 [] [(.ptr 0 0)]) (iv x7) (iv x8) [[(iv zZ)]]) := by
 unfold Z2w
 refine zf (Zgf ..) ?_
 refine ze ?_
 refine ze ?_
 refine zi fun a1 ha1 => ?_
 refine zo (.cptr (ZG a1)) ?_ (Eq.trans (by kernel_rfl) (xidx_of (o := (shrO ox0)) (k := .i64) (n := 2) (e := Zs) (cs := Z3w) (fun _ => rfl) (fun _ => rfl) (by decide) ha1))
 refine zo (.p (.agg (ZG a1))) ?_
 refine zi fun r2 hr2 => ?_
 obtain ⟨qr2, er2, exr2, rfl⟩ := Zbn (a1) (zZ) r2 hr2
 refine zv [0] (bv r2) [[(iv zZ)]] er2 ?_
 refine za (r2) ?_ ?_
 ·refine ze ?_
  exact zr ((iv x8), [[(iv zZ)]]) ⟨_, rfl⟩
 ·exact zk (Z6Y (x0) (x7) (x8) (zZ) ox0)
noncomputable def Z4d  : Option (Int) :=
 some ((-1))
theorem Z7e (zZ : Int) : Sim (Z1j zZ) (Z4d) (ZdI 1  [[(iv zZ)]]) := by
 unfold Z4d
 refine zf (Zfy ..) ?_
 refine ze ?_
 exact zr ((iv (-1)), [[(iv zZ)]]) ⟨_, rfl⟩
noncomputable def Z25 (x0 : List Z7) (x7 : Int) (x8 : Int) (zZ : Int) : Option (Int) :=
 if ((decide (x8 < x7))) = true then
 (Z2w x0 x7 x8 zZ)
 else
 (Z4d)
theorem Z6Z (x0 : List Z7) (x7 : Int) (x8 : Int) (zZ : Int) (ox0 : Own) : Sim (Z1j zZ) (Z25 x0 x7 x8 zZ) (ZaP 1 (.p (.lst ox0 (x0.map Zs))) (.clo 31 [] [(.ptr 0 0)]) (iv x7) (iv x8) [[(iv zZ)]]) := by
 unfold Z25
 refine zf (Zgr ..) ?_
 refine ze ?_
 refine zo (bv (decide (x8 < x7))) ?_
 refine za ((decide (x8 < x7))) ?_ ?_
 ·exact zk (Z6W (x0) (x7) (x8) (zZ) ox0)
 ·exact zk (Z7e (zZ))
theorem Z3H (x0 : List Z7) (x7 : Int) (x8 : Int) (zZ : Int) {r} (h : Z25 x0 x7 x8 zZ = some r) : Z2B x0 x7 x8 zZ = some r :=
 pick_of (fun _ _ ha hb => RRun.uniq (Z5F _) (ha .ex) (hb .ex)) (fun ox0 => Z6Z x0 x7 x8 zZ ox0 r h)
noncomputable def Z5Q (x0 : Z7) (zZ : Int) : Option (Bool) :=
 if ((decide (x0.Lo ≤ zZ))) = true then
 (some ((decide (zZ ≤ x0.Hi))))
 else
 (some (false))
theorem ZaU (x0 : Z7) (zZ : Int) : Sim (Z5a zZ) (Z5Q x0 zZ) (EE 31 [(.p (.agg (ZG x0))), (.ptr 0 0)] [[(iv zZ)]]) := by
 unfold Z5Q
 refine zf (Zh9 ..) ?_
 refine ze ?_
 refine zx (.ptr 1 0) [[(iv zZ)], (Z1m x0)] ?_
 refine ze ?_
 refine zo (.ptr 1 0) ?_
 refine zo (iv x0.Lo) ?_
 refine zo (iv zZ) ?_
 refine zo (bv (decide (x0.Lo ≤ zZ))) ?_
 refine za ((decide (x0.Lo ≤ zZ))) ?_ ?_
 ·refine zo (iv zZ) ?_
  refine zo (.ptr 1 1) ?_
  refine zo (iv x0.Hi) ?_
  refine zo (bv (decide (zZ ≤ x0.Hi))) ?_
  exact zr ((bv (decide (zZ ≤ x0.Hi))), [[(iv zZ)], (Z1m x0)]) ⟨_, rfl⟩
 ·exact zr ((bv false), [[(iv zZ)], (Z1m x0)]) ⟨_, rfl⟩
theorem Zbd (x0 : Z7) (zZ : Int) {r} (h : Z5Q x0 zZ = some r) : Z5K x0 zZ = some r :=
 pick_of (fun _ _ ha hb => RRun.uniq (Zbz _) (ha ) (hb )) (ZaU x0 zZ r h)
noncomputable def Z4o (x1 : Int) (zl : List Int) (zp : Int) (z6 : Int) (zd : Int) (zh : List Zq) (z1 : Int) (z2 : Int) : Option (Z8 × Int × Int × Int) :=
 (Z14 ((ByteArray.mk #[94])) zl zp).bind fun r1 =>
 Z2C x1 r1.1 0 zl r1.2 z6 zd zh z1 z2 (([] : List Z7))
theorem Z9I (x1 : Int) (zl : List Int) (zp : Int) (z6 : Int) (zd : Int) (zh : List Zq) (z1 : Int) (z2 : Int) (zn : Own) (zb : Own) (zu : okApp zb = true) : Sim (Z18 zl z6 zd zh zn zb) (Z4o x1 zl zp z6 zd zh z1 z2) (EE 50 [(.ptr 0 0), (iv x1)] [(Zj (Zk.mk zl zp z6 zd zh (Zi.mk z1 z2)) zn zb)]) := by
 unfold Z4o
 refine zf (Zh8 ..) ?_
 refine ze ?_
 refine zz (.ptr 1 0) [(Zj (Zk.mk zl zp z6 zd zh (Zi.mk z1 z2)) zn zb), (Zr (Z8.mk 0 0 0 0 0 ([] : List Z7) ([] : List Z8)) .nl .nl)] ?_
 refine ze ?_
 refine zi fun r1 hr1 => ?_
 obtain ⟨qr1, er1, exr1, rfl⟩ := Z1a ((ByteArray.mk #[94])) (zl) (zp) (z6) (zd) (zh) (z1) (z2) zn zb zu r1 hr1
 refine zc [0] (bv r1.1) [(Zj (Zk.mk zl r1.2 z6 zd zh (Zi.mk z1 z2)) zn zb), (Zr (Z8.mk 0 0 0 0 0 ([] : List Z7) ([] : List Z8)) .nl .nl)] er1 ?_
 refine ze ?_
 refine zz (.ptr 2 0) [(Zj (Zk.mk zl r1.2 z6 zd zh (Zi.mk z1 z2)) zn zb), (Zr (Z8.mk 0 0 0 0 0 ([] : List Z7) ([] : List Z8)) .nl .nl), [(.p (.lst .nl []))]] ?_
 refine ze ?_
 refine ze ?_
 exact zk (Z6i (x1) (r1.1) (0) (zl) (r1.2) (z6) (zd) (zh) (z1) (z2) ((Z8.mk 0 0 0 0 0 ([] : List Z7) ([] : List Z8))) (([] : List Z7)) zn zb .nl .nl .nl zu rfl rfl)
theorem Z9T (x1 : Int) (zl : List Int) (zp : Int) (z6 : Int) (zd : Int) (zh : List Zq) (z1 : Int) (z2 : Int) {r} (h : Z4o x1 zl zp z6 zd zh z1 z2 = some r) : Z5h x1 zl zp z6 zd zh z1 z2 = some r :=
 pick_of (fun _ _ ha hb => RRun.uniq (Z7w _ _ _ _ _ _) (ha .ex .ex rfl) (hb .ex .ex rfl)) (fun zn zb zu => Z9I x1 zl zp z6 zd zh z1 z2 zn zb zu r h)
noncomputable def Z1b (x1 : Int) (x5 : Bool) (x8 : Int) (zl : List Int) (zp : Int) (z6 : Int) (zd : Int) (zh : List Zq) (z1 : Int) (z2 : Int) (z11 : List Z7) : Option (Z8 × Int × Int × Int) :=
 Z2C x1 x5 ((IntKind.i64.wrap (x8 + 1))) zl zp z6 zd zh z1 z2 z11
theorem Z1D (x1 : Int) (x5 : Bool) (x8 : Int) (zl : List Int) (zp : Int) (z6 : Int) (zd : Int) (zh : List Zq) (z1 : Int) (z2 : Int) (b1 : Z8) (z11 : List Z7) (zn : Own) (zb : Own) (zB : Own) (zy : Own) (z1c : Own) (zu : okApp zb = true) (zP : okApp zB = true) (zJ : okApp zy = true) : Sim (Z18 zl z6 zd zh zn zb) (Z1b x1 x5 x8 zl zp z6 zd zh z1 z2 z11) (Z6P 1 (.ptr 0 0) (iv x1) (.ptr 1 0) (bv x5) (.ptr 2 0) (.clo 58 [] [(.ptr 2 0)]) (iv x8) [(Zj (Zk.mk zl zp z6 zd zh (Zi.mk z1 z2)) zn zb), (Zr b1 zB zy), [(.p (.lst z1c (z11.map Zs)))]]) := by
 unfold Z1b
 refine zf (ZgH ..) ?_
 refine ze ?_
 refine zo (iv (IntKind.i64.wrap (x8 + 1))) ?_
 exact zk (Z6i (x1) (x5) ((IntKind.i64.wrap (x8 + 1))) (zl) (zp) (z6) (zd) (zh) (z1) (z2) (b1) (z11) zn zb zB zy z1c zu zP zJ)
noncomputable def Z3o (zp : Int) (z1 : Int) (z2 : Int) (z11 : List Z7) : Option (Z8 × Int × Int × Int) :=
 some ((Z8.mk 1 0 0 0 0 z11 ([] : List Z8)), zp, z1, z2)
theorem Z5R (zl : List Int) (zp : Int) (z6 : Int) (zd : Int) (zh : List Zq) (z1 : Int) (z2 : Int) (b1 : Z8) (z11 : List Z7) (zn : Own) (zb : Own) (zB : Own) (zy : Own) (z1c : Own) (zu : okApp zb = true) (zP : okApp zB = true) (zJ : okApp zy = true) : Sim (Z18 zl z6 zd zh zn zb) (Z3o zp z1 z2 z11) (ZbR 1 (.ptr 1 0) (.ptr 2 0) [(Zj (Zk.mk zl zp z6 zd zh (Zi.mk z1 z2)) zn zb), (Zr b1 zB zy), [(.p (.lst z1c (z11.map Zs)))]]) := by
 unfold Z3o
 refine zf (ZeV ..) ?_
 refine ze ?_
 refine zo (.p (.lst (shrO z1c) (z11.map Zs))) ?_
 refine zo (.p (.agg (ZE (Z8.mk 1 0 0 0 0 z11 ([] : List Z8)) (shrO (shrO z1c)) .nl))) ?_
 refine zt [(Zj (Zk.mk zl zp z6 zd zh (Zi.mk z1 z2)) zn zb), (Zr (Z8.mk 1 0 0 0 0 z11 ([] : List Z8)) (shrO (shrO z1c)) .nl), [(.p (.lst z1c (z11.map Zs)))]] ?_
 exact zr ((.p (.agg (ZE (Z8.mk 1 0 0 0 0 z11 ([] : List Z8)) .sh .sh))), [(Zj (Zk.mk zl zp z6 zd zh (Zi.mk z1 z2)) zn zb), (Zr (Z8.mk 1 0 0 0 0 z11 ([] : List Z8)) (shrO (shrO z1c)) .nl), [(.p (.lst z1c (z11.map Zs)))]]) ⟨_, rfl⟩
noncomputable def Z4m (x5 : Bool) (zl : List Int) (zp : Int) (z1 : Int) (z2 : Int) (z11 : List Z7) : Option (Z8 × Int × Int × Int) :=
 (Z1W zl zp).bind fun r1 =>
 if (x5) = true then
 ((Z5A z11).bind fun r2 =>
 Z3o r1.2 z1 z2 r2.1)
 else
 (Z3o r1.2 z1 z2 z11)
theorem Z8y (x5 : Bool) (zl : List Int) (zp : Int) (z6 : Int) (zd : Int) (zh : List Zq) (z1 : Int) (z2 : Int) (b1 : Z8) (z11 : List Z7) (zn : Own) (zb : Own) (zB : Own) (zy : Own) (z1c : Own) (zu : okApp zb = true) (zP : okApp zB = true) (zJ : okApp zy = true) : Sim (Z18 zl z6 zd zh zn zb) (Z4m x5 zl zp z1 z2 z11) (ZcQ 1 (.ptr 0 0) (.ptr 1 0) (bv x5) (.ptr 2 0) [(Zj (Zk.mk zl zp z6 zd zh (Zi.mk z1 z2)) zn zb), (Zr b1 zB zy), [(.p (.lst z1c (z11.map Zs)))]]) := by
 unfold Z4m
 refine zf (Zf6 ..) ?_
 refine ze ?_
 refine zi fun r1 hr1 => ?_
 obtain ⟨qr1, er1, exr1, rfl⟩ := Z2j (zl) (zp) (z6) (zd) (zh) (z1) (z2) zn zb zu r1 hr1
 refine zc [0] (iv r1.1) [(Zj (Zk.mk zl r1.2 z6 zd zh (Zi.mk z1 z2)) zn zb), (Zr b1 zB zy), [(.p (.lst z1c (z11.map Zs)))]] er1 ?_
 refine ze ?_
 refine za (x5) ?_ ?_
 ·refine ze ?_
  refine zo (.p (.lst (shrO z1c) (z11.map Zs))) ?_
  refine zi fun r2 hr2 => ?_
  obtain ⟨qr2, er2, exr2, rfl⟩ := Z8X (z11) .sh r2 hr2
  refine zc [] (.p (.tup [(.lst .sh (r2.1.map Zs)), (.v (.int .i64 r2.2))])) [(Zj (Zk.mk zl r1.2 z6 zd zh (Zi.mk z1 z2)) zn zb), (Zr b1 zB zy), [(.p (.lst z1c (z11.map Zs)))]] er2 ?_
  refine zo (.p (.lst .sh (r2.1.map Zs))) ?_
  refine zo (iv r2.2) ?_
  refine zt [(Zj (Zk.mk zl r1.2 z6 zd zh (Zi.mk z1 z2)) zn zb), (Zr b1 zB zy), [(.p (.lst .sh (r2.1.map Zs)))]] ?_
  exact zk (Z5R (zl) (r1.2) (z6) (zd) (zh) (z1) (z2) (b1) (r2.1) zn zb zB zy .sh zu zP zJ)
 ·exact zk (Z5R (zl) (r1.2) (z6) (zd) (zh) (z1) (z2) (b1) (z11) zn zb zB zy z1c zu zP zJ)
noncomputable def Z2p (x1 : Int) (x5 : Bool) (x8 : Int) (x9 : Int) (zl : List Int) (z6 : Int) (zd : Int) (zh : List Zq) (z1 : Int) (z2 : Int) (z11 : List Z7) : Option (Z8 × Int × Int × Int) :=
 (ZT 22 x9 zl z1 z2).bind fun r1 =>
 Z1b x1 x5 x8 zl r1.1 z6 zd zh r1.2.1 r1.2.2 z11
theorem Z3D (x1 : Int) (x5 : Bool) (x8 : Int) (x9 : Int) (zl : List Int) (zp : Int) (z6 : Int) (zd : Int) (zh : List Zq) (z1 : Int) (z2 : Int) (b1 : Z8) (z11 : List Z7) (zn : Own) (zb : Own) (zB : Own) (zy : Own) (z1c : Own) (zu : okApp zb = true) (zP : okApp zB = true) (zJ : okApp zy = true) : Sim (Z18 zl z6 zd zh zn zb) (Z2p x1 x5 x8 x9 zl z6 zd zh z1 z2 z11) (Z9y 1 (.ptr 0 0) (iv x1) (.ptr 1 0) (bv x5) (.ptr 2 0) (.clo 58 [] [(.ptr 2 0)]) (iv x8) (iv x9) [(Zj (Zk.mk zl zp z6 zd zh (Zi.mk z1 z2)) zn zb), (Zr b1 zB zy), [(.p (.lst z1c (z11.map Zs)))]]) := by
 unfold Z2p
 refine zf (ZeO ..) ?_
 refine ze ?_
 refine zi fun r1 hr1 => ?_
 obtain ⟨qr1, er1, exr1, rfl⟩ := ZW (22) (x9) (zl) (zp) (z6) (zd) (zh) (z1) (z2) zn zb zu r1 hr1
 refine zc [0] (.p (.tup [])) [(Zj (Zk.mk zl r1.1 z6 zd zh (Zi.mk r1.2.1 r1.2.2)) zn zb), (Zr b1 zB zy), [(.p (.lst z1c (z11.map Zs)))]] er1 ?_
 exact zk (Z1D (x1) (x5) (x8) (zl) (r1.1) (z6) (zd) (zh) (r1.2.1) (r1.2.2) (b1) (z11) zn zb zB zy z1c zu zP zJ)
noncomputable def Z1x (x1 : Int) (x5 : Bool) (x8 : Int) (x11 : Int) (x15 : Int) (zl : List Int) (zp : Int) (z6 : Int) (zd : Int) (zh : List Zq) (z1 : Int) (z2 : Int) (z11 : List Z7) : Option (Z8 × Int × Int × Int) :=
 if ((z1 == 0)) = true then
 ((Z3O (([(Z7.mk x11 x15)] : List Z7)) z11).bind fun r1 =>
 Z1b x1 x5 x8 zl zp z6 zd zh z1 z2 r1)
 else
 (Z1b x1 x5 x8 zl zp z6 zd zh z1 z2 z11)
theorem Z3s (x1 : Int) (x5 : Bool) (x8 : Int) (x11 : Int) (x15 : Int) (zl : List Int) (zp : Int) (z6 : Int) (zd : Int) (zh : List Zq) (z1 : Int) (z2 : Int) (b1 : Z8) (z11 : List Z7) (zn : Own) (zb : Own) (zB : Own) (zy : Own) (z1c : Own) (zu : okApp zb = true) (zP : okApp zB = true) (zJ : okApp zy = true) : Sim (Z18 zl z6 zd zh zn zb) (Z1x x1 x5 x8 x11 x15 zl zp z6 zd zh z1 z2 z11) (Z9x 1 (.ptr 0 0) (iv x1) (.ptr 1 0) (bv x5) (.ptr 2 0) (.clo 58 [] [(.ptr 2 0)]) (iv x8) (iv x11) (iv x15) [(Zj (Zk.mk zl zp z6 zd zh (Zi.mk z1 z2)) zn zb), (Zr b1 zB zy), [(.p (.lst z1c (z11.map Zs)))]]) := by
 unfold Z1x
 refine zf (Zff ..) ?_
 refine ze ?_
 refine zo (.ptr 0 0) ?_
 refine zo (.ptr 0 5) ?_
 refine zo (.ptr 0 5) ?_
 refine zo (iv z1) ?_
 refine zo (bv (z1 == 0)) ?_
 refine za ((z1 == 0)) ?_ ?_
 ·refine ze ?_
  refine zo (.p (.agg (ZG (Z7.mk x11 x15)))) ?_
  refine zo (.p (.lst .ex (([(Z7.mk x11 x15)] : List Z7).map Zs))) ?_
  refine zi fun r1 hr1 => ?_
  obtain ⟨qr1, er1, or1_0_0, exr1, rfl⟩ := Z6q (([(Z7.mk x11 x15)] : List Z7)) (z11) .sh z1c r1 hr1
  refine zv [2] (.p (.tup [])) [(Zj (Zk.mk zl zp z6 zd zh (Zi.mk z1 z2)) zn zb), (Zr b1 zB zy), [(.p (.lst or1_0_0 (r1.map Zs)))]] er1 ?_
  exact zk (Z1D (x1) (x5) (x8) (zl) (zp) (z6) (zd) (zh) (z1) (z2) (b1) (r1) zn zb zB zy or1_0_0 zu zP zJ)
 ·exact zk (Z1D (x1) (x5) (x8) (zl) (zp) (z6) (zd) (zh) (z1) (z2) (b1) (z11) zn zb zB zy z1c zu zP zJ)
noncomputable def Z2Q (x1 : Int) (x5 : Bool) (x8 : Int) (x9 : Int) (x11 : Int) (x15 : Int) (zl : List Int) (z6 : Int) (zd : Int) (zh : List Zq) (z1 : Int) (z2 : Int) (z11 : List Z7) : Option (Z8 × Int × Int × Int) :=
 (ZT 22 x9 zl z1 z2).bind fun r1 =>
 Z1x x1 x5 x8 x11 x15 zl r1.1 z6 zd zh r1.2.1 r1.2.2 z11
theorem Z5T (x1 : Int) (x5 : Bool) (x8 : Int) (x9 : Int) (x11 : Int) (x15 : Int) (zl : List Int) (zp : Int) (z6 : Int) (zd : Int) (zh : List Zq) (z1 : Int) (z2 : Int) (b1 : Z8) (z11 : List Z7) (zn : Own) (zb : Own) (zB : Own) (zy : Own) (z1c : Own) (zu : okApp zb = true) (zP : okApp zB = true) (zJ : okApp zy = true) : Sim (Z18 zl z6 zd zh zn zb) (Z2Q x1 x5 x8 x9 x11 x15 zl z6 zd zh z1 z2 z11) (Zc0 1 (.ptr 0 0) (iv x1) (.ptr 1 0) (bv x5) (.ptr 2 0) (.clo 58 [] [(.ptr 2 0)]) (iv x8) (iv x9) (iv x11) (iv x15) [(Zj (Zk.mk zl zp z6 zd zh (Zi.mk z1 z2)) zn zb), (Zr b1 zB zy), [(.p (.lst z1c (z11.map Zs)))]]) := by
 unfold Z2Q
 refine zf (Zfb ..) ?_
 refine ze ?_
 refine zi fun r1 hr1 => ?_
 obtain ⟨qr1, er1, exr1, rfl⟩ := ZW (22) (x9) (zl) (zp) (z6) (zd) (zh) (z1) (z2) zn zb zu r1 hr1
 refine zc [0] (.p (.tup [])) [(Zj (Zk.mk zl r1.1 z6 zd zh (Zi.mk r1.2.1 r1.2.2)) zn zb), (Zr b1 zB zy), [(.p (.lst z1c (z11.map Zs)))]] er1 ?_
 exact zk (Z3s (x1) (x5) (x8) (x11) (x15) (zl) (r1.1) (z6) (zd) (zh) (r1.2.1) (r1.2.2) (b1) (z11) zn zb zB zy z1c zu zP zJ)
noncomputable def Z4j (x1 : Int) (x5 : Bool) (x8 : Int) (x9 : Int) (x11 : Int) (zl : List Int) (zp : Int) (z6 : Int) (zd : Int) (zh : List Zq) (z1 : Int) (z2 : Int) (z11 : List Z7) : Option (Z8 × Int × Int × Int) :=
 (Z3f zl zp z6 zd zh z1 z2).bind fun r1 =>
 if ((r1.2.2.2.2.1 == 0)) = true then
 ((nilO (shrO (shrO (shrO (shrO r1.2.1.1)))) r1.2.1.2).bind fun a2 =>
 if ((!a2)) = true then
 (Z2Q x1 x5 x8 x9 x11 r1.1 zl z6 zd zh r1.2.2.2.2.1 r1.2.2.2.2.2 z11)
 else
 (if ((decide (r1.1 < x11))) = true then
 (Z2Q x1 x5 x8 x9 x11 r1.1 zl z6 zd zh r1.2.2.2.2.1 r1.2.2.2.2.2 z11)
 else
 (Z1x x1 x5 x8 x11 r1.1 zl r1.2.2.2.1 z6 zd zh r1.2.2.2.2.1 r1.2.2.2.2.2 z11)))
 else
 (Z1x x1 x5 x8 x11 r1.1 zl r1.2.2.2.1 z6 zd zh r1.2.2.2.2.1 r1.2.2.2.2.2 z11)
theorem Z8s (x1 : Int) (x5 : Bool) (x8 : Int) (x9 : Int) (x11 : Int) (zl : List Int) (zp : Int) (z6 : Int) (zd : Int) (zh : List Zq) (z1 : Int) (z2 : Int) (b1 : Z8) (z11 : List Z7) (zn : Own) (zb : Own) (zB : Own) (zy : Own) (z1c : Own) (zu : okApp zb = true) (zP : okApp zB = true) (zJ : okApp zy = true) : Sim (Z18 zl z6 zd zh zn zb) (Z4j x1 x5 x8 x9 x11 zl zp z6 zd zh z1 z2 z11) (ZcY 1 (.ptr 0 0) (iv x1) (.ptr 1 0) (bv x5) (.ptr 2 0) (.clo 58 [] [(.ptr 2 0)]) (iv x8) (iv x9) (iv x11) [(Zj (Zk.mk zl zp z6 zd zh (Zi.mk z1 z2)) zn zb), (Zr b1 zB zy), [(.p (.lst z1c (z11.map Zs)))]]) := by
 unfold Z4j
 refine zf (Zfj ..) ?_
 refine ze ?_
 refine zi fun r1 hr1 => ?_
 obtain ⟨qr1, er1, exr1, rfl⟩ := Z6O (zl) (zp) (z6) (zd) (zh) (z1) (z2) zn zb zu r1 hr1
 refine zc [0] (.p (.tup [(.v (.int .i64 r1.1)), (.lst r1.2.1.1 (r1.2.1.2.map Zs)), (.v (.bool r1.2.2.1))])) [(Zj (Zk.mk zl r1.2.2.2.1 z6 zd zh (Zi.mk r1.2.2.2.2.1 r1.2.2.2.2.2)) zn zb), (Zr b1 zB zy), [(.p (.lst z1c (z11.map Zs)))]] er1 ?_
 refine zo (iv r1.1) ?_
 refine zo (.p (.lst (shrO r1.2.1.1) (r1.2.1.2.map Zs))) ?_
 refine zo (bv r1.2.2.1) ?_
 refine ze ?_
 refine zo (.ptr 0 0) ?_
 refine zo (.ptr 0 5) ?_
 refine zo (.ptr 0 5) ?_
 refine zo (iv r1.2.2.2.2.1) ?_
 refine zo (bv (r1.2.2.2.2.1 == 0)) ?_
 refine za ((r1.2.2.2.2.1 == 0)) ?_ ?_
 ·refine zi fun a2 ha2 => ?_
  refine zo (bv (!a2)) ?_ (Eq.trans (by kernel_rfl) (xnil_neq (P := PP) (t := 23) (c := .slice none 0 0) (e := Zs) (by kernel_rfl) ha2))
  refine za ((!a2)) ?_ ?_
  ·exact zk (Z5T (x1) (x5) (x8) (x9) (x11) (r1.1) (zl) (r1.2.2.2.1) (z6) (zd) (zh) (r1.2.2.2.2.1) (r1.2.2.2.2.2) (b1) (z11) zn zb zB zy z1c zu zP zJ)
  ·refine zo (bv (decide (r1.1 < x11))) ?_
   refine za ((decide (r1.1 < x11))) ?_ ?_
   ·exact zk (Z5T (x1) (x5) (x8) (x9) (x11) (r1.1) (zl) (r1.2.2.2.1) (z6) (zd) (zh) (r1.2.2.2.2.1) (r1.2.2.2.2.2) (b1) (z11) zn zb zB zy z1c zu zP zJ)
   ·exact zk (Z3s (x1) (x5) (x8) (x11) (r1.1) (zl) (r1.2.2.2.1) (z6) (zd) (zh) (r1.2.2.2.2.1) (r1.2.2.2.2.2) (b1) (z11) zn zb zB zy z1c zu zP zJ)
 ·exact zk (Z3s (x1) (x5) (x8) (x11) (r1.1) (zl) (r1.2.2.2.1) (z6) (zd) (zh) (r1.2.2.2.2.1) (r1.2.2.2.2.2) (b1) (z11) zn zb zB zy z1c zu zP zJ)
noncomputable def Z3r (x1 : Int) (x5 : Bool) (x8 : Int) (x9 : Int) (x11 : Int) (zl : List Int) (zp : Int) (z6 : Int) (zd : Int) (zh : List Zq) (z1 : Int) (z2 : Int) (z11 : List Z7) : Option (Z8 × Int × Int × Int) :=
 (Z14 ((ByteArray.mk #[45])) zl zp).bind fun r1 =>
 if (r1.1) = true then
 ((Z1B ((Zk.mk zl r1.2 z6 zd zh (Zi.mk z1 z2)))).bind fun r2 =>
 if ((r2 == 93)) = true then
 (Z2p x1 x5 x8 x9 zl z6 zd zh z1 z2 z11)
 else
 (if ((r2 == 91)) = true then
 (Z2p x1 x5 x8 x9 zl z6 zd zh z1 z2 z11)
 else
 (if ((r2 == 45)) = true then
 (Z2p x1 x5 x8 x9 zl z6 zd zh z1 z2 z11)
 else
 (if ((decide (r2 < 0))) = true then
 (Z2p x1 x5 x8 x9 zl z6 zd zh z1 z2 z11)
 else
 (Z4j x1 x5 x8 x9 x11 zl r1.2 z6 zd zh z1 z2 z11)))))
 else
 (Z1x x1 x5 x8 x11 x11 zl r1.2 z6 zd zh z1 z2 z11)
theorem Z8G (x1 : Int) (x5 : Bool) (x8 : Int) (x9 : Int) (x11 : Int) (zl : List Int) (zp : Int) (z6 : Int) (zd : Int) (zh : List Zq) (z1 : Int) (z2 : Int) (b1 : Z8) (z11 : List Z7) (zn : Own) (zb : Own) (zB : Own) (zy : Own) (z1c : Own) (zu : okApp zb = true) (zP : okApp zB = true) (zJ : okApp zy = true) : Sim (Z18 zl z6 zd zh zn zb) (Z3r x1 x5 x8 x9 x11 zl zp z6 zd zh z1 z2 z11) (ZcP 1 (.ptr 0 0) (iv x1) (.ptr 1 0) (bv x5) (.ptr 2 0) (.clo 58 [] [(.ptr 2 0)]) (iv x8) (iv x9) (iv x11) [(Zj (Zk.mk zl zp z6 zd zh (Zi.mk z1 z2)) zn zb), (Zr b1 zB zy), [(.p (.lst z1c (z11.map Zs)))]]) := by
 unfold Z3r
 refine zf (Zfi ..) ?_
 refine ze ?_
 refine ze ?_
 refine zi fun r1 hr1 => ?_
 obtain ⟨qr1, er1, exr1, rfl⟩ := Z1a ((ByteArray.mk #[45])) (zl) (zp) (z6) (zd) (zh) (z1) (z2) zn zb zu r1 hr1
 refine zc [0] (bv r1.1) [(Zj (Zk.mk zl r1.2 z6 zd zh (Zi.mk z1 z2)) zn zb), (Zr b1 zB zy), [(.p (.lst z1c (z11.map Zs)))]] er1 ?_
 refine za (r1.1) ?_ ?_
 ·refine ze ?_
  refine zi fun r2 hr2 => ?_
  obtain ⟨qr2, er2, exr2, rfl⟩ := Z1F ((Zk.mk zl r1.2 z6 zd zh (Zi.mk z1 z2))) zn zb zu r2 hr2
  refine zc [0] (iv r2) [(Zj (Zk.mk zl r1.2 z6 zd zh (Zi.mk z1 z2)) zn zb), (Zr b1 zB zy), [(.p (.lst z1c (z11.map Zs)))]] er2 ?_
  refine ze ?_
  refine zo (bv (r2 == 93)) ?_
  refine za ((r2 == 93)) ?_ ?_
  ·exact zk (Z3D (x1) (x5) (x8) (x9) (zl) (r1.2) (z6) (zd) (zh) (z1) (z2) (b1) (z11) zn zb zB zy z1c zu zP zJ)
  ·refine zo (bv (r2 == 91)) ?_
   refine za ((r2 == 91)) ?_ ?_
   ·exact zk (Z3D (x1) (x5) (x8) (x9) (zl) (r1.2) (z6) (zd) (zh) (z1) (z2) (b1) (z11) zn zb zB zy z1c zu zP zJ)
   ·refine zo (bv (r2 == 45)) ?_
    refine za ((r2 == 45)) ?_ ?_
    ·exact zk (Z3D (x1) (x5) (x8) (x9) (zl) (r1.2) (z6) (zd) (zh) (z1) (z2) (b1) (z11) zn zb zB zy z1c zu zP zJ)
    ·refine zo (bv (decide (r2 < 0))) ?_
     refine za ((decide (r2 < 0))) ?_ ?_
     ·exact zk (Z3D (x1) (x5) (x8) (x9) (zl) (r1.2) (z6) (zd) (zh) (z1) (z2) (b1) (z11) zn zb zB zy z1c zu zP zJ)
     ·exact zk (Z8s (x1) (x5) (x8) (x9) (x11) (zl) (r1.2) (z6) (zd) (zh) (z1) (z2) (b1) (z11) zn zb zB zy z1c zu zP zJ)
 ·exact zk (Z3s (x1) (x5) (x8) (x11) (x11) (zl) (r1.2) (z6) (zd) (zh) (z1) (z2) (b1) (z11) zn zb zB zy z1c zu zP zJ)
noncomputable def Z3q (x1 : Int) (x5 : Bool) (x8 : Int) (x9 : Int) (zl : List Int) (zp : Int) (z6 : Int) (zd : Int) (zh : List Zq) (z1 : Int) (z2 : Int) (z11 : List Z7) : Option (Z8 × Int × Int × Int) :=
 (Z3f zl zp z6 zd zh z1 z2).bind fun r1 =>
 (nilO (shrO (shrO (shrO (shrO r1.2.1.1)))) r1.2.1.2).bind fun a2 =>
 if ((!a2)) = true then
 ((Z2u r1.2.2.1 r1.2.1.2).bind fun r3 =>
 (Z3O r3.Set z11).bind fun r4 =>
 (Z1B ((Zk.mk zl r1.2.2.2.1 z6 zd zh (Zi.mk r1.2.2.2.2.1 r1.2.2.2.2.2)))).bind fun r5 =>
 if ((r5 == 45)) = true then
 ((ZT 22 r1.2.2.2.1 zl r1.2.2.2.2.1 r1.2.2.2.2.2).bind fun r6 =>
 Z1b x1 x5 x8 zl r6.1 z6 zd zh r6.2.1 r6.2.2 r4)
 else
 (Z1b x1 x5 x8 zl r1.2.2.2.1 z6 zd zh r1.2.2.2.2.1 r1.2.2.2.2.2 r4))
 else
 (Z3r x1 x5 x8 x9 r1.1 zl r1.2.2.2.1 z6 zd zh r1.2.2.2.2.1 r1.2.2.2.2.2 z11)
theorem Z5V (x1 : Int) (x5 : Bool) (x8 : Int) (x9 : Int) (zl : List Int) (zp : Int) (z6 : Int) (zd : Int) (zh : List Zq) (z1 : Int) (z2 : Int) (b1 : Z8) (z11 : List Z7) (zn : Own) (zb : Own) (zB : Own) (zy : Own) (z1c : Own) (zu : okApp zb = true) (zP : okApp zB = true) (zJ : okApp zy = true) : Sim (Z18 zl z6 zd zh zn zb) (Z3q x1 x5 x8 x9 zl zp z6 zd zh z1 z2 z11) (ZbP 1 (.ptr 0 0) (iv x1) (.ptr 1 0) (bv x5) (.ptr 2 0) (.clo 58 [] [(.ptr 2 0)]) (iv x8) (iv x9) [(Zj (Zk.mk zl zp z6 zd zh (Zi.mk z1 z2)) zn zb), (Zr b1 zB zy), [(.p (.lst z1c (z11.map Zs)))]]) := by
 unfold Z3q
 refine zf (ZeU ..) ?_
 refine ze ?_
 refine zi fun r1 hr1 => ?_
 obtain ⟨qr1, er1, exr1, rfl⟩ := Z6O (zl) (zp) (z6) (zd) (zh) (z1) (z2) zn zb zu r1 hr1
 refine zc [0] (.p (.tup [(.v (.int .i64 r1.1)), (.lst r1.2.1.1 (r1.2.1.2.map Zs)), (.v (.bool r1.2.2.1))])) [(Zj (Zk.mk zl r1.2.2.2.1 z6 zd zh (Zi.mk r1.2.2.2.2.1 r1.2.2.2.2.2)) zn zb), (Zr b1 zB zy), [(.p (.lst z1c (z11.map Zs)))]] er1 ?_
 refine zo (iv r1.1) ?_
 refine zo (.p (.lst (shrO r1.2.1.1) (r1.2.1.2.map Zs))) ?_
 refine zo (bv r1.2.2.1) ?_
 refine ze ?_
 refine zi fun a2 ha2 => ?_
 refine zo (bv (!a2)) ?_ (Eq.trans (by kernel_rfl) (xnil_neq (P := PP) (t := 23) (c := .slice none 0 0) (e := Zs) (by kernel_rfl) ha2))
 refine za ((!a2)) ?_ ?_
 ·refine ze ?_
  refine zi fun r3 hr3 => ?_
  obtain ⟨qr3, er3, exr3, rfl⟩ := Z2E (r1.2.2.1) (r1.2.1.2) .sh r3 hr3
  refine zc [] (.p (.agg (ZE r3 .sh .sh))) [(Zj (Zk.mk zl r1.2.2.2.1 z6 zd zh (Zi.mk r1.2.2.2.2.1 r1.2.2.2.2.2)) zn zb), (Zr b1 zB zy), [(.p (.lst z1c (z11.map Zs)))]] er3 ?_
  refine zz (.ptr 3 0) [(Zj (Zk.mk zl r1.2.2.2.1 z6 zd zh (Zi.mk r1.2.2.2.2.1 r1.2.2.2.2.2)) zn zb), (Zr b1 zB zy), [(.p (.lst z1c (z11.map Zs)))], (Zr (Z8.mk 0 0 0 0 0 ([] : List Z7) ([] : List Z8)) .nl .nl)] ?_
  refine zt [(Zj (Zk.mk zl r1.2.2.2.1 z6 zd zh (Zi.mk r1.2.2.2.2.1 r1.2.2.2.2.2)) zn zb), (Zr b1 zB zy), [(.p (.lst z1c (z11.map Zs)))], (Zr r3 .sh .sh)] ?_
  refine ze ?_
  refine zo (.ptr 3 5) ?_
  refine zo (.p (.lst .sh (r3.Set.map Zs))) ?_
  refine zi fun r4 hr4 => ?_
  obtain ⟨qr4, er4, or4_0_0, exr4, rfl⟩ := Z6q (r3.Set) (z11) .sh z1c r4 hr4
  refine zv [2] (.p (.tup [])) [(Zj (Zk.mk zl r1.2.2.2.1 z6 zd zh (Zi.mk r1.2.2.2.2.1 r1.2.2.2.2.2)) zn zb), (Zr b1 zB zy), [(.p (.lst or4_0_0 (r4.map Zs)))], (Zr r3 .sh .sh)] er4 ?_
  refine ze ?_
  refine zi fun r5 hr5 => ?_
  obtain ⟨qr5, er5, exr5, rfl⟩ := Z1F ((Zk.mk zl r1.2.2.2.1 z6 zd zh (Zi.mk r1.2.2.2.2.1 r1.2.2.2.2.2))) zn zb zu r5 hr5
  refine zc [0] (iv r5) [(Zj (Zk.mk zl r1.2.2.2.1 z6 zd zh (Zi.mk r1.2.2.2.2.1 r1.2.2.2.2.2)) zn zb), (Zr b1 zB zy), [(.p (.lst or4_0_0 (r4.map Zs)))], (Zr r3 .sh .sh)] er5 ?_
  refine zo (bv (r5 == 45)) ?_
  refine za ((r5 == 45)) ?_ ?_
  ·refine ze ?_
   refine zo (.ptr 0 0) ?_
   refine zo (.ptr 0 1) ?_
   refine zo (iv r1.2.2.2.1) ?_
   refine zi fun r6 hr6 => ?_
   obtain ⟨qr6, er6, exr6, rfl⟩ := ZW (22) (r1.2.2.2.1) (zl) (r1.2.2.2.1) (z6) (zd) (zh) (r1.2.2.2.2.1) (r1.2.2.2.2.2) zn zb zu r6 hr6
   refine zc [0] (.p (.tup [])) [(Zj (Zk.mk zl r6.1 z6 zd zh (Zi.mk r6.2.1 r6.2.2)) zn zb), (Zr b1 zB zy), [(.p (.lst or4_0_0 (r4.map Zs)))], (Zr r3 .sh .sh)] er6 ?_
   exact zk (Z1D (x1) (x5) (x8) (zl) (r6.1) (z6) (zd) (zh) (r6.2.1) (r6.2.2) (b1) (r4) zn zb zB zy or4_0_0 zu zP zJ)
  ·exact zk (Z1D (x1) (x5) (x8) (zl) (r1.2.2.2.1) (z6) (zd) (zh) (r1.2.2.2.2.1) (r1.2.2.2.2.2) (b1) (r4) zn zb zB zy or4_0_0 zu zP zJ)
 ·exact zk (Z8G (x1) (x5) (x8) (x9) (r1.1) (zl) (r1.2.2.2.1) (z6) (zd) (zh) (r1.2.2.2.2.1) (r1.2.2.2.2.2) (b1) (z11) zn zb zB zy z1c zu zP zJ)
noncomputable def Z2S (x1 : Int) (x5 : Bool) (x8 : Int) (zl : List Int) (zp : Int) (z6 : Int) (zd : Int) (zh : List Zq) (z1 : Int) (z2 : Int) (z11 : List Z7) : Option (Z8 × Int × Int × Int) :=
 (Z1B ((Zk.mk zl zp z6 zd zh (Zi.mk z1 z2)))).bind fun r1 =>
 if ((r1 == (-1))) = true then
 ((ZT 22 x1 zl z1 z2).bind fun r2 =>
 Z1b x1 x5 x8 zl r2.1 z6 zd zh r2.2.1 r2.2.2 z11)
 else
 (if ((r1 == 93)) = true then
 (if ((x8 == 0)) = true then
 ((ZT 22 x1 zl z1 z2).bind fun r3 =>
 Z1b x1 x5 x8 zl r3.1 z6 zd zh r3.2.1 r3.2.2 z11)
 else
 (Z4m x5 zl zp z1 z2 z11))
 else
 (if ((r1 == 91)) = true then
 (if ((r1 == 91)) = true then
 ((ZT 22 zp zl z1 z2).bind fun r4 =>
 Z1b x1 x5 x8 zl r4.1 z6 zd zh r4.2.1 r4.2.2 z11)
 else
 (Z3q x1 x5 x8 zp zl zp z6 zd zh z1 z2 z11))
 else
 (if ((r1 == 45)) = true then
 ((ZT 22 zp zl z1 z2).bind fun r5 =>
 Z1b x1 x5 x8 zl r5.1 z6 zd zh r5.2.1 r5.2.2 z11)
 else
 (Z3q x1 x5 x8 zp zl zp z6 zd zh z1 z2 z11))))
theorem Z8P (x1 : Int) (x5 : Bool) (x8 : Int) (zl : List Int) (zp : Int) (z6 : Int) (zd : Int) (zh : List Zq) (z1 : Int) (z2 : Int) (b1 : Z8) (z11 : List Z7) (zn : Own) (zb : Own) (zB : Own) (zy : Own) (z1c : Own) (zu : okApp zb = true) (zP : okApp zB = true) (zJ : okApp zy = true) : Sim (Z18 zl z6 zd zh zn zb) (Z2S x1 x5 x8 zl zp z6 zd zh z1 z2 z11) (Zdr 1 (.ptr 0 0) (iv x1) (.ptr 1 0) (bv x5) (.ptr 2 0) (.clo 58 [] [(.ptr 2 0)]) (iv x8) [(Zj (Zk.mk zl zp z6 zd zh (Zi.mk z1 z2)) zn zb), (Zr b1 zB zy), [(.p (.lst z1c (z11.map Zs)))]]) := by
 unfold Z2S
 refine zf (ZfQ ..) ?_
 refine ze ?_
 refine zo (.ptr 0 0) ?_
 refine zo (.ptr 0 1) ?_
 refine zo (iv zp) ?_
 refine ze ?_
 refine zi fun r1 hr1 => ?_
 obtain ⟨qr1, er1, exr1, rfl⟩ := Z1F ((Zk.mk zl zp z6 zd zh (Zi.mk z1 z2))) zn zb zu r1 hr1
 refine zc [0] (iv r1) [(Zj (Zk.mk zl zp z6 zd zh (Zi.mk z1 z2)) zn zb), (Zr b1 zB zy), [(.p (.lst z1c (z11.map Zs)))]] er1 ?_
 refine ze ?_
 refine ze ?_
 refine zo (bv (r1 == (-1))) ?_
 refine za ((r1 == (-1))) ?_ ?_
 ·refine ze ?_
  refine zi fun r2 hr2 => ?_
  obtain ⟨qr2, er2, exr2, rfl⟩ := ZW (22) (x1) (zl) (zp) (z6) (zd) (zh) (z1) (z2) zn zb zu r2 hr2
  refine zc [0] (.p (.tup [])) [(Zj (Zk.mk zl r2.1 z6 zd zh (Zi.mk r2.2.1 r2.2.2)) zn zb), (Zr b1 zB zy), [(.p (.lst z1c (z11.map Zs)))]] er2 ?_
  exact zk (Z1D (x1) (x5) (x8) (zl) (r2.1) (z6) (zd) (zh) (r2.2.1) (r2.2.2) (b1) (z11) zn zb zB zy z1c zu zP zJ)
 ·refine ze ?_
  refine zo (bv (r1 == 93)) ?_
  refine za ((r1 == 93)) ?_ ?_
  ·refine ze ?_
   refine zo (bv (x8 == 0)) ?_
   refine za ((x8 == 0)) ?_ ?_
   ·refine ze ?_
    refine zi fun r3 hr3 => ?_
    obtain ⟨qr3, er3, exr3, rfl⟩ := ZW (22) (x1) (zl) (zp) (z6) (zd) (zh) (z1) (z2) zn zb zu r3 hr3
    refine zc [0] (.p (.tup [])) [(Zj (Zk.mk zl r3.1 z6 zd zh (Zi.mk r3.2.1 r3.2.2)) zn zb), (Zr b1 zB zy), [(.p (.lst z1c (z11.map Zs)))]] er3 ?_
    exact zk (Z1D (x1) (x5) (x8) (zl) (r3.1) (z6) (zd) (zh) (r3.2.1) (r3.2.2) (b1) (z11) zn zb zB zy z1c zu zP zJ)
   ·exact zk (Z8y (x5) (zl) (zp) (z6) (zd) (zh) (z1) (z2) (b1) (z11) zn zb zB zy z1c zu zP zJ)
  ·refine ze ?_
   refine zo (bv (r1 == 91)) ?_
   refine za ((r1 == 91)) ?_ ?_
   ·refine za ((r1 == 91)) ?_ ?_
    ·refine ze ?_
     refine zi fun r4 hr4 => ?_
     obtain ⟨qr4, er4, exr4, rfl⟩ := ZW (22) (zp) (zl) (zp) (z6) (zd) (zh) (z1) (z2) zn zb zu r4 hr4
     refine zc [0] (.p (.tup [])) [(Zj (Zk.mk zl r4.1 z6 zd zh (Zi.mk r4.2.1 r4.2.2)) zn zb), (Zr b1 zB zy), [(.p (.lst z1c (z11.map Zs)))]] er4 ?_
     exact zk (Z1D (x1) (x5) (x8) (zl) (r4.1) (z6) (zd) (zh) (r4.2.1) (r4.2.2) (b1) (z11) zn zb zB zy z1c zu zP zJ)
    ·exact zk (Z5V (x1) (x5) (x8) (zp) (zl) (zp) (z6) (zd) (zh) (z1) (z2) (b1) (z11) zn zb zB zy z1c zu zP zJ)
   ·refine ze ?_
    refine zo (bv (r1 == 45)) ?_
    refine za ((r1 == 45)) ?_ ?_
    ·refine ze ?_
     refine zi fun r5 hr5 => ?_
     obtain ⟨qr5, er5, exr5, rfl⟩ := ZW (22) (zp) (zl) (zp) (z6) (zd) (zh) (z1) (z2) zn zb zu r5 hr5
     refine zc [0] (.p (.tup [])) [(Zj (Zk.mk zl r5.1 z6 zd zh (Zi.mk r5.2.1 r5.2.2)) zn zb), (Zr b1 zB zy), [(.p (.lst z1c (z11.map Zs)))]] er5 ?_
     exact zk (Z1D (x1) (x5) (x8) (zl) (r5.1) (z6) (zd) (zh) (r5.2.1) (r5.2.2) (b1) (z11) zn zb zB zy z1c zu zP zJ)
    ·exact zk (Z5V (x1) (x5) (x8) (zp) (zl) (zp) (z6) (zd) (zh) (z1) (z2) (b1) (z11) zn zb zB zy z1c zu zP zJ)
noncomputable def Z5n (zp : Int) (z1 : Int) (z2 : Int) : Option (Z8 × Int × Int × Int) :=
 some ((Z8.mk 0 0 0 0 0 ([] : List Z7) ([] : List Z8)), zp, z1, z2)
theorem Z8C (zl : List Int) (zp : Int) (z6 : Int) (zd : Int) (zh : List Zq) (z1 : Int) (z2 : Int) (b1 : Z8) (zn : Own) (zb : Own) (zB : Own) (zy : Own) (zu : okApp zb = true) (zP : okApp zB = true) (zJ : okApp zy = true) : Sim (Z18 zl z6 zd zh zn zb) (Z5n zp z1 z2) (ZcU 1 (.ptr 1 0) [(Zj (Zk.mk zl zp z6 zd zh (Zi.mk z1 z2)) zn zb), (Zr b1 zB zy)]) := by
 unfold Z5n
 refine zf (ZeW ..) ?_
 refine ze ?_
 refine zo (.p (.agg (ZE (Z8.mk 0 0 0 0 0 ([] : List Z7) ([] : List Z8)) .nl .nl))) ?_
 refine zt [(Zj (Zk.mk zl zp z6 zd zh (Zi.mk z1 z2)) zn zb), (Zr (Z8.mk 0 0 0 0 0 ([] : List Z7) ([] : List Z8)) .nl .nl)] ?_
 exact zr ((.p (.agg (ZE (Z8.mk 0 0 0 0 0 ([] : List Z7) ([] : List Z8)) .sh .sh))), [(Zj (Zk.mk zl zp z6 zd zh (Zi.mk z1 z2)) zn zb), (Zr (Z8.mk 0 0 0 0 0 ([] : List Z7) ([] : List Z8)) .nl .nl)]) ⟨_, rfl⟩
noncomputable def Z3G (x1 : Int) (x5 : Bool) (x8 : Int) (zl : List Int) (zp : Int) (z6 : Int) (zd : Int) (zh : List Zq) (z1 : Int) (z2 : Int) (z11 : List Z7) : Option (Z8 × Int × Int × Int) :=
 if ((z1 == 0)) = true then
 (Z2S x1 x5 x8 zl zp z6 zd zh z1 z2 z11)
 else
 (Z5n zp z1 z2)
theorem Z8T (x1 : Int) (x5 : Bool) (x8 : Int) (zl : List Int) (zp : Int) (z6 : Int) (zd : Int) (zh : List Zq) (z1 : Int) (z2 : Int) (b1 : Z8) (z11 : List Z7) (zn : Own) (zb : Own) (zB : Own) (zy : Own) (z1c : Own) (zu : okApp zb = true) (zP : okApp zB = true) (zJ : okApp zy = true) : Sim (Z18 zl z6 zd zh zn zb) (Z3G x1 x5 x8 zl zp z6 zd zh z1 z2 z11) (ZaR 1 (.ptr 0 0) (iv x1) (.ptr 1 0) (bv x5) (.ptr 2 0) (.clo 58 [] [(.ptr 2 0)]) (iv x8) [(Zj (Zk.mk zl zp z6 zd zh (Zi.mk z1 z2)) zn zb), (Zr b1 zB zy), [(.p (.lst z1c (z11.map Zs)))]]) := by
 unfold Z3G
 refine zf (Zgg ..) ?_
 refine ze ?_
 refine zo (.ptr 0 0) ?_
 refine zo (.ptr 0 5) ?_
 refine zo (.ptr 0 5) ?_
 refine zo (iv z1) ?_
 refine zo (bv (z1 == 0)) ?_
 refine za ((z1 == 0)) ?_ ?_
 ·exact zk (Z8P (x1) (x5) (x8) (zl) (zp) (z6) (zd) (zh) (z1) (z2) (b1) (z11) zn zb zB zy z1c zu zP zJ)
 ·exact zk (Z8C (zl) (zp) (z6) (zd) (zh) (z1) (z2) (b1) zn zb zB zy zu zP zJ)
theorem Z6g (x1 : Int) (x5 : Bool) (x8 : Int) (zl : List Int) (zp : Int) (z6 : Int) (zd : Int) (zh : List Zq) (z1 : Int) (z2 : Int) (z11 : List Z7) {r} (h : Z3G x1 x5 x8 zl zp z6 zd zh z1 z2 z11 = some r) : Z2C x1 x5 x8 zl zp z6 zd zh z1 z2 z11 = some r :=
 pick_of (fun _ _ ha hb => RRun.uniq (Z7w _ _ _ _ _ _) (ha default .ex .ex .ex .ex .ex rfl rfl rfl) (hb default .ex .ex .ex .ex .ex rfl rfl rfl)) (fun b1 zn zb zB zy z1c zu zP zJ => Z8T x1 x5 x8 zl zp z6 zd zh z1 z2 b1 z11 zn zb zB zy z1c zu zP zJ r h)
noncomputable def Z39 (x2 : Int) (x5 : Int) (zl : List Int) (zp : Int) (z6 : Int) (zd : Int) (zh : List Zq) (z1 : Int) (z2 : Int) : Option (Int × (Own × (List Z7)) × Bool × Int × Int × Int) :=
 (Z4f x2 x5 zl zp z6 zd zh z1 z2).bind fun r1 =>
 some (r1.1, (.nl, ([] : List Z7)), false, r1.2.1, r1.2.2.1, r1.2.2.2)
theorem Z8o (x2 : Int) (x5 : Int) (zl : List Int) (zp : Int) (z6 : Int) (zd : Int) (zh : List Zq) (z1 : Int) (z2 : Int) (zn : Own) (zb : Own) (zu : okApp zb = true) : Sim (Z2q zl z6 zd zh zn zb) (Z39 x2 x5 zl zp z6 zd zh z1 z2) (Zd1 1 (.ptr 0 0) (iv x2) (iv x5) [(Zj (Zk.mk zl zp z6 zd zh (Zi.mk z1 z2)) zn zb)]) := by
 unfold Z39
 refine zf (Zf5 ..) ?_
 refine ze ?_
 refine zi fun r1 hr1 => ?_
 obtain ⟨qr1, er1, exr1, rfl⟩ := Z7i (x2) (x5) (zl) (zp) (z6) (zd) (zh) (z1) (z2) zn zb zu r1 hr1
 refine zc [0] (iv r1.1) [(Zj (Zk.mk zl r1.2.1 z6 zd zh (Zi.mk r1.2.2.1 r1.2.2.2)) zn zb)] er1 ?_
 exact zr ((.p (.tup [(.v (.int .i64 r1.1)), (.lst .nl []), (.v (.bool false))])), [(Zj (Zk.mk zl r1.2.1 z6 zd zh (Zi.mk r1.2.2.1 r1.2.2.2)) zn zb)]) ⟨_, rfl⟩
noncomputable def Z4k (x2 : Int) (x5 : Int) (zl : List Int) (zp : Int) (z6 : Int) (zd : Int) (zh : List Zq) (z1 : Int) (z2 : Int) : Option (Int × (Own × (List Z7)) × Bool × Int × Int × Int) :=
 (Z1W zl zp).bind fun r1 =>
 (Z4q x2).bind fun r2 =>
 (nilO (shrO r2.1) r2.2).bind fun a3 =>
 if ((!a3)) = true then
 (some (0, ((shrO r2.1), r2.2), (decide (x2 < 97)), r1.2, z1, z2))
 else
 (Z39 x2 x5 zl r1.2 z6 zd zh z1 z2)
theorem Z8w (x2 : Int) (x5 : Int) (zl : List Int) (zp : Int) (z6 : Int) (zd : Int) (zh : List Zq) (z1 : Int) (z2 : Int) (zn : Own) (zb : Own) (zu : okApp zb = true) : Sim (Z2q zl z6 zd zh zn zb) (Z4k x2 x5 zl zp z6 zd zh z1 z2) (Zdo 1 (.ptr 0 0) (iv x2) (iv x5) [(Zj (Zk.mk zl zp z6 zd zh (Zi.mk z1 z2)) zn zb)]) := by
 unfold Z4k
 refine zf (Zgx ..) ?_
 refine ze ?_
 refine zi fun r1 hr1 => ?_
 obtain ⟨qr1, er1, exr1, rfl⟩ := Z2j (zl) (zp) (z6) (zd) (zh) (z1) (z2) zn zb zu r1 hr1
 refine zc [0] (iv r1.1) [(Zj (Zk.mk zl r1.2 z6 zd zh (Zi.mk z1 z2)) zn zb)] er1 ?_
 refine ze ?_
 refine zi fun r2 hr2 => ?_
 obtain ⟨qr2, er2, exr2, rfl⟩ := Z6c (x2) r2 hr2
 refine zc [] (.p (.lst r2.1 (r2.2.map Zs))) [(Zj (Zk.mk zl r1.2 z6 zd zh (Zi.mk z1 z2)) zn zb)] er2 ?_
 refine ze ?_
 refine zi fun a3 ha3 => ?_
 refine zo (bv (!a3)) ?_ (Eq.trans (by kernel_rfl) (xnil_neq (P := PP) (t := 23) (c := .slice none 0 0) (e := Zs) (by kernel_rfl) ha3))
 refine za ((!a3)) ?_ ?_
 ·refine ze ?_
  refine zo (bv (decide (x2 < 97))) ?_
  exact zr ((.p (.tup [(.v (.int .i64 0)), (.lst (shrO r2.1) (r2.2.map Zs)), (.v (.bool (decide (x2 < 97))))])), [(Zj (Zk.mk zl r1.2 z6 zd zh (Zi.mk z1 z2)) zn zb)]) ⟨_, rfl⟩
 ·exact zk (Z8o (x2) (x5) (zl) (r1.2) (z6) (zd) (zh) (z1) (z2) zn zb zu)
noncomputable def Z4l (x5 : Int) (zl : List Int) (zp : Int) (z6 : Int) (zd : Int) (zh : List Zq) (z1 : Int) (z2 : Int) : Option (Int × (Own × (List Z7)) × Bool × Int × Int × Int) :=
 (Z1B ((Zk.mk zl zp z6 zd zh (Zi.mk z1 z2)))).bind fun r1 =>
 if ((decide (r1 < 0))) = true then
 ((ZT 21 x5 zl z1 z2).bind fun r2 =>
 some (0, (.nl, ([] : List Z7)), false, r2.1, r2.2.1, r2.2.2))
 else
 (Z4k r1 x5 zl zp z6 zd zh z1 z2)
theorem Z8t (x5 : Int) (zl : List Int) (zp : Int) (z6 : Int) (zd : Int) (zh : List Zq) (z1 : Int) (z2 : Int) (zn : Own) (zb : Own) (zu : okApp zb = true) : Sim (Z2q zl z6 zd zh zn zb) (Z4l x5 zl zp z6 zd zh z1 z2) (Zeo 1 (.ptr 0 0) (iv x5) [(Zj (Zk.mk zl zp z6 zd zh (Zi.mk z1 z2)) zn zb)]) := by
 unfold Z4l
 refine zf (Zgj ..) ?_
 refine ze ?_
 refine zi fun r1 hr1 => ?_
 obtain ⟨qr1, er1, exr1, rfl⟩ := Z1F ((Zk.mk zl zp z6 zd zh (Zi.mk z1 z2))) zn zb zu r1 hr1
 refine zc [0] (iv r1) [(Zj (Zk.mk zl zp z6 zd zh (Zi.mk z1 z2)) zn zb)] er1 ?_
 refine ze ?_
 refine zo (bv (decide (r1 < 0))) ?_
 refine za ((decide (r1 < 0))) ?_ ?_
 ·refine ze ?_
  refine zi fun r2 hr2 => ?_
  obtain ⟨qr2, er2, exr2, rfl⟩ := ZW (21) (x5) (zl) (zp) (z6) (zd) (zh) (z1) (z2) zn zb zu r2 hr2
  refine zc [0] (.p (.tup [])) [(Zj (Zk.mk zl r2.1 z6 zd zh (Zi.mk r2.2.1 r2.2.2)) zn zb)] er2 ?_
  refine ze ?_
  exact zr ((.p (.tup [(.v (.int .i64 0)), (.lst .nl []), (.v (.bool false))])), [(Zj (Zk.mk zl r2.1 z6 zd zh (Zi.mk r2.2.1 r2.2.2)) zn zb)]) ⟨_, rfl⟩
 ·exact zk (Z8w (r1) (x5) (zl) (zp) (z6) (zd) (zh) (z1) (z2) zn zb zu)
noncomputable def Z41 (zl : List Int) (zp : Int) (z6 : Int) (zd : Int) (zh : List Zq) (z1 : Int) (z2 : Int) : Option (Int × (Own × (List Z7)) × Bool × Int × Int × Int) :=
 (Z1W zl zp).bind fun r1 =>
 if ((r1.1 != 92)) = true then
 (some (r1.1, (.nl, ([] : List Z7)), false, r1.2, z1, z2))
 else
 (Z4l zp zl r1.2 z6 zd zh z1 z2)
theorem Z9p (zl : List Int) (zp : Int) (z6 : Int) (zd : Int) (zh : List Zq) (z1 : Int) (z2 : Int) (zn : Own) (zb : Own) (zu : okApp zb = true) : Sim (Z2q zl z6 zd zh zn zb) (Z41 zl zp z6 zd zh z1 z2) (EE 60 [(.ptr 0 0)] [(Zj (Zk.mk zl zp z6 zd zh (Zi.mk z1 z2)) zn zb)]) := by
 unfold Z41
 refine zf (Zhh ..) ?_
 refine ze ?_
 refine ze ?_
 refine zo (.ptr 0 0) ?_
 refine zo (.ptr 0 1) ?_
 refine zo (iv zp) ?_
 refine ze ?_
 refine zi fun r1 hr1 => ?_
 obtain ⟨qr1, er1, exr1, rfl⟩ := Z2j (zl) (zp) (z6) (zd) (zh) (z1) (z2) zn zb zu r1 hr1
 refine zc [0] (iv r1.1) [(Zj (Zk.mk zl r1.2 z6 zd zh (Zi.mk z1 z2)) zn zb)] er1 ?_
 refine ze ?_
 refine zo (bv (r1.1 != 92)) ?_
 refine za ((r1.1 != 92)) ?_ ?_
 ·refine ze ?_
  exact zr ((.p (.tup [(.v (.int .i64 r1.1)), (.lst .nl []), (.v (.bool false))])), [(Zj (Zk.mk zl r1.2 z6 zd zh (Zi.mk z1 z2)) zn zb)]) ⟨_, rfl⟩
 ·exact zk (Z8t (zp) (zl) (r1.2) (z6) (zd) (zh) (z1) (z2) zn zb zu)
theorem Z6w (zl : List Int) (zp : Int) (z6 : Int) (zd : Int) (zh : List Zq) (z1 : Int) (z2 : Int) {r} (h : Z41 zl zp z6 zd zh z1 z2 = some r) : Z3f zl zp z6 zd zh z1 z2 = some r :=
 pick_of (fun _ _ ha hb => RRun.uniq (Z9Y _ _ _ _ _ _) (ha .ex .ex rfl) (hb .ex .ex rfl)) (fun zn zb zu => Z9p zl zp z6 zd zh z1 z2 zn zb zu r h)
end Go.Proofs.YtadodmjdkphddaaDoor.N2
end
