/- The functions' typed texts. No condition. -/
import Derived.Test.YtadodmjdkphddaaDoorTypA

section
set_option linter.unusedSimpArgs false
set_option linter.unusedVariables false
namespace Go.Proofs.YtadodmjdkphddaaDoor.N2
open Go Go.Abs
set_option linter.unusedVariables false
set_option maxRecDepth 100000
noncomputable def Z2a  : Option (Bool) :=
 some (true)
theorem Z3U  : Sim (Z1c) (Z2a) (Zcw 0  []) := by
 unfold Z2a
 refine zf (Zh3 ..) ?_
 refine ze ?_
 exact zr ((bv true), []) ⟨_, rfl⟩
noncomputable def Z1Q  : Option (Bool) :=
 some (false)
theorem Z2L  : Sim (Z1c) (Z1Q) (Zbc 0  []) := by
 unfold Z1Q
 refine zf (ZfE ..) ?_
 refine ze ?_
 exact zr ((bv false), []) ⟨_, rfl⟩
noncomputable def Z3b (b0 : ZC) (b1 : ZC) : Option (Bool) :=
 if ((b1.Groups == 1)) = true then
 (if ((b1.Root.Kind == 5)) = true then
 (if ((b1.Root.Ref == 1)) = true then
 (if (((b1.Root.Kids.length : Int) == 1)) = true then
 ((lget b1.Root.Kids 0).bind fun a1 =>
 (Z1Z a1 b0.Root).bind fun r2 =>
 some (r2))
 else
 (some (false)))
 else
 (some (false)))
 else
 (some (false)))
 else
 (some (false))
theorem Z7f (b0 : ZC) (b1 : ZC) (zH : Own) (zF : Own) (z2s : Own) (z1H : Own) : Sim (Z1c) (Z3b b0 b1) (Zen 0 (.ptr 0 0) (.ptr 1 0) [(Zv b0 zH zF), (Zv b1 z2s z1H)]) := by
 unfold Z3b
 refine zf (ZgU ..) ?_
 refine ze ?_
 refine zo (.ptr 1 7) ?_
 refine zo (iv b1.Groups) ?_
 refine zo (bv (b1.Groups == 1)) ?_
 refine za ((b1.Groups == 1)) ?_ ?_
 ·refine zo (.ptr 1 0) ?_
  refine zo (.ptr 1 0) ?_
  refine zo (iv b1.Root.Kind) ?_
  refine zo (bv (b1.Root.Kind == 5)) ?_
  refine za ((b1.Root.Kind == 5)) ?_ ?_
  ·refine zo (.ptr 1 0) ?_
   refine zo (.ptr 1 4) ?_
   refine zo (iv b1.Root.Ref) ?_
   refine zo (bv (b1.Root.Ref == 1)) ?_
   refine za ((b1.Root.Ref == 1)) ?_ ?_
   ·refine zo (.ptr 1 0) ?_
    refine zo (.ptr 1 6) ?_
    refine zo (.p (.lst (shrO z1H) (b1.Root.Kids.map ZI))) ?_
    refine zo (iv (b1.Root.Kids.length : Int)) ?_ (Eq.trans (by kernel_rfl) (xlen_of (P := PP) (t := 25) (d := 27) (by kernel_rfl) ZI (shrO z1H) b1.Root.Kids))
    refine zo (bv ((b1.Root.Kids.length : Int) == 1)) ?_
    refine za (((b1.Root.Kids.length : Int) == 1)) ?_ ?_
    ·refine zo (.ptr 1 0) ?_
     refine zo (.ptr 1 6) ?_
     refine zo (.p (.lst (shrO z1H) (b1.Root.Kids.map ZI))) ?_
     refine zi fun a1 ha1 => ?_
     refine zo (.cptr (ZE a1 .sh .sh)) ?_ (Eq.trans (by kernel_rfl) (xidx_of (o := (shrO z1H)) (k := .i64) (n := 7) (e := ZI) (cs := Z2e) Z5x (fun _ => rfl) (by decide) ha1))
     refine zo (.p (.agg (ZE a1 .sh .sh))) ?_
     refine zo (.ptr 0 0) ?_
     refine zo (.p (.agg (ZE b0.Root (shrO zH) (shrO zF)))) ?_
     refine zi fun r2 hr2 => ?_
     obtain ⟨qr2, er2, exr2, rfl⟩ := Z5i (a1) (b0.Root) .sh .sh .sh .sh r2 hr2
     refine zc [] (bv r2) [(Zv b0 zH zF), (Zv b1 z2s z1H)] er2 ?_
     exact zr ((bv r2), [(Zv b0 zH zF), (Zv b1 z2s z1H)]) ⟨_, rfl⟩
    ·exact zr ((bv false), [(Zv b0 zH zF), (Zv b1 z2s z1H)]) ⟨_, rfl⟩
   ·exact zr ((bv false), [(Zv b0 zH zF), (Zv b1 z2s z1H)]) ⟨_, rfl⟩
  ·exact zr ((bv false), [(Zv b0 zH zF), (Zv b1 z2s z1H)]) ⟨_, rfl⟩
 ·exact zr ((bv false), [(Zv b0 zH zF), (Zv b1 z2s z1H)]) ⟨_, rfl⟩
noncomputable def Z3c (b0 : ZC) (b1 : ZC) (b2 : Zi) : Option (Bool) :=
 if ((b2.Code != 0)) = true then
 (some ((b2.Code == 25)))
 else
 (Z3b b0 b1)
theorem Z7d (b0 : ZC) (b1 : ZC) (b2 : Zi) (zH : Own) (zF : Own) (z2s : Own) (z1H : Own) : Sim (Z1c) (Z3c b0 b1 b2) (Ze8 0 (.ptr 0 0) (.ptr 1 0) (.ptr 2 0) [(Zv b0 zH zF), (Zv b1 z2s z1H), (ZD b2)]) := by
 unfold Z3c
 refine zf (ZfB ..) ?_
 refine ze ?_
 refine zo (.ptr 2 0) ?_
 refine zo (iv b2.Code) ?_
 refine zo (bv (b2.Code != 0)) ?_
 refine za ((b2.Code != 0)) ?_ ?_
 ·refine ze ?_
  refine zo (.ptr 2 0) ?_
  refine zo (iv b2.Code) ?_
  refine zo (bv (b2.Code == 25)) ?_
  exact zr ((bv (b2.Code == 25)), [(Zv b0 zH zF), (Zv b1 z2s z1H), (ZD b2)]) ⟨_, rfl⟩
 ·exact zk (Z7f (b0) (b1) zH zF z2s z1H)
noncomputable def Z3a (b0 : ZC) (b1 : ZC) (b2 : Zi) (b3 : ZC) (b4 : Zi) : Option (Bool) :=
 if ((b4.Code != 0)) = true then
 (Z1Q)
 else
 (if ((!b3.Fold)) = true then
 (Z1Q)
 else
 (if ((b3.Groups != 0)) = true then
 (Z1Q)
 else
 ((Z1Z b3.Root b0.Root).bind fun r1 =>
 if ((!r1)) = true then
 (Z1Q)
 else
 (Z3c b0 b1 b2))))
theorem Z76 (b0 : ZC) (b1 : ZC) (b2 : Zi) (b3 : ZC) (b4 : Zi) (zH : Own) (zF : Own) (z2s : Own) (z1H : Own) (zY : Own) (zX : Own) : Sim (Z1c) (Z3a b0 b1 b2 b3 b4) (Zeq 0 (.ptr 0 0) (.ptr 1 0) (.ptr 2 0) (.ptr 3 0) (.ptr 4 0) [(Zv b0 zH zF), (Zv b1 z2s z1H), (ZD b2), (Zv b3 zY zX), (ZD b4)]) := by
 unfold Z3a
 refine zf (ZgC ..) ?_
 refine ze ?_
 refine zo (.ptr 4 0) ?_
 refine zo (iv b4.Code) ?_
 refine zo (bv (b4.Code != 0)) ?_
 refine za ((b4.Code != 0)) ?_ ?_
 ·exact zk (Z2L )
 ·refine zo (.ptr 3 8) ?_
  refine zo (bv b3.Fold) ?_
  refine zo (bv (!b3.Fold)) ?_
  refine za ((!b3.Fold)) ?_ ?_
  ·exact zk (Z2L )
  ·refine zo (.ptr 3 7) ?_
   refine zo (iv b3.Groups) ?_
   refine zo (bv (b3.Groups != 0)) ?_
   refine za ((b3.Groups != 0)) ?_ ?_
   ·exact zk (Z2L )
   ·refine zo (.ptr 3 0) ?_
    refine zo (.p (.agg (ZE b3.Root (shrO zY) (shrO zX)))) ?_
    refine zo (.ptr 0 0) ?_
    refine zo (.p (.agg (ZE b0.Root (shrO zH) (shrO zF)))) ?_
    refine zi fun r1 hr1 => ?_
    obtain ⟨qr1, er1, exr1, rfl⟩ := Z5i (b3.Root) (b0.Root) .sh .sh .sh .sh r1 hr1
    refine zc [] (bv r1) [(Zv b0 zH zF), (Zv b1 z2s z1H), (ZD b2), (Zv b3 zY zX), (ZD b4)] er1 ?_
    refine zo (bv (!r1)) ?_
    refine za ((!r1)) ?_ ?_
    ·exact zk (Z2L )
    ·exact zk (Z7d (b0) (b1) (b2) zH zF z2s z1H)
noncomputable def Z3l (x0 : ByteArray) (b0 : ZC) : Option (Bool) :=
 (sadd (ByteArray.mk #[40]) x0).bind fun a1 =>
 (sadd a1 (ByteArray.mk #[41])).bind fun a2 =>
 (Z3E a2).bind fun r3 =>
 (sadd (ByteArray.mk #[40, 63, 105, 41]) x0).bind fun a4 =>
 (Z3E a4).bind fun r5 =>
 if ((decide (252 < (x0.size : Int)))) = true then
 (some ((r5.2.Code == 12)))
 else
 (Z3a b0 r3.1 r3.2 r5.1 r5.2)
theorem Z7B (x0 : ByteArray) (b0 : ZC) (zH : Own) (zF : Own) : Sim (Z1c) (Z3l x0 b0) (Zft 0 (.p (.v (.string x0))) (.ptr 0 0) [(Zv b0 zH zF)]) := by
 unfold Z3l
 refine zf (Zh5 ..) ?_
 refine ze ?_
 refine zi fun a1 ha1 => ?_
 refine zo (.p (.v (.string a1))) ?_ (Eq.trans (by kernel_rfl) (xsadd_of (P := PP) (t := 9) ha1))
 refine zi fun a2 ha2 => ?_
 refine zo (.p (.v (.string a2))) ?_ (Eq.trans (by kernel_rfl) (xsadd_of (P := PP) (t := 9) ha2))
 refine zi fun r3 hr3 => ?_
 obtain ⟨qr3, er3, exr3, rfl⟩ := Z47 (a2) r3 hr3
 refine zc [] (.p (.tup [(.agg (Z1d r3.1 .sh .sh)), (.agg (Z12 r3.2))])) [(Zv b0 zH zF)] er3 ?_
 refine zo (.p (.agg (Z1d r3.1 .sh .sh))) ?_
 refine zo (.p (.agg (Z12 r3.2))) ?_
 refine zz (.ptr 1 0) [(Zv b0 zH zF), (Zv (ZC.mk (Z3.mk 0 0 0 0 0 ([] : List Z7) ([] : List Z3)) 0 false) .nl .nl)] ?_
 refine zz (.ptr 2 0) [(Zv b0 zH zF), (Zv (ZC.mk (Z3.mk 0 0 0 0 0 ([] : List Z7) ([] : List Z3)) 0 false) .nl .nl), (ZD (Zi.mk 0 0))] ?_
 refine zt [(Zv b0 zH zF), (Zv r3.1 .sh .sh), (ZD (Zi.mk 0 0))] ?_
 refine zt [(Zv b0 zH zF), (Zv r3.1 .sh .sh), (ZD r3.2)] ?_
 refine ze ?_
 refine zi fun a4 ha4 => ?_
 refine zo (.p (.v (.string a4))) ?_ (Eq.trans (by kernel_rfl) (xsadd_of (P := PP) (t := 9) ha4))
 refine zi fun r5 hr5 => ?_
 obtain ⟨qr5, er5, exr5, rfl⟩ := Z47 (a4) r5 hr5
 refine zc [] (.p (.tup [(.agg (Z1d r5.1 .sh .sh)), (.agg (Z12 r5.2))])) [(Zv b0 zH zF), (Zv r3.1 .sh .sh), (ZD r3.2)] er5 ?_
 refine zo (.p (.agg (Z1d r5.1 .sh .sh))) ?_
 refine zo (.p (.agg (Z12 r5.2))) ?_
 refine zz (.ptr 3 0) [(Zv b0 zH zF), (Zv r3.1 .sh .sh), (ZD r3.2), (Zv (ZC.mk (Z3.mk 0 0 0 0 0 ([] : List Z7) ([] : List Z3)) 0 false) .nl .nl)] ?_
 refine zz (.ptr 4 0) [(Zv b0 zH zF), (Zv r3.1 .sh .sh), (ZD r3.2), (Zv (ZC.mk (Z3.mk 0 0 0 0 0 ([] : List Z7) ([] : List Z3)) 0 false) .nl .nl), (ZD (Zi.mk 0 0))] ?_
 refine zt [(Zv b0 zH zF), (Zv r3.1 .sh .sh), (ZD r3.2), (Zv r5.1 .sh .sh), (ZD (Zi.mk 0 0))] ?_
 refine zt [(Zv b0 zH zF), (Zv r3.1 .sh .sh), (ZD r3.2), (Zv r5.1 .sh .sh), (ZD r5.2)] ?_
 refine ze ?_
 refine zo (iv (x0.size : Int)) ?_
 refine zo (bv (decide (252 < (x0.size : Int)))) ?_
 refine za ((decide (252 < (x0.size : Int)))) ?_ ?_
 ·refine ze ?_
  refine zo (.ptr 4 0) ?_
  refine zo (iv r5.2.Code) ?_
  refine zo (bv (r5.2.Code == 12)) ?_
  exact zr ((bv (r5.2.Code == 12)), [(Zv b0 zH zF), (Zv r3.1 .sh .sh), (ZD r3.2), (Zv r5.1 .sh .sh), (ZD r5.2)]) ⟨_, rfl⟩
 ·exact zk (Z76 (b0) (r3.1) (r3.2) (r5.1) (r5.2) zH zF .sh .sh .sh .sh)
noncomputable def Z3k (x0 : ByteArray) : Option (Bool) :=
 (Z3E x0).bind fun r1 =>
 if ((r1.2.Code != 0)) = true then
 (Z2a)
 else
 (if (r1.1.Fold) = true then
 (Z2a)
 else
 (if ((decide (0 < r1.1.Groups))) = true then
 (Z2a)
 else
 (Z3l x0 r1.1)))
theorem Z7z (x0 : ByteArray) : Sim (Z1c) (Z3k x0) (Zf7 0 (.p (.v (.string x0))) []) := by
 unfold Z3k
 refine zf (Zh2 ..) ?_
 refine ze ?_
 refine zi fun r1 hr1 => ?_
 obtain ⟨qr1, er1, exr1, rfl⟩ := Z47 (x0) r1 hr1
 refine zc [] (.p (.tup [(.agg (Z1d r1.1 .sh .sh)), (.agg (Z12 r1.2))])) [] er1 ?_
 refine zo (.p (.agg (Z1d r1.1 .sh .sh))) ?_
 refine zo (.p (.agg (Z12 r1.2))) ?_
 refine zz (.ptr 0 0) [(Zv (ZC.mk (Z3.mk 0 0 0 0 0 ([] : List Z7) ([] : List Z3)) 0 false) .nl .nl)] ?_
 refine zz (.ptr 1 0) [(Zv (ZC.mk (Z3.mk 0 0 0 0 0 ([] : List Z7) ([] : List Z3)) 0 false) .nl .nl), (ZD (Zi.mk 0 0))] ?_
 refine zt [(Zv r1.1 .sh .sh), (ZD (Zi.mk 0 0))] ?_
 refine zt [(Zv r1.1 .sh .sh), (ZD r1.2)] ?_
 refine ze ?_
 refine zo (.ptr 1 0) ?_
 refine zo (iv r1.2.Code) ?_
 refine zo (bv (r1.2.Code != 0)) ?_
 refine za ((r1.2.Code != 0)) ?_ ?_
 ·exact zk (Z3U )
 ·refine zo (.ptr 0 8) ?_
  refine zo (bv r1.1.Fold) ?_
  refine za (r1.1.Fold) ?_ ?_
  ·exact zk (Z3U )
  ·refine zo (.ptr 0 7) ?_
   refine zo (iv r1.1.Groups) ?_
   refine zo (bv (decide (0 < r1.1.Groups))) ?_
   refine za ((decide (0 < r1.1.Groups))) ?_ ?_
   ·exact zk (Z3U )
   ·exact zk (Z7B (x0) (r1.1) .sh .sh)
noncomputable def Z3j (x0 : ByteArray) : Option (Bool) :=
 if ((decide (400 < (x0.size : Int)))) = true then
 (some (true))
 else
 (Z3k x0)
theorem Z7x (x0 : ByteArray) : Sim (Z1c) (Z3j x0) (Zfq 0 (.p (.v (.string x0))) []) := by
 unfold Z3j
 refine zf (Zh1 ..) ?_
 refine ze ?_
 refine zo (iv (x0.size : Int)) ?_
 refine zo (bv (decide (400 < (x0.size : Int)))) ?_
 refine za ((decide (400 < (x0.size : Int)))) ?_ ?_
 ·refine ze ?_
  exact zr ((bv true), []) ⟨_, rfl⟩
 ·exact zk (Z7z (x0))
noncomputable def Z3V (x0 : ByteArray) : Option (Bool) :=
 (Z51).bind fun r1 =>
 if ((!r1)) = true then
 (some (false))
 else
 (Z3j x0)
theorem Z8f (x0 : ByteArray) : Sim (Z1c) (Z3V x0) (EE 4 [(.p (.v (.string x0)))] []) := by
 unfold Z3V
 refine zf (ZiS ..) ?_
 refine ze ?_
 refine ze ?_
 refine zi fun r1 hr1 => ?_
 obtain ⟨qr1, er1, exr1, rfl⟩ := Z9N  r1 hr1
 refine zc [] (bv r1) [] er1 ?_
 refine zo (bv (!r1)) ?_
 refine za ((!r1)) ?_ ?_
 ·refine ze ?_
  exact zr ((bv false), []) ⟨_, rfl⟩
 ·exact zk (Z7x (x0))
theorem Z8r (x0 : ByteArray) {r} (h : Z3V x0 = some r) : Z56 x0 = some r :=
 pick_of (fun _ _ ha hb => RRun.uniq (Z8B) (ha ) (hb )) (Z8f x0 r h)
noncomputable def Z2i  : Option (Bool) :=
 some (false)
theorem Z2N  : Sim (Z2K) (Z2i) (Z9Y 0  []) := by
 unfold Z2i
 refine zf (ZgV ..) ?_
 refine ze ?_
 exact zr ((bv false), []) ⟨_, rfl⟩
noncomputable def Z5r (b3 : Zi) (b5 : Zi) (b7 : Zi) : Option (Bool) :=
 if (((b3.Code == 23) && ((b3.At == 2) && true))) = true then
 (if (((b5.Code == 20) && ((b5.At == 0) && true))) = true then
 (some (((b7.Code == 26) && ((b7.At == 0) && true))))
 else
 (some (false)))
 else
 (some (false))
theorem Z8z (b0 : ZC) (b1 : Zi) (b2 : ZC) (b3 : Zi) (b4 : ZC) (b5 : Zi) (b6 : ZC) (b7 : Zi) (zH : Own) (zF : Own) (z8v : Own) (z7T : Own) (z8k : Own) (z7S : Own) (z8i : Own) (z7R : Own) : Sim (Z2K) (Z5r b3 b5 b7) (Ze9 0 (.ptr 3 0) (.ptr 5 0) (.ptr 7 0) [(Zv b0 zH zF), (ZD b1), (Zv b2 z8v z7T), (ZD b3), (Zv b4 z8k z7S), (ZD b5), (Zv b6 z8i z7R), (ZD b7)]) := by
 unfold Z5r
 refine zf (Zgk ..) ?_
 refine ze ?_
 refine zo (.p (.agg (Z12 b3))) ?_
 refine zo (.p (.agg (Z12 (Zi.mk 23 2)))) ?_
 refine zo (bv ((b3.Code == 23) && ((b3.At == 2) && true))) ?_ (Eq.trans (b := xbin PP .eql 32 (.p (.agg (Z12 b3))) (.p (.agg (Z12 (Zi.mk 23 2))))) (by kernel_rfl) (xeq_eql (by kernel_rfl) (by kernel_rfl) (by kernel_rfl) (by kernel_rfl) (by kernel_rfl)))
 refine za (((b3.Code == 23) && ((b3.At == 2) && true))) ?_ ?_
 ·refine zo (.p (.agg (Z12 b5))) ?_
  refine zo (.p (.agg (Z12 (Zi.mk 20 0)))) ?_
  refine zo (bv ((b5.Code == 20) && ((b5.At == 0) && true))) ?_ (Eq.trans (b := xbin PP .eql 32 (.p (.agg (Z12 b5))) (.p (.agg (Z12 (Zi.mk 20 0))))) (by kernel_rfl) (xeq_eql (by kernel_rfl) (by kernel_rfl) (by kernel_rfl) (by kernel_rfl) (by kernel_rfl)))
  refine za (((b5.Code == 20) && ((b5.At == 0) && true))) ?_ ?_
  ·refine zo (.p (.agg (Z12 b7))) ?_
   refine zo (.p (.agg (Z12 (Zi.mk 26 0)))) ?_
   refine zo (bv ((b7.Code == 26) && ((b7.At == 0) && true))) ?_ (Eq.trans (b := xbin PP .eql 32 (.p (.agg (Z12 b7))) (.p (.agg (Z12 (Zi.mk 26 0))))) (by kernel_rfl) (xeq_eql (by kernel_rfl) (by kernel_rfl) (by kernel_rfl) (by kernel_rfl) (by kernel_rfl)))
   exact zr ((bv ((b7.Code == 26) && ((b7.At == 0) && true))), [(Zv b0 zH zF), (ZD b1), (Zv b2 z8v z7T), (ZD b3), (Zv b4 z8k z7S), (ZD b5), (Zv b6 z8i z7R), (ZD b7)]) ⟨_, rfl⟩
  ·exact zr ((bv false), [(Zv b0 zH zF), (ZD b1), (Zv b2 z8v z7T), (ZD b3), (Zv b4 z8k z7S), (ZD b5), (Zv b6 z8i z7R), (ZD b7)]) ⟨_, rfl⟩
 ·exact zr ((bv false), [(Zv b0 zH zF), (ZD b1), (Zv b2 z8v z7T), (ZD b3), (Zv b4 z8k z7S), (ZD b5), (Zv b6 z8i z7R), (ZD b7)]) ⟨_, rfl⟩
noncomputable def Z4U  : Option (Bool) :=
 (Z3E ((ByteArray.mk #[97, 124, 98, 42, 63]))).bind fun r1 =>
 (Z3E ((ByteArray.mk #[97, 42, 42]))).bind fun r2 =>
 (Z3E ((ByteArray.mk #[40, 97]))).bind fun r3 =>
 (Z3E ((ByteArray.mk #[92, 49]))).bind fun r4 =>
 if ((r1.2.Code != 0)) = true then
 (Z2i)
 else
 (if ((r1.1.Root.Kind != 3)) = true then
 (Z2i)
 else
 (if (((r1.1.Root.Kids.length : Int) != 2)) = true then
 (Z2i)
 else
 ((lget r1.1.Root.Kids 1).bind fun a5 =>
 if ((a5.Kind != 4)) = true then
 (Z2i)
 else
 ((lget r1.1.Root.Kids 1).bind fun a6 =>
 if ((a6.Mode != 1)) = true then
 (Z2i)
 else
 (Z5r r2.2 r3.2 r4.2)))))
theorem Z9k  : Sim (Z2K) (Z4U) (EE 15 [] []) := by
 unfold Z4U
 refine zf (ZiH ..) ?_
 refine ze ?_
 refine ze ?_
 refine zi fun r1 hr1 => ?_
 obtain ⟨qr1, er1, exr1, rfl⟩ := Z47 ((ByteArray.mk #[97, 124, 98, 42, 63])) r1 hr1
 refine zc [] (.p (.tup [(.agg (Z1d r1.1 .sh .sh)), (.agg (Z12 r1.2))])) [] er1 ?_
 refine zo (.p (.agg (Z1d r1.1 .sh .sh))) ?_
 refine zo (.p (.agg (Z12 r1.2))) ?_
 refine zz (.ptr 0 0) [(Zv (ZC.mk (Z3.mk 0 0 0 0 0 ([] : List Z7) ([] : List Z3)) 0 false) .nl .nl)] ?_
 refine zz (.ptr 1 0) [(Zv (ZC.mk (Z3.mk 0 0 0 0 0 ([] : List Z7) ([] : List Z3)) 0 false) .nl .nl), (ZD (Zi.mk 0 0))] ?_
 refine zt [(Zv r1.1 .sh .sh), (ZD (Zi.mk 0 0))] ?_
 refine zt [(Zv r1.1 .sh .sh), (ZD r1.2)] ?_
 refine ze ?_
 refine zi fun r2 hr2 => ?_
 obtain ⟨qr2, er2, exr2, rfl⟩ := Z47 ((ByteArray.mk #[97, 42, 42])) r2 hr2
 refine zc [] (.p (.tup [(.agg (Z1d r2.1 .sh .sh)), (.agg (Z12 r2.2))])) [(Zv r1.1 .sh .sh), (ZD r1.2)] er2 ?_
 refine zo (.p (.agg (Z1d r2.1 .sh .sh))) ?_
 refine zo (.p (.agg (Z12 r2.2))) ?_
 refine zz (.ptr 2 0) [(Zv r1.1 .sh .sh), (ZD r1.2), (Zv (ZC.mk (Z3.mk 0 0 0 0 0 ([] : List Z7) ([] : List Z3)) 0 false) .nl .nl)] ?_
 refine zz (.ptr 3 0) [(Zv r1.1 .sh .sh), (ZD r1.2), (Zv (ZC.mk (Z3.mk 0 0 0 0 0 ([] : List Z7) ([] : List Z3)) 0 false) .nl .nl), (ZD (Zi.mk 0 0))] ?_
 refine zt [(Zv r1.1 .sh .sh), (ZD r1.2), (Zv r2.1 .sh .sh), (ZD (Zi.mk 0 0))] ?_
 refine zt [(Zv r1.1 .sh .sh), (ZD r1.2), (Zv r2.1 .sh .sh), (ZD r2.2)] ?_
 refine ze ?_
 refine zi fun r3 hr3 => ?_
 obtain ⟨qr3, er3, exr3, rfl⟩ := Z47 ((ByteArray.mk #[40, 97])) r3 hr3
 refine zc [] (.p (.tup [(.agg (Z1d r3.1 .sh .sh)), (.agg (Z12 r3.2))])) [(Zv r1.1 .sh .sh), (ZD r1.2), (Zv r2.1 .sh .sh), (ZD r2.2)] er3 ?_
 refine zo (.p (.agg (Z1d r3.1 .sh .sh))) ?_
 refine zo (.p (.agg (Z12 r3.2))) ?_
 refine zz (.ptr 4 0) [(Zv r1.1 .sh .sh), (ZD r1.2), (Zv r2.1 .sh .sh), (ZD r2.2), (Zv (ZC.mk (Z3.mk 0 0 0 0 0 ([] : List Z7) ([] : List Z3)) 0 false) .nl .nl)] ?_
 refine zz (.ptr 5 0) [(Zv r1.1 .sh .sh), (ZD r1.2), (Zv r2.1 .sh .sh), (ZD r2.2), (Zv (ZC.mk (Z3.mk 0 0 0 0 0 ([] : List Z7) ([] : List Z3)) 0 false) .nl .nl), (ZD (Zi.mk 0 0))] ?_
 refine zt [(Zv r1.1 .sh .sh), (ZD r1.2), (Zv r2.1 .sh .sh), (ZD r2.2), (Zv r3.1 .sh .sh), (ZD (Zi.mk 0 0))] ?_
 refine zt [(Zv r1.1 .sh .sh), (ZD r1.2), (Zv r2.1 .sh .sh), (ZD r2.2), (Zv r3.1 .sh .sh), (ZD r3.2)] ?_
 refine ze ?_
 refine zi fun r4 hr4 => ?_
 obtain ⟨qr4, er4, exr4, rfl⟩ := Z47 ((ByteArray.mk #[92, 49])) r4 hr4
 refine zc [] (.p (.tup [(.agg (Z1d r4.1 .sh .sh)), (.agg (Z12 r4.2))])) [(Zv r1.1 .sh .sh), (ZD r1.2), (Zv r2.1 .sh .sh), (ZD r2.2), (Zv r3.1 .sh .sh), (ZD r3.2)] er4 ?_
 refine zo (.p (.agg (Z1d r4.1 .sh .sh))) ?_
 refine zo (.p (.agg (Z12 r4.2))) ?_
 refine zz (.ptr 6 0) [(Zv r1.1 .sh .sh), (ZD r1.2), (Zv r2.1 .sh .sh), (ZD r2.2), (Zv r3.1 .sh .sh), (ZD r3.2), (Zv (ZC.mk (Z3.mk 0 0 0 0 0 ([] : List Z7) ([] : List Z3)) 0 false) .nl .nl)] ?_
 refine zz (.ptr 7 0) [(Zv r1.1 .sh .sh), (ZD r1.2), (Zv r2.1 .sh .sh), (ZD r2.2), (Zv r3.1 .sh .sh), (ZD r3.2), (Zv (ZC.mk (Z3.mk 0 0 0 0 0 ([] : List Z7) ([] : List Z3)) 0 false) .nl .nl), (ZD (Zi.mk 0 0))] ?_
 refine zt [(Zv r1.1 .sh .sh), (ZD r1.2), (Zv r2.1 .sh .sh), (ZD r2.2), (Zv r3.1 .sh .sh), (ZD r3.2), (Zv r4.1 .sh .sh), (ZD (Zi.mk 0 0))] ?_
 refine zt [(Zv r1.1 .sh .sh), (ZD r1.2), (Zv r2.1 .sh .sh), (ZD r2.2), (Zv r3.1 .sh .sh), (ZD r3.2), (Zv r4.1 .sh .sh), (ZD r4.2)] ?_
 refine ze ?_
 refine zo (.ptr 1 0) ?_
 refine zo (iv r1.2.Code) ?_
 refine zo (bv (r1.2.Code != 0)) ?_
 refine za ((r1.2.Code != 0)) ?_ ?_
 ·exact zk (Z2N )
 ·refine zo (.ptr 0 0) ?_
  refine zo (.ptr 0 0) ?_
  refine zo (iv r1.1.Root.Kind) ?_
  refine zo (bv (r1.1.Root.Kind != 3)) ?_
  refine za ((r1.1.Root.Kind != 3)) ?_ ?_
  ·exact zk (Z2N )
  ·refine zo (.ptr 0 0) ?_
   refine zo (.ptr 0 6) ?_
   refine zo (.p (.lst .sh (r1.1.Root.Kids.map ZI))) ?_
   refine zo (iv (r1.1.Root.Kids.length : Int)) ?_ (Eq.trans (by kernel_rfl) (xlen_of (P := PP) (t := 25) (d := 27) (by kernel_rfl) ZI .sh r1.1.Root.Kids))
   refine zo (bv ((r1.1.Root.Kids.length : Int) != 2)) ?_
   refine za (((r1.1.Root.Kids.length : Int) != 2)) ?_ ?_
   ·exact zk (Z2N )
   ·refine zo (.ptr 0 0) ?_
    refine zo (.ptr 0 6) ?_
    refine zo (.p (.lst .sh (r1.1.Root.Kids.map ZI))) ?_
    refine zi fun a5 ha5 => ?_
    refine zo (.cptr (ZE a5 .sh .sh)) ?_ (Eq.trans (by kernel_rfl) (xidx_of (o := .sh) (k := .i64) (n := 7) (e := ZI) (cs := Z2e) Z5x (fun _ => rfl) (by decide) ha5))
    refine zo (.cptr [(.v (.int .i64 a5.Kind)), (.v (.int .i64 a5.Lo)), (.v (.int .i64 a5.Hi)), (.v (.int .i64 a5.Mode)), (.v (.int .i64 a5.Ref)), (.lst .sh (a5.Set.map Zs)), (.lst .sh (a5.Kids.map ZI))]) ?_
    refine zo (iv a5.Kind) ?_
    refine zo (bv (a5.Kind != 4)) ?_
    refine za ((a5.Kind != 4)) ?_ ?_
    ·exact zk (Z2N )
    ·refine zo (.ptr 0 0) ?_
     refine zo (.ptr 0 6) ?_
     refine zo (.p (.lst .sh (r1.1.Root.Kids.map ZI))) ?_
     refine zi fun a6 ha6 => ?_
     refine zo (.cptr (ZE a6 .sh .sh)) ?_ (Eq.trans (by kernel_rfl) (xidx_of (o := .sh) (k := .i64) (n := 7) (e := ZI) (cs := Z2e) Z5x (fun _ => rfl) (by decide) ha6))
     refine zo (.cptr [(.v (.int .i64 a6.Mode)), (.v (.int .i64 a6.Ref)), (.lst .sh (a6.Set.map Zs)), (.lst .sh (a6.Kids.map ZI))]) ?_
     refine zo (iv a6.Mode) ?_
     refine zo (bv (a6.Mode != 1)) ?_
     refine za ((a6.Mode != 1)) ?_ ?_
     ·exact zk (Z2N )
     ·exact zk (Z8z (r1.1) (r1.2) (r2.1) (r2.2) (r3.1) (r3.2) (r4.1) (r4.2) .sh .sh .sh .sh .sh .sh .sh .sh)
theorem Z9K  {r} (h : Z4U = some r) : Z51 = some r :=
 pick_of (fun _ _ ha hb => RRun.uniq (Za5) (ha ) (hb )) (Z9k  r h)
noncomputable def Z2Z (z1P : List Int) (zR : Int) (z1b : List Zr) (zJ : Int) (zS : Int) (zN : Int) (zU : Int) (zV : Int) (zL : Int) (zP : Int) (zO : List Z7) (zM : List Z3) (z11 : Bool) : Option (ZC × Zi) :=
 Z4O z1b ((z1b.length : Int)) 0 z1P zR zJ zS zN zU zV zL zP zO zM z11
theorem Z6m (b0 : ZC) (b1 : Zi) (z1P : List Int) (z1J : Int) (zR : Int) (z1x : Int) (z1b : List Zr) (zJ : Int) (zS : Int) (zN : Int) (zU : Int) (zV : Int) (zL : Int) (zP : Int) (zO : List Z7) (zM : List Z3) (z1o : Int) (z11 : Bool) (zH : Own) (zF : Own) (z2b : Own) (z15 : Own) (zY : Own) (zX : Own) (z1t : okApp zH = true) (z1k : okApp zF = true) (z2n : okApp z15 = true) : Sim (Z2d) (Z2Z z1P zR z1b zJ zS zN zU zV zL zP zO zM z11) (ZbQ 0 (.ptr 0 0) (.ptr 1 0) (.ptr 2 0) (.ptr 3 0) [(Zv b0 zH zF), (ZD b1), (Zj (Zk.mk z1P z1J zR z1x z1b (Zi.mk zJ zS)) z2b z15), (Zv (ZC.mk (Z3.mk zN zU zV zL zP zO zM) z1o z11) zY zX)]) := by
 unfold Z2Z
 refine zf (ZfY ..) ?_
 refine ze ?_
 refine zo (.ptr 2 0) ?_
 refine zo (.ptr 2 4) ?_
 refine zo (.p (.lst (shrO z15) (z1b.map Z1y))) ?_
 refine zo (iv (z1b.length : Int)) ?_ (Eq.trans (by kernel_rfl) (xlen_of (P := PP) (t := 56) (d := 62) (by kernel_rfl) Z1y (shrO z15) z1b))
 exact zk (Z8I (z1b) ((z1b.length : Int)) (0) (b0) (b1) (z1P) (z1J) (zR) (z1x) (z1b) (zJ) (zS) (zN) (zU) (zV) (zL) (zP) (zO) (zM) (z1o) (z11) (shrO z15) zH zF z2b z15 zY zX z1t z1k z2n)
noncomputable def Z5B (z1P : List Int) (z1J : Int) (zR : Int) (z1b : List Zr) (zJ : Int) (zS : Int) (zN : Int) (zU : Int) (zV : Int) (zL : Int) (zP : Int) (zO : List Z7) (zM : List Z3) (z11 : Bool) : Option (ZC × Zi) :=
 (ZT 20 z1J z1P zJ zS).bind fun r1 =>
 Z2Z z1P zR z1b r1.2.1 r1.2.2 zN zU zV zL zP zO zM z11
theorem Zbw (b0 : ZC) (b1 : Zi) (z1P : List Int) (z1J : Int) (zR : Int) (z1x : Int) (z1b : List Zr) (zJ : Int) (zS : Int) (zN : Int) (zU : Int) (zV : Int) (zL : Int) (zP : Int) (zO : List Z7) (zM : List Z3) (z1o : Int) (z11 : Bool) (zH : Own) (zF : Own) (z2b : Own) (z15 : Own) (zY : Own) (zX : Own) (z1t : okApp zH = true) (z1k : okApp zF = true) (z2n : okApp z15 = true) : Sim (Z2d) (Z5B z1P z1J zR z1b zJ zS zN zU zV zL zP zO zM z11) (ZdP 0 (.ptr 0 0) (.ptr 1 0) (.ptr 2 0) (.ptr 3 0) [(Zv b0 zH zF), (ZD b1), (Zj (Zk.mk z1P z1J zR z1x z1b (Zi.mk zJ zS)) z2b z15), (Zv (ZC.mk (Z3.mk zN zU zV zL zP zO zM) z1o z11) zY zX)]) := by
 unfold Z5B
 refine zf (ZfO ..) ?_
 refine ze ?_
 refine zo (.ptr 2 0) ?_
 refine zo (.ptr 2 1) ?_
 refine zo (iv z1J) ?_
 refine zi fun r1 hr1 => ?_
 obtain ⟨qr1, er1, exr1, rfl⟩ := ZW (20) (z1J) (z1P) (z1J) (zR) (z1x) (z1b) (zJ) (zS) z2b z15 z2n r1 hr1
 refine zc [2] (.p (.tup [])) [(Zv b0 zH zF), (ZD b1), (Zj (Zk.mk z1P r1.1 zR z1x z1b (Zi.mk r1.2.1 r1.2.2)) z2b z15), (Zv (ZC.mk (Z3.mk zN zU zV zL zP zO zM) z1o z11) zY zX)] er1 ?_
 exact zk (Z6m (b0) (b1) (z1P) (r1.1) (zR) (z1x) (z1b) (r1.2.1) (r1.2.2) (zN) (zU) (zV) (zL) (zP) (zO) (zM) (z1o) (z11) zH zF z2b z15 zY zX z1t z1k z2n)
noncomputable def Z6n (x0 : ByteArray) : Option (ZC × Zi) :=
 (Z13 ((ByteArray.mk #[40, 63, 105, 41])) ((bytesI x0)) 0).bind fun r1 =>
 (Z2J ((bytesI x0)) r1.2 0 0 (([] : List Zr)) 0 0).bind fun r2 =>
 if ((r2.2.2.2.2.2.1 == 0)) = true then
 (if ((decide (r2.2.1 < ((bytesI x0).length : Int)))) = true then
 (Z5B ((bytesI x0)) r2.2.1 r2.2.2.1 r2.2.2.2.2.1 r2.2.2.2.2.2.1 r2.2.2.2.2.2.2 r2.1.Kind r2.1.Lo r2.1.Hi r2.1.Mode r2.1.Ref r2.1.Set r2.1.Kids r1.1)
 else
 (Z2Z ((bytesI x0)) r2.2.2.1 r2.2.2.2.2.1 r2.2.2.2.2.2.1 r2.2.2.2.2.2.2 r2.1.Kind r2.1.Lo r2.1.Hi r2.1.Mode r2.1.Ref r2.1.Set r2.1.Kids r1.1))
 else
 (Z2Z ((bytesI x0)) r2.2.2.1 r2.2.2.2.2.1 r2.2.2.2.2.2.1 r2.2.2.2.2.2.2 r2.1.Kind r2.1.Lo r2.1.Hi r2.1.Mode r2.1.Ref r2.1.Set r2.1.Kids r1.1)
theorem Zbz (x0 : ByteArray) (b0 : ZC) (b1 : Zi) (zH : Own) (zF : Own) (z1t : okApp zH = true) (z1k : okApp zF = true) : Sim (Z2d) (Z6n x0) (Zez 0 (.p (.v (.string x0))) (.ptr 0 0) (.ptr 1 0) [(Zv b0 zH zF), (ZD b1)]) := by
 unfold Z6n
 refine zf (ZgD ..) ?_
 refine ze ?_
 refine zo (.p (.lst .sh ((bytesI x0).map (eI .u8)))) ?_ (Eq.trans (by kernel_rfl) (xcnv_byt (P := PP) (s := 9) (d := 40) (by kernel_rfl) (by kernel_rfl) x0))
 refine zo (.p (.agg (ZcC (Zk.mk (bytesI x0) 0 0 0 ([] : List Zr) (Zi.mk 0 0)) .sh .nl))) ?_
 refine zx (.ptr 2 0) [(Zv b0 zH zF), (ZD b1), (Zj (Zk.mk (bytesI x0) 0 0 0 ([] : List Zr) (Zi.mk 0 0)) .sh .nl)] ?_
 refine ze ?_
 refine zi fun r1 hr1 => ?_
 obtain ⟨qr1, er1, exr1, rfl⟩ := Z18 ((ByteArray.mk #[40, 63, 105, 41])) ((bytesI x0)) (0) (0) (0) (([] : List Zr)) (0) (0) .sh .nl rfl r1 hr1
 refine zc [2] (bv r1.1) [(Zv b0 zH zF), (ZD b1), (Zj (Zk.mk (bytesI x0) r1.2 0 0 ([] : List Zr) (Zi.mk 0 0)) .sh .nl)] er1 ?_
 refine zo (.p (.agg (Z1d (ZC.mk (Z3.mk 0 0 0 0 0 ([] : List Z7) ([] : List Z3)) 0 r1.1) .nl .nl))) ?_
 refine zz (.ptr 3 0) [(Zv b0 zH zF), (ZD b1), (Zj (Zk.mk (bytesI x0) r1.2 0 0 ([] : List Zr) (Zi.mk 0 0)) .sh .nl), (Zv (ZC.mk (Z3.mk 0 0 0 0 0 ([] : List Z7) ([] : List Z3)) 0 false) .nl .nl)] ?_
 refine zt [(Zv b0 zH zF), (ZD b1), (Zj (Zk.mk (bytesI x0) r1.2 0 0 ([] : List Zr) (Zi.mk 0 0)) .sh .nl), (Zv (ZC.mk (Z3.mk 0 0 0 0 0 ([] : List Z7) ([] : List Z3)) 0 r1.1) .nl .nl)] ?_
 refine ze ?_
 refine zi fun r2 hr2 => ?_
 obtain ⟨qr2, er2, or2_0_4, exr2, hor2_0_4, rfl⟩ := Z85 ((bytesI x0)) (r1.2) (0) (0) (([] : List Zr)) (0) (0) .sh .nl rfl r2 hr2
 refine zc [2] (.p (.agg (ZE r2.1 .sh .sh))) [(Zv b0 zH zF), (ZD b1), (Zj (Zk.mk (bytesI x0) r2.2.1 r2.2.2.1 r2.2.2.2.1 r2.2.2.2.2.1 (Zi.mk r2.2.2.2.2.2.1 r2.2.2.2.2.2.2)) .sh or2_0_4), (Zv (ZC.mk (Z3.mk 0 0 0 0 0 ([] : List Z7) ([] : List Z3)) 0 r1.1) .nl .nl)] er2 ?_
 refine zo (.ptr 3 0) ?_
 refine zt [(Zv b0 zH zF), (ZD b1), (Zj (Zk.mk (bytesI x0) r2.2.1 r2.2.2.1 r2.2.2.2.1 r2.2.2.2.2.1 (Zi.mk r2.2.2.2.2.2.1 r2.2.2.2.2.2.2)) .sh or2_0_4), (Zv (ZC.mk (Z3.mk r2.1.Kind r2.1.Lo r2.1.Hi r2.1.Mode r2.1.Ref r2.1.Set r2.1.Kids) 0 r1.1) .sh .sh)] ?_
 refine ze ?_
 refine zo (.ptr 2 0) ?_
 refine zo (.ptr 2 5) ?_
 refine zo (.ptr 2 5) ?_
 refine zo (iv r2.2.2.2.2.2.1) ?_
 refine zo (bv (r2.2.2.2.2.2.1 == 0)) ?_
 refine za ((r2.2.2.2.2.2.1 == 0)) ?_ ?_
 ·refine zo (.ptr 2 0) ?_
  refine zo (.ptr 2 1) ?_
  refine zo (iv r2.2.1) ?_
  refine zo (.ptr 2 0) ?_
  refine zo (.ptr 2 0) ?_
  refine zo (.p (.lst .sh ((bytesI x0).map (eI .u8)))) ?_
  refine zo (iv ((bytesI x0).length : Int)) ?_ (Eq.trans (by kernel_rfl) (xlen_of (P := PP) (t := 40) (d := 5) (by kernel_rfl) (eI .u8) .sh (bytesI x0)))
  refine zo (bv (decide (r2.2.1 < ((bytesI x0).length : Int)))) ?_
  refine za ((decide (r2.2.1 < ((bytesI x0).length : Int)))) ?_ ?_
  ·exact zk (Zbw (b0) (b1) ((bytesI x0)) (r2.2.1) (r2.2.2.1) (r2.2.2.2.1) (r2.2.2.2.2.1) (r2.2.2.2.2.2.1) (r2.2.2.2.2.2.2) (r2.1.Kind) (r2.1.Lo) (r2.1.Hi) (r2.1.Mode) (r2.1.Ref) (r2.1.Set) (r2.1.Kids) (0) (r1.1) zH zF .sh or2_0_4 .sh .sh z1t z1k hor2_0_4)
  ·exact zk (Z6m (b0) (b1) ((bytesI x0)) (r2.2.1) (r2.2.2.1) (r2.2.2.2.1) (r2.2.2.2.2.1) (r2.2.2.2.2.2.1) (r2.2.2.2.2.2.2) (r2.1.Kind) (r2.1.Lo) (r2.1.Hi) (r2.1.Mode) (r2.1.Ref) (r2.1.Set) (r2.1.Kids) (0) (r1.1) zH zF .sh or2_0_4 .sh .sh z1t z1k hor2_0_4)
 ·exact zk (Z6m (b0) (b1) ((bytesI x0)) (r2.2.1) (r2.2.2.1) (r2.2.2.2.1) (r2.2.2.2.2.1) (r2.2.2.2.2.2.1) (r2.2.2.2.2.2.2) (r2.1.Kind) (r2.1.Lo) (r2.1.Hi) (r2.1.Mode) (r2.1.Ref) (r2.1.Set) (r2.1.Kids) (0) (r1.1) zH zF .sh or2_0_4 .sh .sh z1t z1k hor2_0_4)
noncomputable def Z7O (x0 : ByteArray) : Option (ZC × Zi) :=
 if ((decide (256 < (x0.size : Int)))) = true then
 (some ((ZC.mk (Z3.mk 0 0 0 0 0 ([] : List Z7) ([] : List Z3)) 0 false), (Zi.mk 12 0)))
 else
 (Z6n x0)
theorem Zcd (x0 : ByteArray) : Sim (Z2d) (Z7O x0) (EE 16 [(.p (.v (.string x0)))] []) := by
 unfold Z7O
 refine zf (Zij ..) ?_
 refine ze ?_
 refine zz (.ptr 0 0) [(Zv (ZC.mk (Z3.mk 0 0 0 0 0 ([] : List Z7) ([] : List Z3)) 0 false) .nl .nl)] ?_
 refine zz (.ptr 1 0) [(Zv (ZC.mk (Z3.mk 0 0 0 0 0 ([] : List Z7) ([] : List Z3)) 0 false) .nl .nl), (ZD (Zi.mk 0 0))] ?_
 refine ze ?_
 refine zo (iv (x0.size : Int)) ?_
 refine zo (bv (decide (256 < (x0.size : Int)))) ?_
 refine za ((decide (256 < (x0.size : Int)))) ?_ ?_
 ·refine ze ?_
  refine zo (.p (.agg (Z1d (ZC.mk (Z3.mk 0 0 0 0 0 ([] : List Z7) ([] : List Z3)) 0 false) .nl .nl))) ?_
  refine zo (.p (.agg (Z12 (Zi.mk 12 0)))) ?_
  refine zt [(Zv (ZC.mk (Z3.mk 0 0 0 0 0 ([] : List Z7) ([] : List Z3)) 0 false) .nl .nl), (ZD (Zi.mk 0 0))] ?_
  refine zt [(Zv (ZC.mk (Z3.mk 0 0 0 0 0 ([] : List Z7) ([] : List Z3)) 0 false) .nl .nl), (ZD (Zi.mk 12 0))] ?_
  exact zr ((.p (.tup [(.agg (Z1d (ZC.mk (Z3.mk 0 0 0 0 0 ([] : List Z7) ([] : List Z3)) 0 false) .sh .sh)), (.agg (Z12 (Zi.mk 12 0)))])), [(Zv (ZC.mk (Z3.mk 0 0 0 0 0 ([] : List Z7) ([] : List Z3)) 0 false) .nl .nl), (ZD (Zi.mk 12 0))]) ⟨_, rfl⟩
 ·exact zk (Zbz (x0) ((ZC.mk (Z3.mk 0 0 0 0 0 ([] : List Z7) ([] : List Z3)) 0 false)) ((Zi.mk 0 0)) .nl .nl rfl rfl)
theorem Zcl (x0 : ByteArray) {r} (h : Z7O x0 = some r) : Z3E x0 = some r :=
 pick_of (fun _ _ ha hb => RRun.uniq (Zau) (ha ) (hb )) (Zcd x0 r h)
noncomputable def Z3g (x50 : List Zr) (x51 : Int) (x52 : Int) (z1P : List Int) (zR : Int) (zJ : Int) (zS : Int) (zN : Int) (zU : Int) (zV : Int) (zL : Int) (zP : Int) (zO : List Z7) (zM : List Z3) (z11 : Bool) : Option (ZC × Zi) :=
 Z4O x50 x51 ((IntKind.i64.wrap (x52 + 1))) z1P zR zJ zS zN zU zV zL zP zO zM z11
theorem Z83 (x50 : List Zr) (x51 : Int) (x52 : Int) (b0 : ZC) (b1 : Zi) (z1P : List Int) (z1J : Int) (zR : Int) (z1x : Int) (z1b : List Zr) (zJ : Int) (zS : Int) (zN : Int) (zU : Int) (zV : Int) (zL : Int) (zP : Int) (zO : List Z7) (zM : List Z3) (z1o : Int) (z11 : Bool) (ox50 : Own) (zH : Own) (zF : Own) (z2b : Own) (z15 : Own) (zY : Own) (zX : Own) (z1t : okApp zH = true) (z1k : okApp zF = true) (z2n : okApp z15 = true) : Sim (Z2d) (Z3g x50 x51 x52 z1P zR zJ zS zN zU zV zL zP zO zM z11) (Zc8 0 (.ptr 0 0) (.ptr 1 0) (.ptr 2 0) (.ptr 3 0) (.p (.lst ox50 (x50.map Z1y))) (iv x51) (iv x52) [(Zv b0 zH zF), (ZD b1), (Zj (Zk.mk z1P z1J zR z1x z1b (Zi.mk zJ zS)) z2b z15), (Zv (ZC.mk (Z3.mk zN zU zV zL zP zO zM) z1o z11) zY zX)]) := by
 unfold Z3g
 refine zf (Zfc ..) ?_
 refine ze ?_
 refine zo (iv (IntKind.i64.wrap (x52 + 1))) ?_
 exact zk (Z8I (x50) (x51) ((IntKind.i64.wrap (x52 + 1))) (b0) (b1) (z1P) (z1J) (zR) (z1x) (z1b) (zJ) (zS) (zN) (zU) (zV) (zL) (zP) (zO) (zM) (z1o) (z11) ox50 zH zF z2b z15 zY zX z1t z1k z2n)
noncomputable def Z5n (x50 : List Zr) (x51 : Int) (x52 : Int) (z1P : List Int) (zR : Int) (zJ : Int) (zS : Int) (zN : Int) (zU : Int) (zV : Int) (zL : Int) (zP : Int) (zO : List Z7) (zM : List Z3) (z11 : Bool) : Option (ZC × Zi) :=
 (lget x50 x52).bind fun a1 =>
 if ((decide (zR < a1.group))) = true then
 ((ZT 26 a1.at_ z1P zJ zS).bind fun r2 =>
 Z3g x50 x51 x52 z1P zR r2.2.1 r2.2.2 zN zU zV zL zP zO zM z11)
 else
 (Z3g x50 x51 x52 z1P zR zJ zS zN zU zV zL zP zO zM z11)
theorem Zb2 (x50 : List Zr) (x51 : Int) (x52 : Int) (b0 : ZC) (b1 : Zi) (z1P : List Int) (z1J : Int) (zR : Int) (z1x : Int) (z1b : List Zr) (zJ : Int) (zS : Int) (zN : Int) (zU : Int) (zV : Int) (zL : Int) (zP : Int) (zO : List Z7) (zM : List Z3) (z1o : Int) (z11 : Bool) (ox50 : Own) (zH : Own) (zF : Own) (z2b : Own) (z15 : Own) (zY : Own) (zX : Own) (z1t : okApp zH = true) (z1k : okApp zF = true) (z2n : okApp z15 = true) : Sim (Z2d) (Z5n x50 x51 x52 z1P zR zJ zS zN zU zV zL zP zO zM z11) (ZcV 0 (.ptr 0 0) (.ptr 1 0) (.ptr 2 0) (.ptr 3 0) (.p (.lst ox50 (x50.map Z1y))) (iv x51) (iv x52) [(Zv b0 zH zF), (ZD b1), (Zj (Zk.mk z1P z1J zR z1x z1b (Zi.mk zJ zS)) z2b z15), (Zv (ZC.mk (Z3.mk zN zU zV zL zP zO zM) z1o z11) zY zX)]) := by
 unfold Z5n
 refine zf (Zf6 ..) ?_
 refine ze ?_
 refine zi fun a1 ha1 => ?_
 refine zo (.cptr (Z7Y a1)) ?_ (Eq.trans (by kernel_rfl) (xidx_of (o := ox50) (k := .i64) (n := 2) (e := Z1y) (cs := Z6k) (fun _ => rfl) (fun _ => rfl) (by decide) ha1))
 refine zo (.p (.agg (Z7Y a1))) ?_
 refine zz (.ptr 4 0) [(Zv b0 zH zF), (ZD b1), (Zj (Zk.mk z1P z1J zR z1x z1b (Zi.mk zJ zS)) z2b z15), (Zv (ZC.mk (Z3.mk zN zU zV zL zP zO zM) z1o z11) zY zX), (Z7X (Zr.mk 0 0))] ?_
 refine zt [(Zv b0 zH zF), (ZD b1), (Zj (Zk.mk z1P z1J zR z1x z1b (Zi.mk zJ zS)) z2b z15), (Zv (ZC.mk (Z3.mk zN zU zV zL zP zO zM) z1o z11) zY zX), (Z7X a1)] ?_
 refine ze ?_
 refine zo (.ptr 4 0) ?_
 refine zo (iv a1.group) ?_
 refine zo (.ptr 2 0) ?_
 refine zo (.ptr 2 2) ?_
 refine zo (iv zR) ?_
 refine zo (bv (decide (zR < a1.group))) ?_
 refine za ((decide (zR < a1.group))) ?_ ?_
 ·refine ze ?_
  refine zo (.ptr 4 1) ?_
  refine zo (iv a1.at_) ?_
  refine zi fun r2 hr2 => ?_
  obtain ⟨qr2, er2, exr2, rfl⟩ := ZW (26) (a1.at_) (z1P) (z1J) (zR) (z1x) (z1b) (zJ) (zS) z2b z15 z2n r2 hr2
  refine zc [2] (.p (.tup [])) [(Zv b0 zH zF), (ZD b1), (Zj (Zk.mk z1P r2.1 zR z1x z1b (Zi.mk r2.2.1 r2.2.2)) z2b z15), (Zv (ZC.mk (Z3.mk zN zU zV zL zP zO zM) z1o z11) zY zX), (Z7X a1)] er2 ?_
  exact zk (Z83 (x50) (x51) (x52) (b0) (b1) (z1P) (r2.1) (zR) (z1x) (z1b) (r2.2.1) (r2.2.2) (zN) (zU) (zV) (zL) (zP) (zO) (zM) (z1o) (z11) ox50 zH zF z2b z15 zY zX z1t z1k z2n)
 ·exact zk (Z83 (x50) (x51) (x52) (b0) (b1) (z1P) (z1J) (zR) (z1x) (z1b) (zJ) (zS) (zN) (zU) (zV) (zL) (zP) (zO) (zM) (z1o) (z11) ox50 zH zF z2b z15 zY zX z1t z1k z2n)
noncomputable def Z7w (zR : Int) (zN : Int) (zU : Int) (zV : Int) (zL : Int) (zP : Int) (zO : List Z7) (zM : List Z3) (z11 : Bool) : Option (ZC × Zi) :=
 some ((ZC.mk (Z3.mk zN zU zV zL zP zO zM) zR z11), (Zi.mk 0 0))
theorem ZaZ (b0 : ZC) (b1 : Zi) (z1P : List Int) (z1J : Int) (zR : Int) (z1x : Int) (z1b : List Zr) (zJ : Int) (zS : Int) (zN : Int) (zU : Int) (zV : Int) (zL : Int) (zP : Int) (zO : List Z7) (zM : List Z3) (z1o : Int) (z11 : Bool) (zH : Own) (zF : Own) (z2b : Own) (z15 : Own) (zY : Own) (zX : Own) (z1t : okApp zH = true) (z1k : okApp zF = true) (z2n : okApp z15 = true) : Sim (Z2d) (Z7w zR zN zU zV zL zP zO zM z11) (Zd8 0 (.ptr 0 0) (.ptr 1 0) (.ptr 2 0) (.ptr 3 0) [(Zv b0 zH zF), (ZD b1), (Zj (Zk.mk z1P z1J zR z1x z1b (Zi.mk zJ zS)) z2b z15), (Zv (ZC.mk (Z3.mk zN zU zV zL zP zO zM) z1o z11) zY zX)]) := by
 unfold Z7w
 refine zf (Zfp ..) ?_
 refine ze ?_
 refine zo (.ptr 2 0) ?_
 refine zo (.ptr 2 2) ?_
 refine zo (iv zR) ?_
 refine zo (.ptr 3 7) ?_
 refine zt [(Zv b0 zH zF), (ZD b1), (Zj (Zk.mk z1P z1J zR z1x z1b (Zi.mk zJ zS)) z2b z15), (Zv (ZC.mk (Z3.mk zN zU zV zL zP zO zM) zR z11) zY zX)] ?_
 refine ze ?_
 refine zo (.p (.agg (Z1d (ZC.mk (Z3.mk zN zU zV zL zP zO zM) zR z11) (shrO zY) (shrO zX)))) ?_
 refine zo (.p (.agg (Z12 (Zi.mk 0 0)))) ?_
 refine zt [(Zv (ZC.mk (Z3.mk zN zU zV zL zP zO zM) zR z11) (shrO zY) (shrO zX)), (ZD b1), (Zj (Zk.mk z1P z1J zR z1x z1b (Zi.mk zJ zS)) z2b z15), (Zv (ZC.mk (Z3.mk zN zU zV zL zP zO zM) zR z11) zY zX)] ?_
 refine zt [(Zv (ZC.mk (Z3.mk zN zU zV zL zP zO zM) zR z11) (shrO zY) (shrO zX)), (ZD (Zi.mk 0 0)), (Zj (Zk.mk z1P z1J zR z1x z1b (Zi.mk zJ zS)) z2b z15), (Zv (ZC.mk (Z3.mk zN zU zV zL zP zO zM) zR z11) zY zX)] ?_
 exact zr ((.p (.tup [(.agg (Z1d (ZC.mk (Z3.mk zN zU zV zL zP zO zM) zR z11) .sh .sh)), (.agg (Z12 (Zi.mk 0 0)))])), [(Zv (ZC.mk (Z3.mk zN zU zV zL zP zO zM) zR z11) (shrO zY) (shrO zX)), (ZD (Zi.mk 0 0)), (Zj (Zk.mk z1P z1J zR z1x z1b (Zi.mk zJ zS)) z2b z15), (Zv (ZC.mk (Z3.mk zN zU zV zL zP zO zM) zR z11) zY zX)]) ⟨_, rfl⟩
noncomputable def Z5m (zR : Int) (zJ : Int) (zS : Int) (zN : Int) (zU : Int) (zV : Int) (zL : Int) (zP : Int) (zO : List Z7) (zM : List Z3) (z11 : Bool) : Option (ZC × Zi) :=
 if ((zJ != 0)) = true then
 (some ((ZC.mk (Z3.mk 0 0 0 0 0 ([] : List Z7) ([] : List Z3)) 0 false), (Zi.mk zJ zS)))
 else
 (Z7w zR zN zU zV zL zP zO zM z11)
theorem Zb7 (b0 : ZC) (b1 : Zi) (z1P : List Int) (z1J : Int) (zR : Int) (z1x : Int) (z1b : List Zr) (zJ : Int) (zS : Int) (zN : Int) (zU : Int) (zV : Int) (zL : Int) (zP : Int) (zO : List Z7) (zM : List Z3) (z1o : Int) (z11 : Bool) (zH : Own) (zF : Own) (z2b : Own) (z15 : Own) (zY : Own) (zX : Own) (z1t : okApp zH = true) (z1k : okApp zF = true) (z2n : okApp z15 = true) : Sim (Z2d) (Z5m zR zJ zS zN zU zV zL zP zO zM z11) (Zd3 0 (.ptr 0 0) (.ptr 1 0) (.ptr 2 0) (.ptr 3 0) [(Zv b0 zH zF), (ZD b1), (Zj (Zk.mk z1P z1J zR z1x z1b (Zi.mk zJ zS)) z2b z15), (Zv (ZC.mk (Z3.mk zN zU zV zL zP zO zM) z1o z11) zY zX)]) := by
 unfold Z5m
 refine zf (Zf2 ..) ?_
 refine ze ?_
 refine zo (.ptr 2 0) ?_
 refine zo (.ptr 2 5) ?_
 refine zo (.ptr 2 5) ?_
 refine zo (iv zJ) ?_
 refine zo (bv (zJ != 0)) ?_
 refine za ((zJ != 0)) ?_ ?_
 ·refine ze ?_
  refine zo (.p (.agg (Z1d (ZC.mk (Z3.mk 0 0 0 0 0 ([] : List Z7) ([] : List Z3)) 0 false) .nl .nl))) ?_
  refine zo (.ptr 2 0) ?_
  refine zo (.ptr 2 5) ?_
  refine zo (.p (.agg (Z12 (Zi.mk zJ zS)))) ?_
  refine zt [(Zv (ZC.mk (Z3.mk 0 0 0 0 0 ([] : List Z7) ([] : List Z3)) 0 false) .nl .nl), (ZD b1), (Zj (Zk.mk z1P z1J zR z1x z1b (Zi.mk zJ zS)) z2b z15), (Zv (ZC.mk (Z3.mk zN zU zV zL zP zO zM) z1o z11) zY zX)] ?_
  refine zt [(Zv (ZC.mk (Z3.mk 0 0 0 0 0 ([] : List Z7) ([] : List Z3)) 0 false) .nl .nl), (ZD (Zi.mk zJ zS)), (Zj (Zk.mk z1P z1J zR z1x z1b (Zi.mk zJ zS)) z2b z15), (Zv (ZC.mk (Z3.mk zN zU zV zL zP zO zM) z1o z11) zY zX)] ?_
  refine zg ?_
  exact zr ((.p (.tup [(.agg (Z1d (ZC.mk (Z3.mk 0 0 0 0 0 ([] : List Z7) ([] : List Z3)) 0 false) .sh .sh)), (.agg (Z12 (Zi.mk zJ zS)))])), [(Zv (ZC.mk (Z3.mk 0 0 0 0 0 ([] : List Z7) ([] : List Z3)) 0 false) .nl .nl), (ZD (Zi.mk zJ zS)), (Zj (Zk.mk z1P z1J zR z1x z1b (Zi.mk zJ zS)) z2b z15), (Zv (ZC.mk (Z3.mk zN zU zV zL zP zO zM) z1o z11) zY zX)]) ⟨_, rfl⟩
 ·exact zk (ZaZ (b0) (b1) (z1P) (z1J) (zR) (z1x) (z1b) (zJ) (zS) (zN) (zU) (zV) (zL) (zP) (zO) (zM) (z1o) (z11) zH zF z2b z15 zY zX z1t z1k z2n)
noncomputable def Z45 (x50 : List Zr) (x51 : Int) (x52 : Int) (z1P : List Int) (zR : Int) (zJ : Int) (zS : Int) (zN : Int) (zU : Int) (zV : Int) (zL : Int) (zP : Int) (zO : List Z7) (zM : List Z3) (z11 : Bool) : Option (ZC × Zi) :=
 if ((decide (x52 < x51))) = true then
 (Z5n x50 x51 x52 z1P zR zJ zS zN zU zV zL zP zO zM z11)
 else
 (Z5m zR zJ zS zN zU zV zL zP zO zM z11)
theorem ZbA (x50 : List Zr) (x51 : Int) (x52 : Int) (b0 : ZC) (b1 : Zi) (z1P : List Int) (z1J : Int) (zR : Int) (z1x : Int) (z1b : List Zr) (zJ : Int) (zS : Int) (zN : Int) (zU : Int) (zV : Int) (zL : Int) (zP : Int) (zO : List Z7) (zM : List Z3) (z1o : Int) (z11 : Bool) (ox50 : Own) (zH : Own) (zF : Own) (z2b : Own) (z15 : Own) (zY : Own) (zX : Own) (z1t : okApp zH = true) (z1k : okApp zF = true) (z2n : okApp z15 = true) : Sim (Z2d) (Z45 x50 x51 x52 z1P zR zJ zS zN zU zV zL zP zO zM z11) (Zb6 0 (.ptr 0 0) (.ptr 1 0) (.ptr 2 0) (.ptr 3 0) (.p (.lst ox50 (x50.map Z1y))) (iv x51) (iv x52) [(Zv b0 zH zF), (ZD b1), (Zj (Zk.mk z1P z1J zR z1x z1b (Zi.mk zJ zS)) z2b z15), (Zv (ZC.mk (Z3.mk zN zU zV zL zP zO zM) z1o z11) zY zX)]) := by
 unfold Z45
 refine zf (Zge ..) ?_
 refine ze ?_
 refine zo (bv (decide (x52 < x51))) ?_
 refine za ((decide (x52 < x51))) ?_ ?_
 ·exact zk (Zb2 (x50) (x51) (x52) (b0) (b1) (z1P) (z1J) (zR) (z1x) (z1b) (zJ) (zS) (zN) (zU) (zV) (zL) (zP) (zO) (zM) (z1o) (z11) ox50 zH zF z2b z15 zY zX z1t z1k z2n)
 ·exact zk (Zb7 (b0) (b1) (z1P) (z1J) (zR) (z1x) (z1b) (zJ) (zS) (zN) (zU) (zV) (zL) (zP) (zO) (zM) (z1o) (z11) zH zF z2b z15 zY zX z1t z1k z2n)
theorem Z5J (x50 : List Zr) (x51 : Int) (x52 : Int) (z1P : List Int) (zR : Int) (zJ : Int) (zS : Int) (zN : Int) (zU : Int) (zV : Int) (zL : Int) (zP : Int) (zO : List Z7) (zM : List Z3) (z11 : Bool) {r} (h : Z45 x50 x51 x52 z1P zR zJ zS zN zU zV zL zP zO zM z11 = some r) : Z4O x50 x51 x52 z1P zR zJ zS zN zU zV zL zP zO zM z11 = some r :=
 pick_of (fun _ _ ha hb => RRun.uniq (Zau) (ha default default default default default default .ex .ex .ex .ex .ex .ex .ex rfl rfl rfl) (hb default default default default default default .ex .ex .ex .ex .ex .ex .ex rfl rfl rfl)) (fun b0 b1 z1J z1x z1b z1o ox50 zH zF z2b z15 zY zX z1t z1k z2n => ZbA x50 x51 x52 b0 b1 z1P z1J zR z1x z1b zJ zS zN zU zV zL zP zO zM z1o z11 ox50 zH zF z2b z15 zY zX z1t z1k z2n r h)
noncomputable def Z50 (zp : Int) : Option (Bool × Int) :=
 some (false, zp)
theorem Z6s (zl : List Int) (zp : Int) (z6 : Int) (zd : Int) (zh : List Zr) (z1 : Int) (z2 : Int) (zn : Own) (zb : Own) (zu : okApp zb = true) : Sim (Z3h zl z6 zd zh z1 z2 zn zb) (Z50 zp) (Zcq 1  [(Zj (Zk.mk zl zp z6 zd zh (Zi.mk z1 z2)) zn zb)]) := by
 unfold Z50
 refine zf (Zg5 ..) ?_
 refine ze ?_
 exact zr ((bv false), [(Zj (Zk.mk zl zp z6 zd zh (Zi.mk z1 z2)) zn zb)]) ⟨_, rfl⟩
noncomputable def Z53 (x1 : ByteArray) (zp : Int) : Option (Bool × Int) :=
 some (true, (IntKind.i64.wrap (zp + (x1.size : Int))))
theorem Z9q (x1 : ByteArray) (zl : List Int) (zp : Int) (z6 : Int) (zd : Int) (zh : List Zr) (z1 : Int) (z2 : Int) (zn : Own) (zb : Own) (zu : okApp zb = true) : Sim (Z3h zl z6 zd zh z1 z2 zn zb) (Z53 x1 zp) (Zem 1 (.ptr 0 0) (.p (.v (.string x1))) [(Zj (Zk.mk zl zp z6 zd zh (Zi.mk z1 z2)) zn zb)]) := by
 unfold Z53
 refine zf (ZgA ..) ?_
 refine ze ?_
 refine zo (.ptr 0 0) ?_
 refine zo (.ptr 0 1) ?_
 refine zo (iv zp) ?_
 refine zo (iv (x1.size : Int)) ?_
 refine zo (iv (IntKind.i64.wrap (zp + (x1.size : Int)))) ?_
 refine zo (.ptr 0 0) ?_
 refine zo (.ptr 0 1) ?_
 refine zt [(Zj (Zk.mk zl (IntKind.i64.wrap (zp + (x1.size : Int))) z6 zd zh (Zi.mk z1 z2)) zn zb)] ?_
 refine ze ?_
 exact zr ((bv true), [(Zj (Zk.mk zl (IntKind.i64.wrap (zp + (x1.size : Int))) z6 zd zh (Zi.mk z1 z2)) zn zb)]) ⟨_, rfl⟩
noncomputable def Z5D (x1 : ByteArray) (zl : List Int) (zp : Int) : Option (Bool × Int) :=
 if ((decide ((IntKind.i64.wrap ((zl.length : Int) - zp)) < (x1.size : Int)))) = true then
 (Z50 zp)
 else
 ((lsl zl zp (IntKind.i64.wrap (zp + (x1.size : Int)))).bind fun a1 =>
 if ((!(seq (strI a1) x1))) = true then
 (Z50 zp)
 else
 (Z53 x1 zp))
theorem Zaq (x1 : ByteArray) (zl : List Int) (zp : Int) (z6 : Int) (zd : Int) (zh : List Zr) (z1 : Int) (z2 : Int) (zn : Own) (zb : Own) (zu : okApp zb = true) : Sim (Z3h zl z6 zd zh z1 z2 zn zb) (Z5D x1 zl zp) (EE 27 [(.ptr 0 0), (.p (.v (.string x1)))] [(Zj (Zk.mk zl zp z6 zd zh (Zi.mk z1 z2)) zn zb)]) := by
 unfold Z5D
 refine zf (Ziy ..) ?_
 refine ze ?_
 refine ze ?_
 refine zo (.ptr 0 0) ?_
 refine zo (.ptr 0 0) ?_
 refine zo (.p (.lst (shrO zn) (zl.map (eI .u8)))) ?_
 refine zo (iv (zl.length : Int)) ?_ (Eq.trans (by kernel_rfl) (xlen_of (P := PP) (t := 40) (d := 5) (by kernel_rfl) (eI .u8) (shrO zn) zl))
 refine zo (.ptr 0 0) ?_
 refine zo (.ptr 0 1) ?_
 refine zo (iv zp) ?_
 refine zo (iv (IntKind.i64.wrap ((zl.length : Int) - zp))) ?_
 refine zo (iv (x1.size : Int)) ?_
 refine zo (bv (decide ((IntKind.i64.wrap ((zl.length : Int) - zp)) < (x1.size : Int)))) ?_
 refine za ((decide ((IntKind.i64.wrap ((zl.length : Int) - zp)) < (x1.size : Int)))) ?_ ?_
 ·exact zk (Z6s (zl) (zp) (z6) (zd) (zh) (z1) (z2) zn zb zu)
 ·refine zo (.ptr 0 0) ?_
  refine zo (.ptr 0 0) ?_
  refine zo (.p (.lst (shrO zn) (zl.map (eI .u8)))) ?_
  refine zo (.ptr 0 0) ?_
  refine zo (.ptr 0 1) ?_
  refine zo (iv zp) ?_
  refine zo (.ptr 0 0) ?_
  refine zo (.ptr 0 1) ?_
  refine zo (iv zp) ?_
  refine zo (iv (x1.size : Int)) ?_
  refine zo (iv (IntKind.i64.wrap (zp + (x1.size : Int)))) ?_
  refine zi fun a1 ha1 => ?_
  refine zo (.p (.lst (slO (shrO zn)) (a1.map (eI .u8)))) ?_ (Eq.trans (by kernel_rfl) <| xsl_of (n := 1) (o := (shrO zn)) (lo := (some (iv zp))) (hi := (some (iv (IntKind.i64.wrap (zp + (x1.size : Int)))))) (e := (eI .u8)) (fun _ => rfl) (by decide) (by kernel_rfl) (by kernel_rfl) ha1)
  refine zo (.p (.v (.string (strI a1)))) ?_ (Eq.trans (by kernel_rfl) (xcnv_str (P := PP) (s := 40) (d := 9) (by kernel_rfl) (slO (shrO zn)) a1))
  refine zo (bv (!(seq (strI a1) x1))) ?_
  refine za ((!(seq (strI a1) x1))) ?_ ?_
  ·exact zk (Z6s (zl) (zp) (z6) (zd) (zh) (z1) (z2) zn zb zu)
  ·exact zk (Z9q (x1) (zl) (zp) (z6) (zd) (zh) (z1) (z2) zn zb zu)
theorem ZaJ (x1 : ByteArray) (zl : List Int) (zp : Int) {r} (h : Z5D x1 zl zp = some r) : Z13 x1 zl zp = some r :=
 pick_of (fun _ _ ha hb => RRun.uniq (Zbl _ _ _ _ _ _ _ _) (ha default default default default default .ex .ex rfl) (hb default default default default default .ex .ex rfl)) (fun z6 zd zh z1 z2 zn zb zu => Zaq x1 zl zp z6 zd zh z1 z2 zn zb zu r h)
noncomputable def Z4a (zl : List Int) (zp : Int) (z6 : Int) (zd : Int) (zh : List Zr) (z1 : Int) (z2 : Int) : Option (Z3 × Int × Int × Int × (List Zr) × Int × Int) :=
 (Z4d zl zp z6 zd zh z1 z2).bind fun r1 =>
 Z3u (([r1.1] : List Z3)) zl r1.2.1 r1.2.2.1 r1.2.2.2.1 r1.2.2.2.2.1 r1.2.2.2.2.2.1 r1.2.2.2.2.2.2
theorem ZaK (zl : List Int) (zp : Int) (z6 : Int) (zd : Int) (zh : List Zr) (z1 : Int) (z2 : Int) (zn : Own) (zb : Own) (zu : okApp zb = true) : Sim (Z2k zl zn) (Z4a zl zp z6 zd zh z1 z2) (EE 28 [(.ptr 0 0)] [(Zj (Zk.mk zl zp z6 zd zh (Zi.mk z1 z2)) zn zb)]) := by
 unfold Z4a
 refine zf (ZiE ..) ?_
 refine ze ?_
 refine zz (.ptr 1 0) [(Zj (Zk.mk zl zp z6 zd zh (Zi.mk z1 z2)) zn zb), (Zq (Z3.mk 0 0 0 0 0 ([] : List Z7) ([] : List Z3)) .nl .nl)] ?_
 refine ze ?_
 refine zi fun r1 hr1 => ?_
 obtain ⟨qr1, er1, or1_0_4, exr1, hor1_0_4, rfl⟩ := Z89 (zl) (zp) (z6) (zd) (zh) (z1) (z2) zn zb zu r1 hr1
 refine zc [0] (.p (.agg (ZE r1.1 .sh .sh))) [(Zj (Zk.mk zl r1.2.1 r1.2.2.1 r1.2.2.2.1 r1.2.2.2.2.1 (Zi.mk r1.2.2.2.2.2.1 r1.2.2.2.2.2.2)) zn or1_0_4), (Zq (Z3.mk 0 0 0 0 0 ([] : List Z7) ([] : List Z3)) .nl .nl)] er1 ?_
 refine zo (.p (.lst .ex (([r1.1] : List Z3).map ZI))) ?_ (Eq.trans (b := some (.p (.lst .ex [.agg (Z2e r1.1)]))) (by kernel_rfl) (by simp only [List.map_cons, List.map_nil, Z31]))
 exact zk (Z6N (([r1.1] : List Z3)) (zl) (r1.2.1) (r1.2.2.1) (r1.2.2.2.1) (r1.2.2.2.2.1) (r1.2.2.2.2.2.1) (r1.2.2.2.2.2.2) ((Z3.mk 0 0 0 0 0 ([] : List Z7) ([] : List Z3))) .ex zn or1_0_4 .nl .nl rfl hor1_0_4 rfl rfl)
theorem Z87 (zl : List Int) (zp : Int) (z6 : Int) (zd : Int) (zh : List Zr) (z1 : Int) (z2 : Int) {r} (h : Z4a zl zp z6 zd zh z1 z2 = some r) : Z2J zl zp z6 zd zh z1 z2 = some r :=
 pick_of (fun _ _ ha hb => RRun.uniq (Z8l _ _) (ha .ex .ex rfl) (hb .ex .ex rfl)) (fun zn zb zu => ZaK zl zp z6 zd zh z1 z2 zn zb zu r h)
noncomputable def Z5b (x3 : List Z3) (zl : List Int) (zp : Int) (z6 : Int) (zd : Int) (zh : List Zr) (z1 : Int) (z2 : Int) : Option (Z3 × Int × Int × Int × (List Zr) × Int × Int) :=
 (Z4d zl zp z6 zd zh z1 z2).bind fun r1 =>
 (lapp x3 ([r1.1] : List Z3)).bind fun a2 =>
 Z3u a2 zl r1.2.1 r1.2.2.1 r1.2.2.2.1 r1.2.2.2.2.1 r1.2.2.2.2.2.1 r1.2.2.2.2.2.2
theorem Z9Q (x3 : List Z3) (zl : List Int) (zp : Int) (z6 : Int) (zd : Int) (zh : List Zr) (z1 : Int) (z2 : Int) (b1 : Z3) (ox3 : Own) (zn : Own) (zb : Own) (zB : Own) (zy : Own) (hox3 : okApp ox3 = true) (zu : okApp zb = true) (zQ : okApp zB = true) (zK : okApp zy = true) : Sim (Z2k zl zn) (Z5b x3 zl zp z6 zd zh z1 z2) (ZdO 1 (.ptr 0 0) (.ptr 1 0) (.p (.lst ox3 (x3.map ZI))) [(Zj (Zk.mk zl zp z6 zd zh (Zi.mk z1 z2)) zn zb), (Zq b1 zB zy)]) := by
 unfold Z5b
 refine zf (ZgR ..) ?_
 refine ze ?_
 refine zi fun r1 hr1 => ?_
 obtain ⟨qr1, er1, or1_0_4, exr1, hor1_0_4, rfl⟩ := Z89 (zl) (zp) (z6) (zd) (zh) (z1) (z2) zn zb zu r1 hr1
 refine zc [0] (.p (.agg (ZE r1.1 .sh .sh))) [(Zj (Zk.mk zl r1.2.1 r1.2.2.1 r1.2.2.2.1 r1.2.2.2.2.1 (Zi.mk r1.2.2.2.2.2.1 r1.2.2.2.2.2.2)) zn or1_0_4), (Zq b1 zB zy)] er1 ?_
 refine zo (.p (.lst .ex (([r1.1] : List Z3).map ZI))) ?_ (Eq.trans (b := some (.p (.lst .ex [.agg (Z2e r1.1)]))) (by kernel_rfl) (by simp only [List.map_cons, List.map_nil, Z31]))
 refine zi fun a2 ha2 => ?_
 refine zo (.p (.lst .un (a2.map ZI))) ?_ (Eq.trans (by kernel_rfl) <| xapp_of (n := 7) (o := ox3) (o' := .ex) (e := ZI) (ys := ([r1.1] : List Z3)) ZaU (by decide) hox3 ha2)
 exact zk (Z6N (a2) (zl) (r1.2.1) (r1.2.2.1) (r1.2.2.2.1) (r1.2.2.2.2.1) (r1.2.2.2.2.2.1) (r1.2.2.2.2.2.2) (b1) .un zn or1_0_4 zB zy rfl hor1_0_4 zQ zK)
noncomputable def Z4e (x3 : List Z3) (zp : Int) (z6 : Int) (zd : Int) (zh : List Zr) (z1 : Int) (z2 : Int) : Option (Z3 × Int × Int × Int × (List Zr) × Int × Int) :=
 (Z67 3 x3).bind fun r1 =>
 some (r1, zp, z6, zd, zh, z1, z2)
theorem Z9J (x3 : List Z3) (zl : List Int) (zp : Int) (z6 : Int) (zd : Int) (zh : List Zr) (z1 : Int) (z2 : Int) (b1 : Z3) (ox3 : Own) (zn : Own) (zb : Own) (zB : Own) (zy : Own) (hox3 : okApp ox3 = true) (zu : okApp zb = true) (zQ : okApp zB = true) (zK : okApp zy = true) : Sim (Z2k zl zn) (Z4e x3 zp z6 zd zh z1 z2) (Zew 1 (.ptr 1 0) (.p (.lst ox3 (x3.map ZI))) [(Zj (Zk.mk zl zp z6 zd zh (Zi.mk z1 z2)) zn zb), (Zq b1 zB zy)]) := by
 unfold Z4e
 refine zf (ZfS ..) ?_
 refine ze ?_
 refine zi fun r1 hr1 => ?_
 obtain ⟨qr1, er1, exr1, rfl⟩ := Z9s (3) (x3) .sh r1 hr1
 refine zc [] (.p (.agg (ZE r1 .sh .sh))) [(Zj (Zk.mk zl zp z6 zd zh (Zi.mk z1 z2)) zn zb), (Zq b1 zB zy)] er1 ?_
 refine zt [(Zj (Zk.mk zl zp z6 zd zh (Zi.mk z1 z2)) zn zb), (Zq r1 .sh .sh)] ?_
 exact zr ((.p (.agg (ZE r1 .sh .sh))), [(Zj (Zk.mk zl zp z6 zd zh (Zi.mk z1 z2)) zn zb), (Zq r1 .sh .sh)]) ⟨zb, _, zu, rfl⟩
noncomputable def Z3p (x3 : List Z3) (zl : List Int) (zp : Int) (z6 : Int) (zd : Int) (zh : List Zr) (z1 : Int) (z2 : Int) : Option (Z3 × Int × Int × Int × (List Zr) × Int × Int) :=
 (Z13 ((ByteArray.mk #[124])) zl zp).bind fun r1 =>
 if (r1.1) = true then
 (Z5b x3 zl r1.2 z6 zd zh z1 z2)
 else
 (Z4e x3 r1.2 z6 zd zh z1 z2)
theorem Z9B (x3 : List Z3) (zl : List Int) (zp : Int) (z6 : Int) (zd : Int) (zh : List Zr) (z1 : Int) (z2 : Int) (b1 : Z3) (ox3 : Own) (zn : Own) (zb : Own) (zB : Own) (zy : Own) (hox3 : okApp ox3 = true) (zu : okApp zb = true) (zQ : okApp zB = true) (zK : okApp zy = true) : Sim (Z2k zl zn) (Z3p x3 zl zp z6 zd zh z1 z2) (Zbg 1 (.ptr 0 0) (.ptr 1 0) (.p (.lst ox3 (x3.map ZI))) [(Zj (Zk.mk zl zp z6 zd zh (Zi.mk z1 z2)) zn zb), (Zq b1 zB zy)]) := by
 unfold Z3p
 refine zf (ZfV ..) ?_
 refine ze ?_
 refine zi fun r1 hr1 => ?_
 obtain ⟨qr1, er1, exr1, rfl⟩ := Z18 ((ByteArray.mk #[124])) (zl) (zp) (z6) (zd) (zh) (z1) (z2) zn zb zu r1 hr1
 refine zc [0] (bv r1.1) [(Zj (Zk.mk zl r1.2 z6 zd zh (Zi.mk z1 z2)) zn zb), (Zq b1 zB zy)] er1 ?_
 refine za (r1.1) ?_ ?_
 ·exact zk (Z9Q (x3) (zl) (r1.2) (z6) (zd) (zh) (z1) (z2) (b1) ox3 zn zb zB zy hox3 zu zQ zK)
 ·exact zk (Z9J (x3) (zl) (r1.2) (z6) (zd) (zh) (z1) (z2) (b1) ox3 zn zb zB zy hox3 zu zQ zK)
theorem Z6M (x3 : List Z3) (zl : List Int) (zp : Int) (z6 : Int) (zd : Int) (zh : List Zr) (z1 : Int) (z2 : Int) {r} (h : Z3p x3 zl zp z6 zd zh z1 z2 = some r) : Z3u x3 zl zp z6 zd zh z1 z2 = some r :=
 pick_of (fun _ _ ha hb => RRun.uniq (Z8l _ _) (ha default .ex .ex .ex .ex .ex rfl rfl rfl rfl) (hb default .ex .ex .ex .ex .ex rfl rfl rfl rfl)) (fun b1 ox3 zn zb zB zy hox3 zu zQ zK => Z9B x3 zl zp z6 zd zh z1 z2 b1 ox3 zn zb zB zy hox3 zu zQ zK r h)
noncomputable def Z54 (zl : List Int) (zp : Int) (z6 : Int) (zd : Int) (zh : List Zr) (z1 : Int) (z2 : Int) : Option (Z3 × Int × Int × Int × (List Zr) × Int × Int) :=
 Z3t (([] : List Z3)) zl zp z6 zd zh z1 z2
theorem Zaz (zl : List Int) (zp : Int) (z6 : Int) (zd : Int) (zh : List Zr) (z1 : Int) (z2 : Int) (zn : Own) (zb : Own) (zu : okApp zb = true) : Sim (Z27 zl zn) (Z54 zl zp z6 zd zh z1 z2) (EE 35 [(.ptr 0 0)] [(Zj (Zk.mk zl zp z6 zd zh (Zi.mk z1 z2)) zn zb)]) := by
 unfold Z54
 refine zf (Zin ..) ?_
 refine ze ?_
 refine zz (.ptr 1 0) [(Zj (Zk.mk zl zp z6 zd zh (Zi.mk z1 z2)) zn zb), (Zq (Z3.mk 0 0 0 0 0 ([] : List Z7) ([] : List Z3)) .nl .nl)] ?_
 refine ze ?_
 exact zk (Z6Y (([] : List Z3)) (zl) (zp) (z6) (zd) (zh) (z1) (z2) ((Z3.mk 0 0 0 0 0 ([] : List Z7) ([] : List Z3))) .nl zn zb .nl .nl rfl zu rfl rfl)
theorem Z86 (zl : List Int) (zp : Int) (z6 : Int) (zd : Int) (zh : List Zr) (z1 : Int) (z2 : Int) {r} (h : Z54 zl zp z6 zd zh z1 z2 = some r) : Z4d zl zp z6 zd zh z1 z2 = some r :=
 pick_of (fun _ _ ha hb => RRun.uniq (Z8o _ _) (ha .ex .ex rfl) (hb .ex .ex rfl)) (fun zn zb zu => Zaz zl zp z6 zd zh z1 z2 zn zb zu r h)
noncomputable def Z29 (x3 : List Z3) (zp : Int) (z6 : Int) (zd : Int) (zh : List Zr) (z1 : Int) (z2 : Int) : Option (Z3 × Int × Int × Int × (List Zr) × Int × Int) :=
 (Z67 2 x3).bind fun r1 =>
 some (r1, zp, z6, zd, zh, z1, z2)
theorem Z4q (x3 : List Z3) (zl : List Int) (zp : Int) (z6 : Int) (zd : Int) (zh : List Zr) (z1 : Int) (z2 : Int) (b1 : Z3) (ox3 : Own) (zn : Own) (zb : Own) (zB : Own) (zy : Own) (hox3 : okApp ox3 = true) (zu : okApp zb = true) (zQ : okApp zB = true) (zK : okApp zy = true) : Sim (Z27 zl zn) (Z29 x3 zp z6 zd zh z1 z2) (Zbo 1 (.ptr 1 0) (.p (.lst ox3 (x3.map ZI))) [(Zj (Zk.mk zl zp z6 zd zh (Zi.mk z1 z2)) zn zb), (Zq b1 zB zy)]) := by
 unfold Z29
 refine zf (Zfz ..) ?_
 refine ze ?_
 refine zi fun r1 hr1 => ?_
 obtain ⟨qr1, er1, exr1, rfl⟩ := Z9s (2) (x3) .sh r1 hr1
 refine zc [] (.p (.agg (ZE r1 .sh .sh))) [(Zj (Zk.mk zl zp z6 zd zh (Zi.mk z1 z2)) zn zb), (Zq b1 zB zy)] er1 ?_
 refine zt [(Zj (Zk.mk zl zp z6 zd zh (Zi.mk z1 z2)) zn zb), (Zq r1 .sh .sh)] ?_
 exact zr ((.p (.agg (ZE r1 .sh .sh))), [(Zj (Zk.mk zl zp z6 zd zh (Zi.mk z1 z2)) zn zb), (Zq r1 .sh .sh)]) ⟨zb, _, zu, rfl⟩
noncomputable def Z2T (x3 : List Z3) (zl : List Int) (zp : Int) (z6 : Int) (zd : Int) (zh : List Zr) (z1 : Int) (z2 : Int) : Option (Z3 × Int × Int × Int × (List Zr) × Int × Int) :=
 (Z5G zl zp z6 zd zh z1 z2).bind fun r1 =>
 (Z4f r1.1 r1.2.1 zl r1.2.2.1 r1.2.2.2.1 r1.2.2.2.2.1 r1.2.2.2.2.2.1 r1.2.2.2.2.2.2.1 r1.2.2.2.2.2.2.2).bind fun r2 =>
 (lapp x3 ([r2.1] : List Z3)).bind fun a3 =>
 Z3t a3 zl r2.2.1 r1.2.2.2.1 r1.2.2.2.2.1 r1.2.2.2.2.2.1 r2.2.2.1 r2.2.2.2
theorem Z5u (x3 : List Z3) (zl : List Int) (zp : Int) (z6 : Int) (zd : Int) (zh : List Zr) (z1 : Int) (z2 : Int) (b1 : Z3) (ox3 : Own) (zn : Own) (zb : Own) (zB : Own) (zy : Own) (hox3 : okApp ox3 = true) (zu : okApp zb = true) (zQ : okApp zB = true) (zK : okApp zy = true) : Sim (Z27 zl zn) (Z2T x3 zl zp z6 zd zh z1 z2) (ZbO 1 (.ptr 0 0) (.ptr 1 0) (.p (.lst ox3 (x3.map ZI))) [(Zj (Zk.mk zl zp z6 zd zh (Zi.mk z1 z2)) zn zb), (Zq b1 zB zy)]) := by
 unfold Z2T
 refine zf (Zg1 ..) ?_
 refine ze ?_
 refine zi fun r1 hr1 => ?_
 obtain ⟨qr1, er1, or1_0_4, exr1, hor1_0_4, rfl⟩ := ZaL (zl) (zp) (z6) (zd) (zh) (z1) (z2) zn zb zu r1 hr1
 refine zc [0] (.p (.tup [(.agg (ZE r1.1 .sh .sh)), (.v (.bool r1.2.1))])) [(Zj (Zk.mk zl r1.2.2.1 r1.2.2.2.1 r1.2.2.2.2.1 r1.2.2.2.2.2.1 (Zi.mk r1.2.2.2.2.2.2.1 r1.2.2.2.2.2.2.2)) zn or1_0_4), (Zq b1 zB zy)] er1 ?_
 refine zo (.p (.agg (ZE r1.1 .sh .sh))) ?_
 refine zo (bv r1.2.1) ?_
 refine zz (.ptr 2 0) [(Zj (Zk.mk zl r1.2.2.1 r1.2.2.2.1 r1.2.2.2.2.1 r1.2.2.2.2.2.1 (Zi.mk r1.2.2.2.2.2.2.1 r1.2.2.2.2.2.2.2)) zn or1_0_4), (Zq b1 zB zy), (Zq (Z3.mk 0 0 0 0 0 ([] : List Z7) ([] : List Z3)) .nl .nl)] ?_
 refine zt [(Zj (Zk.mk zl r1.2.2.1 r1.2.2.2.1 r1.2.2.2.2.1 r1.2.2.2.2.2.1 (Zi.mk r1.2.2.2.2.2.2.1 r1.2.2.2.2.2.2.2)) zn or1_0_4), (Zq b1 zB zy), (Zq r1.1 .sh .sh)] ?_
 refine ze ?_
 refine zo (.p (.agg (ZE r1.1 .sh .sh))) ?_
 refine zi fun r2 hr2 => ?_
 obtain ⟨qr2, er2, exr2, rfl⟩ := Za9 (r1.1) (r1.2.1) (zl) (r1.2.2.1) (r1.2.2.2.1) (r1.2.2.2.2.1) (r1.2.2.2.2.2.1) (r1.2.2.2.2.2.2.1) (r1.2.2.2.2.2.2.2) .sh .sh zn or1_0_4 hor1_0_4 r2 hr2
 refine zc [0] (.p (.agg (ZE r2.1 .sh .sh))) [(Zj (Zk.mk zl r2.2.1 r1.2.2.2.1 r1.2.2.2.2.1 r1.2.2.2.2.2.1 (Zi.mk r2.2.2.1 r2.2.2.2)) zn or1_0_4), (Zq b1 zB zy), (Zq r1.1 .sh .sh)] er2 ?_
 refine zo (.p (.lst .ex (([r2.1] : List Z3).map ZI))) ?_ (Eq.trans (b := some (.p (.lst .ex [.agg (Z2e r2.1)]))) (by kernel_rfl) (by simp only [List.map_cons, List.map_nil, Z31]))
 refine zi fun a3 ha3 => ?_
 refine zo (.p (.lst .un (a3.map ZI))) ?_ (Eq.trans (by kernel_rfl) <| xapp_of (n := 7) (o := ox3) (o' := .ex) (e := ZI) (ys := ([r2.1] : List Z3)) ZaU (by decide) hox3 ha3)
 exact zk (Z6Y (a3) (zl) (r2.2.1) (r1.2.2.2.1) (r1.2.2.2.2.1) (r1.2.2.2.2.2.1) (r2.2.2.1) (r2.2.2.2) (b1) .un zn or1_0_4 zB zy rfl hor1_0_4 zQ zK)
noncomputable def Z4h (x3 : List Z3) (zl : List Int) (zp : Int) (z6 : Int) (zd : Int) (zh : List Zr) (z1 : Int) (z2 : Int) : Option (Z3 × Int × Int × Int × (List Zr) × Int × Int) :=
 (Z1C ((Zk.mk zl zp z6 zd zh (Zi.mk z1 z2)))).bind fun r1 =>
 if ((r1 == (-1))) = true then
 (if ((r1 == (-1))) = true then
 (Z29 x3 zp z6 zd zh z1 z2)
 else
 (Z2T x3 zl zp z6 zd zh z1 z2))
 else
 (if ((r1 == 124)) = true then
 (if ((r1 == 124)) = true then
 (Z29 x3 zp z6 zd zh z1 z2)
 else
 (Z2T x3 zl zp z6 zd zh z1 z2))
 else
 (if ((r1 == 41)) = true then
 (Z29 x3 zp z6 zd zh z1 z2)
 else
 (Z2T x3 zl zp z6 zd zh z1 z2)))
theorem Z9z (x3 : List Z3) (zl : List Int) (zp : Int) (z6 : Int) (zd : Int) (zh : List Zr) (z1 : Int) (z2 : Int) (b1 : Z3) (ox3 : Own) (zn : Own) (zb : Own) (zB : Own) (zy : Own) (hox3 : okApp ox3 = true) (zu : okApp zb = true) (zQ : okApp zB = true) (zK : okApp zy = true) : Sim (Z27 zl zn) (Z4h x3 zl zp z6 zd zh z1 z2) (Ze7 1 (.ptr 0 0) (.ptr 1 0) (.p (.lst ox3 (x3.map ZI))) [(Zj (Zk.mk zl zp z6 zd zh (Zi.mk z1 z2)) zn zb), (Zq b1 zB zy)]) := by
 unfold Z4h
 refine zf (Zgx ..) ?_
 refine ze ?_
 refine zi fun r1 hr1 => ?_
 obtain ⟨qr1, er1, exr1, rfl⟩ := Z1G ((Zk.mk zl zp z6 zd zh (Zi.mk z1 z2))) zn zb zu r1 hr1
 refine zc [0] (iv r1) [(Zj (Zk.mk zl zp z6 zd zh (Zi.mk z1 z2)) zn zb), (Zq b1 zB zy)] er1 ?_
 refine ze ?_
 refine zo (bv (r1 == (-1))) ?_
 refine za ((r1 == (-1))) ?_ ?_
 ·refine za ((r1 == (-1))) ?_ ?_
  ·exact zk (Z4q (x3) (zl) (zp) (z6) (zd) (zh) (z1) (z2) (b1) ox3 zn zb zB zy hox3 zu zQ zK)
  ·exact zk (Z5u (x3) (zl) (zp) (z6) (zd) (zh) (z1) (z2) (b1) ox3 zn zb zB zy hox3 zu zQ zK)
 ·refine ze ?_
  refine zo (bv (r1 == 124)) ?_
  refine za ((r1 == 124)) ?_ ?_
  ·refine za ((r1 == 124)) ?_ ?_
   ·exact zk (Z4q (x3) (zl) (zp) (z6) (zd) (zh) (z1) (z2) (b1) ox3 zn zb zB zy hox3 zu zQ zK)
   ·exact zk (Z5u (x3) (zl) (zp) (z6) (zd) (zh) (z1) (z2) (b1) ox3 zn zb zB zy hox3 zu zQ zK)
  ·refine ze ?_
   refine zo (bv (r1 == 41)) ?_
   refine za ((r1 == 41)) ?_ ?_
   ·exact zk (Z4q (x3) (zl) (zp) (z6) (zd) (zh) (z1) (z2) (b1) ox3 zn zb zB zy hox3 zu zQ zK)
   ·exact zk (Z5u (x3) (zl) (zp) (z6) (zd) (zh) (z1) (z2) (b1) ox3 zn zb zB zy hox3 zu zQ zK)
noncomputable def Z4i (x3 : List Z3) (zl : List Int) (zp : Int) (z6 : Int) (zd : Int) (zh : List Zr) (z1 : Int) (z2 : Int) : Option (Z3 × Int × Int × Int × (List Zr) × Int × Int) :=
 if ((z1 == 0)) = true then
 (Z4h x3 zl zp z6 zd zh z1 z2)
 else
 (Z29 x3 zp z6 zd zh z1 z2)
theorem Z9G (x3 : List Z3) (zl : List Int) (zp : Int) (z6 : Int) (zd : Int) (zh : List Zr) (z1 : Int) (z2 : Int) (b1 : Z3) (ox3 : Own) (zn : Own) (zb : Own) (zB : Own) (zy : Own) (hox3 : okApp ox3 = true) (zu : okApp zb = true) (zQ : okApp zB = true) (zK : okApp zy = true) : Sim (Z27 zl zn) (Z4i x3 zl zp z6 zd zh z1 z2) (Zbh 1 (.ptr 0 0) (.ptr 1 0) (.p (.lst ox3 (x3.map ZI))) [(Zj (Zk.mk zl zp z6 zd zh (Zi.mk z1 z2)) zn zb), (Zq b1 zB zy)]) := by
 unfold Z4i
 refine zf (ZgN ..) ?_
 refine ze ?_
 refine zo (.ptr 0 0) ?_
 refine zo (.ptr 0 5) ?_
 refine zo (.ptr 0 5) ?_
 refine zo (iv z1) ?_
 refine zo (bv (z1 == 0)) ?_
 refine za ((z1 == 0)) ?_ ?_
 ·exact zk (Z9z (x3) (zl) (zp) (z6) (zd) (zh) (z1) (z2) (b1) ox3 zn zb zB zy hox3 zu zQ zK)
 ·exact zk (Z4q (x3) (zl) (zp) (z6) (zd) (zh) (z1) (z2) (b1) ox3 zn zb zB zy hox3 zu zQ zK)
theorem Z6H (x3 : List Z3) (zl : List Int) (zp : Int) (z6 : Int) (zd : Int) (zh : List Zr) (z1 : Int) (z2 : Int) {r} (h : Z4i x3 zl zp z6 zd zh z1 z2 = some r) : Z3t x3 zl zp z6 zd zh z1 z2 = some r :=
 pick_of (fun _ _ ha hb => RRun.uniq (Z8o _ _) (ha default .ex .ex .ex .ex .ex rfl rfl rfl rfl) (hb default .ex .ex .ex .ex .ex rfl rfl rfl rfl)) (fun b1 ox3 zn zb zB zy hox3 zu zQ zK => Z9G x3 zl zp z6 zd zh z1 z2 b1 ox3 zn zb zB zy hox3 zu zQ zK r h)
end Go.Proofs.YtadodmjdkphddaaDoor.N2
end
section
set_option linter.unusedSimpArgs false
set_option linter.unusedVariables false
namespace Go.Proofs.YtadodmjdkphddaaDoor.N2
open Go Go.Abs
set_option linter.unusedVariables false
set_option maxRecDepth 100000
noncomputable def Z4Z (b0 : Zk) : Option (Int) :=
 (Z7D b0.b b0.at_).bind fun r1 =>
 some (r1.1)
theorem Z9l (b0 : Zk) (zn : Own) (zb : Own) (zu : okApp zb = true) : Sim (Z3Y b0 zn zb) (Z4Z b0) (ZdE 1 (.ptr 0 0) [(Zj b0 zn zb)]) := by
 unfold Z4Z
 refine zf (ZfN ..) ?_
 refine ze ?_
 refine zo (.ptr 0 0) ?_
 refine zo (.ptr 0 0) ?_
 refine zo (.p (.lst (shrO zn) (b0.b.map (eI .u8)))) ?_
 refine zo (.ptr 0 0) ?_
 refine zo (.ptr 0 1) ?_
 refine zo (iv b0.at_) ?_
 refine zi fun r1 hr1 => ?_
 obtain ⟨qr1, er1, exr1, rfl⟩ := Zbq (b0.b) (b0.at_) .sh r1 hr1
 refine zc [] (.p (.tup [(.v (.int .i64 r1.1)), (.v (.int .i64 r1.2))])) [(Zj b0 zn zb)] er1 ?_
 refine zo (iv r1.1) ?_
 refine zo (iv r1.2) ?_
 refine ze ?_
 exact zr ((iv r1.1), [(Zj b0 zn zb)]) ⟨_, rfl⟩
noncomputable def Z5F (b0 : Zk) : Option (Int) :=
 if ((decide ((b0.b.length : Int) ≤ b0.at_))) = true then
 (some ((-1)))
 else
 (Z4Z b0)
theorem Zan (b0 : Zk) (zn : Own) (zb : Own) (zu : okApp zb = true) : Sim (Z3Y b0 zn zb) (Z5F b0) (EE 41 [(.ptr 0 0)] [(Zj b0 zn zb)]) := by
 unfold Z5F
 refine zf (Zhy ..) ?_
 refine ze ?_
 refine ze ?_
 refine zo (.ptr 0 0) ?_
 refine zo (.ptr 0 1) ?_
 refine zo (iv b0.at_) ?_
 refine zo (.ptr 0 0) ?_
 refine zo (.ptr 0 0) ?_
 refine zo (.p (.lst (shrO zn) (b0.b.map (eI .u8)))) ?_
 refine zo (iv (b0.b.length : Int)) ?_ (Eq.trans (by kernel_rfl) (xlen_of (P := PP) (t := 40) (d := 5) (by kernel_rfl) (eI .u8) (shrO zn) b0.b))
 refine zo (bv (decide ((b0.b.length : Int) ≤ b0.at_))) ?_
 refine za ((decide ((b0.b.length : Int) ≤ b0.at_))) ?_ ?_
 ·refine ze ?_
  exact zr ((iv (-1)), [(Zj b0 zn zb)]) ⟨_, rfl⟩
 ·exact zk (Z9l (b0) zn zb zu)
theorem ZaB (b0 : Zk) {r} (h : Z5F b0 = some r) : Z1C b0 = some r :=
 pick_of (fun _ _ ha hb => RRun.uniq (Zbr _ _ _) (ha .ex .ex rfl) (hb .ex .ex rfl)) (fun zn zb zu => Zan b0 zn zb zu r h)
noncomputable def Z7n  : Option (Int × Int) :=
 some (0, 0)
theorem Z9c  : Sim (Z4X) (Z7n) (Zcx 0  []) := by
 unfold Z7n
 refine zf (ZgX ..) ?_
 refine ze ?_
 exact zr ((.p (.tup [(.v (.int .i64 0)), (.v (.int .i64 0))])), []) ⟨_, rfl⟩
noncomputable def Z7o (x0 : List Int) (x1 : Int) : Option (Int × Int) :=
 (lget x0 x1).bind fun a1 =>
 some ((IntKind.i64.wrap (1114112 + (IntKind.i64.wrap a1))), 1)
theorem ZbJ (x0 : List Int) (x1 : Int) (ox0 : Own) : Sim (Z4X) (Z7o x0 x1) (Zef 0 (.p (.lst ox0 (x0.map (eI .u8)))) (iv x1) []) := by
 unfold Z7o
 refine zf (ZgT ..) ?_
 refine ze ?_
 refine zi fun a1 ha1 => ?_
 refine zo (.cptr [(.v (.int .u8 a1))]) ?_ (Eq.trans (by kernel_rfl) (xidx_of (o := (shrO ox0)) (k := .i64) (n := 1) (e := (eI .u8)) (cs := (fun a => [(eI .u8) a])) (fun _ => rfl) (fun _ => rfl) (by decide) ha1))
 refine zo (.p (.v (.int .u8 a1))) ?_
 refine zo (iv (IntKind.i64.wrap a1)) ?_
 refine zo (iv (IntKind.i64.wrap (1114112 + (IntKind.i64.wrap a1)))) ?_
 exact zr ((.p (.tup [(.v (.int .i64 (IntKind.i64.wrap (1114112 + (IntKind.i64.wrap a1))))), (.v (.int .i64 1))])), []) ⟨_, rfl⟩
noncomputable def Z5y (x6 : Int) (x7 : Int) : Option (Int × Int) :=
 some ((IntKind.i64.wrap x6), x7)
theorem Z9i (x6 : Int) (x7 : Int) : Sim (Z4X) (Z5y x6 x7) (ZcF 0 (.p (.v (.int .i32 x6))) (iv x7) []) := by
 unfold Z5y
 refine zf (Zgp ..) ?_
 refine ze ?_
 refine zo (iv (IntKind.i64.wrap x6)) ?_
 exact zr ((.p (.tup [(.v (.int .i64 (IntKind.i64.wrap x6))), (.v (.int .i64 x7))])), []) ⟨_, rfl⟩
noncomputable def Z7k (x0 : List Int) (x1 : Int) : Option (Int × Int) :=
 (lsl x0 x1 (x0.length : Int)).bind fun a1 =>
 (Z5s a1).bind fun r2 =>
 if ((r2.1 == 65533)) = true then
 (if ((r2.2 == 1)) = true then
 (Z7o x0 x1)
 else
 (Z5y r2.1 r2.2))
 else
 (Z5y r2.1 r2.2)
theorem ZbK (x0 : List Int) (x1 : Int) (ox0 : Own) : Sim (Z4X) (Z7k x0 x1) (ZeD 0 (.p (.lst ox0 (x0.map (eI .u8)))) (iv x1) []) := by
 unfold Z7k
 refine zf (ZgK ..) ?_
 refine ze ?_
 refine zi fun a1 ha1 => ?_
 refine zo (.p (.lst (slO (shrO ox0)) (a1.map (eI .u8)))) ?_ (Eq.trans (by kernel_rfl) <| xsl_of (n := 1) (o := (shrO ox0)) (lo := (some (iv x1))) (hi := none) (e := (eI .u8)) (fun _ => rfl) (by decide) (by kernel_rfl) (by kernel_rfl) ha1)
 refine zi fun r2 hr2 => ?_
 obtain ⟨qr2, er2, exr2, rfl⟩ := Z8V (a1) .sh r2 hr2
 refine zc [] (.p (.tup [(.v (.int .i32 r2.1)), (.v (.int .i64 r2.2))])) [] er2 ?_
 refine zo (.p (.v (.int .i32 r2.1))) ?_
 refine zo (iv r2.2) ?_
 refine ze ?_
 refine zo (bv (r2.1 == 65533)) ?_
 refine za ((r2.1 == 65533)) ?_ ?_
 ·refine zo (bv (r2.2 == 1)) ?_
  refine za ((r2.2 == 1)) ?_ ?_
  ·exact zk (ZbJ (x0) (x1) ox0)
  ·exact zk (Z9i (r2.1) (r2.2))
 ·exact zk (Z9i (r2.1) (r2.2))
noncomputable def Z93 (x0 : List Int) (x1 : Int) : Option (Int × Int) :=
 if ((decide (x1 < 0))) = true then
 (Z7n)
 else
 (if ((decide ((x0.length : Int) ≤ x1))) = true then
 (Z7n)
 else
 (Z7k x0 x1))
theorem ZcS (x0 : List Int) (x1 : Int) (ox0 : Own) : Sim (Z4X) (Z93 x0 x1) (EE 45 [(.p (.lst ox0 (x0.map (eI .u8)))), (iv x1)] []) := by
 unfold Z93
 refine zf (ZiA ..) ?_
 refine ze ?_
 refine ze ?_
 refine zo (bv (decide (x1 < 0))) ?_
 refine za ((decide (x1 < 0))) ?_ ?_
 ·exact zk (Z9c )
 ·refine zo (iv (x0.length : Int)) ?_ (Eq.trans (by kernel_rfl) (xlen_of (P := PP) (t := 40) (d := 5) (by kernel_rfl) (eI .u8) (shrO ox0) x0))
  refine zo (bv (decide ((x0.length : Int) ≤ x1))) ?_
  refine za ((decide ((x0.length : Int) ≤ x1))) ?_ ?_
  ·exact zk (Z9c )
  ·exact zk (ZbK (x0) (x1) ox0)
theorem Zdg (x0 : List Int) (x1 : Int) {r} (h : Z93 x0 x1 = some r) : Z7D x0 x1 = some r :=
 pick_of (fun _ _ ha hb => RRun.uniq (Zdl) (ha .ex) (hb .ex)) (fun ox0 => ZcS x0 x1 ox0 r h)
noncomputable def Z7v (x0 : Int) (x1 : List Z3) : Option (Z3) :=
 some ((Z3.mk x0 0 0 0 0 ([] : List Z7) x1))
theorem ZaT (x0 : Int) (x1 : List Z3) (b0 : Z3) (ox1 : Own) (z2h : Own) (z1K : Own) (zh4 : okApp z2h = true) (zgl : okApp z1K = true) : Sim (Z5w) (Z7v x0 x1) (Zea 0 (iv x0) (.p (.lst ox1 (x1.map ZI))) (.ptr 0 0) [(Zq b0 z2h z1K)]) := by
 unfold Z7v
 refine zf (ZfT ..) ?_
 refine ze ?_
 refine zo (.p (.agg (ZE (Z3.mk x0 0 0 0 0 ([] : List Z7) x1) .nl (shrO (shrO ox1))))) ?_
 refine zt [(Zq (Z3.mk x0 0 0 0 0 ([] : List Z7) x1) .nl (shrO (shrO ox1)))] ?_
 exact zr ((.p (.agg (ZE (Z3.mk x0 0 0 0 0 ([] : List Z7) x1) .sh .sh))), [(Zq (Z3.mk x0 0 0 0 0 ([] : List Z7) x1) .nl (shrO (shrO ox1)))]) ⟨_, rfl⟩
noncomputable def Z7b (x0 : Int) (x1 : List Z3) : Option (Z3) :=
 if (((x1.length : Int) == 0)) = true then
 (some ((Z3.mk 0 0 0 0 0 ([] : List Z7) ([] : List Z3))))
 else
 (if (((x1.length : Int) == 1)) = true then
 ((lget x1 0).bind fun a1 =>
 some (a1))
 else
 (Z7v x0 x1))
theorem ZbN (x0 : Int) (x1 : List Z3) (ox1 : Own) : Sim (Z5w) (Z7b x0 x1) (EE 36 [(iv x0), (.p (.lst ox1 (x1.map ZI)))] []) := by
 unfold Z7b
 refine zf (Zi9 ..) ?_
 refine ze ?_
 refine zz (.ptr 0 0) [(Zq (Z3.mk 0 0 0 0 0 ([] : List Z7) ([] : List Z3)) .nl .nl)] ?_
 refine ze ?_
 refine zo (iv (x1.length : Int)) ?_ (Eq.trans (by kernel_rfl) (xlen_of (P := PP) (t := 25) (d := 27) (by kernel_rfl) ZI (shrO ox1) x1))
 refine ze ?_
 refine zo (bv ((x1.length : Int) == 0)) ?_
 refine za (((x1.length : Int) == 0)) ?_ ?_
 ·refine ze ?_
  refine zo (.p (.agg (ZE (Z3.mk 0 0 0 0 0 ([] : List Z7) ([] : List Z3)) .nl .nl))) ?_
  refine zt [(Zq (Z3.mk 0 0 0 0 0 ([] : List Z7) ([] : List Z3)) .nl .nl)] ?_
  exact zr ((.p (.agg (ZE (Z3.mk 0 0 0 0 0 ([] : List Z7) ([] : List Z3)) .sh .sh))), [(Zq (Z3.mk 0 0 0 0 0 ([] : List Z7) ([] : List Z3)) .nl .nl)]) ⟨_, rfl⟩
 ·refine ze ?_
  refine zo (bv ((x1.length : Int) == 1)) ?_
  refine za (((x1.length : Int) == 1)) ?_ ?_
  ·refine ze ?_
   refine zi fun a1 ha1 => ?_
   refine zo (.cptr (ZE a1 .sh .sh)) ?_ (Eq.trans (by kernel_rfl) (xidx_of (o := (shrO ox1)) (k := .i64) (n := 7) (e := ZI) (cs := Z2e) Z5x (fun _ => rfl) (by decide) ha1))
   refine zo (.p (.agg (ZE a1 .sh .sh))) ?_
   refine zt [(Zq a1 .sh .sh)] ?_
   exact zr ((.p (.agg (ZE a1 .sh .sh))), [(Zq a1 .sh .sh)]) ⟨_, rfl⟩
  ·exact zk (ZaT (x0) (x1) ((Z3.mk 0 0 0 0 0 ([] : List Z7) ([] : List Z3))) ox1 .nl .nl rfl rfl)
theorem Zcg (x0 : Int) (x1 : List Z3) {r} (h : Z7b x0 x1 = some r) : Z67 x0 x1 = some r :=
 pick_of (fun _ _ ha hb => RRun.uniq (Zci) (ha .ex) (hb .ex)) (fun ox1 => ZbN x0 x1 ox1 r h)
noncomputable def Z1e (zp : Int) (z6 : Int) (zd : Int) (zh : List Zr) (z1 : Int) (z2 : Int) : Option (Z3 × Bool × Int × Int × Int × (List Zr) × Int × Int) :=
 some ((Z3.mk 0 0 0 0 0 ([] : List Z7) ([] : List Z3)), true, zp, z6, zd, zh, z1, z2)
theorem Z1g (zl : List Int) (zp : Int) (z6 : Int) (zd : Int) (zh : List Zr) (z1 : Int) (z2 : Int) (b1 : Z3) (zn : Own) (zb : Own) (zB : Own) (zy : Own) (zu : okApp zb = true) (zQ : okApp zB = true) (zK : okApp zy = true) : Sim (Z3W zl zn) (Z1e zp z6 zd zh z1 z2) (Z59 1 (.ptr 1 0) [(Zj (Zk.mk zl zp z6 zd zh (Zi.mk z1 z2)) zn zb), (Zq b1 zB zy)]) := by
 unfold Z1e
 refine zf (Zfi ..) ?_
 refine ze ?_
 refine zo (.p (.agg (ZE (Z3.mk 0 0 0 0 0 ([] : List Z7) ([] : List Z3)) .nl .nl))) ?_
 refine zt [(Zj (Zk.mk zl zp z6 zd zh (Zi.mk z1 z2)) zn zb), (Zq (Z3.mk 0 0 0 0 0 ([] : List Z7) ([] : List Z3)) .nl .nl)] ?_
 exact zr ((.p (.tup [(.agg (ZE (Z3.mk 0 0 0 0 0 ([] : List Z7) ([] : List Z3)) .sh .sh)), (.v (.bool true))])), [(Zj (Zk.mk zl zp z6 zd zh (Zi.mk z1 z2)) zn zb), (Zq (Z3.mk 0 0 0 0 0 ([] : List Z7) ([] : List Z3)) .nl .nl)]) ⟨zb, _, zu, rfl⟩
noncomputable def Z4M (zl : List Int) (zp : Int) (z6 : Int) (zd : Int) (zh : List Zr) (z1 : Int) (z2 : Int) : Option (Z3 × Bool × Int × Int × Int × (List Zr) × Int × Int) :=
 (Z20 zl zp).bind fun r1 =>
 if ((r1.1 == 46)) = true then
 ((Z1w 10).bind fun r2 =>
 (Z2z true (([r2] : List Z7))).bind fun r3 =>
 some (r3, true, r1.2, z6, zd, zh, z1, z2))
 else
 (if ((r1.1 == 94)) = true then
 (some ((Z3.mk 9 0 0 0 0 ([] : List Z7) ([] : List Z3)), false, r1.2, z6, zd, zh, z1, z2))
 else
 (if ((r1.1 == 36)) = true then
 (some ((Z3.mk 9 0 0 0 1 ([] : List Z7) ([] : List Z3)), false, r1.2, z6, zd, zh, z1, z2))
 else
 (if ((r1.1 == 92)) = true then
 ((Z2Q zp zl r1.2 z6 zd zh z1 z2).bind fun r4 =>
 some (r4.1, (r4.1.Kind != 9), r4.2.1, z6, zd, r4.2.2.1, r4.2.2.2.1, r4.2.2.2.2))
 else
 (if ((r1.1 == 91)) = true then
 ((Z5p zp zl r1.2 z6 zd zh z1 z2).bind fun r5 =>
 some (r5.1, true, r5.2.1, z6, zd, zh, r5.2.2.1, r5.2.2.2))
 else
 (if ((r1.1 == 40)) = true then
 ((Z2Y zp zl r1.2 z6 zd zh z1 z2).bind fun r6 =>
 some (r6.1, r6.2.1, r6.2.2.1, r6.2.2.2.1, r6.2.2.2.2.1, r6.2.2.2.2.2.1, r6.2.2.2.2.2.2.1, r6.2.2.2.2.2.2.2))
 else
 (if ((r1.1 == 42)) = true then
 (if ((r1.1 == 42)) = true then
 ((ZT 23 zp zl z1 z2).bind fun r7 =>
 Z1e r7.1 z6 zd zh r7.2.1 r7.2.2)
 else
 (if ((r1.1 == 93)) = true then
 (if ((r1.1 == 93)) = true then
 ((ZT 20 zp zl z1 z2).bind fun r8 =>
 Z1e r8.1 z6 zd zh r8.2.1 r8.2.2)
 else
 ((Z1w r1.1).bind fun r9 =>
 (Z2z false (([r9] : List Z7))).bind fun r10 =>
 some (r10, true, r1.2, z6, zd, zh, z1, z2)))
 else
 (if ((r1.1 == 125)) = true then
 ((ZT 20 zp zl z1 z2).bind fun r11 =>
 Z1e r11.1 z6 zd zh r11.2.1 r11.2.2)
 else
 ((Z1w r1.1).bind fun r12 =>
 (Z2z false (([r12] : List Z7))).bind fun r13 =>
 some (r13, true, r1.2, z6, zd, zh, z1, z2)))))
 else
 (if ((r1.1 == 43)) = true then
 (if ((r1.1 == 43)) = true then
 ((ZT 23 zp zl z1 z2).bind fun r14 =>
 Z1e r14.1 z6 zd zh r14.2.1 r14.2.2)
 else
 (if ((r1.1 == 93)) = true then
 (if ((r1.1 == 93)) = true then
 ((ZT 20 zp zl z1 z2).bind fun r15 =>
 Z1e r15.1 z6 zd zh r15.2.1 r15.2.2)
 else
 ((Z1w r1.1).bind fun r16 =>
 (Z2z false (([r16] : List Z7))).bind fun r17 =>
 some (r17, true, r1.2, z6, zd, zh, z1, z2)))
 else
 (if ((r1.1 == 125)) = true then
 ((ZT 20 zp zl z1 z2).bind fun r18 =>
 Z1e r18.1 z6 zd zh r18.2.1 r18.2.2)
 else
 ((Z1w r1.1).bind fun r19 =>
 (Z2z false (([r19] : List Z7))).bind fun r20 =>
 some (r20, true, r1.2, z6, zd, zh, z1, z2)))))
 else
 (if ((r1.1 == 63)) = true then
 (if ((r1.1 == 63)) = true then
 ((ZT 23 zp zl z1 z2).bind fun r21 =>
 Z1e r21.1 z6 zd zh r21.2.1 r21.2.2)
 else
 (if ((r1.1 == 93)) = true then
 (if ((r1.1 == 93)) = true then
 ((ZT 20 zp zl z1 z2).bind fun r22 =>
 Z1e r22.1 z6 zd zh r22.2.1 r22.2.2)
 else
 ((Z1w r1.1).bind fun r23 =>
 (Z2z false (([r23] : List Z7))).bind fun r24 =>
 some (r24, true, r1.2, z6, zd, zh, z1, z2)))
 else
 (if ((r1.1 == 125)) = true then
 ((ZT 20 zp zl z1 z2).bind fun r25 =>
 Z1e r25.1 z6 zd zh r25.2.1 r25.2.2)
 else
 ((Z1w r1.1).bind fun r26 =>
 (Z2z false (([r26] : List Z7))).bind fun r27 =>
 some (r27, true, r1.2, z6, zd, zh, z1, z2)))))
 else
 (if ((r1.1 == 123)) = true then
 ((ZT 23 zp zl z1 z2).bind fun r28 =>
 Z1e r28.1 z6 zd zh r28.2.1 r28.2.2)
 else
 (if ((r1.1 == 93)) = true then
 (if ((r1.1 == 93)) = true then
 ((ZT 20 zp zl z1 z2).bind fun r29 =>
 Z1e r29.1 z6 zd zh r29.2.1 r29.2.2)
 else
 ((Z1w r1.1).bind fun r30 =>
 (Z2z false (([r30] : List Z7))).bind fun r31 =>
 some (r31, true, r1.2, z6, zd, zh, z1, z2)))
 else
 (if ((r1.1 == 125)) = true then
 ((ZT 20 zp zl z1 z2).bind fun r32 =>
 Z1e r32.1 z6 zd zh r32.2.1 r32.2.2)
 else
 ((Z1w r1.1).bind fun r33 =>
 (Z2z false (([r33] : List Z7))).bind fun r34 =>
 some (r34, true, r1.2, z6, zd, zh, z1, z2)))))))))))))
theorem Zam (zl : List Int) (zp : Int) (z6 : Int) (zd : Int) (zh : List Zr) (z1 : Int) (z2 : Int) (zn : Own) (zb : Own) (zu : okApp zb = true) : Sim (Z3W zl zn) (Z4M zl zp z6 zd zh z1 z2) (EE 42 [(.ptr 0 0)] [(Zj (Zk.mk zl zp z6 zd zh (Zi.mk z1 z2)) zn zb)]) := by
 unfold Z4M
 refine zf (Zi6 ..) ?_
 refine ze ?_
 refine zz (.ptr 1 0) [(Zj (Zk.mk zl zp z6 zd zh (Zi.mk z1 z2)) zn zb), (Zq (Z3.mk 0 0 0 0 0 ([] : List Z7) ([] : List Z3)) .nl .nl)] ?_
 refine ze ?_
 refine zo (.ptr 0 0) ?_
 refine zo (.ptr 0 1) ?_
 refine zo (iv zp) ?_
 refine ze ?_
 refine zi fun r1 hr1 => ?_
 obtain ⟨qr1, er1, exr1, rfl⟩ := Z2l (zl) (zp) (z6) (zd) (zh) (z1) (z2) zn zb zu r1 hr1
 refine zc [0] (iv r1.1) [(Zj (Zk.mk zl r1.2 z6 zd zh (Zi.mk z1 z2)) zn zb), (Zq (Z3.mk 0 0 0 0 0 ([] : List Z7) ([] : List Z3)) .nl .nl)] er1 ?_
 refine ze ?_
 refine ze ?_
 refine zo (bv (r1.1 == 46)) ?_
 refine za ((r1.1 == 46)) ?_ ?_
 ·refine ze ?_
  refine zi fun r2 hr2 => ?_
  obtain ⟨qr2, er2, exr2, rfl⟩ := Z1p (10) r2 hr2
  refine zc [] (.p (.agg (ZG r2))) [(Zj (Zk.mk zl r1.2 z6 zd zh (Zi.mk z1 z2)) zn zb), (Zq (Z3.mk 0 0 0 0 0 ([] : List Z7) ([] : List Z3)) .nl .nl)] er2 ?_
  refine zo (.p (.lst .ex (([r2] : List Z7).map Zs))) ?_
  refine zi fun r3 hr3 => ?_
  obtain ⟨qr3, er3, exr3, rfl⟩ := Z2I (true) (([r2] : List Z7)) .sh r3 hr3
  refine zc [] (.p (.agg (ZE r3 .sh .sh))) [(Zj (Zk.mk zl r1.2 z6 zd zh (Zi.mk z1 z2)) zn zb), (Zq (Z3.mk 0 0 0 0 0 ([] : List Z7) ([] : List Z3)) .nl .nl)] er3 ?_
  refine zt [(Zj (Zk.mk zl r1.2 z6 zd zh (Zi.mk z1 z2)) zn zb), (Zq r3 .sh .sh)] ?_
  exact zr ((.p (.tup [(.agg (ZE r3 .sh .sh)), (.v (.bool true))])), [(Zj (Zk.mk zl r1.2 z6 zd zh (Zi.mk z1 z2)) zn zb), (Zq r3 .sh .sh)]) ⟨zb, _, zu, rfl⟩
 ·refine ze ?_
  refine zo (bv (r1.1 == 94)) ?_
  refine za ((r1.1 == 94)) ?_ ?_
  ·refine ze ?_
   refine zo (.p (.agg (ZE (Z3.mk 9 0 0 0 0 ([] : List Z7) ([] : List Z3)) .nl .nl))) ?_
   refine zt [(Zj (Zk.mk zl r1.2 z6 zd zh (Zi.mk z1 z2)) zn zb), (Zq (Z3.mk 9 0 0 0 0 ([] : List Z7) ([] : List Z3)) .nl .nl)] ?_
   exact zr ((.p (.tup [(.agg (ZE (Z3.mk 9 0 0 0 0 ([] : List Z7) ([] : List Z3)) .sh .sh)), (.v (.bool false))])), [(Zj (Zk.mk zl r1.2 z6 zd zh (Zi.mk z1 z2)) zn zb), (Zq (Z3.mk 9 0 0 0 0 ([] : List Z7) ([] : List Z3)) .nl .nl)]) ⟨zb, _, zu, rfl⟩
  ·refine ze ?_
   refine zo (bv (r1.1 == 36)) ?_
   refine za ((r1.1 == 36)) ?_ ?_
   ·refine ze ?_
    refine zo (.p (.agg (ZE (Z3.mk 9 0 0 0 1 ([] : List Z7) ([] : List Z3)) .nl .nl))) ?_
    refine zt [(Zj (Zk.mk zl r1.2 z6 zd zh (Zi.mk z1 z2)) zn zb), (Zq (Z3.mk 9 0 0 0 1 ([] : List Z7) ([] : List Z3)) .nl .nl)] ?_
    exact zr ((.p (.tup [(.agg (ZE (Z3.mk 9 0 0 0 1 ([] : List Z7) ([] : List Z3)) .sh .sh)), (.v (.bool false))])), [(Zj (Zk.mk zl r1.2 z6 zd zh (Zi.mk z1 z2)) zn zb), (Zq (Z3.mk 9 0 0 0 1 ([] : List Z7) ([] : List Z3)) .nl .nl)]) ⟨zb, _, zu, rfl⟩
   ·refine ze ?_
    refine zo (bv (r1.1 == 92)) ?_
    refine za ((r1.1 == 92)) ?_ ?_
    ·refine ze ?_
     refine zi fun r4 hr4 => ?_
     obtain ⟨qr4, er4, or4_0_4, exr4, hor4_0_4, rfl⟩ := Zab (zp) (zl) (r1.2) (z6) (zd) (zh) (z1) (z2) zn zb zu r4 hr4
     refine zc [0] (.p (.agg (ZE r4.1 .sh .sh))) [(Zj (Zk.mk zl r4.2.1 z6 zd r4.2.2.1 (Zi.mk r4.2.2.2.1 r4.2.2.2.2)) zn or4_0_4), (Zq (Z3.mk 0 0 0 0 0 ([] : List Z7) ([] : List Z3)) .nl .nl)] er4 ?_
     refine zz (.ptr 2 0) [(Zj (Zk.mk zl r4.2.1 z6 zd r4.2.2.1 (Zi.mk r4.2.2.2.1 r4.2.2.2.2)) zn or4_0_4), (Zq (Z3.mk 0 0 0 0 0 ([] : List Z7) ([] : List Z3)) .nl .nl), (Zq (Z3.mk 0 0 0 0 0 ([] : List Z7) ([] : List Z3)) .nl .nl)] ?_
     refine zt [(Zj (Zk.mk zl r4.2.1 z6 zd r4.2.2.1 (Zi.mk r4.2.2.2.1 r4.2.2.2.2)) zn or4_0_4), (Zq (Z3.mk 0 0 0 0 0 ([] : List Z7) ([] : List Z3)) .nl .nl), (Zq r4.1 .sh .sh)] ?_
     refine ze ?_
     refine zo (.p (.agg (ZE r4.1 .sh .sh))) ?_
     refine zo (.ptr 2 0) ?_
     refine zo (iv r4.1.Kind) ?_
     refine zo (bv (r4.1.Kind != 9)) ?_
     refine zt [(Zj (Zk.mk zl r4.2.1 z6 zd r4.2.2.1 (Zi.mk r4.2.2.2.1 r4.2.2.2.2)) zn or4_0_4), (Zq r4.1 .sh .sh), (Zq r4.1 .sh .sh)] ?_
     refine zg ?_
     exact zr ((.p (.tup [(.agg (ZE r4.1 .sh .sh)), (.v (.bool (r4.1.Kind != 9)))])), [(Zj (Zk.mk zl r4.2.1 z6 zd r4.2.2.1 (Zi.mk r4.2.2.2.1 r4.2.2.2.2)) zn or4_0_4), (Zq r4.1 .sh .sh), (Zq r4.1 .sh .sh)]) ⟨or4_0_4, _, hor4_0_4, rfl⟩
    ·refine ze ?_
     refine zo (bv (r1.1 == 91)) ?_
     refine za ((r1.1 == 91)) ?_ ?_
     ·refine ze ?_
      refine zi fun r5 hr5 => ?_
      obtain ⟨qr5, er5, exr5, rfl⟩ := Zac (zp) (zl) (r1.2) (z6) (zd) (zh) (z1) (z2) zn zb zu r5 hr5
      refine zc [0] (.p (.agg (ZE r5.1 .sh .sh))) [(Zj (Zk.mk zl r5.2.1 z6 zd zh (Zi.mk r5.2.2.1 r5.2.2.2)) zn zb), (Zq (Z3.mk 0 0 0 0 0 ([] : List Z7) ([] : List Z3)) .nl .nl)] er5 ?_
      refine zt [(Zj (Zk.mk zl r5.2.1 z6 zd zh (Zi.mk r5.2.2.1 r5.2.2.2)) zn zb), (Zq r5.1 .sh .sh)] ?_
      exact zr ((.p (.tup [(.agg (ZE r5.1 .sh .sh)), (.v (.bool true))])), [(Zj (Zk.mk zl r5.2.1 z6 zd zh (Zi.mk r5.2.2.1 r5.2.2.2)) zn zb), (Zq r5.1 .sh .sh)]) ⟨zb, _, zu, rfl⟩
     ·refine ze ?_
      refine zo (bv (r1.1 == 40)) ?_
      refine za ((r1.1 == 40)) ?_ ?_
      ·refine ze ?_
       refine zi fun r6 hr6 => ?_
       obtain ⟨qr6, er6, or6_0_4, exr6, hor6_0_4, rfl⟩ := Zai (zp) (zl) (r1.2) (z6) (zd) (zh) (z1) (z2) zn zb zu r6 hr6
       refine zc [0] (.p (.tup [(.agg (ZE r6.1 .sh .sh)), (.v (.bool r6.2.1))])) [(Zj (Zk.mk zl r6.2.2.1 r6.2.2.2.1 r6.2.2.2.2.1 r6.2.2.2.2.2.1 (Zi.mk r6.2.2.2.2.2.2.1 r6.2.2.2.2.2.2.2)) zn or6_0_4), (Zq (Z3.mk 0 0 0 0 0 ([] : List Z7) ([] : List Z3)) .nl .nl)] er6 ?_
       refine zo (.p (.agg (ZE r6.1 .sh .sh))) ?_
       refine zo (bv r6.2.1) ?_
       refine zt [(Zj (Zk.mk zl r6.2.2.1 r6.2.2.2.1 r6.2.2.2.2.1 r6.2.2.2.2.2.1 (Zi.mk r6.2.2.2.2.2.2.1 r6.2.2.2.2.2.2.2)) zn or6_0_4), (Zq r6.1 .sh .sh)] ?_
       exact zr ((.p (.tup [(.agg (ZE r6.1 .sh .sh)), (.v (.bool r6.2.1))])), [(Zj (Zk.mk zl r6.2.2.1 r6.2.2.2.1 r6.2.2.2.2.1 r6.2.2.2.2.2.1 (Zi.mk r6.2.2.2.2.2.2.1 r6.2.2.2.2.2.2.2)) zn or6_0_4), (Zq r6.1 .sh .sh)]) ⟨or6_0_4, _, hor6_0_4, rfl⟩
      ·refine ze ?_
       refine zo (bv (r1.1 == 42)) ?_
       refine za ((r1.1 == 42)) ?_ ?_
       ·refine za ((r1.1 == 42)) ?_ ?_
        ·refine ze ?_
         refine zi fun r7 hr7 => ?_
         obtain ⟨qr7, er7, exr7, rfl⟩ := ZW (23) (zp) (zl) (r1.2) (z6) (zd) (zh) (z1) (z2) zn zb zu r7 hr7
         refine zc [0] (.p (.tup [])) [(Zj (Zk.mk zl r7.1 z6 zd zh (Zi.mk r7.2.1 r7.2.2)) zn zb), (Zq (Z3.mk 0 0 0 0 0 ([] : List Z7) ([] : List Z3)) .nl .nl)] er7 ?_
         exact zk (Z1g (zl) (r7.1) (z6) (zd) (zh) (r7.2.1) (r7.2.2) ((Z3.mk 0 0 0 0 0 ([] : List Z7) ([] : List Z3))) zn zb .nl .nl zu rfl rfl)
        ·refine ze ?_
         refine zo (bv (r1.1 == 93)) ?_
         refine za ((r1.1 == 93)) ?_ ?_
         ·refine za ((r1.1 == 93)) ?_ ?_
          ·refine ze ?_
           refine zi fun r8 hr8 => ?_
           obtain ⟨qr8, er8, exr8, rfl⟩ := ZW (20) (zp) (zl) (r1.2) (z6) (zd) (zh) (z1) (z2) zn zb zu r8 hr8
           refine zc [0] (.p (.tup [])) [(Zj (Zk.mk zl r8.1 z6 zd zh (Zi.mk r8.2.1 r8.2.2)) zn zb), (Zq (Z3.mk 0 0 0 0 0 ([] : List Z7) ([] : List Z3)) .nl .nl)] er8 ?_
           exact zk (Z1g (zl) (r8.1) (z6) (zd) (zh) (r8.2.1) (r8.2.2) ((Z3.mk 0 0 0 0 0 ([] : List Z7) ([] : List Z3))) zn zb .nl .nl zu rfl rfl)
          ·refine ze ?_
           refine zi fun r9 hr9 => ?_
           obtain ⟨qr9, er9, exr9, rfl⟩ := Z1p (r1.1) r9 hr9
           refine zc [] (.p (.agg (ZG r9))) [(Zj (Zk.mk zl r1.2 z6 zd zh (Zi.mk z1 z2)) zn zb), (Zq (Z3.mk 0 0 0 0 0 ([] : List Z7) ([] : List Z3)) .nl .nl)] er9 ?_
           refine zo (.p (.lst .ex (([r9] : List Z7).map Zs))) ?_
           refine zi fun r10 hr10 => ?_
           obtain ⟨qr10, er10, exr10, rfl⟩ := Z2I (false) (([r9] : List Z7)) .sh r10 hr10
           refine zc [] (.p (.agg (ZE r10 .sh .sh))) [(Zj (Zk.mk zl r1.2 z6 zd zh (Zi.mk z1 z2)) zn zb), (Zq (Z3.mk 0 0 0 0 0 ([] : List Z7) ([] : List Z3)) .nl .nl)] er10 ?_
           refine zt [(Zj (Zk.mk zl r1.2 z6 zd zh (Zi.mk z1 z2)) zn zb), (Zq r10 .sh .sh)] ?_
           exact zr ((.p (.tup [(.agg (ZE r10 .sh .sh)), (.v (.bool true))])), [(Zj (Zk.mk zl r1.2 z6 zd zh (Zi.mk z1 z2)) zn zb), (Zq r10 .sh .sh)]) ⟨zb, _, zu, rfl⟩
         ·refine ze ?_
          refine zo (bv (r1.1 == 125)) ?_
          refine za ((r1.1 == 125)) ?_ ?_
          ·refine ze ?_
           refine zi fun r11 hr11 => ?_
           obtain ⟨qr11, er11, exr11, rfl⟩ := ZW (20) (zp) (zl) (r1.2) (z6) (zd) (zh) (z1) (z2) zn zb zu r11 hr11
           refine zc [0] (.p (.tup [])) [(Zj (Zk.mk zl r11.1 z6 zd zh (Zi.mk r11.2.1 r11.2.2)) zn zb), (Zq (Z3.mk 0 0 0 0 0 ([] : List Z7) ([] : List Z3)) .nl .nl)] er11 ?_
           exact zk (Z1g (zl) (r11.1) (z6) (zd) (zh) (r11.2.1) (r11.2.2) ((Z3.mk 0 0 0 0 0 ([] : List Z7) ([] : List Z3))) zn zb .nl .nl zu rfl rfl)
          ·refine ze ?_
           refine zi fun r12 hr12 => ?_
           obtain ⟨qr12, er12, exr12, rfl⟩ := Z1p (r1.1) r12 hr12
           refine zc [] (.p (.agg (ZG r12))) [(Zj (Zk.mk zl r1.2 z6 zd zh (Zi.mk z1 z2)) zn zb), (Zq (Z3.mk 0 0 0 0 0 ([] : List Z7) ([] : List Z3)) .nl .nl)] er12 ?_
           refine zo (.p (.lst .ex (([r12] : List Z7).map Zs))) ?_
           refine zi fun r13 hr13 => ?_
           obtain ⟨qr13, er13, exr13, rfl⟩ := Z2I (false) (([r12] : List Z7)) .sh r13 hr13
           refine zc [] (.p (.agg (ZE r13 .sh .sh))) [(Zj (Zk.mk zl r1.2 z6 zd zh (Zi.mk z1 z2)) zn zb), (Zq (Z3.mk 0 0 0 0 0 ([] : List Z7) ([] : List Z3)) .nl .nl)] er13 ?_
           refine zt [(Zj (Zk.mk zl r1.2 z6 zd zh (Zi.mk z1 z2)) zn zb), (Zq r13 .sh .sh)] ?_
           exact zr ((.p (.tup [(.agg (ZE r13 .sh .sh)), (.v (.bool true))])), [(Zj (Zk.mk zl r1.2 z6 zd zh (Zi.mk z1 z2)) zn zb), (Zq r13 .sh .sh)]) ⟨zb, _, zu, rfl⟩
       ·refine ze ?_
        refine zo (bv (r1.1 == 43)) ?_
        refine za ((r1.1 == 43)) ?_ ?_
        ·refine za ((r1.1 == 43)) ?_ ?_
         ·refine ze ?_
          refine zi fun r14 hr14 => ?_
          obtain ⟨qr14, er14, exr14, rfl⟩ := ZW (23) (zp) (zl) (r1.2) (z6) (zd) (zh) (z1) (z2) zn zb zu r14 hr14
          refine zc [0] (.p (.tup [])) [(Zj (Zk.mk zl r14.1 z6 zd zh (Zi.mk r14.2.1 r14.2.2)) zn zb), (Zq (Z3.mk 0 0 0 0 0 ([] : List Z7) ([] : List Z3)) .nl .nl)] er14 ?_
          exact zk (Z1g (zl) (r14.1) (z6) (zd) (zh) (r14.2.1) (r14.2.2) ((Z3.mk 0 0 0 0 0 ([] : List Z7) ([] : List Z3))) zn zb .nl .nl zu rfl rfl)
         ·refine ze ?_
          refine zo (bv (r1.1 == 93)) ?_
          refine za ((r1.1 == 93)) ?_ ?_
          ·refine za ((r1.1 == 93)) ?_ ?_
           ·refine ze ?_
            refine zi fun r15 hr15 => ?_
            obtain ⟨qr15, er15, exr15, rfl⟩ := ZW (20) (zp) (zl) (r1.2) (z6) (zd) (zh) (z1) (z2) zn zb zu r15 hr15
            refine zc [0] (.p (.tup [])) [(Zj (Zk.mk zl r15.1 z6 zd zh (Zi.mk r15.2.1 r15.2.2)) zn zb), (Zq (Z3.mk 0 0 0 0 0 ([] : List Z7) ([] : List Z3)) .nl .nl)] er15 ?_
            exact zk (Z1g (zl) (r15.1) (z6) (zd) (zh) (r15.2.1) (r15.2.2) ((Z3.mk 0 0 0 0 0 ([] : List Z7) ([] : List Z3))) zn zb .nl .nl zu rfl rfl)
           ·refine ze ?_
            refine zi fun r16 hr16 => ?_
            obtain ⟨qr16, er16, exr16, rfl⟩ := Z1p (r1.1) r16 hr16
            refine zc [] (.p (.agg (ZG r16))) [(Zj (Zk.mk zl r1.2 z6 zd zh (Zi.mk z1 z2)) zn zb), (Zq (Z3.mk 0 0 0 0 0 ([] : List Z7) ([] : List Z3)) .nl .nl)] er16 ?_
            refine zo (.p (.lst .ex (([r16] : List Z7).map Zs))) ?_
            refine zi fun r17 hr17 => ?_
            obtain ⟨qr17, er17, exr17, rfl⟩ := Z2I (false) (([r16] : List Z7)) .sh r17 hr17
            refine zc [] (.p (.agg (ZE r17 .sh .sh))) [(Zj (Zk.mk zl r1.2 z6 zd zh (Zi.mk z1 z2)) zn zb), (Zq (Z3.mk 0 0 0 0 0 ([] : List Z7) ([] : List Z3)) .nl .nl)] er17 ?_
            refine zt [(Zj (Zk.mk zl r1.2 z6 zd zh (Zi.mk z1 z2)) zn zb), (Zq r17 .sh .sh)] ?_
            exact zr ((.p (.tup [(.agg (ZE r17 .sh .sh)), (.v (.bool true))])), [(Zj (Zk.mk zl r1.2 z6 zd zh (Zi.mk z1 z2)) zn zb), (Zq r17 .sh .sh)]) ⟨zb, _, zu, rfl⟩
          ·refine ze ?_
           refine zo (bv (r1.1 == 125)) ?_
           refine za ((r1.1 == 125)) ?_ ?_
           ·refine ze ?_
            refine zi fun r18 hr18 => ?_
            obtain ⟨qr18, er18, exr18, rfl⟩ := ZW (20) (zp) (zl) (r1.2) (z6) (zd) (zh) (z1) (z2) zn zb zu r18 hr18
            refine zc [0] (.p (.tup [])) [(Zj (Zk.mk zl r18.1 z6 zd zh (Zi.mk r18.2.1 r18.2.2)) zn zb), (Zq (Z3.mk 0 0 0 0 0 ([] : List Z7) ([] : List Z3)) .nl .nl)] er18 ?_
            exact zk (Z1g (zl) (r18.1) (z6) (zd) (zh) (r18.2.1) (r18.2.2) ((Z3.mk 0 0 0 0 0 ([] : List Z7) ([] : List Z3))) zn zb .nl .nl zu rfl rfl)
           ·refine ze ?_
            refine zi fun r19 hr19 => ?_
            obtain ⟨qr19, er19, exr19, rfl⟩ := Z1p (r1.1) r19 hr19
            refine zc [] (.p (.agg (ZG r19))) [(Zj (Zk.mk zl r1.2 z6 zd zh (Zi.mk z1 z2)) zn zb), (Zq (Z3.mk 0 0 0 0 0 ([] : List Z7) ([] : List Z3)) .nl .nl)] er19 ?_
            refine zo (.p (.lst .ex (([r19] : List Z7).map Zs))) ?_
            refine zi fun r20 hr20 => ?_
            obtain ⟨qr20, er20, exr20, rfl⟩ := Z2I (false) (([r19] : List Z7)) .sh r20 hr20
            refine zc [] (.p (.agg (ZE r20 .sh .sh))) [(Zj (Zk.mk zl r1.2 z6 zd zh (Zi.mk z1 z2)) zn zb), (Zq (Z3.mk 0 0 0 0 0 ([] : List Z7) ([] : List Z3)) .nl .nl)] er20 ?_
            refine zt [(Zj (Zk.mk zl r1.2 z6 zd zh (Zi.mk z1 z2)) zn zb), (Zq r20 .sh .sh)] ?_
            exact zr ((.p (.tup [(.agg (ZE r20 .sh .sh)), (.v (.bool true))])), [(Zj (Zk.mk zl r1.2 z6 zd zh (Zi.mk z1 z2)) zn zb), (Zq r20 .sh .sh)]) ⟨zb, _, zu, rfl⟩
        ·refine ze ?_
         refine zo (bv (r1.1 == 63)) ?_
         refine za ((r1.1 == 63)) ?_ ?_
         ·refine za ((r1.1 == 63)) ?_ ?_
          ·refine ze ?_
           refine zi fun r21 hr21 => ?_
           obtain ⟨qr21, er21, exr21, rfl⟩ := ZW (23) (zp) (zl) (r1.2) (z6) (zd) (zh) (z1) (z2) zn zb zu r21 hr21
           refine zc [0] (.p (.tup [])) [(Zj (Zk.mk zl r21.1 z6 zd zh (Zi.mk r21.2.1 r21.2.2)) zn zb), (Zq (Z3.mk 0 0 0 0 0 ([] : List Z7) ([] : List Z3)) .nl .nl)] er21 ?_
           exact zk (Z1g (zl) (r21.1) (z6) (zd) (zh) (r21.2.1) (r21.2.2) ((Z3.mk 0 0 0 0 0 ([] : List Z7) ([] : List Z3))) zn zb .nl .nl zu rfl rfl)
          ·refine ze ?_
           refine zo (bv (r1.1 == 93)) ?_
           refine za ((r1.1 == 93)) ?_ ?_
           ·refine za ((r1.1 == 93)) ?_ ?_
            ·refine ze ?_
             refine zi fun r22 hr22 => ?_
             obtain ⟨qr22, er22, exr22, rfl⟩ := ZW (20) (zp) (zl) (r1.2) (z6) (zd) (zh) (z1) (z2) zn zb zu r22 hr22
             refine zc [0] (.p (.tup [])) [(Zj (Zk.mk zl r22.1 z6 zd zh (Zi.mk r22.2.1 r22.2.2)) zn zb), (Zq (Z3.mk 0 0 0 0 0 ([] : List Z7) ([] : List Z3)) .nl .nl)] er22 ?_
             exact zk (Z1g (zl) (r22.1) (z6) (zd) (zh) (r22.2.1) (r22.2.2) ((Z3.mk 0 0 0 0 0 ([] : List Z7) ([] : List Z3))) zn zb .nl .nl zu rfl rfl)
            ·refine ze ?_
             refine zi fun r23 hr23 => ?_
             obtain ⟨qr23, er23, exr23, rfl⟩ := Z1p (r1.1) r23 hr23
             refine zc [] (.p (.agg (ZG r23))) [(Zj (Zk.mk zl r1.2 z6 zd zh (Zi.mk z1 z2)) zn zb), (Zq (Z3.mk 0 0 0 0 0 ([] : List Z7) ([] : List Z3)) .nl .nl)] er23 ?_
             refine zo (.p (.lst .ex (([r23] : List Z7).map Zs))) ?_
             refine zi fun r24 hr24 => ?_
             obtain ⟨qr24, er24, exr24, rfl⟩ := Z2I (false) (([r23] : List Z7)) .sh r24 hr24
             refine zc [] (.p (.agg (ZE r24 .sh .sh))) [(Zj (Zk.mk zl r1.2 z6 zd zh (Zi.mk z1 z2)) zn zb), (Zq (Z3.mk 0 0 0 0 0 ([] : List Z7) ([] : List Z3)) .nl .nl)] er24 ?_
             refine zt [(Zj (Zk.mk zl r1.2 z6 zd zh (Zi.mk z1 z2)) zn zb), (Zq r24 .sh .sh)] ?_
             exact zr ((.p (.tup [(.agg (ZE r24 .sh .sh)), (.v (.bool true))])), [(Zj (Zk.mk zl r1.2 z6 zd zh (Zi.mk z1 z2)) zn zb), (Zq r24 .sh .sh)]) ⟨zb, _, zu, rfl⟩
           ·refine ze ?_
            refine zo (bv (r1.1 == 125)) ?_
            refine za ((r1.1 == 125)) ?_ ?_
            ·refine ze ?_
             refine zi fun r25 hr25 => ?_
             obtain ⟨qr25, er25, exr25, rfl⟩ := ZW (20) (zp) (zl) (r1.2) (z6) (zd) (zh) (z1) (z2) zn zb zu r25 hr25
             refine zc [0] (.p (.tup [])) [(Zj (Zk.mk zl r25.1 z6 zd zh (Zi.mk r25.2.1 r25.2.2)) zn zb), (Zq (Z3.mk 0 0 0 0 0 ([] : List Z7) ([] : List Z3)) .nl .nl)] er25 ?_
             exact zk (Z1g (zl) (r25.1) (z6) (zd) (zh) (r25.2.1) (r25.2.2) ((Z3.mk 0 0 0 0 0 ([] : List Z7) ([] : List Z3))) zn zb .nl .nl zu rfl rfl)
            ·refine ze ?_
             refine zi fun r26 hr26 => ?_
             obtain ⟨qr26, er26, exr26, rfl⟩ := Z1p (r1.1) r26 hr26
             refine zc [] (.p (.agg (ZG r26))) [(Zj (Zk.mk zl r1.2 z6 zd zh (Zi.mk z1 z2)) zn zb), (Zq (Z3.mk 0 0 0 0 0 ([] : List Z7) ([] : List Z3)) .nl .nl)] er26 ?_
             refine zo (.p (.lst .ex (([r26] : List Z7).map Zs))) ?_
             refine zi fun r27 hr27 => ?_
             obtain ⟨qr27, er27, exr27, rfl⟩ := Z2I (false) (([r26] : List Z7)) .sh r27 hr27
             refine zc [] (.p (.agg (ZE r27 .sh .sh))) [(Zj (Zk.mk zl r1.2 z6 zd zh (Zi.mk z1 z2)) zn zb), (Zq (Z3.mk 0 0 0 0 0 ([] : List Z7) ([] : List Z3)) .nl .nl)] er27 ?_
             refine zt [(Zj (Zk.mk zl r1.2 z6 zd zh (Zi.mk z1 z2)) zn zb), (Zq r27 .sh .sh)] ?_
             exact zr ((.p (.tup [(.agg (ZE r27 .sh .sh)), (.v (.bool true))])), [(Zj (Zk.mk zl r1.2 z6 zd zh (Zi.mk z1 z2)) zn zb), (Zq r27 .sh .sh)]) ⟨zb, _, zu, rfl⟩
         ·refine ze ?_
          refine zo (bv (r1.1 == 123)) ?_
          refine za ((r1.1 == 123)) ?_ ?_
          ·refine ze ?_
           refine zi fun r28 hr28 => ?_
           obtain ⟨qr28, er28, exr28, rfl⟩ := ZW (23) (zp) (zl) (r1.2) (z6) (zd) (zh) (z1) (z2) zn zb zu r28 hr28
           refine zc [0] (.p (.tup [])) [(Zj (Zk.mk zl r28.1 z6 zd zh (Zi.mk r28.2.1 r28.2.2)) zn zb), (Zq (Z3.mk 0 0 0 0 0 ([] : List Z7) ([] : List Z3)) .nl .nl)] er28 ?_
           exact zk (Z1g (zl) (r28.1) (z6) (zd) (zh) (r28.2.1) (r28.2.2) ((Z3.mk 0 0 0 0 0 ([] : List Z7) ([] : List Z3))) zn zb .nl .nl zu rfl rfl)
          ·refine ze ?_
           refine zo (bv (r1.1 == 93)) ?_
           refine za ((r1.1 == 93)) ?_ ?_
           ·refine za ((r1.1 == 93)) ?_ ?_
            ·refine ze ?_
             refine zi fun r29 hr29 => ?_
             obtain ⟨qr29, er29, exr29, rfl⟩ := ZW (20) (zp) (zl) (r1.2) (z6) (zd) (zh) (z1) (z2) zn zb zu r29 hr29
             refine zc [0] (.p (.tup [])) [(Zj (Zk.mk zl r29.1 z6 zd zh (Zi.mk r29.2.1 r29.2.2)) zn zb), (Zq (Z3.mk 0 0 0 0 0 ([] : List Z7) ([] : List Z3)) .nl .nl)] er29 ?_
             exact zk (Z1g (zl) (r29.1) (z6) (zd) (zh) (r29.2.1) (r29.2.2) ((Z3.mk 0 0 0 0 0 ([] : List Z7) ([] : List Z3))) zn zb .nl .nl zu rfl rfl)
            ·refine ze ?_
             refine zi fun r30 hr30 => ?_
             obtain ⟨qr30, er30, exr30, rfl⟩ := Z1p (r1.1) r30 hr30
             refine zc [] (.p (.agg (ZG r30))) [(Zj (Zk.mk zl r1.2 z6 zd zh (Zi.mk z1 z2)) zn zb), (Zq (Z3.mk 0 0 0 0 0 ([] : List Z7) ([] : List Z3)) .nl .nl)] er30 ?_
             refine zo (.p (.lst .ex (([r30] : List Z7).map Zs))) ?_
             refine zi fun r31 hr31 => ?_
             obtain ⟨qr31, er31, exr31, rfl⟩ := Z2I (false) (([r30] : List Z7)) .sh r31 hr31
             refine zc [] (.p (.agg (ZE r31 .sh .sh))) [(Zj (Zk.mk zl r1.2 z6 zd zh (Zi.mk z1 z2)) zn zb), (Zq (Z3.mk 0 0 0 0 0 ([] : List Z7) ([] : List Z3)) .nl .nl)] er31 ?_
             refine zt [(Zj (Zk.mk zl r1.2 z6 zd zh (Zi.mk z1 z2)) zn zb), (Zq r31 .sh .sh)] ?_
             exact zr ((.p (.tup [(.agg (ZE r31 .sh .sh)), (.v (.bool true))])), [(Zj (Zk.mk zl r1.2 z6 zd zh (Zi.mk z1 z2)) zn zb), (Zq r31 .sh .sh)]) ⟨zb, _, zu, rfl⟩
           ·refine ze ?_
            refine zo (bv (r1.1 == 125)) ?_
            refine za ((r1.1 == 125)) ?_ ?_
            ·refine ze ?_
             refine zi fun r32 hr32 => ?_
             obtain ⟨qr32, er32, exr32, rfl⟩ := ZW (20) (zp) (zl) (r1.2) (z6) (zd) (zh) (z1) (z2) zn zb zu r32 hr32
             refine zc [0] (.p (.tup [])) [(Zj (Zk.mk zl r32.1 z6 zd zh (Zi.mk r32.2.1 r32.2.2)) zn zb), (Zq (Z3.mk 0 0 0 0 0 ([] : List Z7) ([] : List Z3)) .nl .nl)] er32 ?_
             exact zk (Z1g (zl) (r32.1) (z6) (zd) (zh) (r32.2.1) (r32.2.2) ((Z3.mk 0 0 0 0 0 ([] : List Z7) ([] : List Z3))) zn zb .nl .nl zu rfl rfl)
            ·refine ze ?_
             refine zi fun r33 hr33 => ?_
             obtain ⟨qr33, er33, exr33, rfl⟩ := Z1p (r1.1) r33 hr33
             refine zc [] (.p (.agg (ZG r33))) [(Zj (Zk.mk zl r1.2 z6 zd zh (Zi.mk z1 z2)) zn zb), (Zq (Z3.mk 0 0 0 0 0 ([] : List Z7) ([] : List Z3)) .nl .nl)] er33 ?_
             refine zo (.p (.lst .ex (([r33] : List Z7).map Zs))) ?_
             refine zi fun r34 hr34 => ?_
             obtain ⟨qr34, er34, exr34, rfl⟩ := Z2I (false) (([r33] : List Z7)) .sh r34 hr34
             refine zc [] (.p (.agg (ZE r34 .sh .sh))) [(Zj (Zk.mk zl r1.2 z6 zd zh (Zi.mk z1 z2)) zn zb), (Zq (Z3.mk 0 0 0 0 0 ([] : List Z7) ([] : List Z3)) .nl .nl)] er34 ?_
             refine zt [(Zj (Zk.mk zl r1.2 z6 zd zh (Zi.mk z1 z2)) zn zb), (Zq r34 .sh .sh)] ?_
             exact zr ((.p (.tup [(.agg (ZE r34 .sh .sh)), (.v (.bool true))])), [(Zj (Zk.mk zl r1.2 z6 zd zh (Zi.mk z1 z2)) zn zb), (Zq r34 .sh .sh)]) ⟨zb, _, zu, rfl⟩
theorem ZaC (zl : List Int) (zp : Int) (z6 : Int) (zd : Int) (zh : List Zr) (z1 : Int) (z2 : Int) {r} (h : Z4M zl zp z6 zd zh z1 z2 = some r) : Z5G zl zp z6 zd zh z1 z2 = some r :=
 pick_of (fun _ _ ha hb => RRun.uniq (Zb5 _ _) (ha .ex .ex rfl) (hb .ex .ex rfl)) (fun zn zb zu => Zam zl zp z6 zd zh z1 z2 zn zb zu r h)
noncomputable def Z5H (zl : List Int) (zp : Int) : Option (Int × Int) :=
 (Z7D zl zp).bind fun r1 =>
 some (r1.1, (IntKind.i64.wrap (zp + r1.2)))
theorem Zal (zl : List Int) (zp : Int) (z6 : Int) (zd : Int) (zh : List Zr) (z1 : Int) (z2 : Int) (zn : Own) (zb : Own) (zu : okApp zb = true) : Sim (Z4K zl z6 zd zh z1 z2 zn zb) (Z5H zl zp) (EE 46 [(.ptr 0 0)] [(Zj (Zk.mk zl zp z6 zd zh (Zi.mk z1 z2)) zn zb)]) := by
 unfold Z5H
 refine zf (ZhT ..) ?_
 refine ze ?_
 refine ze ?_
 refine zo (.ptr 0 0) ?_
 refine zo (.ptr 0 0) ?_
 refine zo (.p (.lst (shrO zn) (zl.map (eI .u8)))) ?_
 refine zo (.ptr 0 0) ?_
 refine zo (.ptr 0 1) ?_
 refine zo (iv zp) ?_
 refine zi fun r1 hr1 => ?_
 obtain ⟨qr1, er1, exr1, rfl⟩ := Zbq (zl) (zp) .sh r1 hr1
 refine zc [] (.p (.tup [(.v (.int .i64 r1.1)), (.v (.int .i64 r1.2))])) [(Zj (Zk.mk zl zp z6 zd zh (Zi.mk z1 z2)) zn zb)] er1 ?_
 refine zo (iv r1.1) ?_
 refine zo (iv r1.2) ?_
 refine ze ?_
 refine zo (.ptr 0 0) ?_
 refine zo (.ptr 0 1) ?_
 refine zo (iv zp) ?_
 refine zo (iv (IntKind.i64.wrap (zp + r1.2))) ?_
 refine zo (.ptr 0 0) ?_
 refine zo (.ptr 0 1) ?_
 refine zt [(Zj (Zk.mk zl (IntKind.i64.wrap (zp + r1.2)) z6 zd zh (Zi.mk z1 z2)) zn zb)] ?_
 refine ze ?_
 exact zr ((iv r1.1), [(Zj (Zk.mk zl (IntKind.i64.wrap (zp + r1.2)) z6 zd zh (Zi.mk z1 z2)) zn zb)]) ⟨_, rfl⟩
theorem ZaE (zl : List Int) (zp : Int) {r} (h : Z5H zl zp = some r) : Z20 zl zp = some r :=
 pick_of (fun _ _ ha hb => RRun.uniq (Zbe _ _ _ _ _ _ _ _) (ha default default default default default .ex .ex rfl) (hb default default default default default .ex .ex rfl)) (fun z6 zd zh z1 z2 zn zb zu => Zal zl zp z6 zd zh z1 z2 zn zb zu r h)
noncomputable def ZaF (x0 : Int) : Option (Z7) :=
 some ((Z7.mk x0 x0))
theorem ZcI (x0 : Int) : Sim (Z7J) (ZaF x0) (EE 48 [(iv x0)] []) := by
 unfold ZaF
 refine zf (Zhq ..) ?_
 refine ze ?_
 refine zz (.ptr 0 0) [(Z1m (Z7.mk 0 0))] ?_
 refine ze ?_
 refine zo (.p (.agg (ZG (Z7.mk x0 x0)))) ?_
 refine zt [(Z1m (Z7.mk x0 x0))] ?_
 exact zr ((.p (.agg (ZG (Z7.mk x0 x0)))), [(Z1m (Z7.mk x0 x0))]) ⟨_, rfl⟩
theorem Zdc (x0 : Int) {r} (h : ZaF x0 = some r) : Z1w x0 = some r :=
 pick_of (fun _ _ ha hb => RRun.uniq (Zdj) (ha ) (hb )) (ZcI x0 r h)
noncomputable def Z7i (x5 : List Z7) : Option (Z3) :=
 some ((Z3.mk 1 0 0 0 0 x5 ([] : List Z3)))
theorem Z9a (x5 : List Z7) (b0 : Z3) (ox5 : Own) (z2h : Own) (z1K : Own) (zh4 : okApp z2h = true) (zgl : okApp z1K = true) : Sim (Z6u) (Z7i x5) (ZcD 0 (.ptr 0 0) (.p (.lst ox5 (x5.map Zs))) [(Zq b0 z2h z1K)]) := by
 unfold Z7i
 refine zf (ZfW ..) ?_
 refine ze ?_
 refine zo (.p (.agg (ZE (Z3.mk 1 0 0 0 0 x5 ([] : List Z3)) (shrO (shrO ox5)) .nl))) ?_
 refine zt [(Zq (Z3.mk 1 0 0 0 0 x5 ([] : List Z3)) (shrO (shrO ox5)) .nl)] ?_
 exact zr ((.p (.agg (ZE (Z3.mk 1 0 0 0 0 x5 ([] : List Z3)) .sh .sh))), [(Zq (Z3.mk 1 0 0 0 0 x5 ([] : List Z3)) (shrO (shrO ox5)) .nl)]) ⟨_, rfl⟩
noncomputable def Z92 (x0 : Bool) (x1 : List Z7) : Option (Z3) :=
 (Z8n x1).bind fun r1 =>
 if (x0) = true then
 ((Z5O r1.1).bind fun r2 =>
 Z7i r2.1)
 else
 (Z7i r1.1)
theorem Zcz (x0 : Bool) (x1 : List Z7) (ox1 : Own) : Sim (Z6u) (Z92 x0 x1) (EE 47 [(bv x0), (.p (.lst ox1 (x1.map Zs)))] []) := by
 unfold Z92
 refine zf (ZhC ..) ?_
 refine ze ?_
 refine zz (.ptr 0 0) [(Zq (Z3.mk 0 0 0 0 0 ([] : List Z7) ([] : List Z3)) .nl .nl)] ?_
 refine ze ?_
 refine zi fun r1 hr1 => ?_
 obtain ⟨qr1, er1, exr1, rfl⟩ := Zcu (x1) .sh r1 hr1
 refine zc [] (.p (.tup [(.lst .sh (r1.1.map Zs)), (.v (.int .i64 r1.2))])) [(Zq (Z3.mk 0 0 0 0 0 ([] : List Z7) ([] : List Z3)) .nl .nl)] er1 ?_
 refine zo (.p (.lst .sh (r1.1.map Zs))) ?_
 refine zo (iv r1.2) ?_
 refine ze ?_
 refine za (x0) ?_ ?_
 ·refine ze ?_
  refine zi fun r2 hr2 => ?_
  obtain ⟨qr2, er2, exr2, rfl⟩ := Z98 (r1.1) .sh r2 hr2
  refine zc [] (.p (.tup [(.lst .sh (r2.1.map Zs)), (.v (.int .i64 r2.2))])) [(Zq (Z3.mk 0 0 0 0 0 ([] : List Z7) ([] : List Z3)) .nl .nl)] er2 ?_
  refine zo (.p (.lst .sh (r2.1.map Zs))) ?_
  refine zo (iv r2.2) ?_
  exact zk (Z9a (r2.1) ((Z3.mk 0 0 0 0 0 ([] : List Z7) ([] : List Z3))) .sh .nl .nl rfl rfl)
 ·exact zk (Z9a (r1.1) ((Z3.mk 0 0 0 0 0 ([] : List Z7) ([] : List Z3))) .sh .nl .nl rfl rfl)
theorem ZcZ (x0 : Bool) (x1 : List Z7) {r} (h : Z92 x0 x1 = some r) : Z2z x0 x1 = some r :=
 pick_of (fun _ _ ha hb => RRun.uniq (Zdm) (ha .ex) (hb .ex)) (fun ox1 => Zcz x0 x1 ox1 r h)
noncomputable def Z6y (x0 : List Z7) : Option ((List Z7) × Int) :=
 (Z7e x0).bind fun r1 =>
 some (r1, 0)
theorem ZbE (x0 : List Z7) (ox0 : Own) : Sim (Z69) (Z6y x0) (Zds 0 (.p (.lst ox0 (x0.map Zs))) []) := by
 unfold Z6y
 refine zf (ZgQ ..) ?_
 refine ze ?_
 refine zi fun r1 hr1 => ?_
 obtain ⟨qr1, er1, exr1, rfl⟩ := Z9t (x0) .sh r1 hr1
 refine zc [] (.p (.lst .sh (r1.map Zs))) [] er1 ?_
 exact zr ((.p (.tup [(.lst .sh (r1.map Zs)), (.v (.int .i64 0))])), []) ⟨_, rfl⟩
noncomputable def Z8p (x0 : List Z7) : Option ((List Z7) × Int) :=
 (Z3e x0).bind fun r1 =>
 if (r1) = true then
 (some (([] : List Z7), 13))
 else
 (Z6y x0)
theorem Zck (x0 : List Z7) (ox0 : Own) : Sim (Z69) (Z8p x0) (EE 54 [(.p (.lst ox0 (x0.map Zs)))] []) := by
 unfold Z8p
 refine zf (Zi8 ..) ?_
 refine ze ?_
 refine ze ?_
 refine zi fun r1 hr1 => ?_
 obtain ⟨qr1, er1, exr1, rfl⟩ := Z7y (x0) .sh r1 hr1
 refine zc [] (bv r1) [] er1 ?_
 refine za (r1) ?_ ?_
 ·refine ze ?_
  exact zr ((.p (.tup [(.lst .sh []), (.v (.int .i64 13))])), []) ⟨_, rfl⟩
 ·exact zk (ZbE (x0) ox0)
theorem Zcy (x0 : List Z7) {r} (h : Z8p x0 = some r) : Z8n x0 = some r :=
 pick_of (fun _ _ ha hb => RRun.uniq (Zd9) (ha .ex) (hb .ex)) (fun ox0 => Zck x0 ox0 r h)
noncomputable def Z36 (x0 : List Z7) : Option (Bool) :=
 (Z3H x0).bind fun r1 =>
 some ((decide (0 ≤ r1)))
theorem Z73 (x0 : List Z7) (ox0 : Own) : Sim (Z2G) (Z36 x0) (EE 65 [(.p (.lst ox0 (x0.map Zs))), (.clo 66 [] [])] []) := by
 unfold Z36
 refine zf (Zic ..) ?_
 refine ze ?_
 refine ze ?_
 refine zi fun r1 hr1 => ?_
 obtain ⟨qr1, er1, exr1, rfl⟩ := Z8c (x0) .sh r1 hr1
 refine zc [] (iv r1) [] er1 ?_
 refine zo (bv (decide (0 ≤ r1))) ?_
 exact zr ((bv (decide (0 ≤ r1))), []) ⟨_, rfl⟩
theorem Z7t (x0 : List Z7) {r} (h : Z36 x0 = some r) : Z3e x0 = some r :=
 pick_of (fun _ _ ha hb => RRun.uniq (Z7E) (ha .ex) (hb .ex)) (fun ox0 => Z73 x0 ox0 r h)
noncomputable def Z3K (x0 : List Z7) : Option (Int) :=
 Z2B x0 ((x0.length : Int)) 0
theorem Z7U (x0 : List Z7) (ox0 : Own) : Sim (Z1l) (Z3K x0) (EE 73 [(.p (.lst ox0 (x0.map Zs))), (.clo 66 [] [])] []) := by
 unfold Z3K
 refine zf (ZiC ..) ?_
 refine ze ?_
 refine ze ?_
 refine zo (iv (x0.length : Int)) ?_ (Eq.trans (by kernel_rfl) (xlen_of (P := PP) (t := 23) (d := 39) (by kernel_rfl) Zs (shrO ox0) x0))
 exact zk (Z5k (x0) ((x0.length : Int)) (0) ox0)
theorem Z8g (x0 : List Z7) {r} (h : Z3K x0 = some r) : Z3H x0 = some r :=
 pick_of (fun _ _ ha hb => RRun.uniq (Z5T) (ha .ex) (hb .ex)) (fun ox0 => Z7U x0 ox0 r h)
noncomputable def Z38 (x0 : List Z7) (x7 : Int) (x8 : Int) : Option (Int) :=
 Z2B x0 x7 ((IntKind.i64.wrap (x8 + 1)))
theorem Z7j (x0 : List Z7) (x7 : Int) (x8 : Int) (ox0 : Own) : Sim (Z1l) (Z38 x0 x7 x8) (Zeg 0 (.p (.lst ox0 (x0.map Zs))) (.clo 66 [] []) (iv x7) (iv x8) []) := by
 unfold Z38
 refine zf (ZgL ..) ?_
 refine ze ?_
 refine zo (iv (IntKind.i64.wrap (x8 + 1))) ?_
 exact zk (Z5k (x0) (x7) ((IntKind.i64.wrap (x8 + 1))) ox0)
noncomputable def Z3d (x0 : List Z7) (x7 : Int) (x8 : Int) : Option (Int) :=
 (lget x0 x8).bind fun a1 =>
 (Z75 a1).bind fun r2 =>
 if (r2) = true then
 (some (x8))
 else
 (Z38 x0 x7 x8)
theorem Z7p (x0 : List Z7) (x7 : Int) (x8 : Int) (ox0 : Own) : Sim (Z1l) (Z3d x0 x7 x8) (Zeu 0 (.p (.lst ox0 (x0.map Zs))) (.clo 66 [] []) (iv x7) (iv x8) []) := by
 unfold Z3d
 refine zf (Zgi ..) ?_
 refine ze ?_
 refine ze ?_
 refine zi fun a1 ha1 => ?_
 refine zo (.cptr (ZG a1)) ?_ (Eq.trans (by kernel_rfl) (xidx_of (o := (shrO ox0)) (k := .i64) (n := 2) (e := Zs) (cs := Z3O) (fun _ => rfl) (fun _ => rfl) (by decide) ha1))
 refine zo (.p (.agg (ZG a1))) ?_
 refine zi fun r2 hr2 => ?_
 obtain ⟨qr2, er2, exr2, rfl⟩ := Zcf (a1) r2 hr2
 refine zv [] (bv r2) [] er2 ?_
 refine za (r2) ?_ ?_
 ·refine ze ?_
  exact zr ((iv x8), []) ⟨_, rfl⟩
 ·exact zk (Z7j (x0) (x7) (x8) ox0)
noncomputable def Z4t  : Option (Int) :=
 some ((-1))
theorem Z72  : Sim (Z1l) (Z4t) (Zek 0  []) := by
 unfold Z4t
 refine zf (ZfH ..) ?_
 refine ze ?_
 exact zr ((iv (-1)), []) ⟨_, rfl⟩
noncomputable def Z2F (x0 : List Z7) (x7 : Int) (x8 : Int) : Option (Int) :=
 if ((decide (x8 < x7))) = true then
 (Z3d x0 x7 x8)
 else
 (Z4t)
theorem Z7a (x0 : List Z7) (x7 : Int) (x8 : Int) (ox0 : Own) : Sim (Z1l) (Z2F x0 x7 x8) (Zbf 0 (.p (.lst ox0 (x0.map Zs))) (.clo 66 [] []) (iv x7) (iv x8) []) := by
 unfold Z2F
 refine zf (ZgP ..) ?_
 refine ze ?_
 refine zo (bv (decide (x8 < x7))) ?_
 refine za ((decide (x8 < x7))) ?_ ?_
 ·exact zk (Z7p (x0) (x7) (x8) ox0)
 ·exact zk (Z72 )
theorem Z5o (x0 : List Z7) (x7 : Int) (x8 : Int) {r} (h : Z2F x0 x7 x8 = some r) : Z2B x0 x7 x8 = some r :=
 pick_of (fun _ _ ha hb => RRun.uniq (Z5T) (ha .ex) (hb .ex)) (fun ox0 => Z7a x0 x7 x8 ox0 r h)
noncomputable def Z74 (x0 : Z7) : Option (Bool) :=
 (Z4J x0).bind fun r1 =>
 some ((!r1))
theorem ZbL (x0 : Z7) : Sim (Z6h) (Z74 x0) (EE 66 [(.p (.agg (ZG x0)))] []) := by
 unfold Z74
 refine zf (ZhS ..) ?_
 refine ze ?_
 refine zx (.ptr 0 0) [(Z1m x0)] ?_
 refine ze ?_
 refine zo (.p (.agg (ZG x0))) ?_
 refine zi fun r1 hr1 => ?_
 obtain ⟨qr1, er1, exr1, rfl⟩ := Z7H (x0) r1 hr1
 refine zc [] (bv r1) [(Z1m x0)] er1 ?_
 refine zo (bv (!r1)) ?_
 exact zr ((bv (!r1)), [(Z1m x0)]) ⟨_, rfl⟩
theorem Zcb (x0 : Z7) {r} (h : Z74 x0 = some r) : Z75 x0 = some r :=
 pick_of (fun _ _ ha hb => RRun.uniq (Zcp) (ha ) (hb )) (ZbL x0 r h)
noncomputable def Z5I (x0 : Z7) : Option (Bool) :=
 if ((decide (0 ≤ x0.Lo))) = true then
 (if ((decide (x0.Lo ≤ x0.Hi))) = true then
 (some ((decide (x0.Hi ≤ 1114367))))
 else
 (some (false)))
 else
 (some (false))
theorem Zak (x0 : Z7) : Sim (Z4L) (Z5I x0) (EE 67 [(.p (.agg (ZG x0)))] []) := by
 unfold Z5I
 refine zf (Zho ..) ?_
 refine ze ?_
 refine zx (.ptr 0 0) [(Z1m x0)] ?_
 refine ze ?_
 refine zo (.ptr 0 0) ?_
 refine zo (iv x0.Lo) ?_
 refine zo (bv (decide (0 ≤ x0.Lo))) ?_
 refine za ((decide (0 ≤ x0.Lo))) ?_ ?_
 ·refine zo (.ptr 0 0) ?_
  refine zo (iv x0.Lo) ?_
  refine zo (.ptr 0 1) ?_
  refine zo (iv x0.Hi) ?_
  refine zo (bv (decide (x0.Lo ≤ x0.Hi))) ?_
  refine za ((decide (x0.Lo ≤ x0.Hi))) ?_ ?_
  ·refine zo (.ptr 0 1) ?_
   refine zo (iv x0.Hi) ?_
   refine zo (bv (decide (x0.Hi ≤ 1114367))) ?_
   exact zr ((bv (decide (x0.Hi ≤ 1114367))), [(Z1m x0)]) ⟨_, rfl⟩
  ·exact zr ((bv false), [(Z1m x0)]) ⟨_, rfl⟩
 ·exact zr ((bv false), [(Z1m x0)]) ⟨_, rfl⟩
theorem ZaA (x0 : Z7) {r} (h : Z5I x0 = some r) : Z4J x0 = some r :=
 pick_of (fun _ _ ha hb => RRun.uniq (ZaY) (ha ) (hb )) (Zak x0 r h)
noncomputable def Z5M (x0 : List Z7) : Option ((List Z7) × Int) :=
 (Z6w x0).bind fun r1 =>
 some (r1, 0)
theorem ZaD (x0 : List Z7) (ox0 : Own) : Sim (Z5g) (Z5M x0) (Ze1 0 (.p (.lst ox0 (x0.map Zs))) []) := by
 unfold Z5M
 refine zf (Zg7 ..) ?_
 refine ze ?_
 refine zi fun r1 hr1 => ?_
 obtain ⟨qr1, er1, exr1, rfl⟩ := ZbV (x0) .sh r1 hr1
 refine zc [] (.p (.lst .sh (r1.map Zs))) [] er1 ?_
 exact zr ((.p (.tup [(.lst .sh (r1.map Zs)), (.v (.int .i64 0))])), []) ⟨_, rfl⟩
noncomputable def Z6C (x0 : List Z7) : Option ((List Z7) × Int) :=
 (Z4j x0).bind fun r1 =>
 if ((!r1)) = true then
 (some (([] : List Z7), 10))
 else
 (Z5M x0)
theorem ZbG (x0 : List Z7) (ox0 : Own) : Sim (Z5g) (Z6C x0) (EE 55 [(.p (.lst ox0 (x0.map Zs)))] []) := by
 unfold Z6C
 refine zf (Zip ..) ?_
 refine ze ?_
 refine ze ?_
 refine zi fun r1 hr1 => ?_
 obtain ⟨qr1, er1, exr1, rfl⟩ := Z6a (x0) .sh r1 hr1
 refine zc [] (bv r1) [] er1 ?_
 refine zo (bv (!r1)) ?_
 refine za ((!r1)) ?_ ?_
 ·refine ze ?_
  exact zr ((.p (.tup [(.lst .sh []), (.v (.int .i64 10))])), []) ⟨_, rfl⟩
 ·exact zk (ZaD (x0) ox0)
theorem ZbR (x0 : List Z7) {r} (h : Z6C x0 = some r) : Z5O x0 = some r :=
 pick_of (fun _ _ ha hb => RRun.uniq (Zce) (ha .ex) (hb .ex)) (fun ox0 => ZbG x0 ox0 r h)
noncomputable def Z5Q (x0 : List Z7) : Option (Bool) :=
 Z4c ((-2)) x0 ((x0.length : Int)) 0
theorem ZaG (x0 : List Z7) (ox0 : Own) : Sim (Z1N) (Z5Q x0) (EE 69 [(.p (.lst ox0 (x0.map Zs)))] []) := by
 unfold Z5Q
 refine zf (Zhr ..) ?_
 refine ze ?_
 refine ze ?_
 refine ze ?_
 refine zo (iv (x0.length : Int)) ?_ (Eq.trans (by kernel_rfl) (xlen_of (P := PP) (t := 24) (d := 39) (by kernel_rfl) Zs (shrO ox0) x0))
 exact zk (Z6Z ((-2)) (x0) ((x0.length : Int)) (0) (shrO ox0))
theorem Zbp (x0 : List Z7) {r} (h : Z5Q x0 = some r) : Z4j x0 = some r :=
 pick_of (fun _ _ ha hb => RRun.uniq (Z8w) (ha .ex) (hb .ex)) (fun ox0 => ZaG x0 ox0 r h)
noncomputable def Z5c  : Option (Bool) :=
 some (false)
theorem Z6E  : Sim (Z1N) (Z5c) (ZcR 0  []) := by
 unfold Z5c
 refine zf (Zh0 ..) ?_
 refine ze ?_
 exact zr ((bv false), []) ⟨_, rfl⟩
noncomputable def Z5d (x3 : Int) (x6 : List Z7) (x7 : Int) (x8 : Int) : Option (Bool) :=
 Z4c x3 x6 x7 ((IntKind.i64.wrap (x8 + 1)))
theorem Z9L (x3 : Int) (x6 : List Z7) (x7 : Int) (x8 : Int) (ox6 : Own) : Sim (Z1N) (Z5d x3 x6 x7 x8) (Zep 0 (iv x3) (.p (.lst ox6 (x6.map Zs))) (iv x7) (iv x8) []) := by
 unfold Z5d
 refine zf (ZfD ..) ?_
 refine ze ?_
 refine zo (iv (IntKind.i64.wrap (x8 + 1))) ?_
 exact zk (Z6Z (x3) (x6) (x7) ((IntKind.i64.wrap (x8 + 1))) ox6)
noncomputable def Z5a (x6 : List Z7) (x7 : Int) (x8 : Int) (b0 : Z7) : Option (Bool) :=
 Z5d b0.Hi x6 x7 x8
theorem Z9H (x6 : List Z7) (x7 : Int) (x8 : Int) (b0 : Z7) (ox6 : Own) : Sim (Z1N) (Z5a x6 x7 x8 b0) (Zev 0 (.ptr 0 0) (.p (.lst ox6 (x6.map Zs))) (iv x7) (iv x8) [(Z1m b0)]) := by
 unfold Z5a
 refine zf (Zgq ..) ?_
 refine ze ?_
 refine zo (.ptr 0 1) ?_
 refine zo (iv b0.Hi) ?_
 exact zk (Z9L (b0.Hi) (x6) (x7) (x8) ox6)
noncomputable def Z5f (x3 : Int) (x6 : List Z7) (x7 : Int) (x8 : Int) : Option (Bool) :=
 (lget x6 x8).bind fun a1 =>
 (Z4J a1).bind fun r2 =>
 if ((!r2)) = true then
 (Z5c)
 else
 (if ((decide (a1.Lo < (IntKind.i64.wrap (x3 + 2))))) = true then
 (Z5c)
 else
 (Z5a x6 x7 x8 a1))
theorem Z9O (x3 : Int) (x6 : List Z7) (x7 : Int) (x8 : Int) (ox6 : Own) : Sim (Z1N) (Z5f x3 x6 x7 x8) (Zdw 0 (iv x3) (.p (.lst ox6 (x6.map Zs))) (iv x7) (iv x8) []) := by
 unfold Z5f
 refine zf (Zgb ..) ?_
 refine ze ?_
 refine zi fun a1 ha1 => ?_
 refine zo (.cptr (ZG a1)) ?_ (Eq.trans (by kernel_rfl) (xidx_of (o := ox6) (k := .i64) (n := 2) (e := Zs) (cs := Z3O) (fun _ => rfl) (fun _ => rfl) (by decide) ha1))
 refine zo (.p (.agg (ZG a1))) ?_
 refine zz (.ptr 0 0) [(Z1m (Z7.mk 0 0))] ?_
 refine zt [(Z1m a1)] ?_
 refine ze ?_
 refine zo (.p (.agg (ZG a1))) ?_
 refine zi fun r2 hr2 => ?_
 obtain ⟨qr2, er2, exr2, rfl⟩ := Z7H (a1) r2 hr2
 refine zc [] (bv r2) [(Z1m a1)] er2 ?_
 refine zo (bv (!r2)) ?_
 refine za ((!r2)) ?_ ?_
 ·exact zk (Z6E )
 ·refine zo (.ptr 0 0) ?_
  refine zo (iv a1.Lo) ?_
  refine zo (iv (IntKind.i64.wrap (x3 + 2))) ?_
  refine zo (bv (decide (a1.Lo < (IntKind.i64.wrap (x3 + 2))))) ?_
  refine za ((decide (a1.Lo < (IntKind.i64.wrap (x3 + 2))))) ?_ ?_
  ·exact zk (Z6E )
  ·exact zk (Z9H (x6) (x7) (x8) (a1) ox6)
noncomputable def Z6f  : Option (Bool) :=
 some (true)
theorem Z9F  : Sim (Z1N) (Z6f) (ZdS 0  []) := by
 unfold Z6f
 refine zf (Zg2 ..) ?_
 refine ze ?_
 exact zr ((bv true), []) ⟨_, rfl⟩
noncomputable def Z48 (x3 : Int) (x6 : List Z7) (x7 : Int) (x8 : Int) : Option (Bool) :=
 if ((decide (x8 < x7))) = true then
 (Z5f x3 x6 x7 x8)
 else
 (Z6f)
theorem Z9x (x3 : Int) (x6 : List Z7) (x7 : Int) (x8 : Int) (ox6 : Own) : Sim (Z1N) (Z48 x3 x6 x7 x8) (ZaW 0 (iv x3) (.p (.lst ox6 (x6.map Zs))) (iv x7) (iv x8) []) := by
 unfold Z48
 refine zf (ZgW ..) ?_
 refine ze ?_
 refine zo (bv (decide (x8 < x7))) ?_
 refine za ((decide (x8 < x7))) ?_ ?_
 ·exact zk (Z9O (x3) (x6) (x7) (x8) ox6)
 ·exact zk (Z9F )
theorem Z6U (x3 : Int) (x6 : List Z7) (x7 : Int) (x8 : Int) {r} (h : Z48 x3 x6 x7 x8 = some r) : Z4c x3 x6 x7 x8 = some r :=
 pick_of (fun _ _ ha hb => RRun.uniq (Z8w) (ha .ex) (hb .ex)) (fun ox6 => Z9x x3 x6 x7 x8 ox6 r h)
noncomputable def Z6B (x0 : List Z7) : Option ((List Z7)) :=
 Z57 (([] : List Z7)) 0 x0 ((x0.length : Int)) 0
theorem ZbC (x0 : List Z7) (ox0 : Own) : Sim (Z2c) (Z6B x0) (EE 70 [(.p (.lst ox0 (x0.map Zs)))] []) := by
 unfold Z6B
 refine zf (Zhs ..) ?_
 refine ze ?_
 refine ze ?_
 refine ze ?_
 refine ze ?_
 refine zo (iv (x0.length : Int)) ?_ (Eq.trans (by kernel_rfl) (xlen_of (P := PP) (t := 24) (d := 39) (by kernel_rfl) Zs (shrO ox0) x0))
 exact zk (Z88 (([] : List Z7)) (0) (x0) ((x0.length : Int)) (0) .nl (shrO ox0) rfl)
theorem ZbS (x0 : List Z7) {r} (h : Z6B x0 = some r) : Z6w x0 = some r :=
 pick_of (fun _ _ ha hb => RRun.uniq (Z9u) (ha .ex) (hb .ex)) (fun ox0 => ZbC x0 ox0 r h)
noncomputable def Z5U (x3 : List Z7) (x4 : Int) (x7 : List Z7) (x8 : Int) (x9 : Int) : Option ((List Z7)) :=
 Z57 x3 x4 x7 x8 ((IntKind.i64.wrap (x9 + 1)))
theorem ZaI (x3 : List Z7) (x4 : Int) (x7 : List Z7) (x8 : Int) (x9 : Int) (ox3 : Own) (ox7 : Own) (hox3 : okApp ox3 = true) : Sim (Z2c) (Z5U x3 x4 x7 x8 x9) (ZdI 0 (.p (.lst ox3 (x3.map Zs))) (iv x4) (.p (.lst ox7 (x7.map Zs))) (iv x8) (iv x9) []) := by
 unfold Z5U
 refine zf (ZgG ..) ?_
 refine ze ?_
 refine zo (iv (IntKind.i64.wrap (x9 + 1))) ?_
 exact zk (Z88 (x3) (x4) (x7) (x8) ((IntKind.i64.wrap (x9 + 1))) ox3 ox7 hox3)
noncomputable def Z4k (x3 : List Z7) (x7 : List Z7) (x8 : Int) (x9 : Int) (b0 : Z7) : Option ((List Z7)) :=
 Z5U x3 ((IntKind.i64.wrap (b0.Hi + 1))) x7 x8 x9
theorem Z7F (x3 : List Z7) (x7 : List Z7) (x8 : Int) (x9 : Int) (b0 : Z7) (ox3 : Own) (ox7 : Own) (hox3 : okApp ox3 = true) : Sim (Z2c) (Z4k x3 x7 x8 x9 b0) (ZcK 0 (.p (.lst ox3 (x3.map Zs))) (.ptr 0 0) (.p (.lst ox7 (x7.map Zs))) (iv x8) (iv x9) [(Z1m b0)]) := by
 unfold Z4k
 refine zf (Zgt ..) ?_
 refine ze ?_
 refine zo (.ptr 0 1) ?_
 refine zo (iv b0.Hi) ?_
 refine zo (iv (IntKind.i64.wrap (b0.Hi + 1))) ?_
 exact zk (ZaI (x3) ((IntKind.i64.wrap (b0.Hi + 1))) (x7) (x8) (x9) ox3 ox7 hox3)
noncomputable def Z5S (x3 : List Z7) (x4 : Int) (x7 : List Z7) (x8 : Int) (x9 : Int) : Option ((List Z7)) :=
 (lget x7 x9).bind fun a1 =>
 if ((decide (x4 < a1.Lo))) = true then
 ((lapp x3 ([(Z7.mk x4 (IntKind.i64.wrap (a1.Lo - 1)))] : List Z7)).bind fun a2 =>
 Z4k a2 x7 x8 x9 a1)
 else
 (Z4k x3 x7 x8 x9 a1)
theorem ZaH (x3 : List Z7) (x4 : Int) (x7 : List Z7) (x8 : Int) (x9 : Int) (ox3 : Own) (ox7 : Own) (hox3 : okApp ox3 = true) : Sim (Z2c) (Z5S x3 x4 x7 x8 x9) (Zei 0 (.p (.lst ox3 (x3.map Zs))) (iv x4) (.p (.lst ox7 (x7.map Zs))) (iv x8) (iv x9) []) := by
 unfold Z5S
 refine zf (Zfx ..) ?_
 refine ze ?_
 refine zi fun a1 ha1 => ?_
 refine zo (.cptr (ZG a1)) ?_ (Eq.trans (by kernel_rfl) (xidx_of (o := ox7) (k := .i64) (n := 2) (e := Zs) (cs := Z3O) (fun _ => rfl) (fun _ => rfl) (by decide) ha1))
 refine zo (.p (.agg (ZG a1))) ?_
 refine zz (.ptr 0 0) [(Z1m (Z7.mk 0 0))] ?_
 refine zt [(Z1m a1)] ?_
 refine ze ?_
 refine zo (.ptr 0 0) ?_
 refine zo (iv a1.Lo) ?_
 refine zo (bv (decide (x4 < a1.Lo))) ?_
 refine za ((decide (x4 < a1.Lo))) ?_ ?_
 ·refine ze ?_
  refine zo (.ptr 0 0) ?_
  refine zo (iv a1.Lo) ?_
  refine zo (iv (IntKind.i64.wrap (a1.Lo - 1))) ?_
  refine zo (.p (.agg (ZG (Z7.mk x4 (IntKind.i64.wrap (a1.Lo - 1)))))) ?_
  refine zo (.p (.lst .ex (([(Z7.mk x4 (IntKind.i64.wrap (a1.Lo - 1)))] : List Z7).map Zs))) ?_
  refine zi fun a2 ha2 => ?_
  refine zo (.p (.lst .un (a2.map Zs))) ?_ (Eq.trans (by kernel_rfl) <| xapp_of (n := 2) (o := ox3) (o' := .ex) (e := Zs) (ys := ([(Z7.mk x4 (IntKind.i64.wrap (a1.Lo - 1)))] : List Z7)) (fun _ => rfl) (by decide) hox3 ha2)
  exact zk (Z7F (a2) (x7) (x8) (x9) (a1) .un ox7 rfl)
 ·exact zk (Z7F (x3) (x7) (x8) (x9) (a1) ox3 ox7 hox3)
noncomputable def Z3X (x3 : List Z7) : Option ((List Z7)) :=
 some (x3)
theorem Z7q (x3 : List Z7) (ox3 : Own) (hox3 : okApp ox3 = true) : Sim (Z2c) (Z3X x3) (Zc4 0 (.p (.lst ox3 (x3.map Zs))) []) := by
 unfold Z3X
 refine zf (ZeZ ..) ?_
 refine ze ?_
 exact zr ((.p (.lst .sh (x3.map Zs))), []) ⟨_, rfl⟩
noncomputable def Z5E (x3 : List Z7) (x4 : Int) : Option ((List Z7)) :=
 if ((decide (x4 ≤ 1114367))) = true then
 ((lapp x3 ([(Z7.mk x4 1114367)] : List Z7)).bind fun a1 =>
 Z3X a1)
 else
 (Z3X x3)
theorem Zar (x3 : List Z7) (x4 : Int) (ox3 : Own) (hox3 : okApp ox3 = true) : Sim (Z2c) (Z5E x3 x4) (Zdf 0 (.p (.lst ox3 (x3.map Zs))) (iv x4) []) := by
 unfold Z5E
 refine zf (Zfh ..) ?_
 refine ze ?_
 refine zo (bv (decide (x4 ≤ 1114367))) ?_
 refine za ((decide (x4 ≤ 1114367))) ?_ ?_
 ·refine ze ?_
  refine zo (.p (.agg (ZG (Z7.mk x4 1114367)))) ?_
  refine zo (.p (.lst .ex (([(Z7.mk x4 1114367)] : List Z7).map Zs))) ?_
  refine zi fun a1 ha1 => ?_
  refine zo (.p (.lst .un (a1.map Zs))) ?_ (Eq.trans (by kernel_rfl) <| xapp_of (n := 2) (o := ox3) (o' := .ex) (e := Zs) (ys := ([(Z7.mk x4 1114367)] : List Z7)) (fun _ => rfl) (by decide) hox3 ha1)
  exact zk (Z7q (a1) .un rfl)
 ·exact zk (Z7q (x3) ox3 hox3)
noncomputable def Z55 (x3 : List Z7) (x4 : Int) (x7 : List Z7) (x8 : Int) (x9 : Int) : Option ((List Z7)) :=
 if ((decide (x9 < x8))) = true then
 (Z5S x3 x4 x7 x8 x9)
 else
 (Z5E x3 x4)
theorem ZaO (x3 : List Z7) (x4 : Int) (x7 : List Z7) (x8 : Int) (x9 : Int) (ox3 : Own) (ox7 : Own) (hox3 : okApp ox3 = true) : Sim (Z2c) (Z55 x3 x4 x7 x8 x9) (ZaP 0 (.p (.lst ox3 (x3.map Zs))) (iv x4) (.p (.lst ox7 (x7.map Zs))) (iv x8) (iv x9) []) := by
 unfold Z55
 refine zf (ZfQ ..) ?_
 refine ze ?_
 refine zo (bv (decide (x9 < x8))) ?_
 refine za ((decide (x9 < x8))) ?_ ?_
 ·exact zk (ZaH (x3) (x4) (x7) (x8) (x9) ox3 ox7 hox3)
 ·exact zk (Zar (x3) (x4) ox3 hox3)
theorem Z8a (x3 : List Z7) (x4 : Int) (x7 : List Z7) (x8 : Int) (x9 : Int) {r} (h : Z55 x3 x4 x7 x8 x9 = some r) : Z57 x3 x4 x7 x8 x9 = some r :=
 pick_of (fun _ _ ha hb => RRun.uniq (Z9u) (ha .ex .ex rfl) (hb .ex .ex rfl)) (fun ox3 ox7 hox3 => ZaO x3 x4 x7 x8 x9 ox3 ox7 hox3 r h)
noncomputable def Z3i (x1 : Int) (x5 : Int) (zp : Int) (zh : List Zr) (z1 : Int) (z2 : Int) : Option (Z3 × Int × (List Zr) × Int × Int) :=
 (lapp zh ([(Zr.mk (IntKind.i64.wrap (x5 - 48)) x1)] : List Zr)).bind fun a1 =>
 some ((Z3.mk 6 0 0 0 (IntKind.i64.wrap (x5 - 48)) ([] : List Z7) ([] : List Z3)), zp, a1, z1, z2)
theorem Z8C (x1 : Int) (x5 : Int) (zl : List Int) (zp : Int) (z6 : Int) (zd : Int) (zh : List Zr) (z1 : Int) (z2 : Int) (b1 : Z3) (zn : Own) (zb : Own) (zB : Own) (zy : Own) (zu : okApp zb = true) (zQ : okApp zB = true) (zK : okApp zy = true) : Sim (Z2x zl z6 zd zn) (Z3i x1 x5 zp zh z1 z2) (Zd2 1 (.ptr 0 0) (iv x1) (.ptr 1 0) (iv x5) [(Zj (Zk.mk zl zp z6 zd zh (Zi.mk z1 z2)) zn zb), (Zq b1 zB zy)]) := by
 unfold Z3i
 refine zf (ZeW ..) ?_
 refine ze ?_
 refine zo (.ptr 0 0) ?_
 refine zo (.ptr 0 4) ?_
 refine zw (.p (.lst zb (zh.map Z1y))) [(Zj (Zk.mk zl zp z6 zd zh (Zi.mk z1 z2)) zn (shrO zb)), (Zq b1 zB zy)] ?_
 refine zo (iv (IntKind.i64.wrap (x5 - 48))) ?_
 refine zo (.p (.agg (Z7Y (Zr.mk (IntKind.i64.wrap (x5 - 48)) x1)))) ?_
 refine zo (.p (.lst .ex (([(Zr.mk (IntKind.i64.wrap (x5 - 48)) x1)] : List Zr).map Z1y))) ?_
 refine zi fun a1 ha1 => ?_
 refine zo (.p (.lst .un (a1.map Z1y))) ?_ (Eq.trans (by kernel_rfl) <| xapp_of (n := 2) (o := zb) (o' := .ex) (e := Z1y) (ys := ([(Zr.mk (IntKind.i64.wrap (x5 - 48)) x1)] : List Zr)) (fun _ => rfl) (by decide) zu ha1)
 refine zo (.ptr 0 0) ?_
 refine zo (.ptr 0 4) ?_
 refine zt [(Zj (Zk.mk zl zp z6 zd a1 (Zi.mk z1 z2)) zn .un), (Zq b1 zB zy)] ?_
 refine ze ?_
 refine zo (iv (IntKind.i64.wrap (x5 - 48))) ?_
 refine zo (.p (.agg (ZE (Z3.mk 6 0 0 0 (IntKind.i64.wrap (x5 - 48)) ([] : List Z7) ([] : List Z3)) .nl .nl))) ?_
 refine zt [(Zj (Zk.mk zl zp z6 zd a1 (Zi.mk z1 z2)) zn .un), (Zq (Z3.mk 6 0 0 0 (IntKind.i64.wrap (x5 - 48)) ([] : List Z7) ([] : List Z3)) .nl .nl)] ?_
 exact zr ((.p (.agg (ZE (Z3.mk 6 0 0 0 (IntKind.i64.wrap (x5 - 48)) ([] : List Z7) ([] : List Z3)) .sh .sh))), [(Zj (Zk.mk zl zp z6 zd a1 (Zi.mk z1 z2)) zn .un), (Zq (Z3.mk 6 0 0 0 (IntKind.i64.wrap (x5 - 48)) ([] : List Z7) ([] : List Z3)) .nl .nl)]) ⟨.un, _, rfl, rfl⟩
noncomputable def Z23 (x1 : Int) (x5 : Int) (zl : List Int) (zp : Int) (z6 : Int) (zd : Int) (zh : List Zr) (z1 : Int) (z2 : Int) : Option (Z3 × Int × (List Zr) × Int × Int) :=
 (Z4B x5 x1 zl zp z6 zd zh z1 z2).bind fun r1 =>
 (Z1w r1.1).bind fun r2 =>
 (Z2z false (([r2] : List Z7))).bind fun r3 =>
 some (r3, r1.2.1, zh, r1.2.2.1, r1.2.2.2)
theorem Z5Y (x1 : Int) (x5 : Int) (zl : List Int) (zp : Int) (z6 : Int) (zd : Int) (zh : List Zr) (z1 : Int) (z2 : Int) (b1 : Z3) (zn : Own) (zb : Own) (zB : Own) (zy : Own) (zu : okApp zb = true) (zQ : okApp zB = true) (zK : okApp zy = true) : Sim (Z2x zl z6 zd zn) (Z23 x1 x5 zl zp z6 zd zh z1 z2) (Zc3 1 (.ptr 0 0) (iv x1) (.ptr 1 0) (iv x5) [(Zj (Zk.mk zl zp z6 zd zh (Zi.mk z1 z2)) zn zb), (Zq b1 zB zy)]) := by
 unfold Z23
 refine zf (Zfa ..) ?_
 refine ze ?_
 refine zi fun r1 hr1 => ?_
 obtain ⟨qr1, er1, exr1, rfl⟩ := Z7r (x5) (x1) (zl) (zp) (z6) (zd) (zh) (z1) (z2) zn zb zu r1 hr1
 refine zc [0] (iv r1.1) [(Zj (Zk.mk zl r1.2.1 z6 zd zh (Zi.mk r1.2.2.1 r1.2.2.2)) zn zb), (Zq b1 zB zy)] er1 ?_
 refine zi fun r2 hr2 => ?_
 obtain ⟨qr2, er2, exr2, rfl⟩ := Z1p (r1.1) r2 hr2
 refine zc [] (.p (.agg (ZG r2))) [(Zj (Zk.mk zl r1.2.1 z6 zd zh (Zi.mk r1.2.2.1 r1.2.2.2)) zn zb), (Zq b1 zB zy)] er2 ?_
 refine zo (.p (.lst .ex (([r2] : List Z7).map Zs))) ?_
 refine zi fun r3 hr3 => ?_
 obtain ⟨qr3, er3, exr3, rfl⟩ := Z2I (false) (([r2] : List Z7)) .sh r3 hr3
 refine zc [] (.p (.agg (ZE r3 .sh .sh))) [(Zj (Zk.mk zl r1.2.1 z6 zd zh (Zi.mk r1.2.2.1 r1.2.2.2)) zn zb), (Zq b1 zB zy)] er3 ?_
 refine zt [(Zj (Zk.mk zl r1.2.1 z6 zd zh (Zi.mk r1.2.2.1 r1.2.2.2)) zn zb), (Zq r3 .sh .sh)] ?_
 exact zr ((.p (.agg (ZE r3 .sh .sh))), [(Zj (Zk.mk zl r1.2.1 z6 zd zh (Zi.mk r1.2.2.1 r1.2.2.2)) zn zb), (Zq r3 .sh .sh)]) ⟨zb, _, zu, rfl⟩
noncomputable def Z28 (x1 : Int) (x5 : Int) (zl : List Int) (zp : Int) (z6 : Int) (zd : Int) (zh : List Zr) (z1 : Int) (z2 : Int) : Option (Z3 × Int × (List Zr) × Int × Int) :=
 (Z20 zl zp).bind fun r1 =>
 (Z4G x5).bind fun r2 =>
 (nilO r2.1 r2.2).bind fun a3 =>
 if ((!a3)) = true then
 ((Z4G x5).bind fun r4 =>
 (Z2z ((decide (x5 < 97))) r4.2).bind fun r5 =>
 some (r5, r1.2, zh, z1, z2))
 else
 (if ((x5 == 98)) = true then
 (some ((Z3.mk 9 0 0 0 2 ([] : List Z7) ([] : List Z3)), r1.2, zh, z1, z2))
 else
 (if ((x5 == 66)) = true then
 (some ((Z3.mk 9 0 0 0 3 ([] : List Z7) ([] : List Z3)), r1.2, zh, z1, z2))
 else
 (if ((decide (49 ≤ x5))) = true then
 (if ((decide (x5 ≤ 57))) = true then
 (Z3i x1 x5 r1.2 zh z1 z2)
 else
 (Z23 x1 x5 zl r1.2 z6 zd zh z1 z2))
 else
 (Z23 x1 x5 zl r1.2 z6 zd zh z1 z2))))
theorem Z8P (x1 : Int) (x5 : Int) (zl : List Int) (zp : Int) (z6 : Int) (zd : Int) (zh : List Zr) (z1 : Int) (z2 : Int) (b1 : Z3) (zn : Own) (zb : Own) (zB : Own) (zy : Own) (zu : okApp zb = true) (zQ : okApp zB = true) (zK : okApp zy = true) : Sim (Z2x zl z6 zd zn) (Z28 x1 x5 zl zp z6 zd zh z1 z2) (ZdW 1 (.ptr 0 0) (iv x1) (.ptr 1 0) (iv x5) [(Zj (Zk.mk zl zp z6 zd zh (Zi.mk z1 z2)) zn zb), (Zq b1 zB zy)]) := by
 unfold Z28
 refine zf (Zg0 ..) ?_
 refine ze ?_
 refine zi fun r1 hr1 => ?_
 obtain ⟨qr1, er1, exr1, rfl⟩ := Z2l (zl) (zp) (z6) (zd) (zh) (z1) (z2) zn zb zu r1 hr1
 refine zc [0] (iv r1.1) [(Zj (Zk.mk zl r1.2 z6 zd zh (Zi.mk z1 z2)) zn zb), (Zq b1 zB zy)] er1 ?_
 refine ze ?_
 refine zi fun r2 hr2 => ?_
 obtain ⟨qr2, er2, exr2, rfl⟩ := Z6l (x5) r2 hr2
 refine zc [] (.p (.lst r2.1 (r2.2.map Zs))) [(Zj (Zk.mk zl r1.2 z6 zd zh (Zi.mk z1 z2)) zn zb), (Zq b1 zB zy)] er2 ?_
 refine zi fun a3 ha3 => ?_
 refine zo (bv (!a3)) ?_ (Eq.trans (by kernel_rfl) (xnil_neq (P := PP) (t := 23) (c := .slice none 0 0) (e := Zs) (by kernel_rfl) ha3))
 refine za ((!a3)) ?_ ?_
 ·refine ze ?_
  refine zo (bv (decide (x5 < 97))) ?_
  refine zi fun r4 hr4 => ?_
  obtain ⟨qr4, er4, exr4, rfl⟩ := Z6l (x5) r4 hr4
  refine zc [] (.p (.lst r4.1 (r4.2.map Zs))) [(Zj (Zk.mk zl r1.2 z6 zd zh (Zi.mk z1 z2)) zn zb), (Zq b1 zB zy)] er4 ?_
  refine zi fun r5 hr5 => ?_
  obtain ⟨qr5, er5, exr5, rfl⟩ := Z2I ((decide (x5 < 97))) (r4.2) .sh r5 hr5
  refine zc [] (.p (.agg (ZE r5 .sh .sh))) [(Zj (Zk.mk zl r1.2 z6 zd zh (Zi.mk z1 z2)) zn zb), (Zq b1 zB zy)] er5 ?_
  refine zt [(Zj (Zk.mk zl r1.2 z6 zd zh (Zi.mk z1 z2)) zn zb), (Zq r5 .sh .sh)] ?_
  exact zr ((.p (.agg (ZE r5 .sh .sh))), [(Zj (Zk.mk zl r1.2 z6 zd zh (Zi.mk z1 z2)) zn zb), (Zq r5 .sh .sh)]) ⟨zb, _, zu, rfl⟩
 ·refine ze ?_
  refine zo (bv (x5 == 98)) ?_
  refine za ((x5 == 98)) ?_ ?_
  ·refine ze ?_
   refine zo (.p (.agg (ZE (Z3.mk 9 0 0 0 2 ([] : List Z7) ([] : List Z3)) .nl .nl))) ?_
   refine zt [(Zj (Zk.mk zl r1.2 z6 zd zh (Zi.mk z1 z2)) zn zb), (Zq (Z3.mk 9 0 0 0 2 ([] : List Z7) ([] : List Z3)) .nl .nl)] ?_
   exact zr ((.p (.agg (ZE (Z3.mk 9 0 0 0 2 ([] : List Z7) ([] : List Z3)) .sh .sh))), [(Zj (Zk.mk zl r1.2 z6 zd zh (Zi.mk z1 z2)) zn zb), (Zq (Z3.mk 9 0 0 0 2 ([] : List Z7) ([] : List Z3)) .nl .nl)]) ⟨zb, _, zu, rfl⟩
  ·refine ze ?_
   refine zo (bv (x5 == 66)) ?_
   refine za ((x5 == 66)) ?_ ?_
   ·refine ze ?_
    refine zo (.p (.agg (ZE (Z3.mk 9 0 0 0 3 ([] : List Z7) ([] : List Z3)) .nl .nl))) ?_
    refine zt [(Zj (Zk.mk zl r1.2 z6 zd zh (Zi.mk z1 z2)) zn zb), (Zq (Z3.mk 9 0 0 0 3 ([] : List Z7) ([] : List Z3)) .nl .nl)] ?_
    exact zr ((.p (.agg (ZE (Z3.mk 9 0 0 0 3 ([] : List Z7) ([] : List Z3)) .sh .sh))), [(Zj (Zk.mk zl r1.2 z6 zd zh (Zi.mk z1 z2)) zn zb), (Zq (Z3.mk 9 0 0 0 3 ([] : List Z7) ([] : List Z3)) .nl .nl)]) ⟨zb, _, zu, rfl⟩
   ·refine ze ?_
    refine zo (bv (decide (49 ≤ x5))) ?_
    refine za ((decide (49 ≤ x5))) ?_ ?_
    ·refine zo (bv (decide (x5 ≤ 57))) ?_
     refine za ((decide (x5 ≤ 57))) ?_ ?_
     ·exact zk (Z8C (x1) (x5) (zl) (r1.2) (z6) (zd) (zh) (z1) (z2) (b1) zn zb zB zy zu zQ zK)
     ·exact zk (Z5Y (x1) (x5) (zl) (r1.2) (z6) (zd) (zh) (z1) (z2) (b1) zn zb zB zy zu zQ zK)
    ·exact zk (Z5Y (x1) (x5) (zl) (r1.2) (z6) (zd) (zh) (z1) (z2) (b1) zn zb zB zy zu zQ zK)
noncomputable def Z3q (x1 : Int) (zl : List Int) (zp : Int) (z6 : Int) (zd : Int) (zh : List Zr) (z1 : Int) (z2 : Int) : Option (Z3 × Int × (List Zr) × Int × Int) :=
 (Z1C ((Zk.mk zl zp z6 zd zh (Zi.mk z1 z2)))).bind fun r1 =>
 if ((decide (r1 < 0))) = true then
 ((ZT 21 x1 zl z1 z2).bind fun r2 =>
 some ((Z3.mk 0 0 0 0 0 ([] : List Z7) ([] : List Z3)), r2.1, zh, r2.2.1, r2.2.2))
 else
 (Z28 x1 r1 zl zp z6 zd zh z1 z2)
theorem Z9M (x1 : Int) (zl : List Int) (zp : Int) (z6 : Int) (zd : Int) (zh : List Zr) (z1 : Int) (z2 : Int) (zn : Own) (zb : Own) (zu : okApp zb = true) : Sim (Z2x zl z6 zd zn) (Z3q x1 zl zp z6 zd zh z1 z2) (EE 49 [(.ptr 0 0), (iv x1)] [(Zj (Zk.mk zl zp z6 zd zh (Zi.mk z1 z2)) zn zb)]) := by
 unfold Z3q
 refine zf (Zhm ..) ?_
 refine ze ?_
 refine zz (.ptr 1 0) [(Zj (Zk.mk zl zp z6 zd zh (Zi.mk z1 z2)) zn zb), (Zq (Z3.mk 0 0 0 0 0 ([] : List Z7) ([] : List Z3)) .nl .nl)] ?_
 refine ze ?_
 refine zi fun r1 hr1 => ?_
 obtain ⟨qr1, er1, exr1, rfl⟩ := Z1G ((Zk.mk zl zp z6 zd zh (Zi.mk z1 z2))) zn zb zu r1 hr1
 refine zc [0] (iv r1) [(Zj (Zk.mk zl zp z6 zd zh (Zi.mk z1 z2)) zn zb), (Zq (Z3.mk 0 0 0 0 0 ([] : List Z7) ([] : List Z3)) .nl .nl)] er1 ?_
 refine ze ?_
 refine zo (bv (decide (r1 < 0))) ?_
 refine za ((decide (r1 < 0))) ?_ ?_
 ·refine ze ?_
  refine zi fun r2 hr2 => ?_
  obtain ⟨qr2, er2, exr2, rfl⟩ := ZW (21) (x1) (zl) (zp) (z6) (zd) (zh) (z1) (z2) zn zb zu r2 hr2
  refine zc [0] (.p (.tup [])) [(Zj (Zk.mk zl r2.1 z6 zd zh (Zi.mk r2.2.1 r2.2.2)) zn zb), (Zq (Z3.mk 0 0 0 0 0 ([] : List Z7) ([] : List Z3)) .nl .nl)] er2 ?_
  refine ze ?_
  refine zo (.p (.agg (ZE (Z3.mk 0 0 0 0 0 ([] : List Z7) ([] : List Z3)) .nl .nl))) ?_
  refine zt [(Zj (Zk.mk zl r2.1 z6 zd zh (Zi.mk r2.2.1 r2.2.2)) zn zb), (Zq (Z3.mk 0 0 0 0 0 ([] : List Z7) ([] : List Z3)) .nl .nl)] ?_
  exact zr ((.p (.agg (ZE (Z3.mk 0 0 0 0 0 ([] : List Z7) ([] : List Z3)) .sh .sh))), [(Zj (Zk.mk zl r2.1 z6 zd zh (Zi.mk r2.2.1 r2.2.2)) zn zb), (Zq (Z3.mk 0 0 0 0 0 ([] : List Z7) ([] : List Z3)) .nl .nl)]) ⟨zb, _, zu, rfl⟩
 ·exact zk (Z8P (x1) (r1) (zl) (zp) (z6) (zd) (zh) (z1) (z2) ((Z3.mk 0 0 0 0 0 ([] : List Z7) ([] : List Z3))) zn zb .nl .nl zu rfl rfl)
theorem Za2 (x1 : Int) (zl : List Int) (zp : Int) (z6 : Int) (zd : Int) (zh : List Zr) (z1 : Int) (z2 : Int) {r} (h : Z3q x1 zl zp z6 zd zh z1 z2 = some r) : Z2Q x1 zl zp z6 zd zh z1 z2 = some r :=
 pick_of (fun _ _ ha hb => RRun.uniq (Zap _ _ _ _) (ha .ex .ex rfl) (hb .ex .ex rfl)) (fun zn zb zu => Z9M x1 zl zp z6 zd zh z1 z2 zn zb zu r h)
end Go.Proofs.YtadodmjdkphddaaDoor.N2
end
section
set_option linter.unusedSimpArgs false
set_option linter.unusedVariables false
namespace Go.Proofs.YtadodmjdkphddaaDoor.N2
open Go Go.Abs
set_option linter.unusedVariables false
set_option maxRecDepth 100000
noncomputable def Z3f (zl : List Int) (z1 : Int) (z2 : Int) : Option (Int × Int × Int) :=
 some ((zl.length : Int), z1, z2)
theorem Z6p (zl : List Int) (zp : Int) (z6 : Int) (zd : Int) (zh : List Zr) (z1 : Int) (z2 : Int) (zn : Own) (zb : Own) (zu : okApp zb = true) : Sim (Z3Z zl z6 zd zh zn zb) (Z3f zl z1 z2) (ZcO 1 (.ptr 0 0) [(Zj (Zk.mk zl zp z6 zd zh (Zi.mk z1 z2)) zn zb)]) := by
 unfold Z3f
 refine zf (ZfG ..) ?_
 refine ze ?_
 refine zo (.ptr 0 0) ?_
 refine zo (.ptr 0 0) ?_
 refine zo (.p (.lst (shrO zn) (zl.map (eI .u8)))) ?_
 refine zo (iv (zl.length : Int)) ?_ (Eq.trans (by kernel_rfl) (xlen_of (P := PP) (t := 40) (d := 5) (by kernel_rfl) (eI .u8) (shrO zn) zl))
 refine zo (.ptr 0 0) ?_
 refine zo (.ptr 0 1) ?_
 refine zt [(Zj (Zk.mk zl (zl.length : Int) z6 zd zh (Zi.mk z1 z2)) zn zb)] ?_
 exact zr ((.p (.tup [])), [(Zj (Zk.mk zl (zl.length : Int) z6 zd zh (Zi.mk z1 z2)) zn zb)]) ⟨_, rfl⟩
noncomputable def Z4N (x1 : Int) (x2 : Int) (zl : List Int) (z1 : Int) (z2 : Int) : Option (Int × Int × Int) :=
 if ((z1 == 0)) = true then
 (Z3f zl x1 x2)
 else
 (Z3f zl z1 z2)
theorem Zag (x1 : Int) (x2 : Int) (zl : List Int) (zp : Int) (z6 : Int) (zd : Int) (zh : List Zr) (z1 : Int) (z2 : Int) (zn : Own) (zb : Own) (zu : okApp zb = true) : Sim (Z3Z zl z6 zd zh zn zb) (Z4N x1 x2 zl z1 z2) (EE 29 [(.ptr 0 0), (iv x1), (iv x2)] [(Zj (Zk.mk zl zp z6 zd zh (Zi.mk z1 z2)) zn zb)]) := by
 unfold Z4N
 refine zf (Zix ..) ?_
 refine ze ?_
 refine zo (.ptr 0 0) ?_
 refine zo (.ptr 0 5) ?_
 refine zo (.ptr 0 5) ?_
 refine zo (iv z1) ?_
 refine zo (bv (z1 == 0)) ?_
 refine za ((z1 == 0)) ?_ ?_
 ·refine ze ?_
  refine zo (.p (.agg (Z12 (Zi.mk x1 x2)))) ?_
  refine zo (.ptr 0 0) ?_
  refine zo (.ptr 0 5) ?_
  refine zt [(Zj (Zk.mk zl zp z6 zd zh (Zi.mk x1 x2)) zn zb)] ?_
  exact zk (Z6p (zl) (zp) (z6) (zd) (zh) (x1) (x2) zn zb zu)
 ·exact zk (Z6p (zl) (zp) (z6) (zd) (zh) (z1) (z2) zn zb zu)
theorem Z7L (x1 : Int) (x2 : Int) (zl : List Int) (z1 : Int) (z2 : Int) {r} (h : Z4N x1 x2 zl z1 z2 = some r) : ZT x1 x2 zl z1 z2 = some r :=
 pick_of (fun _ _ ha hb => RRun.uniq (ZaV _ _ _ _ _ _) (ha default default default default .ex .ex rfl) (hb default default default default .ex .ex rfl)) (fun zp z6 zd zh zn zb zu => Zag x1 x2 zl zp z6 zd zh z1 z2 zn zb zu r h)
noncomputable def Z1M  : Option ((Own × (List Z7))) :=
 some ((.nl, ([] : List Z7)))
theorem Z21  : Sim (Z4F) (Z1M) (Z6t 0  []) := by
 unfold Z1M
 refine zf (Zfm ..) ?_
 refine ze ?_
 exact zr ((.p (.lst .nl [])), []) ⟨_, rfl⟩
noncomputable def Z2A (x0 : Int) : Option ((Own × (List Z7))) :=
 if ((x0 == 100)) = true then
 (if ((x0 == 100)) = true then
 (some ((.ex, ([(Z7.mk 48 57)] : List Z7))))
 else
 (if ((x0 == 119)) = true then
 (if ((x0 == 119)) = true then
 ((Z1w 95).bind fun r1 =>
 some ((.ex, ([(Z7.mk 48 57), (Z7.mk 65 90), r1, (Z7.mk 97 122)] : List Z7))))
 else
 (if ((x0 == 115)) = true then
 (if ((x0 == 115)) = true then
 ((Z1w 32).bind fun r2 =>
 some ((.ex, ([(Z7.mk 9 13), r2] : List Z7))))
 else
 (Z1M))
 else
 (if ((x0 == 83)) = true then
 ((Z1w 32).bind fun r3 =>
 some ((.ex, ([(Z7.mk 9 13), r3] : List Z7))))
 else
 (Z1M))))
 else
 (if ((x0 == 87)) = true then
 ((Z1w 95).bind fun r4 =>
 some ((.ex, ([(Z7.mk 48 57), (Z7.mk 65 90), r4, (Z7.mk 97 122)] : List Z7))))
 else
 (if ((x0 == 115)) = true then
 (if ((x0 == 115)) = true then
 ((Z1w 32).bind fun r5 =>
 some ((.ex, ([(Z7.mk 9 13), r5] : List Z7))))
 else
 (Z1M))
 else
 (if ((x0 == 83)) = true then
 ((Z1w 32).bind fun r6 =>
 some ((.ex, ([(Z7.mk 9 13), r6] : List Z7))))
 else
 (Z1M))))))
 else
 (if ((x0 == 68)) = true then
 (some ((.ex, ([(Z7.mk 48 57)] : List Z7))))
 else
 (if ((x0 == 119)) = true then
 (if ((x0 == 119)) = true then
 ((Z1w 95).bind fun r7 =>
 some ((.ex, ([(Z7.mk 48 57), (Z7.mk 65 90), r7, (Z7.mk 97 122)] : List Z7))))
 else
 (if ((x0 == 115)) = true then
 (if ((x0 == 115)) = true then
 ((Z1w 32).bind fun r8 =>
 some ((.ex, ([(Z7.mk 9 13), r8] : List Z7))))
 else
 (Z1M))
 else
 (if ((x0 == 83)) = true then
 ((Z1w 32).bind fun r9 =>
 some ((.ex, ([(Z7.mk 9 13), r9] : List Z7))))
 else
 (Z1M))))
 else
 (if ((x0 == 87)) = true then
 ((Z1w 95).bind fun r10 =>
 some ((.ex, ([(Z7.mk 48 57), (Z7.mk 65 90), r10, (Z7.mk 97 122)] : List Z7))))
 else
 (if ((x0 == 115)) = true then
 (if ((x0 == 115)) = true then
 ((Z1w 32).bind fun r11 =>
 some ((.ex, ([(Z7.mk 9 13), r11] : List Z7))))
 else
 (Z1M))
 else
 (if ((x0 == 83)) = true then
 ((Z1w 32).bind fun r12 =>
 some ((.ex, ([(Z7.mk 9 13), r12] : List Z7))))
 else
 (Z1M))))))
theorem ZaX (x0 : Int) : Sim (Z4F) (Z2A x0) (EE 56 [(iv x0)] []) := by
 unfold Z2A
 refine zf (ZhB ..) ?_
 refine ze ?_
 refine ze ?_
 refine ze ?_
 refine zo (bv (x0 == 100)) ?_
 refine za ((x0 == 100)) ?_ ?_
 ·refine za ((x0 == 100)) ?_ ?_
  ·refine ze ?_
   refine zo (.p (.agg (ZG (Z7.mk 48 57)))) ?_
   refine zo (.p (.lst .ex (([(Z7.mk 48 57)] : List Z7).map Zs))) ?_
   exact zr ((.p (.lst .ex (([(Z7.mk 48 57)] : List Z7).map Zs))), []) ⟨_, rfl⟩
  ·refine ze ?_
   refine zo (bv (x0 == 119)) ?_
   refine za ((x0 == 119)) ?_ ?_
   ·refine za ((x0 == 119)) ?_ ?_
    ·refine ze ?_
     refine zo (.p (.agg (ZG (Z7.mk 48 57)))) ?_
     refine zo (.p (.agg (ZG (Z7.mk 65 90)))) ?_
     refine zi fun r1 hr1 => ?_
     obtain ⟨qr1, er1, exr1, rfl⟩ := Z1p (95) r1 hr1
     refine zc [] (.p (.agg (ZG r1))) [] er1 ?_
     refine zo (.p (.agg (ZG (Z7.mk 97 122)))) ?_
     refine zo (.p (.lst .ex (([(Z7.mk 48 57), (Z7.mk 65 90), r1, (Z7.mk 97 122)] : List Z7).map Zs))) ?_
     exact zr ((.p (.lst .ex (([(Z7.mk 48 57), (Z7.mk 65 90), r1, (Z7.mk 97 122)] : List Z7).map Zs))), []) ⟨_, rfl⟩
    ·refine ze ?_
     refine zo (bv (x0 == 115)) ?_
     refine za ((x0 == 115)) ?_ ?_
     ·refine za ((x0 == 115)) ?_ ?_
      ·refine ze ?_
       refine zo (.p (.agg (ZG (Z7.mk 9 13)))) ?_
       refine zi fun r2 hr2 => ?_
       obtain ⟨qr2, er2, exr2, rfl⟩ := Z1p (32) r2 hr2
       refine zc [] (.p (.agg (ZG r2))) [] er2 ?_
       refine zo (.p (.lst .ex (([(Z7.mk 9 13), r2] : List Z7).map Zs))) ?_
       exact zr ((.p (.lst .ex (([(Z7.mk 9 13), r2] : List Z7).map Zs))), []) ⟨_, rfl⟩
      ·exact zk (Z21 )
     ·refine ze ?_
      refine zo (bv (x0 == 83)) ?_
      refine za ((x0 == 83)) ?_ ?_
      ·refine ze ?_
       refine zo (.p (.agg (ZG (Z7.mk 9 13)))) ?_
       refine zi fun r3 hr3 => ?_
       obtain ⟨qr3, er3, exr3, rfl⟩ := Z1p (32) r3 hr3
       refine zc [] (.p (.agg (ZG r3))) [] er3 ?_
       refine zo (.p (.lst .ex (([(Z7.mk 9 13), r3] : List Z7).map Zs))) ?_
       exact zr ((.p (.lst .ex (([(Z7.mk 9 13), r3] : List Z7).map Zs))), []) ⟨_, rfl⟩
      ·exact zk (Z21 )
   ·refine ze ?_
    refine zo (bv (x0 == 87)) ?_
    refine za ((x0 == 87)) ?_ ?_
    ·refine ze ?_
     refine zo (.p (.agg (ZG (Z7.mk 48 57)))) ?_
     refine zo (.p (.agg (ZG (Z7.mk 65 90)))) ?_
     refine zi fun r4 hr4 => ?_
     obtain ⟨qr4, er4, exr4, rfl⟩ := Z1p (95) r4 hr4
     refine zc [] (.p (.agg (ZG r4))) [] er4 ?_
     refine zo (.p (.agg (ZG (Z7.mk 97 122)))) ?_
     refine zo (.p (.lst .ex (([(Z7.mk 48 57), (Z7.mk 65 90), r4, (Z7.mk 97 122)] : List Z7).map Zs))) ?_
     exact zr ((.p (.lst .ex (([(Z7.mk 48 57), (Z7.mk 65 90), r4, (Z7.mk 97 122)] : List Z7).map Zs))), []) ⟨_, rfl⟩
    ·refine ze ?_
     refine zo (bv (x0 == 115)) ?_
     refine za ((x0 == 115)) ?_ ?_
     ·refine za ((x0 == 115)) ?_ ?_
      ·refine ze ?_
       refine zo (.p (.agg (ZG (Z7.mk 9 13)))) ?_
       refine zi fun r5 hr5 => ?_
       obtain ⟨qr5, er5, exr5, rfl⟩ := Z1p (32) r5 hr5
       refine zc [] (.p (.agg (ZG r5))) [] er5 ?_
       refine zo (.p (.lst .ex (([(Z7.mk 9 13), r5] : List Z7).map Zs))) ?_
       exact zr ((.p (.lst .ex (([(Z7.mk 9 13), r5] : List Z7).map Zs))), []) ⟨_, rfl⟩
      ·exact zk (Z21 )
     ·refine ze ?_
      refine zo (bv (x0 == 83)) ?_
      refine za ((x0 == 83)) ?_ ?_
      ·refine ze ?_
       refine zo (.p (.agg (ZG (Z7.mk 9 13)))) ?_
       refine zi fun r6 hr6 => ?_
       obtain ⟨qr6, er6, exr6, rfl⟩ := Z1p (32) r6 hr6
       refine zc [] (.p (.agg (ZG r6))) [] er6 ?_
       refine zo (.p (.lst .ex (([(Z7.mk 9 13), r6] : List Z7).map Zs))) ?_
       exact zr ((.p (.lst .ex (([(Z7.mk 9 13), r6] : List Z7).map Zs))), []) ⟨_, rfl⟩
      ·exact zk (Z21 )
 ·refine ze ?_
  refine zo (bv (x0 == 68)) ?_
  refine za ((x0 == 68)) ?_ ?_
  ·refine ze ?_
   refine zo (.p (.agg (ZG (Z7.mk 48 57)))) ?_
   refine zo (.p (.lst .ex (([(Z7.mk 48 57)] : List Z7).map Zs))) ?_
   exact zr ((.p (.lst .ex (([(Z7.mk 48 57)] : List Z7).map Zs))), []) ⟨_, rfl⟩
  ·refine ze ?_
   refine zo (bv (x0 == 119)) ?_
   refine za ((x0 == 119)) ?_ ?_
   ·refine za ((x0 == 119)) ?_ ?_
    ·refine ze ?_
     refine zo (.p (.agg (ZG (Z7.mk 48 57)))) ?_
     refine zo (.p (.agg (ZG (Z7.mk 65 90)))) ?_
     refine zi fun r7 hr7 => ?_
     obtain ⟨qr7, er7, exr7, rfl⟩ := Z1p (95) r7 hr7
     refine zc [] (.p (.agg (ZG r7))) [] er7 ?_
     refine zo (.p (.agg (ZG (Z7.mk 97 122)))) ?_
     refine zo (.p (.lst .ex (([(Z7.mk 48 57), (Z7.mk 65 90), r7, (Z7.mk 97 122)] : List Z7).map Zs))) ?_
     exact zr ((.p (.lst .ex (([(Z7.mk 48 57), (Z7.mk 65 90), r7, (Z7.mk 97 122)] : List Z7).map Zs))), []) ⟨_, rfl⟩
    ·refine ze ?_
     refine zo (bv (x0 == 115)) ?_
     refine za ((x0 == 115)) ?_ ?_
     ·refine za ((x0 == 115)) ?_ ?_
      ·refine ze ?_
       refine zo (.p (.agg (ZG (Z7.mk 9 13)))) ?_
       refine zi fun r8 hr8 => ?_
       obtain ⟨qr8, er8, exr8, rfl⟩ := Z1p (32) r8 hr8
       refine zc [] (.p (.agg (ZG r8))) [] er8 ?_
       refine zo (.p (.lst .ex (([(Z7.mk 9 13), r8] : List Z7).map Zs))) ?_
       exact zr ((.p (.lst .ex (([(Z7.mk 9 13), r8] : List Z7).map Zs))), []) ⟨_, rfl⟩
      ·exact zk (Z21 )
     ·refine ze ?_
      refine zo (bv (x0 == 83)) ?_
      refine za ((x0 == 83)) ?_ ?_
      ·refine ze ?_
       refine zo (.p (.agg (ZG (Z7.mk 9 13)))) ?_
       refine zi fun r9 hr9 => ?_
       obtain ⟨qr9, er9, exr9, rfl⟩ := Z1p (32) r9 hr9
       refine zc [] (.p (.agg (ZG r9))) [] er9 ?_
       refine zo (.p (.lst .ex (([(Z7.mk 9 13), r9] : List Z7).map Zs))) ?_
       exact zr ((.p (.lst .ex (([(Z7.mk 9 13), r9] : List Z7).map Zs))), []) ⟨_, rfl⟩
      ·exact zk (Z21 )
   ·refine ze ?_
    refine zo (bv (x0 == 87)) ?_
    refine za ((x0 == 87)) ?_ ?_
    ·refine ze ?_
     refine zo (.p (.agg (ZG (Z7.mk 48 57)))) ?_
     refine zo (.p (.agg (ZG (Z7.mk 65 90)))) ?_
     refine zi fun r10 hr10 => ?_
     obtain ⟨qr10, er10, exr10, rfl⟩ := Z1p (95) r10 hr10
     refine zc [] (.p (.agg (ZG r10))) [] er10 ?_
     refine zo (.p (.agg (ZG (Z7.mk 97 122)))) ?_
     refine zo (.p (.lst .ex (([(Z7.mk 48 57), (Z7.mk 65 90), r10, (Z7.mk 97 122)] : List Z7).map Zs))) ?_
     exact zr ((.p (.lst .ex (([(Z7.mk 48 57), (Z7.mk 65 90), r10, (Z7.mk 97 122)] : List Z7).map Zs))), []) ⟨_, rfl⟩
    ·refine ze ?_
     refine zo (bv (x0 == 115)) ?_
     refine za ((x0 == 115)) ?_ ?_
     ·refine za ((x0 == 115)) ?_ ?_
      ·refine ze ?_
       refine zo (.p (.agg (ZG (Z7.mk 9 13)))) ?_
       refine zi fun r11 hr11 => ?_
       obtain ⟨qr11, er11, exr11, rfl⟩ := Z1p (32) r11 hr11
       refine zc [] (.p (.agg (ZG r11))) [] er11 ?_
       refine zo (.p (.lst .ex (([(Z7.mk 9 13), r11] : List Z7).map Zs))) ?_
       exact zr ((.p (.lst .ex (([(Z7.mk 9 13), r11] : List Z7).map Zs))), []) ⟨_, rfl⟩
      ·exact zk (Z21 )
     ·refine ze ?_
      refine zo (bv (x0 == 83)) ?_
      refine za ((x0 == 83)) ?_ ?_
      ·refine ze ?_
       refine zo (.p (.agg (ZG (Z7.mk 9 13)))) ?_
       refine zi fun r12 hr12 => ?_
       obtain ⟨qr12, er12, exr12, rfl⟩ := Z1p (32) r12 hr12
       refine zc [] (.p (.agg (ZG r12))) [] er12 ?_
       refine zo (.p (.lst .ex (([(Z7.mk 9 13), r12] : List Z7).map Zs))) ?_
       exact zr ((.p (.lst .ex (([(Z7.mk 9 13), r12] : List Z7).map Zs))), []) ⟨_, rfl⟩
      ·exact zk (Z21 )
theorem Zbt (x0 : Int) {r} (h : Z2A x0 = some r) : Z4G x0 = some r :=
 pick_of (fun _ _ ha hb => RRun.uniq (ZbI) (ha ) (hb )) (ZaX x0 r h)
noncomputable def Z1U (x2 : Int) (zl : List Int) (z1 : Int) (z2 : Int) : Option (Int × Int × Int × Int) :=
 (ZT 21 x2 zl z1 z2).bind fun r1 =>
 some (0, r1.1, r1.2.1, r1.2.2)
theorem Z2W (x2 : Int) (zl : List Int) (zp : Int) (z6 : Int) (zd : Int) (zh : List Zr) (z1 : Int) (z2 : Int) (zn : Own) (zb : Own) (zu : okApp zb = true) : Sim (Z30 zl z6 zd zh zn zb) (Z1U x2 zl z1 z2) (Z8U 1 (.ptr 0 0) (iv x2) [(Zj (Zk.mk zl zp z6 zd zh (Zi.mk z1 z2)) zn zb)]) := by
 unfold Z1U
 refine zf (ZeX ..) ?_
 refine ze ?_
 refine zi fun r1 hr1 => ?_
 obtain ⟨qr1, er1, exr1, rfl⟩ := ZW (21) (x2) (zl) (zp) (z6) (zd) (zh) (z1) (z2) zn zb zu r1 hr1
 refine zc [0] (.p (.tup [])) [(Zj (Zk.mk zl r1.1 z6 zd zh (Zi.mk r1.2.1 r1.2.2)) zn zb)] er1 ?_
 refine ze ?_
 exact zr ((iv 0), [(Zj (Zk.mk zl r1.1 z6 zd zh (Zi.mk r1.2.1 r1.2.2)) zn zb)]) ⟨_, rfl⟩
noncomputable def Z5A (x1 : Int) (zp : Int) (z1 : Int) (z2 : Int) : Option (Int × Int × Int × Int) :=
 some (x1, zp, z1, z2)
theorem Z8R (x1 : Int) (zl : List Int) (zp : Int) (z6 : Int) (zd : Int) (zh : List Zr) (z1 : Int) (z2 : Int) (zn : Own) (zb : Own) (zu : okApp zb = true) : Sim (Z30 zl z6 zd zh zn zb) (Z5A x1 zp z1 z2) (ZcW 1 (iv x1) [(Zj (Zk.mk zl zp z6 zd zh (Zi.mk z1 z2)) zn zb)]) := by
 unfold Z5A
 refine zf (ZeV ..) ?_
 refine ze ?_
 exact zr ((iv x1), [(Zj (Zk.mk zl zp z6 zd zh (Zi.mk z1 z2)) zn zb)]) ⟨_, rfl⟩
noncomputable def Z5q (x1 : Int) (x2 : Int) (zl : List Int) (zp : Int) (z6 : Int) (zd : Int) (zh : List Zr) (z1 : Int) (z2 : Int) : Option (Int × Int × Int × Int) :=
 if ((x1 == 110)) = true then
 (some (10, zp, z1, z2))
 else
 (if ((x1 == 116)) = true then
 (some (9, zp, z1, z2))
 else
 (if ((x1 == 114)) = true then
 (some (13, zp, z1, z2))
 else
 (if ((x1 == 120)) = true then
 ((Z1C ((Zk.mk zl zp z6 zd zh (Zi.mk z1 z2)))).bind fun r1 =>
 (Z7G r1).bind fun r2 =>
 if ((decide (0 ≤ r2))) = true then
 ((Z20 zl zp).bind fun r3 =>
 (Z1C ((Zk.mk zl r3.2 z6 zd zh (Zi.mk z1 z2)))).bind fun r4 =>
 (Z7G r4).bind fun r5 =>
 if ((decide (0 ≤ r5))) = true then
 ((Z20 zl r3.2).bind fun r6 =>
 some ((IntKind.i64.wrap ((IntKind.i64.wrap (16 * r2)) + r5)), r6.2, z1, z2))
 else
 (Z1U x2 zl z1 z2))
 else
 (Z1U x2 zl z1 z2))
 else
 (if ((decide (32 < x1))) = true then
 (if ((decide (x1 < 127))) = true then
 ((Z5N (([(Z7.mk 48 57), (Z7.mk 65 90), (Z7.mk 97 122)] : List Z7)) x1).bind fun r7 =>
 if ((!r7)) = true then
 (Z5A x1 zp z1 z2)
 else
 (Z1U x2 zl z1 z2))
 else
 (Z1U x2 zl z1 z2))
 else
 (Z1U x2 zl z1 z2)))))
theorem Za8 (x1 : Int) (x2 : Int) (zl : List Int) (zp : Int) (z6 : Int) (zd : Int) (zh : List Zr) (z1 : Int) (z2 : Int) (zn : Own) (zb : Own) (zu : okApp zb = true) : Sim (Z30 zl z6 zd zh zn zb) (Z5q x1 x2 zl zp z6 zd zh z1 z2) (EE 57 [(.ptr 0 0), (iv x1), (iv x2)] [(Zj (Zk.mk zl zp z6 zd zh (Zi.mk z1 z2)) zn zb)]) := by
 unfold Z5q
 refine zf (Zis ..) ?_
 refine ze ?_
 refine ze ?_
 refine zo (bv (x1 == 110)) ?_
 refine za ((x1 == 110)) ?_ ?_
 ·refine ze ?_
  exact zr ((iv 10), [(Zj (Zk.mk zl zp z6 zd zh (Zi.mk z1 z2)) zn zb)]) ⟨_, rfl⟩
 ·refine ze ?_
  refine zo (bv (x1 == 116)) ?_
  refine za ((x1 == 116)) ?_ ?_
  ·refine ze ?_
   exact zr ((iv 9), [(Zj (Zk.mk zl zp z6 zd zh (Zi.mk z1 z2)) zn zb)]) ⟨_, rfl⟩
  ·refine ze ?_
   refine zo (bv (x1 == 114)) ?_
   refine za ((x1 == 114)) ?_ ?_
   ·refine ze ?_
    exact zr ((iv 13), [(Zj (Zk.mk zl zp z6 zd zh (Zi.mk z1 z2)) zn zb)]) ⟨_, rfl⟩
   ·refine ze ?_
    refine zo (bv (x1 == 120)) ?_
    refine za ((x1 == 120)) ?_ ?_
    ·refine ze ?_
     refine zi fun r1 hr1 => ?_
     obtain ⟨qr1, er1, exr1, rfl⟩ := Z1G ((Zk.mk zl zp z6 zd zh (Zi.mk z1 z2))) zn zb zu r1 hr1
     refine zc [0] (iv r1) [(Zj (Zk.mk zl zp z6 zd zh (Zi.mk z1 z2)) zn zb)] er1 ?_
     refine zi fun r2 hr2 => ?_
     obtain ⟨qr2, er2, exr2, rfl⟩ := Zba (r1) r2 hr2
     refine zc [] (iv r2) [(Zj (Zk.mk zl zp z6 zd zh (Zi.mk z1 z2)) zn zb)] er2 ?_
     refine ze ?_
     refine zo (bv (decide (0 ≤ r2))) ?_
     refine za ((decide (0 ≤ r2))) ?_ ?_
     ·refine ze ?_
      refine zi fun r3 hr3 => ?_
      obtain ⟨qr3, er3, exr3, rfl⟩ := Z2l (zl) (zp) (z6) (zd) (zh) (z1) (z2) zn zb zu r3 hr3
      refine zc [0] (iv r3.1) [(Zj (Zk.mk zl r3.2 z6 zd zh (Zi.mk z1 z2)) zn zb)] er3 ?_
      refine ze ?_
      refine zi fun r4 hr4 => ?_
      obtain ⟨qr4, er4, exr4, rfl⟩ := Z1G ((Zk.mk zl r3.2 z6 zd zh (Zi.mk z1 z2))) zn zb zu r4 hr4
      refine zc [0] (iv r4) [(Zj (Zk.mk zl r3.2 z6 zd zh (Zi.mk z1 z2)) zn zb)] er4 ?_
      refine zi fun r5 hr5 => ?_
      obtain ⟨qr5, er5, exr5, rfl⟩ := Zba (r4) r5 hr5
      refine zc [] (iv r5) [(Zj (Zk.mk zl r3.2 z6 zd zh (Zi.mk z1 z2)) zn zb)] er5 ?_
      refine ze ?_
      refine zo (bv (decide (0 ≤ r5))) ?_
      refine za ((decide (0 ≤ r5))) ?_ ?_
      ·refine ze ?_
       refine zi fun r6 hr6 => ?_
       obtain ⟨qr6, er6, exr6, rfl⟩ := Z2l (zl) (r3.2) (z6) (zd) (zh) (z1) (z2) zn zb zu r6 hr6
       refine zc [0] (iv r6.1) [(Zj (Zk.mk zl r6.2 z6 zd zh (Zi.mk z1 z2)) zn zb)] er6 ?_
       refine ze ?_
       refine zo (iv (IntKind.i64.wrap (16 * r2))) ?_
       refine zo (iv (IntKind.i64.wrap ((IntKind.i64.wrap (16 * r2)) + r5))) ?_
       exact zr ((iv (IntKind.i64.wrap ((IntKind.i64.wrap (16 * r2)) + r5))), [(Zj (Zk.mk zl r6.2 z6 zd zh (Zi.mk z1 z2)) zn zb)]) ⟨_, rfl⟩
      ·exact zk (Z2W (x2) (zl) (r3.2) (z6) (zd) (zh) (z1) (z2) zn zb zu)
     ·exact zk (Z2W (x2) (zl) (zp) (z6) (zd) (zh) (z1) (z2) zn zb zu)
    ·refine ze ?_
     refine zo (bv (decide (32 < x1))) ?_
     refine za ((decide (32 < x1))) ?_ ?_
     ·refine zo (bv (decide (x1 < 127))) ?_
      refine za ((decide (x1 < 127))) ?_ ?_
      ·refine zo (.p (.agg (ZG (Z7.mk 48 57)))) ?_
       refine zo (.p (.agg (ZG (Z7.mk 65 90)))) ?_
       refine zo (.p (.agg (ZG (Z7.mk 97 122)))) ?_
       refine zo (.p (.lst .ex (([(Z7.mk 48 57), (Z7.mk 65 90), (Z7.mk 97 122)] : List Z7).map Zs))) ?_
       refine zi fun r7 hr7 => ?_
       obtain ⟨qr7, er7, exr7, rfl⟩ := ZbP (([(Z7.mk 48 57), (Z7.mk 65 90), (Z7.mk 97 122)] : List Z7)) (x1) .sh r7 hr7
       refine zc [] (bv r7) [(Zj (Zk.mk zl zp z6 zd zh (Zi.mk z1 z2)) zn zb)] er7 ?_
       refine zo (bv (!r7)) ?_
       refine za ((!r7)) ?_ ?_
       ·exact zk (Z8R (x1) (zl) (zp) (z6) (zd) (zh) (z1) (z2) zn zb zu)
       ·exact zk (Z2W (x2) (zl) (zp) (z6) (zd) (zh) (z1) (z2) zn zb zu)
      ·exact zk (Z2W (x2) (zl) (zp) (z6) (zd) (zh) (z1) (z2) zn zb zu)
     ·exact zk (Z2W (x2) (zl) (zp) (z6) (zd) (zh) (z1) (z2) zn zb zu)
theorem Zao (x1 : Int) (x2 : Int) (zl : List Int) (zp : Int) (z6 : Int) (zd : Int) (zh : List Zr) (z1 : Int) (z2 : Int) {r} (h : Z5q x1 x2 zl zp z6 zd zh z1 z2 = some r) : Z4B x1 x2 zl zp z6 zd zh z1 z2 = some r :=
 pick_of (fun _ _ ha hb => RRun.uniq (ZaN _ _ _ _ _ _) (ha .ex .ex rfl) (hb .ex .ex rfl)) (fun zn zb zu => Za8 x1 x2 zl zp z6 zd zh z1 z2 zn zb zu r h)
noncomputable def Z78 (x0 : Int) : Option (Int) :=
 some ((IntKind.i64.wrap (x0 - 48)))
theorem ZbW (x0 : Int) : Sim (Z4W) (Z78 x0) (ZdR 0 (iv x0) []) := by
 unfold Z78
 refine zf (Zgj ..) ?_
 refine ze ?_
 refine zo (iv (IntKind.i64.wrap (x0 - 48))) ?_
 exact zr ((iv (IntKind.i64.wrap (x0 - 48))), []) ⟨_, rfl⟩
noncomputable def Z7h (x0 : Int) : Option (Int) :=
 some ((IntKind.i64.wrap ((IntKind.i64.wrap (x0 - 97)) + 10)))
theorem ZbX (x0 : Int) : Sim (Z4W) (Z7h x0) (ZdB 0 (iv x0) []) := by
 unfold Z7h
 refine zf (Zg8 ..) ?_
 refine ze ?_
 refine zo (iv (IntKind.i64.wrap (x0 - 97))) ?_
 refine zo (iv (IntKind.i64.wrap ((IntKind.i64.wrap (x0 - 97)) + 10))) ?_
 exact zr ((iv (IntKind.i64.wrap ((IntKind.i64.wrap (x0 - 97)) + 10))), []) ⟨_, rfl⟩
noncomputable def Z6e  : Option (Int) :=
 some ((-1))
theorem Z99  : Sim (Z4W) (Z6e) (ZcH 0  []) := by
 unfold Z6e
 refine zf (Zfy ..) ?_
 refine ze ?_
 exact zr ((iv (-1)), []) ⟨_, rfl⟩
noncomputable def Z68 (x0 : Int) : Option (Int) :=
 if ((decide (97 ≤ x0))) = true then
 (if ((decide (x0 ≤ 102))) = true then
 (Z7h x0)
 else
 (Z6e))
 else
 (Z6e)
theorem Z97 (x0 : Int) : Sim (Z4W) (Z68 x0) (ZcE 0 (iv x0) []) := by
 unfold Z68
 refine zf (ZfZ ..) ?_
 refine ze ?_
 refine zo (bv (decide (97 ≤ x0))) ?_
 refine za ((decide (97 ≤ x0))) ?_ ?_
 ·refine zo (bv (decide (x0 ≤ 102))) ?_
  refine za ((decide (x0 ≤ 102))) ?_ ?_
  ·exact zk (ZbX (x0))
  ·exact zk (Z99 )
 ·exact zk (Z99 )
noncomputable def Z90 (x0 : Int) : Option (Int) :=
 if ((decide (48 ≤ x0))) = true then
 (if ((decide (x0 ≤ 57))) = true then
 (Z78 x0)
 else
 (Z68 x0))
 else
 (Z68 x0)
theorem ZcB (x0 : Int) : Sim (Z4W) (Z90 x0) (EE 71 [(iv x0)] []) := by
 unfold Z90
 refine zf (Zhx ..) ?_
 refine ze ?_
 refine ze ?_
 refine zo (bv (decide (48 ≤ x0))) ?_
 refine za ((decide (48 ≤ x0))) ?_ ?_
 ·refine zo (bv (decide (x0 ≤ 57))) ?_
  refine za ((decide (x0 ≤ 57))) ?_ ?_
  ·exact zk (ZbW (x0))
  ·exact zk (Z97 (x0))
 ·exact zk (Z97 (x0))
theorem Zdi (x0 : Int) {r} (h : Z90 x0 = some r) : Z7G x0 = some r :=
 pick_of (fun _ _ ha hb => RRun.uniq (Zdk) (ha ) (hb )) (ZcB x0 r h)
noncomputable def Z6A (x0 : List Z7) (x1 : Int) : Option (Bool) :=
 (Z39 x0 x1).bind fun r1 =>
 some (r1)
theorem ZbD (x0 : List Z7) (x1 : Int) (ox0 : Own) : Sim (Z5P) (Z6A x0 x1) (EE 19 [(.p (.lst ox0 (x0.map Zs))), (iv x1)] []) := by
 unfold Z6A
 refine zf (Zhn ..) ?_
 refine ze ?_
 refine zx (.ptr 0 0) [[(iv x1)]] ?_
 refine ze ?_
 refine zi fun r1 hr1 => ?_
 obtain ⟨qr1, er1, exr1, rfl⟩ := Z7A (x0) (x1) .sh r1 hr1
 refine zc [0] (bv r1) [[(iv x1)]] er1 ?_
 exact zr ((bv r1), [[(iv x1)]]) ⟨_, rfl⟩
theorem ZbU (x0 : List Z7) (x1 : Int) {r} (h : Z6A x0 x1 = some r) : Z5N x0 x1 = some r :=
 pick_of (fun _ _ ha hb => RRun.uniq (Zca) (ha .ex) (hb .ex)) (fun ox0 => ZbD x0 x1 ox0 r h)
noncomputable def Z37 (x0 : List Z7) (zZ : Int) : Option (Bool) :=
 (Z3J x0 zZ).bind fun r1 =>
 some ((decide (0 ≤ r1)))
theorem Z7c (x0 : List Z7) (zZ : Int) (ox0 : Own) : Sim (Z2D zZ) (Z37 x0 zZ) (EE 30 [(.p (.lst ox0 (x0.map Zs))), (.clo 31 [] [(.ptr 0 0)])] [[(iv zZ)]]) := by
 unfold Z37
 refine zf (Ziz ..) ?_
 refine ze ?_
 refine ze ?_
 refine zi fun r1 hr1 => ?_
 obtain ⟨qr1, er1, exr1, rfl⟩ := Z8e (x0) (zZ) .sh r1 hr1
 refine zc [0] (iv r1) [[(iv zZ)]] er1 ?_
 refine zo (bv (decide (0 ≤ r1))) ?_
 exact zr ((bv (decide (0 ≤ r1))), [[(iv zZ)]]) ⟨_, rfl⟩
theorem Z7u (x0 : List Z7) (zZ : Int) {r} (h : Z37 x0 zZ = some r) : Z39 x0 zZ = some r :=
 pick_of (fun _ _ ha hb => RRun.uniq (Z7I _) (ha .ex) (hb .ex)) (fun ox0 => Z7c x0 zZ ox0 r h)
noncomputable def Z3F (x0 : List Z7) (zZ : Int) : Option (Int) :=
 Z2C x0 ((x0.length : Int)) 0 zZ
theorem Z80 (x0 : List Z7) (zZ : Int) (ox0 : Own) : Sim (Z1n zZ) (Z3F x0 zZ) (EE 37 [(.p (.lst ox0 (x0.map Zs))), (.clo 31 [] [(.ptr 0 0)])] [[(iv zZ)]]) := by
 unfold Z3F
 refine zf (ZhH ..) ?_
 refine ze ?_
 refine ze ?_
 refine zo (iv (x0.length : Int)) ?_ (Eq.trans (by kernel_rfl) (xlen_of (P := PP) (t := 24) (d := 39) (by kernel_rfl) Zs (shrO ox0) x0))
 exact zk (Z5j (x0) ((x0.length : Int)) (0) (zZ) ox0)
theorem Z8d (x0 : List Z7) (zZ : Int) {r} (h : Z3F x0 zZ = some r) : Z3J x0 zZ = some r :=
 pick_of (fun _ _ ha hb => RRun.uniq (Z5R _) (ha .ex) (hb .ex)) (fun ox0 => Z80 x0 zZ ox0 r h)
noncomputable def Z35 (x0 : List Z7) (x7 : Int) (x8 : Int) (zZ : Int) : Option (Int) :=
 Z2C x0 x7 ((IntKind.i64.wrap (x8 + 1))) zZ
theorem Z70 (x0 : List Z7) (x7 : Int) (x8 : Int) (zZ : Int) (ox0 : Own) : Sim (Z1n zZ) (Z35 x0 x7 x8 zZ) (ZdF 1 (.p (.lst ox0 (x0.map Zs))) (.clo 31 [] [(.ptr 0 0)]) (iv x7) (iv x8) [[(iv zZ)]]) := by
 unfold Z35
 refine zf (ZfA ..) ?_
 refine ze ?_
 refine zo (iv (IntKind.i64.wrap (x8 + 1))) ?_
 exact zk (Z5j (x0) (x7) ((IntKind.i64.wrap (x8 + 1))) (zZ) ox0)
noncomputable def Z2E (x0 : List Z7) (x7 : Int) (x8 : Int) (zZ : Int) : Option (Int) :=
 (lget x0 x8).bind fun a1 =>
 (Z60 a1 zZ).bind fun r2 =>
 if (r2) = true then
 (some (x8))
 else
 (Z35 x0 x7 x8 zZ)
theorem Z7l (x0 : List Z7) (x7 : Int) (x8 : Int) (zZ : Int) (ox0 : Own) : Sim (Z1n zZ) (Z2E x0 x7 x8 zZ) (ZeC 1 (.p (.lst ox0 (x0.map Zs))) (.clo 31 [] [(.ptr 0 0)]) (iv x7) (iv x8) [[(iv zZ)]]) := by
 unfold Z2E
 refine zf (ZfX ..) ?_
 refine ze ?_
 refine ze ?_
 refine zi fun a1 ha1 => ?_
 refine zo (.cptr (ZG a1)) ?_ (Eq.trans (by kernel_rfl) (xidx_of (o := (shrO ox0)) (k := .i64) (n := 2) (e := Zs) (cs := Z3O) (fun _ => rfl) (fun _ => rfl) (by decide) ha1))
 refine zo (.p (.agg (ZG a1))) ?_
 refine zi fun r2 hr2 => ?_
 obtain ⟨qr2, er2, exr2, rfl⟩ := Zbu (a1) (zZ) r2 hr2
 refine zv [0] (bv r2) [[(iv zZ)]] er2 ?_
 refine za (r2) ?_ ?_
 ·refine ze ?_
  exact zr ((iv x8), [[(iv zZ)]]) ⟨_, rfl⟩
 ·exact zk (Z70 (x0) (x7) (x8) (zZ) ox0)
noncomputable def Z4s  : Option (Int) :=
 some ((-1))
theorem Z71 (zZ : Int) : Sim (Z1n zZ) (Z4s) (Zed 1  [[(iv zZ)]]) := by
 unfold Z4s
 refine zf (ZfR ..) ?_
 refine ze ?_
 exact zr ((iv (-1)), [[(iv zZ)]]) ⟨_, rfl⟩
noncomputable def Z26 (x0 : List Z7) (x7 : Int) (x8 : Int) (zZ : Int) : Option (Int) :=
 if ((decide (x8 < x7))) = true then
 (Z2E x0 x7 x8 zZ)
 else
 (Z4s)
theorem Z7g (x0 : List Z7) (x7 : Int) (x8 : Int) (zZ : Int) (ox0 : Own) : Sim (Z1n zZ) (Z26 x0 x7 x8 zZ) (ZaR 1 (.p (.lst ox0 (x0.map Zs))) (.clo 31 [] [(.ptr 0 0)]) (iv x7) (iv x8) [[(iv zZ)]]) := by
 unfold Z26
 refine zf (Zgm ..) ?_
 refine ze ?_
 refine zo (bv (decide (x8 < x7))) ?_
 refine za ((decide (x8 < x7))) ?_ ?_
 ·exact zk (Z7l (x0) (x7) (x8) (zZ) ox0)
 ·exact zk (Z71 (zZ))
theorem Z3T (x0 : List Z7) (x7 : Int) (x8 : Int) (zZ : Int) {r} (h : Z26 x0 x7 x8 zZ = some r) : Z2C x0 x7 x8 zZ = some r :=
 pick_of (fun _ _ ha hb => RRun.uniq (Z5R _) (ha .ex) (hb .ex)) (fun ox0 => Z7g x0 x7 x8 zZ ox0 r h)
noncomputable def Z61 (x0 : Z7) (zZ : Int) : Option (Bool) :=
 if ((decide (x0.Lo ≤ zZ))) = true then
 (some ((decide (zZ ≤ x0.Hi))))
 else
 (some (false))
theorem Zbj (x0 : Z7) (zZ : Int) : Sim (Z5l zZ) (Z61 x0 zZ) (EE 31 [(.p (.agg (ZG x0))), (.ptr 0 0)] [[(iv zZ)]]) := by
 unfold Z61
 refine zf (ZiF ..) ?_
 refine ze ?_
 refine zx (.ptr 1 0) [[(iv zZ)], (Z1m x0)] ?_
 refine ze ?_
 refine zo (.ptr 1 0) ?_
 refine zo (iv x0.Lo) ?_
 refine zo (iv zZ) ?_
 refine zo (bv (decide (x0.Lo ≤ zZ))) ?_
 refine za ((decide (x0.Lo ≤ zZ))) ?_ ?_
 ·refine zo (iv zZ) ?_
  refine zo (.ptr 1 1) ?_
  refine zo (iv x0.Hi) ?_
  refine zo (bv (decide (zZ ≤ x0.Hi))) ?_
  exact zr ((bv (decide (zZ ≤ x0.Hi))), [[(iv zZ)], (Z1m x0)]) ⟨_, rfl⟩
 ·exact zr ((bv false), [[(iv zZ)], (Z1m x0)]) ⟨_, rfl⟩
theorem Zbx (x0 : Z7) (zZ : Int) {r} (h : Z61 x0 zZ = some r) : Z60 x0 zZ = some r :=
 pick_of (fun _ _ ha hb => RRun.uniq (ZbH _) (ha ) (hb )) (Zbj x0 zZ r h)
noncomputable def Z4C (x1 : Int) (zl : List Int) (zp : Int) (z6 : Int) (zd : Int) (zh : List Zr) (z1 : Int) (z2 : Int) : Option (Z3 × Int × Int × Int) :=
 (Z13 ((ByteArray.mk #[94])) zl zp).bind fun r1 =>
 Z2H x1 r1.1 0 zl r1.2 z6 zd zh z1 z2 (([] : List Z7))
theorem Za7 (x1 : Int) (zl : List Int) (zp : Int) (z6 : Int) (zd : Int) (zh : List Zr) (z1 : Int) (z2 : Int) (zn : Own) (zb : Own) (zu : okApp zb = true) : Sim (Z16 zl z6 zd zh zn zb) (Z4C x1 zl zp z6 zd zh z1 z2) (EE 50 [(.ptr 0 0), (iv x1)] [(Zj (Zk.mk zl zp z6 zd zh (Zi.mk z1 z2)) zn zb)]) := by
 unfold Z4C
 refine zf (ZhP ..) ?_
 refine ze ?_
 refine zz (.ptr 1 0) [(Zj (Zk.mk zl zp z6 zd zh (Zi.mk z1 z2)) zn zb), (Zq (Z3.mk 0 0 0 0 0 ([] : List Z7) ([] : List Z3)) .nl .nl)] ?_
 refine ze ?_
 refine zi fun r1 hr1 => ?_
 obtain ⟨qr1, er1, exr1, rfl⟩ := Z18 ((ByteArray.mk #[94])) (zl) (zp) (z6) (zd) (zh) (z1) (z2) zn zb zu r1 hr1
 refine zc [0] (bv r1.1) [(Zj (Zk.mk zl r1.2 z6 zd zh (Zi.mk z1 z2)) zn zb), (Zq (Z3.mk 0 0 0 0 0 ([] : List Z7) ([] : List Z3)) .nl .nl)] er1 ?_
 refine ze ?_
 refine zz (.ptr 2 0) [(Zj (Zk.mk zl r1.2 z6 zd zh (Zi.mk z1 z2)) zn zb), (Zq (Z3.mk 0 0 0 0 0 ([] : List Z7) ([] : List Z3)) .nl .nl), [(.p (.lst .nl []))]] ?_
 refine ze ?_
 refine ze ?_
 exact zk (Z6q (x1) (r1.1) (0) (zl) (r1.2) (z6) (zd) (zh) (z1) (z2) ((Z3.mk 0 0 0 0 0 ([] : List Z7) ([] : List Z3))) (([] : List Z7)) zn zb .nl .nl .nl zu rfl rfl)
theorem Zae (x1 : Int) (zl : List Int) (zp : Int) (z6 : Int) (zd : Int) (zh : List Zr) (z1 : Int) (z2 : Int) {r} (h : Z4C x1 zl zp z6 zd zh z1 z2 = some r) : Z5p x1 zl zp z6 zd zh z1 z2 = some r :=
 pick_of (fun _ _ ha hb => RRun.uniq (Z7K _ _ _ _ _ _) (ha .ex .ex rfl) (hb .ex .ex rfl)) (fun zn zb zu => Za7 x1 zl zp z6 zd zh z1 z2 zn zb zu r h)
noncomputable def Z19 (x1 : Int) (x5 : Bool) (x8 : Int) (zl : List Int) (zp : Int) (z6 : Int) (zd : Int) (zh : List Zr) (z1 : Int) (z2 : Int) (z10 : List Z7) : Option (Z3 × Int × Int × Int) :=
 Z2H x1 x5 ((IntKind.i64.wrap (x8 + 1))) zl zp z6 zd zh z1 z2 z10
theorem Z1E (x1 : Int) (x5 : Bool) (x8 : Int) (zl : List Int) (zp : Int) (z6 : Int) (zd : Int) (zh : List Zr) (z1 : Int) (z2 : Int) (b1 : Z3) (z10 : List Z7) (zn : Own) (zb : Own) (zB : Own) (zy : Own) (z1a : Own) (zu : okApp zb = true) (zQ : okApp zB = true) (zK : okApp zy = true) : Sim (Z16 zl z6 zd zh zn zb) (Z19 x1 x5 x8 zl zp z6 zd zh z1 z2 z10) (Z6X 1 (.ptr 0 0) (iv x1) (.ptr 1 0) (bv x5) (.ptr 2 0) (.clo 58 [] [(.ptr 2 0)]) (iv x8) [(Zj (Zk.mk zl zp z6 zd zh (Zi.mk z1 z2)) zn zb), (Zq b1 zB zy), [(.p (.lst z1a (z10.map Zs)))]]) := by
 unfold Z19
 refine zf (ZfF ..) ?_
 refine ze ?_
 refine zo (iv (IntKind.i64.wrap (x8 + 1))) ?_
 exact zk (Z6q (x1) (x5) ((IntKind.i64.wrap (x8 + 1))) (zl) (zp) (z6) (zd) (zh) (z1) (z2) (b1) (z10) zn zb zB zy z1a zu zQ zK)
noncomputable def Z3B (zp : Int) (z1 : Int) (z2 : Int) (z10 : List Z7) : Option (Z3 × Int × Int × Int) :=
 some ((Z3.mk 1 0 0 0 0 z10 ([] : List Z3)), zp, z1, z2)
theorem Z6c (zl : List Int) (zp : Int) (z6 : Int) (zd : Int) (zh : List Zr) (z1 : Int) (z2 : Int) (b1 : Z3) (z10 : List Z7) (zn : Own) (zb : Own) (zB : Own) (zy : Own) (z1a : Own) (zu : okApp zb = true) (zQ : okApp zB = true) (zK : okApp zy = true) : Sim (Z16 zl z6 zd zh zn zb) (Z3B zp z1 z2 z10) (ZbY 1 (.ptr 1 0) (.ptr 2 0) [(Zj (Zk.mk zl zp z6 zd zh (Zi.mk z1 z2)) zn zb), (Zq b1 zB zy), [(.p (.lst z1a (z10.map Zs)))]]) := by
 unfold Z3B
 refine zf (Zfs ..) ?_
 refine ze ?_
 refine zo (.p (.lst (shrO z1a) (z10.map Zs))) ?_
 refine zo (.p (.agg (ZE (Z3.mk 1 0 0 0 0 z10 ([] : List Z3)) (shrO (shrO z1a)) .nl))) ?_
 refine zt [(Zj (Zk.mk zl zp z6 zd zh (Zi.mk z1 z2)) zn zb), (Zq (Z3.mk 1 0 0 0 0 z10 ([] : List Z3)) (shrO (shrO z1a)) .nl), [(.p (.lst z1a (z10.map Zs)))]] ?_
 exact zr ((.p (.agg (ZE (Z3.mk 1 0 0 0 0 z10 ([] : List Z3)) .sh .sh))), [(Zj (Zk.mk zl zp z6 zd zh (Zi.mk z1 z2)) zn zb), (Zq (Z3.mk 1 0 0 0 0 z10 ([] : List Z3)) (shrO (shrO z1a)) .nl), [(.p (.lst z1a (z10.map Zs)))]]) ⟨_, rfl⟩
noncomputable def Z4E (x5 : Bool) (zl : List Int) (zp : Int) (z1 : Int) (z2 : Int) (z10 : List Z7) : Option (Z3 × Int × Int × Int) :=
 (Z20 zl zp).bind fun r1 =>
 if (x5) = true then
 ((Z5O z10).bind fun r2 =>
 Z3B r1.2 z1 z2 r2.1)
 else
 (Z3B r1.2 z1 z2 z10)
theorem Z8N (x5 : Bool) (zl : List Int) (zp : Int) (z6 : Int) (zd : Int) (zh : List Zr) (z1 : Int) (z2 : Int) (b1 : Z3) (z10 : List Z7) (zn : Own) (zb : Own) (zB : Own) (zy : Own) (z1a : Own) (zu : okApp zb = true) (zQ : okApp zB = true) (zK : okApp zy = true) : Sim (Z16 zl z6 zd zh zn zb) (Z4E x5 zl zp z1 z2 z10) (Zd7 1 (.ptr 0 0) (.ptr 1 0) (bv x5) (.ptr 2 0) [(Zj (Zk.mk zl zp z6 zd zh (Zi.mk z1 z2)) zn zb), (Zq b1 zB zy), [(.p (.lst z1a (z10.map Zs)))]]) := by
 unfold Z4E
 refine zf (Zfr ..) ?_
 refine ze ?_
 refine zi fun r1 hr1 => ?_
 obtain ⟨qr1, er1, exr1, rfl⟩ := Z2l (zl) (zp) (z6) (zd) (zh) (z1) (z2) zn zb zu r1 hr1
 refine zc [0] (iv r1.1) [(Zj (Zk.mk zl r1.2 z6 zd zh (Zi.mk z1 z2)) zn zb), (Zq b1 zB zy), [(.p (.lst z1a (z10.map Zs)))]] er1 ?_
 refine ze ?_
 refine za (x5) ?_ ?_
 ·refine ze ?_
  refine zo (.p (.lst (shrO z1a) (z10.map Zs))) ?_
  refine zi fun r2 hr2 => ?_
  obtain ⟨qr2, er2, exr2, rfl⟩ := Z98 (z10) .sh r2 hr2
  refine zc [] (.p (.tup [(.lst .sh (r2.1.map Zs)), (.v (.int .i64 r2.2))])) [(Zj (Zk.mk zl r1.2 z6 zd zh (Zi.mk z1 z2)) zn zb), (Zq b1 zB zy), [(.p (.lst z1a (z10.map Zs)))]] er2 ?_
  refine zo (.p (.lst .sh (r2.1.map Zs))) ?_
  refine zo (iv r2.2) ?_
  refine zt [(Zj (Zk.mk zl r1.2 z6 zd zh (Zi.mk z1 z2)) zn zb), (Zq b1 zB zy), [(.p (.lst .sh (r2.1.map Zs)))]] ?_
  exact zk (Z6c (zl) (r1.2) (z6) (zd) (zh) (z1) (z2) (b1) (r2.1) zn zb zB zy .sh zu zQ zK)
 ·exact zk (Z6c (zl) (r1.2) (z6) (zd) (zh) (z1) (z2) (b1) (z10) zn zb zB zy z1a zu zQ zK)
noncomputable def Z2u (x1 : Int) (x5 : Bool) (x8 : Int) (x9 : Int) (zl : List Int) (z6 : Int) (zd : Int) (zh : List Zr) (z1 : Int) (z2 : Int) (z10 : List Z7) : Option (Z3 × Int × Int × Int) :=
 (ZT 22 x9 zl z1 z2).bind fun r1 =>
 Z19 x1 x5 x8 zl r1.1 z6 zd zh r1.2.1 r1.2.2 z10
theorem Z3N (x1 : Int) (x5 : Bool) (x8 : Int) (x9 : Int) (zl : List Int) (zp : Int) (z6 : Int) (zd : Int) (zh : List Zr) (z1 : Int) (z2 : Int) (b1 : Z3) (z10 : List Z7) (zn : Own) (zb : Own) (zB : Own) (zy : Own) (z1a : Own) (zu : okApp zb = true) (zQ : okApp zB = true) (zK : okApp zy = true) : Sim (Z16 zl z6 zd zh zn zb) (Z2u x1 x5 x8 x9 zl z6 zd zh z1 z2 z10) (Z9T 1 (.ptr 0 0) (iv x1) (.ptr 1 0) (bv x5) (.ptr 2 0) (.clo 58 [] [(.ptr 2 0)]) (iv x8) (iv x9) [(Zj (Zk.mk zl zp z6 zd zh (Zi.mk z1 z2)) zn zb), (Zq b1 zB zy), [(.p (.lst z1a (z10.map Zs)))]]) := by
 unfold Z2u
 refine zf (Zf0 ..) ?_
 refine ze ?_
 refine zi fun r1 hr1 => ?_
 obtain ⟨qr1, er1, exr1, rfl⟩ := ZW (22) (x9) (zl) (zp) (z6) (zd) (zh) (z1) (z2) zn zb zu r1 hr1
 refine zc [0] (.p (.tup [])) [(Zj (Zk.mk zl r1.1 z6 zd zh (Zi.mk r1.2.1 r1.2.2)) zn zb), (Zq b1 zB zy), [(.p (.lst z1a (z10.map Zs)))]] er1 ?_
 exact zk (Z1E (x1) (x5) (x8) (zl) (r1.1) (z6) (zd) (zh) (r1.2.1) (r1.2.2) (b1) (z10) zn zb zB zy z1a zu zQ zK)
noncomputable def Z1z (x1 : Int) (x5 : Bool) (x8 : Int) (x11 : Int) (x15 : Int) (zl : List Int) (zp : Int) (z6 : Int) (zd : Int) (zh : List Zr) (z1 : Int) (z2 : Int) (z10 : List Z7) : Option (Z3 × Int × Int × Int) :=
 if ((z1 == 0)) = true then
 ((Z41 (([(Z7.mk x11 x15)] : List Z7)) z10).bind fun r1 =>
 Z19 x1 x5 x8 zl zp z6 zd zh z1 z2 r1)
 else
 (Z19 x1 x5 x8 zl zp z6 zd zh z1 z2 z10)
theorem Z3L (x1 : Int) (x5 : Bool) (x8 : Int) (x11 : Int) (x15 : Int) (zl : List Int) (zp : Int) (z6 : Int) (zd : Int) (zh : List Zr) (z1 : Int) (z2 : Int) (b1 : Z3) (z10 : List Z7) (zn : Own) (zb : Own) (zB : Own) (zy : Own) (z1a : Own) (zu : okApp zb = true) (zQ : okApp zB = true) (zK : okApp zy = true) : Sim (Z16 zl z6 zd zh zn zb) (Z1z x1 x5 x8 x11 x15 zl zp z6 zd zh z1 z2 z10) (Z9W 1 (.ptr 0 0) (iv x1) (.ptr 1 0) (bv x5) (.ptr 2 0) (.clo 58 [] [(.ptr 2 0)]) (iv x8) (iv x11) (iv x15) [(Zj (Zk.mk zl zp z6 zd zh (Zi.mk z1 z2)) zn zb), (Zq b1 zB zy), [(.p (.lst z1a (z10.map Zs)))]]) := by
 unfold Z1z
 refine zf (Zfv ..) ?_
 refine ze ?_
 refine zo (.ptr 0 0) ?_
 refine zo (.ptr 0 5) ?_
 refine zo (.ptr 0 5) ?_
 refine zo (iv z1) ?_
 refine zo (bv (z1 == 0)) ?_
 refine za ((z1 == 0)) ?_ ?_
 ·refine ze ?_
  refine zo (.p (.agg (ZG (Z7.mk x11 x15)))) ?_
  refine zo (.p (.lst .ex (([(Z7.mk x11 x15)] : List Z7).map Zs))) ?_
  refine zi fun r1 hr1 => ?_
  obtain ⟨qr1, er1, or1_0_0, exr1, rfl⟩ := Z6D (([(Z7.mk x11 x15)] : List Z7)) (z10) .sh z1a r1 hr1
  refine zv [2] (.p (.tup [])) [(Zj (Zk.mk zl zp z6 zd zh (Zi.mk z1 z2)) zn zb), (Zq b1 zB zy), [(.p (.lst or1_0_0 (r1.map Zs)))]] er1 ?_
  exact zk (Z1E (x1) (x5) (x8) (zl) (zp) (z6) (zd) (zh) (z1) (z2) (b1) (r1) zn zb zB zy or1_0_0 zu zQ zK)
 ·exact zk (Z1E (x1) (x5) (x8) (zl) (zp) (z6) (zd) (zh) (z1) (z2) (b1) (z10) zn zb zB zy z1a zu zQ zK)
noncomputable def Z2V (x1 : Int) (x5 : Bool) (x8 : Int) (x9 : Int) (x11 : Int) (x15 : Int) (zl : List Int) (z6 : Int) (zd : Int) (zh : List Zr) (z1 : Int) (z2 : Int) (z10 : List Z7) : Option (Z3 × Int × Int × Int) :=
 (ZT 22 x9 zl z1 z2).bind fun r1 =>
 Z1z x1 x5 x8 x11 x15 zl r1.1 z6 zd zh r1.2.1 r1.2.2 z10
theorem Z66 (x1 : Int) (x5 : Bool) (x8 : Int) (x9 : Int) (x11 : Int) (x15 : Int) (zl : List Int) (zp : Int) (z6 : Int) (zd : Int) (zh : List Zr) (z1 : Int) (z2 : Int) (b1 : Z3) (z10 : List Z7) (zn : Own) (zb : Own) (zB : Own) (zy : Own) (z1a : Own) (zu : okApp zb = true) (zQ : okApp zB = true) (zK : okApp zy = true) : Sim (Z16 zl z6 zd zh zn zb) (Z2V x1 x5 x8 x9 x11 x15 zl z6 zd zh z1 z2 z10) (Zc5 1 (.ptr 0 0) (iv x1) (.ptr 1 0) (bv x5) (.ptr 2 0) (.clo 58 [] [(.ptr 2 0)]) (iv x8) (iv x9) (iv x11) (iv x15) [(Zj (Zk.mk zl zp z6 zd zh (Zi.mk z1 z2)) zn zb), (Zq b1 zB zy), [(.p (.lst z1a (z10.map Zs)))]]) := by
 unfold Z2V
 refine zf (Zfg ..) ?_
 refine ze ?_
 refine zi fun r1 hr1 => ?_
 obtain ⟨qr1, er1, exr1, rfl⟩ := ZW (22) (x9) (zl) (zp) (z6) (zd) (zh) (z1) (z2) zn zb zu r1 hr1
 refine zc [0] (.p (.tup [])) [(Zj (Zk.mk zl r1.1 z6 zd zh (Zi.mk r1.2.1 r1.2.2)) zn zb), (Zq b1 zB zy), [(.p (.lst z1a (z10.map Zs)))]] er1 ?_
 exact zk (Z3L (x1) (x5) (x8) (x11) (x15) (zl) (r1.1) (z6) (zd) (zh) (r1.2.1) (r1.2.2) (b1) (z10) zn zb zB zy z1a zu zQ zK)
noncomputable def Z4w (x1 : Int) (x5 : Bool) (x8 : Int) (x9 : Int) (x11 : Int) (zl : List Int) (zp : Int) (z6 : Int) (zd : Int) (zh : List Zr) (z1 : Int) (z2 : Int) (z10 : List Z7) : Option (Z3 × Int × Int × Int) :=
 (Z3s zl zp z6 zd zh z1 z2).bind fun r1 =>
 if ((r1.2.2.2.2.1 == 0)) = true then
 ((nilO (shrO (shrO (shrO (shrO r1.2.1.1)))) r1.2.1.2).bind fun a2 =>
 if ((!a2)) = true then
 (Z2V x1 x5 x8 x9 x11 r1.1 zl z6 zd zh r1.2.2.2.2.1 r1.2.2.2.2.2 z10)
 else
 (if ((decide (r1.1 < x11))) = true then
 (Z2V x1 x5 x8 x9 x11 r1.1 zl z6 zd zh r1.2.2.2.2.1 r1.2.2.2.2.2 z10)
 else
 (Z1z x1 x5 x8 x11 r1.1 zl r1.2.2.2.1 z6 zd zh r1.2.2.2.2.1 r1.2.2.2.2.2 z10)))
 else
 (Z1z x1 x5 x8 x11 r1.1 zl r1.2.2.2.1 z6 zd zh r1.2.2.2.2.1 r1.2.2.2.2.2 z10)
theorem Z8K (x1 : Int) (x5 : Bool) (x8 : Int) (x9 : Int) (x11 : Int) (zl : List Int) (zp : Int) (z6 : Int) (zd : Int) (zh : List Zr) (z1 : Int) (z2 : Int) (b1 : Z3) (z10 : List Z7) (zn : Own) (zb : Own) (zB : Own) (zy : Own) (z1a : Own) (zu : okApp zb = true) (zQ : okApp zB = true) (zK : okApp zy = true) : Sim (Z16 zl z6 zd zh zn zb) (Z4w x1 x5 x8 x9 x11 zl zp z6 zd zh z1 z2 z10) (ZcY 1 (.ptr 0 0) (iv x1) (.ptr 1 0) (bv x5) (.ptr 2 0) (.clo 58 [] [(.ptr 2 0)]) (iv x8) (iv x9) (iv x11) [(Zj (Zk.mk zl zp z6 zd zh (Zi.mk z1 z2)) zn zb), (Zq b1 zB zy), [(.p (.lst z1a (z10.map Zs)))]]) := by
 unfold Z4w
 refine zf (Zfj ..) ?_
 refine ze ?_
 refine zi fun r1 hr1 => ?_
 obtain ⟨qr1, er1, exr1, rfl⟩ := Z6R (zl) (zp) (z6) (zd) (zh) (z1) (z2) zn zb zu r1 hr1
 refine zc [0] (.p (.tup [(.v (.int .i64 r1.1)), (.lst r1.2.1.1 (r1.2.1.2.map Zs)), (.v (.bool r1.2.2.1))])) [(Zj (Zk.mk zl r1.2.2.2.1 z6 zd zh (Zi.mk r1.2.2.2.2.1 r1.2.2.2.2.2)) zn zb), (Zq b1 zB zy), [(.p (.lst z1a (z10.map Zs)))]] er1 ?_
 refine zo (iv r1.1) ?_
 refine zo (.p (.lst (shrO r1.2.1.1) (r1.2.1.2.map Zs))) ?_
 refine zo (bv r1.2.2.1) ?_
 refine ze ?_
 refine zo (.ptr 0 0) ?_
 refine zo (.ptr 0 5) ?_
 refine zo (.ptr 0 5) ?_
 refine zo (iv r1.2.2.2.2.1) ?_
 refine zo (bv (r1.2.2.2.2.1 == 0)) ?_
 refine za ((r1.2.2.2.2.1 == 0)) ?_ ?_
 ·refine zi fun a2 ha2 => ?_
  refine zo (bv (!a2)) ?_ (Eq.trans (by kernel_rfl) (xnil_neq (P := PP) (t := 23) (c := .slice none 0 0) (e := Zs) (by kernel_rfl) ha2))
  refine za ((!a2)) ?_ ?_
  ·exact zk (Z66 (x1) (x5) (x8) (x9) (x11) (r1.1) (zl) (r1.2.2.2.1) (z6) (zd) (zh) (r1.2.2.2.2.1) (r1.2.2.2.2.2) (b1) (z10) zn zb zB zy z1a zu zQ zK)
  ·refine zo (bv (decide (r1.1 < x11))) ?_
   refine za ((decide (r1.1 < x11))) ?_ ?_
   ·exact zk (Z66 (x1) (x5) (x8) (x9) (x11) (r1.1) (zl) (r1.2.2.2.1) (z6) (zd) (zh) (r1.2.2.2.2.1) (r1.2.2.2.2.2) (b1) (z10) zn zb zB zy z1a zu zQ zK)
   ·exact zk (Z3L (x1) (x5) (x8) (x11) (r1.1) (zl) (r1.2.2.2.1) (z6) (zd) (zh) (r1.2.2.2.2.1) (r1.2.2.2.2.2) (b1) (z10) zn zb zB zy z1a zu zQ zK)
 ·exact zk (Z3L (x1) (x5) (x8) (x11) (r1.1) (zl) (r1.2.2.2.1) (z6) (zd) (zh) (r1.2.2.2.2.1) (r1.2.2.2.2.2) (b1) (z10) zn zb zB zy z1a zu zQ zK)
noncomputable def Z3D (x1 : Int) (x5 : Bool) (x8 : Int) (x9 : Int) (x11 : Int) (zl : List Int) (zp : Int) (z6 : Int) (zd : Int) (zh : List Zr) (z1 : Int) (z2 : Int) (z10 : List Z7) : Option (Z3 × Int × Int × Int) :=
 (Z13 ((ByteArray.mk #[45])) zl zp).bind fun r1 =>
 if (r1.1) = true then
 ((Z1C ((Zk.mk zl r1.2 z6 zd zh (Zi.mk z1 z2)))).bind fun r2 =>
 if ((r2 == 93)) = true then
 (Z2u x1 x5 x8 x9 zl z6 zd zh z1 z2 z10)
 else
 (if ((r2 == 91)) = true then
 (Z2u x1 x5 x8 x9 zl z6 zd zh z1 z2 z10)
 else
 (if ((r2 == 45)) = true then
 (Z2u x1 x5 x8 x9 zl z6 zd zh z1 z2 z10)
 else
 (if ((decide (r2 < 0))) = true then
 (Z2u x1 x5 x8 x9 zl z6 zd zh z1 z2 z10)
 else
 (Z4w x1 x5 x8 x9 x11 zl r1.2 z6 zd zh z1 z2 z10)))))
 else
 (Z1z x1 x5 x8 x11 x11 zl r1.2 z6 zd zh z1 z2 z10)
theorem Z8Q (x1 : Int) (x5 : Bool) (x8 : Int) (x9 : Int) (x11 : Int) (zl : List Int) (zp : Int) (z6 : Int) (zd : Int) (zh : List Zr) (z1 : Int) (z2 : Int) (b1 : Z3) (z10 : List Z7) (zn : Own) (zb : Own) (zB : Own) (zy : Own) (z1a : Own) (zu : okApp zb = true) (zQ : okApp zB = true) (zK : okApp zy = true) : Sim (Z16 zl z6 zd zh zn zb) (Z3D x1 x5 x8 x9 x11 zl zp z6 zd zh z1 z2 z10) (ZcT 1 (.ptr 0 0) (iv x1) (.ptr 1 0) (bv x5) (.ptr 2 0) (.clo 58 [] [(.ptr 2 0)]) (iv x8) (iv x9) (iv x11) [(Zj (Zk.mk zl zp z6 zd zh (Zi.mk z1 z2)) zn zb), (Zq b1 zB zy), [(.p (.lst z1a (z10.map Zs)))]]) := by
 unfold Z3D
 refine zf (Zfu ..) ?_
 refine ze ?_
 refine ze ?_
 refine zi fun r1 hr1 => ?_
 obtain ⟨qr1, er1, exr1, rfl⟩ := Z18 ((ByteArray.mk #[45])) (zl) (zp) (z6) (zd) (zh) (z1) (z2) zn zb zu r1 hr1
 refine zc [0] (bv r1.1) [(Zj (Zk.mk zl r1.2 z6 zd zh (Zi.mk z1 z2)) zn zb), (Zq b1 zB zy), [(.p (.lst z1a (z10.map Zs)))]] er1 ?_
 refine za (r1.1) ?_ ?_
 ·refine ze ?_
  refine zi fun r2 hr2 => ?_
  obtain ⟨qr2, er2, exr2, rfl⟩ := Z1G ((Zk.mk zl r1.2 z6 zd zh (Zi.mk z1 z2))) zn zb zu r2 hr2
  refine zc [0] (iv r2) [(Zj (Zk.mk zl r1.2 z6 zd zh (Zi.mk z1 z2)) zn zb), (Zq b1 zB zy), [(.p (.lst z1a (z10.map Zs)))]] er2 ?_
  refine ze ?_
  refine zo (bv (r2 == 93)) ?_
  refine za ((r2 == 93)) ?_ ?_
  ·exact zk (Z3N (x1) (x5) (x8) (x9) (zl) (r1.2) (z6) (zd) (zh) (z1) (z2) (b1) (z10) zn zb zB zy z1a zu zQ zK)
  ·refine zo (bv (r2 == 91)) ?_
   refine za ((r2 == 91)) ?_ ?_
   ·exact zk (Z3N (x1) (x5) (x8) (x9) (zl) (r1.2) (z6) (zd) (zh) (z1) (z2) (b1) (z10) zn zb zB zy z1a zu zQ zK)
   ·refine zo (bv (r2 == 45)) ?_
    refine za ((r2 == 45)) ?_ ?_
    ·exact zk (Z3N (x1) (x5) (x8) (x9) (zl) (r1.2) (z6) (zd) (zh) (z1) (z2) (b1) (z10) zn zb zB zy z1a zu zQ zK)
    ·refine zo (bv (decide (r2 < 0))) ?_
     refine za ((decide (r2 < 0))) ?_ ?_
     ·exact zk (Z3N (x1) (x5) (x8) (x9) (zl) (r1.2) (z6) (zd) (zh) (z1) (z2) (b1) (z10) zn zb zB zy z1a zu zQ zK)
     ·exact zk (Z8K (x1) (x5) (x8) (x9) (x11) (zl) (r1.2) (z6) (zd) (zh) (z1) (z2) (b1) (z10) zn zb zB zy z1a zu zQ zK)
 ·exact zk (Z3L (x1) (x5) (x8) (x11) (x11) (zl) (r1.2) (z6) (zd) (zh) (z1) (z2) (b1) (z10) zn zb zB zy z1a zu zQ zK)
noncomputable def Z3C (x1 : Int) (x5 : Bool) (x8 : Int) (x9 : Int) (zl : List Int) (zp : Int) (z6 : Int) (zd : Int) (zh : List Zr) (z1 : Int) (z2 : Int) (z10 : List Z7) : Option (Z3 × Int × Int × Int) :=
 (Z3s zl zp z6 zd zh z1 z2).bind fun r1 =>
 (nilO (shrO (shrO (shrO (shrO r1.2.1.1)))) r1.2.1.2).bind fun a2 =>
 if ((!a2)) = true then
 ((Z2z r1.2.2.1 r1.2.1.2).bind fun r3 =>
 (Z41 r3.Set z10).bind fun r4 =>
 (Z1C ((Zk.mk zl r1.2.2.2.1 z6 zd zh (Zi.mk r1.2.2.2.2.1 r1.2.2.2.2.2)))).bind fun r5 =>
 if ((r5 == 45)) = true then
 ((ZT 22 r1.2.2.2.1 zl r1.2.2.2.2.1 r1.2.2.2.2.2).bind fun r6 =>
 Z19 x1 x5 x8 zl r6.1 z6 zd zh r6.2.1 r6.2.2 r4)
 else
 (Z19 x1 x5 x8 zl r1.2.2.2.1 z6 zd zh r1.2.2.2.2.1 r1.2.2.2.2.2 r4))
 else
 (Z3D x1 x5 x8 x9 r1.1 zl r1.2.2.2.1 z6 zd zh r1.2.2.2.2.1 r1.2.2.2.2.2 z10)
theorem Z6g (x1 : Int) (x5 : Bool) (x8 : Int) (x9 : Int) (zl : List Int) (zp : Int) (z6 : Int) (zd : Int) (zh : List Zr) (z1 : Int) (z2 : Int) (b1 : Z3) (z10 : List Z7) (zn : Own) (zb : Own) (zB : Own) (zy : Own) (z1a : Own) (zu : okApp zb = true) (zQ : okApp zB = true) (zK : okApp zy = true) : Sim (Z16 zl z6 zd zh zn zb) (Z3C x1 x5 x8 x9 zl zp z6 zd zh z1 z2 z10) (ZbZ 1 (.ptr 0 0) (iv x1) (.ptr 1 0) (bv x5) (.ptr 2 0) (.clo 58 [] [(.ptr 2 0)]) (iv x8) (iv x9) [(Zj (Zk.mk zl zp z6 zd zh (Zi.mk z1 z2)) zn zb), (Zq b1 zB zy), [(.p (.lst z1a (z10.map Zs)))]]) := by
 unfold Z3C
 refine zf (ZeY ..) ?_
 refine ze ?_
 refine zi fun r1 hr1 => ?_
 obtain ⟨qr1, er1, exr1, rfl⟩ := Z6R (zl) (zp) (z6) (zd) (zh) (z1) (z2) zn zb zu r1 hr1
 refine zc [0] (.p (.tup [(.v (.int .i64 r1.1)), (.lst r1.2.1.1 (r1.2.1.2.map Zs)), (.v (.bool r1.2.2.1))])) [(Zj (Zk.mk zl r1.2.2.2.1 z6 zd zh (Zi.mk r1.2.2.2.2.1 r1.2.2.2.2.2)) zn zb), (Zq b1 zB zy), [(.p (.lst z1a (z10.map Zs)))]] er1 ?_
 refine zo (iv r1.1) ?_
 refine zo (.p (.lst (shrO r1.2.1.1) (r1.2.1.2.map Zs))) ?_
 refine zo (bv r1.2.2.1) ?_
 refine ze ?_
 refine zi fun a2 ha2 => ?_
 refine zo (bv (!a2)) ?_ (Eq.trans (by kernel_rfl) (xnil_neq (P := PP) (t := 23) (c := .slice none 0 0) (e := Zs) (by kernel_rfl) ha2))
 refine za ((!a2)) ?_ ?_
 ·refine ze ?_
  refine zi fun r3 hr3 => ?_
  obtain ⟨qr3, er3, exr3, rfl⟩ := Z2I (r1.2.2.1) (r1.2.1.2) .sh r3 hr3
  refine zc [] (.p (.agg (ZE r3 .sh .sh))) [(Zj (Zk.mk zl r1.2.2.2.1 z6 zd zh (Zi.mk r1.2.2.2.2.1 r1.2.2.2.2.2)) zn zb), (Zq b1 zB zy), [(.p (.lst z1a (z10.map Zs)))]] er3 ?_
  refine zz (.ptr 3 0) [(Zj (Zk.mk zl r1.2.2.2.1 z6 zd zh (Zi.mk r1.2.2.2.2.1 r1.2.2.2.2.2)) zn zb), (Zq b1 zB zy), [(.p (.lst z1a (z10.map Zs)))], (Zq (Z3.mk 0 0 0 0 0 ([] : List Z7) ([] : List Z3)) .nl .nl)] ?_
  refine zt [(Zj (Zk.mk zl r1.2.2.2.1 z6 zd zh (Zi.mk r1.2.2.2.2.1 r1.2.2.2.2.2)) zn zb), (Zq b1 zB zy), [(.p (.lst z1a (z10.map Zs)))], (Zq r3 .sh .sh)] ?_
  refine ze ?_
  refine zo (.ptr 3 5) ?_
  refine zo (.p (.lst .sh (r3.Set.map Zs))) ?_
  refine zi fun r4 hr4 => ?_
  obtain ⟨qr4, er4, or4_0_0, exr4, rfl⟩ := Z6D (r3.Set) (z10) .sh z1a r4 hr4
  refine zv [2] (.p (.tup [])) [(Zj (Zk.mk zl r1.2.2.2.1 z6 zd zh (Zi.mk r1.2.2.2.2.1 r1.2.2.2.2.2)) zn zb), (Zq b1 zB zy), [(.p (.lst or4_0_0 (r4.map Zs)))], (Zq r3 .sh .sh)] er4 ?_
  refine ze ?_
  refine zi fun r5 hr5 => ?_
  obtain ⟨qr5, er5, exr5, rfl⟩ := Z1G ((Zk.mk zl r1.2.2.2.1 z6 zd zh (Zi.mk r1.2.2.2.2.1 r1.2.2.2.2.2))) zn zb zu r5 hr5
  refine zc [0] (iv r5) [(Zj (Zk.mk zl r1.2.2.2.1 z6 zd zh (Zi.mk r1.2.2.2.2.1 r1.2.2.2.2.2)) zn zb), (Zq b1 zB zy), [(.p (.lst or4_0_0 (r4.map Zs)))], (Zq r3 .sh .sh)] er5 ?_
  refine zo (bv (r5 == 45)) ?_
  refine za ((r5 == 45)) ?_ ?_
  ·refine ze ?_
   refine zo (.ptr 0 0) ?_
   refine zo (.ptr 0 1) ?_
   refine zo (iv r1.2.2.2.1) ?_
   refine zi fun r6 hr6 => ?_
   obtain ⟨qr6, er6, exr6, rfl⟩ := ZW (22) (r1.2.2.2.1) (zl) (r1.2.2.2.1) (z6) (zd) (zh) (r1.2.2.2.2.1) (r1.2.2.2.2.2) zn zb zu r6 hr6
   refine zc [0] (.p (.tup [])) [(Zj (Zk.mk zl r6.1 z6 zd zh (Zi.mk r6.2.1 r6.2.2)) zn zb), (Zq b1 zB zy), [(.p (.lst or4_0_0 (r4.map Zs)))], (Zq r3 .sh .sh)] er6 ?_
   exact zk (Z1E (x1) (x5) (x8) (zl) (r6.1) (z6) (zd) (zh) (r6.2.1) (r6.2.2) (b1) (r4) zn zb zB zy or4_0_0 zu zQ zK)
  ·exact zk (Z1E (x1) (x5) (x8) (zl) (r1.2.2.2.1) (z6) (zd) (zh) (r1.2.2.2.2.1) (r1.2.2.2.2.2) (b1) (r4) zn zb zB zy or4_0_0 zu zQ zK)
 ·exact zk (Z8Q (x1) (x5) (x8) (x9) (r1.1) (zl) (r1.2.2.2.1) (z6) (zd) (zh) (r1.2.2.2.2.1) (r1.2.2.2.2.2) (b1) (z10) zn zb zB zy z1a zu zQ zK)
noncomputable def Z2X (x1 : Int) (x5 : Bool) (x8 : Int) (zl : List Int) (zp : Int) (z6 : Int) (zd : Int) (zh : List Zr) (z1 : Int) (z2 : Int) (z10 : List Z7) : Option (Z3 × Int × Int × Int) :=
 (Z1C ((Zk.mk zl zp z6 zd zh (Zi.mk z1 z2)))).bind fun r1 =>
 if ((r1 == (-1))) = true then
 ((ZT 22 x1 zl z1 z2).bind fun r2 =>
 Z19 x1 x5 x8 zl r2.1 z6 zd zh r2.2.1 r2.2.2 z10)
 else
 (if ((r1 == 93)) = true then
 (if ((x8 == 0)) = true then
 ((ZT 22 x1 zl z1 z2).bind fun r3 =>
 Z19 x1 x5 x8 zl r3.1 z6 zd zh r3.2.1 r3.2.2 z10)
 else
 (Z4E x5 zl zp z1 z2 z10))
 else
 (if ((r1 == 91)) = true then
 (if ((r1 == 91)) = true then
 ((ZT 22 zp zl z1 z2).bind fun r4 =>
 Z19 x1 x5 x8 zl r4.1 z6 zd zh r4.2.1 r4.2.2 z10)
 else
 (Z3C x1 x5 x8 zp zl zp z6 zd zh z1 z2 z10))
 else
 (if ((r1 == 45)) = true then
 ((ZT 22 zp zl z1 z2).bind fun r5 =>
 Z19 x1 x5 x8 zl r5.1 z6 zd zh r5.2.1 r5.2.2 z10)
 else
 (Z3C x1 x5 x8 zp zl zp z6 zd zh z1 z2 z10))))
theorem Z96 (x1 : Int) (x5 : Bool) (x8 : Int) (zl : List Int) (zp : Int) (z6 : Int) (zd : Int) (zh : List Zr) (z1 : Int) (z2 : Int) (b1 : Z3) (z10 : List Z7) (zn : Own) (zb : Own) (zB : Own) (zy : Own) (z1a : Own) (zu : okApp zb = true) (zQ : okApp zB = true) (zK : okApp zy = true) : Sim (Z16 zl z6 zd zh zn zb) (Z2X x1 x5 x8 zl zp z6 zd zh z1 z2 z10) (Zer 1 (.ptr 0 0) (iv x1) (.ptr 1 0) (bv x5) (.ptr 2 0) (.clo 58 [] [(.ptr 2 0)]) (iv x8) [(Zj (Zk.mk zl zp z6 zd zh (Zi.mk z1 z2)) zn zb), (Zq b1 zB zy), [(.p (.lst z1a (z10.map Zs)))]]) := by
 unfold Z2X
 refine zf (Zga ..) ?_
 refine ze ?_
 refine zo (.ptr 0 0) ?_
 refine zo (.ptr 0 1) ?_
 refine zo (iv zp) ?_
 refine ze ?_
 refine zi fun r1 hr1 => ?_
 obtain ⟨qr1, er1, exr1, rfl⟩ := Z1G ((Zk.mk zl zp z6 zd zh (Zi.mk z1 z2))) zn zb zu r1 hr1
 refine zc [0] (iv r1) [(Zj (Zk.mk zl zp z6 zd zh (Zi.mk z1 z2)) zn zb), (Zq b1 zB zy), [(.p (.lst z1a (z10.map Zs)))]] er1 ?_
 refine ze ?_
 refine ze ?_
 refine zo (bv (r1 == (-1))) ?_
 refine za ((r1 == (-1))) ?_ ?_
 ·refine ze ?_
  refine zi fun r2 hr2 => ?_
  obtain ⟨qr2, er2, exr2, rfl⟩ := ZW (22) (x1) (zl) (zp) (z6) (zd) (zh) (z1) (z2) zn zb zu r2 hr2
  refine zc [0] (.p (.tup [])) [(Zj (Zk.mk zl r2.1 z6 zd zh (Zi.mk r2.2.1 r2.2.2)) zn zb), (Zq b1 zB zy), [(.p (.lst z1a (z10.map Zs)))]] er2 ?_
  exact zk (Z1E (x1) (x5) (x8) (zl) (r2.1) (z6) (zd) (zh) (r2.2.1) (r2.2.2) (b1) (z10) zn zb zB zy z1a zu zQ zK)
 ·refine ze ?_
  refine zo (bv (r1 == 93)) ?_
  refine za ((r1 == 93)) ?_ ?_
  ·refine ze ?_
   refine zo (bv (x8 == 0)) ?_
   refine za ((x8 == 0)) ?_ ?_
   ·refine ze ?_
    refine zi fun r3 hr3 => ?_
    obtain ⟨qr3, er3, exr3, rfl⟩ := ZW (22) (x1) (zl) (zp) (z6) (zd) (zh) (z1) (z2) zn zb zu r3 hr3
    refine zc [0] (.p (.tup [])) [(Zj (Zk.mk zl r3.1 z6 zd zh (Zi.mk r3.2.1 r3.2.2)) zn zb), (Zq b1 zB zy), [(.p (.lst z1a (z10.map Zs)))]] er3 ?_
    exact zk (Z1E (x1) (x5) (x8) (zl) (r3.1) (z6) (zd) (zh) (r3.2.1) (r3.2.2) (b1) (z10) zn zb zB zy z1a zu zQ zK)
   ·exact zk (Z8N (x5) (zl) (zp) (z6) (zd) (zh) (z1) (z2) (b1) (z10) zn zb zB zy z1a zu zQ zK)
  ·refine ze ?_
   refine zo (bv (r1 == 91)) ?_
   refine za ((r1 == 91)) ?_ ?_
   ·refine za ((r1 == 91)) ?_ ?_
    ·refine ze ?_
     refine zi fun r4 hr4 => ?_
     obtain ⟨qr4, er4, exr4, rfl⟩ := ZW (22) (zp) (zl) (zp) (z6) (zd) (zh) (z1) (z2) zn zb zu r4 hr4
     refine zc [0] (.p (.tup [])) [(Zj (Zk.mk zl r4.1 z6 zd zh (Zi.mk r4.2.1 r4.2.2)) zn zb), (Zq b1 zB zy), [(.p (.lst z1a (z10.map Zs)))]] er4 ?_
     exact zk (Z1E (x1) (x5) (x8) (zl) (r4.1) (z6) (zd) (zh) (r4.2.1) (r4.2.2) (b1) (z10) zn zb zB zy z1a zu zQ zK)
    ·exact zk (Z6g (x1) (x5) (x8) (zp) (zl) (zp) (z6) (zd) (zh) (z1) (z2) (b1) (z10) zn zb zB zy z1a zu zQ zK)
   ·refine ze ?_
    refine zo (bv (r1 == 45)) ?_
    refine za ((r1 == 45)) ?_ ?_
    ·refine ze ?_
     refine zi fun r5 hr5 => ?_
     obtain ⟨qr5, er5, exr5, rfl⟩ := ZW (22) (zp) (zl) (zp) (z6) (zd) (zh) (z1) (z2) zn zb zu r5 hr5
     refine zc [0] (.p (.tup [])) [(Zj (Zk.mk zl r5.1 z6 zd zh (Zi.mk r5.2.1 r5.2.2)) zn zb), (Zq b1 zB zy), [(.p (.lst z1a (z10.map Zs)))]] er5 ?_
     exact zk (Z1E (x1) (x5) (x8) (zl) (r5.1) (z6) (zd) (zh) (r5.2.1) (r5.2.2) (b1) (z10) zn zb zB zy z1a zu zQ zK)
    ·exact zk (Z6g (x1) (x5) (x8) (zp) (zl) (zp) (z6) (zd) (zh) (z1) (z2) (b1) (z10) zn zb zB zy z1a zu zQ zK)
noncomputable def Z5C (zp : Int) (z1 : Int) (z2 : Int) : Option (Z3 × Int × Int × Int) :=
 some ((Z3.mk 0 0 0 0 0 ([] : List Z7) ([] : List Z3)), zp, z1, z2)
theorem Z8S (zl : List Int) (zp : Int) (z6 : Int) (zd : Int) (zh : List Zr) (z1 : Int) (z2 : Int) (b1 : Z3) (zn : Own) (zb : Own) (zB : Own) (zy : Own) (zu : okApp zb = true) (zQ : okApp zB = true) (zK : okApp zy = true) : Sim (Z16 zl z6 zd zh zn zb) (Z5C zp z1 z2) (Zdh 1 (.ptr 1 0) [(Zj (Zk.mk zl zp z6 zd zh (Zi.mk z1 z2)) zn zb), (Zq b1 zB zy)]) := by
 unfold Z5C
 refine zf (Zf5 ..) ?_
 refine ze ?_
 refine zo (.p (.agg (ZE (Z3.mk 0 0 0 0 0 ([] : List Z7) ([] : List Z3)) .nl .nl))) ?_
 refine zt [(Zj (Zk.mk zl zp z6 zd zh (Zi.mk z1 z2)) zn zb), (Zq (Z3.mk 0 0 0 0 0 ([] : List Z7) ([] : List Z3)) .nl .nl)] ?_
 exact zr ((.p (.agg (ZE (Z3.mk 0 0 0 0 0 ([] : List Z7) ([] : List Z3)) .sh .sh))), [(Zj (Zk.mk zl zp z6 zd zh (Zi.mk z1 z2)) zn zb), (Zq (Z3.mk 0 0 0 0 0 ([] : List Z7) ([] : List Z3)) .nl .nl)]) ⟨_, rfl⟩
noncomputable def Z3S (x1 : Int) (x5 : Bool) (x8 : Int) (zl : List Int) (zp : Int) (z6 : Int) (zd : Int) (zh : List Zr) (z1 : Int) (z2 : Int) (z10 : List Z7) : Option (Z3 × Int × Int × Int) :=
 if ((z1 == 0)) = true then
 (Z2X x1 x5 x8 zl zp z6 zd zh z1 z2 z10)
 else
 (Z5C zp z1 z2)
theorem Z9f (x1 : Int) (x5 : Bool) (x8 : Int) (zl : List Int) (zp : Int) (z6 : Int) (zd : Int) (zh : List Zr) (z1 : Int) (z2 : Int) (b1 : Z3) (z10 : List Z7) (zn : Own) (zb : Own) (zB : Own) (zy : Own) (z1a : Own) (zu : okApp zb = true) (zQ : okApp zB = true) (zK : okApp zy = true) : Sim (Z16 zl z6 zd zh zn zb) (Z3S x1 x5 x8 zl zp z6 zd zh z1 z2 z10) (Zbm 1 (.ptr 0 0) (iv x1) (.ptr 1 0) (bv x5) (.ptr 2 0) (.clo 58 [] [(.ptr 2 0)]) (iv x8) [(Zj (Zk.mk zl zp z6 zd zh (Zi.mk z1 z2)) zn zb), (Zq b1 zB zy), [(.p (.lst z1a (z10.map Zs)))]]) := by
 unfold Z3S
 refine zf (Zgs ..) ?_
 refine ze ?_
 refine zo (.ptr 0 0) ?_
 refine zo (.ptr 0 5) ?_
 refine zo (.ptr 0 5) ?_
 refine zo (iv z1) ?_
 refine zo (bv (z1 == 0)) ?_
 refine za ((z1 == 0)) ?_ ?_
 ·exact zk (Z96 (x1) (x5) (x8) (zl) (zp) (z6) (zd) (zh) (z1) (z2) (b1) (z10) zn zb zB zy z1a zu zQ zK)
 ·exact zk (Z8S (zl) (zp) (z6) (zd) (zh) (z1) (z2) (b1) zn zb zB zy zu zQ zK)
theorem Z6r (x1 : Int) (x5 : Bool) (x8 : Int) (zl : List Int) (zp : Int) (z6 : Int) (zd : Int) (zh : List Zr) (z1 : Int) (z2 : Int) (z10 : List Z7) {r} (h : Z3S x1 x5 x8 zl zp z6 zd zh z1 z2 z10 = some r) : Z2H x1 x5 x8 zl zp z6 zd zh z1 z2 z10 = some r :=
 pick_of (fun _ _ ha hb => RRun.uniq (Z7K _ _ _ _ _ _) (ha default .ex .ex .ex .ex .ex rfl rfl rfl) (hb default .ex .ex .ex .ex .ex rfl rfl rfl)) (fun b1 zn zb zB zy z1a zu zQ zK => Z9f x1 x5 x8 zl zp z6 zd zh z1 z2 b1 z10 zn zb zB zy z1a zu zQ zK r h)
noncomputable def Z3n (x2 : Int) (x5 : Int) (zl : List Int) (zp : Int) (z6 : Int) (zd : Int) (zh : List Zr) (z1 : Int) (z2 : Int) : Option (Int × (Own × (List Z7)) × Bool × Int × Int × Int) :=
 (Z4B x2 x5 zl zp z6 zd zh z1 z2).bind fun r1 =>
 some (r1.1, (.nl, ([] : List Z7)), false, r1.2.1, r1.2.2.1, r1.2.2.2)
theorem Z8D (x2 : Int) (x5 : Int) (zl : List Int) (zp : Int) (z6 : Int) (zd : Int) (zh : List Zr) (z1 : Int) (z2 : Int) (zn : Own) (zb : Own) (zu : okApp zb = true) : Sim (Z2w zl z6 zd zh zn zb) (Z3n x2 x5 zl zp z6 zd zh z1 z2) (Zd5 1 (.ptr 0 0) (iv x2) (iv x5) [(Zj (Zk.mk zl zp z6 zd zh (Zi.mk z1 z2)) zn zb)]) := by
 unfold Z3n
 refine zf (Zfl ..) ?_
 refine ze ?_
 refine zi fun r1 hr1 => ?_
 obtain ⟨qr1, er1, exr1, rfl⟩ := Z7r (x2) (x5) (zl) (zp) (z6) (zd) (zh) (z1) (z2) zn zb zu r1 hr1
 refine zc [0] (iv r1.1) [(Zj (Zk.mk zl r1.2.1 z6 zd zh (Zi.mk r1.2.2.1 r1.2.2.2)) zn zb)] er1 ?_
 exact zr ((.p (.tup [(.v (.int .i64 r1.1)), (.lst .nl []), (.v (.bool false))])), [(Zj (Zk.mk zl r1.2.1 z6 zd zh (Zi.mk r1.2.2.1 r1.2.2.2)) zn zb)]) ⟨_, rfl⟩
noncomputable def Z4y (x2 : Int) (x5 : Int) (zl : List Int) (zp : Int) (z6 : Int) (zd : Int) (zh : List Zr) (z1 : Int) (z2 : Int) : Option (Int × (Own × (List Z7)) × Bool × Int × Int × Int) :=
 (Z20 zl zp).bind fun r1 =>
 (Z4G x2).bind fun r2 =>
 (nilO (shrO r2.1) r2.2).bind fun a3 =>
 if ((!a3)) = true then
 (some (0, ((shrO r2.1), r2.2), (decide (x2 < 97)), r1.2, z1, z2))
 else
 (Z3n x2 x5 zl r1.2 z6 zd zh z1 z2)
theorem Z8L (x2 : Int) (x5 : Int) (zl : List Int) (zp : Int) (z6 : Int) (zd : Int) (zh : List Zr) (z1 : Int) (z2 : Int) (zn : Own) (zb : Own) (zu : okApp zb = true) : Sim (Z2w zl z6 zd zh zn zb) (Z4y x2 x5 zl zp z6 zd zh z1 z2) (Zeo 1 (.ptr 0 0) (iv x2) (iv x5) [(Zj (Zk.mk zl zp z6 zd zh (Zi.mk z1 z2)) zn zb)]) := by
 unfold Z4y
 refine zf (ZgF ..) ?_
 refine ze ?_
 refine zi fun r1 hr1 => ?_
 obtain ⟨qr1, er1, exr1, rfl⟩ := Z2l (zl) (zp) (z6) (zd) (zh) (z1) (z2) zn zb zu r1 hr1
 refine zc [0] (iv r1.1) [(Zj (Zk.mk zl r1.2 z6 zd zh (Zi.mk z1 z2)) zn zb)] er1 ?_
 refine ze ?_
 refine zi fun r2 hr2 => ?_
 obtain ⟨qr2, er2, exr2, rfl⟩ := Z6l (x2) r2 hr2
 refine zc [] (.p (.lst r2.1 (r2.2.map Zs))) [(Zj (Zk.mk zl r1.2 z6 zd zh (Zi.mk z1 z2)) zn zb)] er2 ?_
 refine ze ?_
 refine zi fun a3 ha3 => ?_
 refine zo (bv (!a3)) ?_ (Eq.trans (by kernel_rfl) (xnil_neq (P := PP) (t := 23) (c := .slice none 0 0) (e := Zs) (by kernel_rfl) ha3))
 refine za ((!a3)) ?_ ?_
 ·refine ze ?_
  refine zo (bv (decide (x2 < 97))) ?_
  exact zr ((.p (.tup [(.v (.int .i64 0)), (.lst (shrO r2.1) (r2.2.map Zs)), (.v (.bool (decide (x2 < 97))))])), [(Zj (Zk.mk zl r1.2 z6 zd zh (Zi.mk z1 z2)) zn zb)]) ⟨_, rfl⟩
 ·exact zk (Z8D (x2) (x5) (zl) (r1.2) (z6) (zd) (zh) (z1) (z2) zn zb zu)
noncomputable def Z4x (x5 : Int) (zl : List Int) (zp : Int) (z6 : Int) (zd : Int) (zh : List Zr) (z1 : Int) (z2 : Int) : Option (Int × (Own × (List Z7)) × Bool × Int × Int × Int) :=
 (Z1C ((Zk.mk zl zp z6 zd zh (Zi.mk z1 z2)))).bind fun r1 =>
 if ((decide (r1 < 0))) = true then
 ((ZT 21 x5 zl z1 z2).bind fun r2 =>
 some (0, (.nl, ([] : List Z7)), false, r2.1, r2.2.1, r2.2.2))
 else
 (Z4y r1 x5 zl zp z6 zd zh z1 z2)
theorem Z8X (x5 : Int) (zl : List Int) (zp : Int) (z6 : Int) (zd : Int) (zh : List Zr) (z1 : Int) (z2 : Int) (zn : Own) (zb : Own) (zu : okApp zb = true) : Sim (Z2w zl z6 zd zh zn zb) (Z4x x5 zl zp z6 zd zh z1 z2) (Zex 1 (.ptr 0 0) (iv x5) [(Zj (Zk.mk zl zp z6 zd zh (Zi.mk z1 z2)) zn zb)]) := by
 unfold Z4x
 refine zf (ZfU ..) ?_
 refine ze ?_
 refine zi fun r1 hr1 => ?_
 obtain ⟨qr1, er1, exr1, rfl⟩ := Z1G ((Zk.mk zl zp z6 zd zh (Zi.mk z1 z2))) zn zb zu r1 hr1
 refine zc [0] (iv r1) [(Zj (Zk.mk zl zp z6 zd zh (Zi.mk z1 z2)) zn zb)] er1 ?_
 refine ze ?_
 refine zo (bv (decide (r1 < 0))) ?_
 refine za ((decide (r1 < 0))) ?_ ?_
 ·refine ze ?_
  refine zi fun r2 hr2 => ?_
  obtain ⟨qr2, er2, exr2, rfl⟩ := ZW (21) (x5) (zl) (zp) (z6) (zd) (zh) (z1) (z2) zn zb zu r2 hr2
  refine zc [0] (.p (.tup [])) [(Zj (Zk.mk zl r2.1 z6 zd zh (Zi.mk r2.2.1 r2.2.2)) zn zb)] er2 ?_
  refine ze ?_
  exact zr ((.p (.tup [(.v (.int .i64 0)), (.lst .nl []), (.v (.bool false))])), [(Zj (Zk.mk zl r2.1 z6 zd zh (Zi.mk r2.2.1 r2.2.2)) zn zb)]) ⟨_, rfl⟩
 ·exact zk (Z8L (r1) (x5) (zl) (zp) (z6) (zd) (zh) (z1) (z2) zn zb zu)
noncomputable def Z4g (zl : List Int) (zp : Int) (z6 : Int) (zd : Int) (zh : List Zr) (z1 : Int) (z2 : Int) : Option (Int × (Own × (List Z7)) × Bool × Int × Int × Int) :=
 (Z20 zl zp).bind fun r1 =>
 if ((r1.1 != 92)) = true then
 (some (r1.1, (.nl, ([] : List Z7)), false, r1.2, z1, z2))
 else
 (Z4x zp zl r1.2 z6 zd zh z1 z2)
theorem Z9R (zl : List Int) (zp : Int) (z6 : Int) (zd : Int) (zh : List Zr) (z1 : Int) (z2 : Int) (zn : Own) (zb : Own) (zu : okApp zb = true) : Sim (Z2w zl z6 zd zh zn zb) (Z4g zl zp z6 zd zh z1 z2) (EE 60 [(.ptr 0 0)] [(Zj (Zk.mk zl zp z6 zd zh (Zi.mk z1 z2)) zn zb)]) := by
 unfold Z4g
 refine zf (ZhV ..) ?_
 refine ze ?_
 refine ze ?_
 refine zo (.ptr 0 0) ?_
 refine zo (.ptr 0 1) ?_
 refine zo (iv zp) ?_
 refine ze ?_
 refine zi fun r1 hr1 => ?_
 obtain ⟨qr1, er1, exr1, rfl⟩ := Z2l (zl) (zp) (z6) (zd) (zh) (z1) (z2) zn zb zu r1 hr1
 refine zc [0] (iv r1.1) [(Zj (Zk.mk zl r1.2 z6 zd zh (Zi.mk z1 z2)) zn zb)] er1 ?_
 refine ze ?_
 refine zo (bv (r1.1 != 92)) ?_
 refine za ((r1.1 != 92)) ?_ ?_
 ·refine ze ?_
  exact zr ((.p (.tup [(.v (.int .i64 r1.1)), (.lst .nl []), (.v (.bool false))])), [(Zj (Zk.mk zl r1.2 z6 zd zh (Zi.mk z1 z2)) zn zb)]) ⟨_, rfl⟩
 ·exact zk (Z8X (zp) (zl) (r1.2) (z6) (zd) (zh) (z1) (z2) zn zb zu)
theorem Z6V (zl : List Int) (zp : Int) (z6 : Int) (zd : Int) (zh : List Zr) (z1 : Int) (z2 : Int) {r} (h : Z4g zl zp z6 zd zh z1 z2 = some r) : Z3s zl zp z6 zd zh z1 z2 = some r :=
 pick_of (fun _ _ ha hb => RRun.uniq (Zaf _ _ _ _ _ _) (ha .ex .ex rfl) (hb .ex .ex rfl)) (fun zn zb zu => Z9R zl zp z6 zd zh z1 z2 zn zb zu r h)
end Go.Proofs.YtadodmjdkphddaaDoor.N2
end
