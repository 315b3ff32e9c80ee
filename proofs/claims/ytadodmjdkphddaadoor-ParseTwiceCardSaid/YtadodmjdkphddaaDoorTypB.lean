/- The functions' typed texts. No condition. -/
import Derived.Test.YtadodmjdkphddaaDoorTypA

section
set_option linter.unusedSimpArgs false
set_option linter.unusedVariables false
namespace Go.Proofs.YtadodmjdkphddaaDoor.N2
open Go Go.Abs
set_option linter.unusedVariables false
set_option maxRecDepth 100000
noncomputable def Z3m (x0 : ByteArray) : Option (Bool) :=
 (Z3S x0).bind fun r1 =>
 (Z3S x0).bind fun r2 =>
 if (((r1.2.Code == r2.2.Code) && ((r1.2.At == r2.2.At) && true))) = true then
 (if ((r1.1.Groups == r2.1.Groups)) = true then
 (if ((r1.1.Fold == r2.1.Fold)) = true then
 ((Z2D r1.1.Root r2.1.Root).bind fun r3 =>
 some (r3))
 else
 (some (false)))
 else
 (some (false)))
 else
 (some (false))
theorem Z7v (x0 : ByteArray) : Sim (Z28) (Z3m x0) (ZeQ 0 (.p (.v (.string x0))) []) := by
 unfold Z3m
 refine zf (ZgC ..) ?_
 refine ze ?_
 refine zi fun r1 hr1 => ?_
 obtain ⟨qr1, er1, exr1, rfl⟩ := Z4J (x0) r1 hr1
 refine zc [] (.p (.tup [(.agg (Z1j r1.1 .sh .sh)), (.agg (Z11 r1.2))])) [] er1 ?_
 refine zo (.p (.agg (Z1j r1.1 .sh .sh))) ?_
 refine zo (.p (.agg (Z11 r1.2))) ?_
 refine zz (.ptr 0 0) [(Zv (ZE.mk (Z8.mk 0 0 0 0 0 ([] : List Z7) ([] : List Z8)) 0 false) .nl .nl)] ?_
 refine zz (.ptr 1 0) [(Zv (ZE.mk (Z8.mk 0 0 0 0 0 ([] : List Z7) ([] : List Z8)) 0 false) .nl .nl), (ZC (Zj.mk 0 0))] ?_
 refine zt [(Zv r1.1 .sh .sh), (ZC (Zj.mk 0 0))] ?_
 refine zt [(Zv r1.1 .sh .sh), (ZC r1.2)] ?_
 refine ze ?_
 refine zi fun r2 hr2 => ?_
 obtain ⟨qr2, er2, exr2, rfl⟩ := Z4J (x0) r2 hr2
 refine zc [] (.p (.tup [(.agg (Z1j r2.1 .sh .sh)), (.agg (Z11 r2.2))])) [(Zv r1.1 .sh .sh), (ZC r1.2)] er2 ?_
 refine zo (.p (.agg (Z1j r2.1 .sh .sh))) ?_
 refine zo (.p (.agg (Z11 r2.2))) ?_
 refine zz (.ptr 2 0) [(Zv r1.1 .sh .sh), (ZC r1.2), (Zv (ZE.mk (Z8.mk 0 0 0 0 0 ([] : List Z7) ([] : List Z8)) 0 false) .nl .nl)] ?_
 refine zz (.ptr 3 0) [(Zv r1.1 .sh .sh), (ZC r1.2), (Zv (ZE.mk (Z8.mk 0 0 0 0 0 ([] : List Z7) ([] : List Z8)) 0 false) .nl .nl), (ZC (Zj.mk 0 0))] ?_
 refine zt [(Zv r1.1 .sh .sh), (ZC r1.2), (Zv r2.1 .sh .sh), (ZC (Zj.mk 0 0))] ?_
 refine zt [(Zv r1.1 .sh .sh), (ZC r1.2), (Zv r2.1 .sh .sh), (ZC r2.2)] ?_
 refine ze ?_
 refine zo (.p (.agg (Z11 r1.2))) ?_
 refine zo (.p (.agg (Z11 r2.2))) ?_
 refine zo (bv ((r1.2.Code == r2.2.Code) && ((r1.2.At == r2.2.At) && true))) ?_ (Eq.trans (b := xbin PP .eql 32 (.p (.agg (Z11 r1.2))) (.p (.agg (Z11 r2.2)))) (by kernel_rfl) (xeq_eql (by kernel_rfl) (by kernel_rfl) (by kernel_rfl) (by kernel_rfl) (by kernel_rfl)))
 refine za (((r1.2.Code == r2.2.Code) && ((r1.2.At == r2.2.At) && true))) ?_ ?_
 ·refine zo (.ptr 0 7) ?_
  refine zo (iv r1.1.Groups) ?_
  refine zo (.ptr 2 7) ?_
  refine zo (iv r2.1.Groups) ?_
  refine zo (bv (r1.1.Groups == r2.1.Groups)) ?_
  refine za ((r1.1.Groups == r2.1.Groups)) ?_ ?_
  ·refine zo (.ptr 0 8) ?_
   refine zo (bv r1.1.Fold) ?_
   refine zo (.ptr 2 8) ?_
   refine zo (bv r2.1.Fold) ?_
   refine zo (bv (r1.1.Fold == r2.1.Fold)) ?_
   refine za ((r1.1.Fold == r2.1.Fold)) ?_ ?_
   ·refine zo (.ptr 0 0) ?_
    refine zo (.p (.agg (ZD r1.1.Root .sh .sh))) ?_
    refine zo (.ptr 2 0) ?_
    refine zo (.p (.agg (ZD r2.1.Root .sh .sh))) ?_
    refine zi fun r3 hr3 => ?_
    obtain ⟨qr3, er3, exr3, rfl⟩ := Z6f (r1.1.Root) (r2.1.Root) .sh .sh .sh .sh r3 hr3
    refine zc [] (bv r3) [(Zv r1.1 .sh .sh), (ZC r1.2), (Zv r2.1 .sh .sh), (ZC r2.2)] er3 ?_
    exact zr ((bv r3), [(Zv r1.1 .sh .sh), (ZC r1.2), (Zv r2.1 .sh .sh), (ZC r2.2)]) ⟨_, rfl⟩
   ·exact zr ((bv false), [(Zv r1.1 .sh .sh), (ZC r1.2), (Zv r2.1 .sh .sh), (ZC r2.2)]) ⟨_, rfl⟩
  ·exact zr ((bv false), [(Zv r1.1 .sh .sh), (ZC r1.2), (Zv r2.1 .sh .sh), (ZC r2.2)]) ⟨_, rfl⟩
 ·exact zr ((bv false), [(Zv r1.1 .sh .sh), (ZC r1.2), (Zv r2.1 .sh .sh), (ZC r2.2)]) ⟨_, rfl⟩
noncomputable def Z3n (x0 : ByteArray) : Option (Bool) :=
 if ((decide (300 < (x0.size : Int)))) = true then
 (some (true))
 else
 (Z3m x0)
theorem Z7u (x0 : ByteArray) : Sim (Z28) (Z3n x0) (Zf0 0 (.p (.v (.string x0))) []) := by
 unfold Z3n
 refine zf (ZgB ..) ?_
 refine ze ?_
 refine zo (iv (x0.size : Int)) ?_
 refine zo (bv (decide (300 < (x0.size : Int)))) ?_
 refine za ((decide (300 < (x0.size : Int)))) ?_ ?_
 ·refine ze ?_
  exact zr ((bv true), []) ⟨_, rfl⟩
 ·exact zk (Z7v (x0))
noncomputable def Z3U (x0 : ByteArray) : Option (Bool) :=
 (Z4S).bind fun r1 =>
 if ((!r1)) = true then
 (some (false))
 else
 (Z3n x0)
theorem Z8b (x0 : ByteArray) : Sim (Z28) (Z3U x0) (EE 8 [(.p (.v (.string x0)))] []) := by
 unfold Z3U
 refine zf (Zio ..) ?_
 refine ze ?_
 refine ze ?_
 refine zi fun r1 hr1 => ?_
 obtain ⟨qr1, er1, exr1, rfl⟩ := Z9k  r1 hr1
 refine zc [] (bv r1) [] er1 ?_
 refine zo (bv (!r1)) ?_
 refine za ((!r1)) ?_ ?_
 ·refine ze ?_
  exact zr ((bv false), []) ⟨_, rfl⟩
 ·exact zk (Z7u (x0))
theorem Z8k (x0 : ByteArray) {r} (h : Z3U x0 = some r) : Z57 x0 = some r :=
 pick_of (fun _ _ ha hb => RRun.uniq (Z8B) (ha ) (hb )) (Z8b x0 r h)
noncomputable def Z2e  : Option (Bool) :=
 some (false)
theorem Z2I  : Sim (Z2G) (Z2e) (Z9J 0  []) := by
 unfold Z2e
 refine zf (Zfc ..) ?_
 refine ze ?_
 exact zr ((bv false), []) ⟨_, rfl⟩
noncomputable def Z5e (b3 : Zj) (b5 : Zj) (b7 : Zj) : Option (Bool) :=
 if (((b3.Code == 23) && ((b3.At == 2) && true))) = true then
 (if (((b5.Code == 20) && ((b5.At == 0) && true))) = true then
 (some (((b7.Code == 26) && ((b7.At == 0) && true))))
 else
 (some (false)))
 else
 (some (false))
theorem Z8l (b0 : ZE) (b1 : Zj) (b2 : ZE) (b3 : Zj) (b4 : ZE) (b5 : Zj) (b6 : ZE) (b7 : Zj) (zR : Own) (zM : Own) (z8g : Own) (z7x : Own) (z81 : Own) (z7B : Own) (z8c : Own) (z7y : Own) : Sim (Z2G) (Z5e b3 b5 b7) (ZdO 0 (.ptr 3 0) (.ptr 5 0) (.ptr 7 0) [(Zv b0 zR zM), (ZC b1), (Zv b2 z8g z7x), (ZC b3), (Zv b4 z81 z7B), (ZC b5), (Zv b6 z8c z7y), (ZC b7)]) := by
 unfold Z5e
 refine zf (Zgt ..) ?_
 refine ze ?_
 refine zo (.p (.agg (Z11 b3))) ?_
 refine zo (.p (.agg (Z11 (Zj.mk 23 2)))) ?_
 refine zo (bv ((b3.Code == 23) && ((b3.At == 2) && true))) ?_ (Eq.trans (b := xbin PP .eql 32 (.p (.agg (Z11 b3))) (.p (.agg (Z11 (Zj.mk 23 2))))) (by kernel_rfl) (xeq_eql (by kernel_rfl) (by kernel_rfl) (by kernel_rfl) (by kernel_rfl) (by kernel_rfl)))
 refine za (((b3.Code == 23) && ((b3.At == 2) && true))) ?_ ?_
 ·refine zo (.p (.agg (Z11 b5))) ?_
  refine zo (.p (.agg (Z11 (Zj.mk 20 0)))) ?_
  refine zo (bv ((b5.Code == 20) && ((b5.At == 0) && true))) ?_ (Eq.trans (b := xbin PP .eql 32 (.p (.agg (Z11 b5))) (.p (.agg (Z11 (Zj.mk 20 0))))) (by kernel_rfl) (xeq_eql (by kernel_rfl) (by kernel_rfl) (by kernel_rfl) (by kernel_rfl) (by kernel_rfl)))
  refine za (((b5.Code == 20) && ((b5.At == 0) && true))) ?_ ?_
  ·refine zo (.p (.agg (Z11 b7))) ?_
   refine zo (.p (.agg (Z11 (Zj.mk 26 0)))) ?_
   refine zo (bv ((b7.Code == 26) && ((b7.At == 0) && true))) ?_ (Eq.trans (b := xbin PP .eql 32 (.p (.agg (Z11 b7))) (.p (.agg (Z11 (Zj.mk 26 0))))) (by kernel_rfl) (xeq_eql (by kernel_rfl) (by kernel_rfl) (by kernel_rfl) (by kernel_rfl) (by kernel_rfl)))
   exact zr ((bv ((b7.Code == 26) && ((b7.At == 0) && true))), [(Zv b0 zR zM), (ZC b1), (Zv b2 z8g z7x), (ZC b3), (Zv b4 z81 z7B), (ZC b5), (Zv b6 z8c z7y), (ZC b7)]) ⟨_, rfl⟩
  ·exact zr ((bv false), [(Zv b0 zR zM), (ZC b1), (Zv b2 z8g z7x), (ZC b3), (Zv b4 z81 z7B), (ZC b5), (Zv b6 z8c z7y), (ZC b7)]) ⟨_, rfl⟩
 ·exact zr ((bv false), [(Zv b0 zR zM), (ZC b1), (Zv b2 z8g z7x), (ZC b3), (Zv b4 z81 z7B), (ZC b5), (Zv b6 z8c z7y), (ZC b7)]) ⟨_, rfl⟩
noncomputable def Z4Q  : Option (Bool) :=
 (Z3S ((ByteArray.mk #[97, 124, 98, 42, 63]))).bind fun r1 =>
 (Z3S ((ByteArray.mk #[97, 42, 42]))).bind fun r2 =>
 (Z3S ((ByteArray.mk #[40, 97]))).bind fun r3 =>
 (Z3S ((ByteArray.mk #[92, 49]))).bind fun r4 =>
 if ((r1.2.Code != 0)) = true then
 (Z2e)
 else
 (if ((r1.1.Root.Kind != 3)) = true then
 (Z2e)
 else
 (if (((r1.1.Root.Kids.length : Int) != 2)) = true then
 (Z2e)
 else
 ((lget r1.1.Root.Kids 1).bind fun a5 =>
 if ((a5.Kind != 4)) = true then
 (Z2e)
 else
 ((lget r1.1.Root.Kids 1).bind fun a6 =>
 if ((a6.Mode != 1)) = true then
 (Z2e)
 else
 (Z5e r2.2 r3.2 r4.2)))))
theorem Z99  : Sim (Z2G) (Z4Q) (EE 15 [] []) := by
 unfold Z4Q
 refine zf (Zi4 ..) ?_
 refine ze ?_
 refine ze ?_
 refine zi fun r1 hr1 => ?_
 obtain ⟨qr1, er1, exr1, rfl⟩ := Z4J ((ByteArray.mk #[97, 124, 98, 42, 63])) r1 hr1
 refine zc [] (.p (.tup [(.agg (Z1j r1.1 .sh .sh)), (.agg (Z11 r1.2))])) [] er1 ?_
 refine zo (.p (.agg (Z1j r1.1 .sh .sh))) ?_
 refine zo (.p (.agg (Z11 r1.2))) ?_
 refine zz (.ptr 0 0) [(Zv (ZE.mk (Z8.mk 0 0 0 0 0 ([] : List Z7) ([] : List Z8)) 0 false) .nl .nl)] ?_
 refine zz (.ptr 1 0) [(Zv (ZE.mk (Z8.mk 0 0 0 0 0 ([] : List Z7) ([] : List Z8)) 0 false) .nl .nl), (ZC (Zj.mk 0 0))] ?_
 refine zt [(Zv r1.1 .sh .sh), (ZC (Zj.mk 0 0))] ?_
 refine zt [(Zv r1.1 .sh .sh), (ZC r1.2)] ?_
 refine ze ?_
 refine zi fun r2 hr2 => ?_
 obtain ⟨qr2, er2, exr2, rfl⟩ := Z4J ((ByteArray.mk #[97, 42, 42])) r2 hr2
 refine zc [] (.p (.tup [(.agg (Z1j r2.1 .sh .sh)), (.agg (Z11 r2.2))])) [(Zv r1.1 .sh .sh), (ZC r1.2)] er2 ?_
 refine zo (.p (.agg (Z1j r2.1 .sh .sh))) ?_
 refine zo (.p (.agg (Z11 r2.2))) ?_
 refine zz (.ptr 2 0) [(Zv r1.1 .sh .sh), (ZC r1.2), (Zv (ZE.mk (Z8.mk 0 0 0 0 0 ([] : List Z7) ([] : List Z8)) 0 false) .nl .nl)] ?_
 refine zz (.ptr 3 0) [(Zv r1.1 .sh .sh), (ZC r1.2), (Zv (ZE.mk (Z8.mk 0 0 0 0 0 ([] : List Z7) ([] : List Z8)) 0 false) .nl .nl), (ZC (Zj.mk 0 0))] ?_
 refine zt [(Zv r1.1 .sh .sh), (ZC r1.2), (Zv r2.1 .sh .sh), (ZC (Zj.mk 0 0))] ?_
 refine zt [(Zv r1.1 .sh .sh), (ZC r1.2), (Zv r2.1 .sh .sh), (ZC r2.2)] ?_
 refine ze ?_
 refine zi fun r3 hr3 => ?_
 obtain ⟨qr3, er3, exr3, rfl⟩ := Z4J ((ByteArray.mk #[40, 97])) r3 hr3
 refine zc [] (.p (.tup [(.agg (Z1j r3.1 .sh .sh)), (.agg (Z11 r3.2))])) [(Zv r1.1 .sh .sh), (ZC r1.2), (Zv r2.1 .sh .sh), (ZC r2.2)] er3 ?_
 refine zo (.p (.agg (Z1j r3.1 .sh .sh))) ?_
 refine zo (.p (.agg (Z11 r3.2))) ?_
 refine zz (.ptr 4 0) [(Zv r1.1 .sh .sh), (ZC r1.2), (Zv r2.1 .sh .sh), (ZC r2.2), (Zv (ZE.mk (Z8.mk 0 0 0 0 0 ([] : List Z7) ([] : List Z8)) 0 false) .nl .nl)] ?_
 refine zz (.ptr 5 0) [(Zv r1.1 .sh .sh), (ZC r1.2), (Zv r2.1 .sh .sh), (ZC r2.2), (Zv (ZE.mk (Z8.mk 0 0 0 0 0 ([] : List Z7) ([] : List Z8)) 0 false) .nl .nl), (ZC (Zj.mk 0 0))] ?_
 refine zt [(Zv r1.1 .sh .sh), (ZC r1.2), (Zv r2.1 .sh .sh), (ZC r2.2), (Zv r3.1 .sh .sh), (ZC (Zj.mk 0 0))] ?_
 refine zt [(Zv r1.1 .sh .sh), (ZC r1.2), (Zv r2.1 .sh .sh), (ZC r2.2), (Zv r3.1 .sh .sh), (ZC r3.2)] ?_
 refine ze ?_
 refine zi fun r4 hr4 => ?_
 obtain ⟨qr4, er4, exr4, rfl⟩ := Z4J ((ByteArray.mk #[92, 49])) r4 hr4
 refine zc [] (.p (.tup [(.agg (Z1j r4.1 .sh .sh)), (.agg (Z11 r4.2))])) [(Zv r1.1 .sh .sh), (ZC r1.2), (Zv r2.1 .sh .sh), (ZC r2.2), (Zv r3.1 .sh .sh), (ZC r3.2)] er4 ?_
 refine zo (.p (.agg (Z1j r4.1 .sh .sh))) ?_
 refine zo (.p (.agg (Z11 r4.2))) ?_
 refine zz (.ptr 6 0) [(Zv r1.1 .sh .sh), (ZC r1.2), (Zv r2.1 .sh .sh), (ZC r2.2), (Zv r3.1 .sh .sh), (ZC r3.2), (Zv (ZE.mk (Z8.mk 0 0 0 0 0 ([] : List Z7) ([] : List Z8)) 0 false) .nl .nl)] ?_
 refine zz (.ptr 7 0) [(Zv r1.1 .sh .sh), (ZC r1.2), (Zv r2.1 .sh .sh), (ZC r2.2), (Zv r3.1 .sh .sh), (ZC r3.2), (Zv (ZE.mk (Z8.mk 0 0 0 0 0 ([] : List Z7) ([] : List Z8)) 0 false) .nl .nl), (ZC (Zj.mk 0 0))] ?_
 refine zt [(Zv r1.1 .sh .sh), (ZC r1.2), (Zv r2.1 .sh .sh), (ZC r2.2), (Zv r3.1 .sh .sh), (ZC r3.2), (Zv r4.1 .sh .sh), (ZC (Zj.mk 0 0))] ?_
 refine zt [(Zv r1.1 .sh .sh), (ZC r1.2), (Zv r2.1 .sh .sh), (ZC r2.2), (Zv r3.1 .sh .sh), (ZC r3.2), (Zv r4.1 .sh .sh), (ZC r4.2)] ?_
 refine ze ?_
 refine zo (.ptr 1 0) ?_
 refine zo (iv r1.2.Code) ?_
 refine zo (bv (r1.2.Code != 0)) ?_
 refine za ((r1.2.Code != 0)) ?_ ?_
 ·exact zk (Z2I )
 ·refine zo (.ptr 0 0) ?_
  refine zo (.ptr 0 0) ?_
  refine zo (iv r1.1.Root.Kind) ?_
  refine zo (bv (r1.1.Root.Kind != 3)) ?_
  refine za ((r1.1.Root.Kind != 3)) ?_ ?_
  ·exact zk (Z2I )
  ·refine zo (.ptr 0 0) ?_
   refine zo (.ptr 0 6) ?_
   refine zo (.p (.lst .sh (r1.1.Root.Kids.map ZI))) ?_
   refine zo (iv (r1.1.Root.Kids.length : Int)) ?_ (Eq.trans (by kernel_rfl) (xlen_of (P := PP) (t := 25) (d := 27) (by kernel_rfl) ZI .sh r1.1.Root.Kids))
   refine zo (bv ((r1.1.Root.Kids.length : Int) != 2)) ?_
   refine za (((r1.1.Root.Kids.length : Int) != 2)) ?_ ?_
   ·exact zk (Z2I )
   ·refine zo (.ptr 0 0) ?_
    refine zo (.ptr 0 6) ?_
    refine zo (.p (.lst .sh (r1.1.Root.Kids.map ZI))) ?_
    refine zi fun a5 ha5 => ?_
    refine zo (.cptr (ZD a5 .sh .sh)) ?_ (Eq.trans (by kernel_rfl) (xidx_of (o := .sh) (k := .i64) (n := 7) (e := ZI) (cs := Z2l) Z5T (fun _ => rfl) (by decide) ha5))
    refine zo (.cptr [(.v (.int .i64 a5.Kind)), (.v (.int .i64 a5.Lo)), (.v (.int .i64 a5.Hi)), (.v (.int .i64 a5.Mode)), (.v (.int .i64 a5.Ref)), (.lst .sh (a5.Set.map Zs)), (.lst .sh (a5.Kids.map ZI))]) ?_
    refine zo (iv a5.Kind) ?_
    refine zo (bv (a5.Kind != 4)) ?_
    refine za ((a5.Kind != 4)) ?_ ?_
    ·exact zk (Z2I )
    ·refine zo (.ptr 0 0) ?_
     refine zo (.ptr 0 6) ?_
     refine zo (.p (.lst .sh (r1.1.Root.Kids.map ZI))) ?_
     refine zi fun a6 ha6 => ?_
     refine zo (.cptr (ZD a6 .sh .sh)) ?_ (Eq.trans (by kernel_rfl) (xidx_of (o := .sh) (k := .i64) (n := 7) (e := ZI) (cs := Z2l) Z5T (fun _ => rfl) (by decide) ha6))
     refine zo (.cptr [(.v (.int .i64 a6.Mode)), (.v (.int .i64 a6.Ref)), (.lst .sh (a6.Set.map Zs)), (.lst .sh (a6.Kids.map ZI))]) ?_
     refine zo (iv a6.Mode) ?_
     refine zo (bv (a6.Mode != 1)) ?_
     refine za ((a6.Mode != 1)) ?_ ?_
     ·exact zk (Z2I )
     ·exact zk (Z8l (r1.1) (r1.2) (r2.1) (r2.2) (r3.1) (r3.2) (r4.1) (r4.2) .sh .sh .sh .sh .sh .sh .sh .sh)
theorem Z9j  {r} (h : Z4Q = some r) : Z4S = some r :=
 pick_of (fun _ _ ha hb => RRun.uniq (Z9H) (ha ) (hb )) (Z99  r h)
noncomputable def Z2X (z1N : List Int) (zQ : Int) (z1b : List Zr) (zG : Int) (zS : Int) (zK : Int) (zV : Int) (zU : Int) (zJ : Int) (zO : Int) (zN : List Z7) (zL : List Z8) (z12 : Bool) : Option (ZE × Zj) :=
 Z4E z1b ((z1b.length : Int)) 0 z1N zQ zG zS zK zV zU zJ zO zN zL z12
theorem Z69 (b0 : ZE) (b1 : Zj) (z1N : List Int) (z1H : Int) (zQ : Int) (z1w : Int) (z1b : List Zr) (zG : Int) (zS : Int) (zK : Int) (zV : Int) (zU : Int) (zJ : Int) (zO : Int) (zN : List Z7) (zL : List Z8) (z1n : Int) (z12 : Bool) (zR : Own) (zM : Own) (z26 : Own) (z15 : Own) (z10 : Own) (zX : Own) (z1t : okApp zR = true) (z1k : okApp zM = true) (z2f : okApp z15 = true) : Sim (Z29) (Z2X z1N zQ z1b zG zS zK zV zU zJ zO zN zL z12) (Zbt 0 (.ptr 0 0) (.ptr 1 0) (.ptr 2 0) (.ptr 3 0) [(Zv b0 zR zM), (ZC b1), (Zi (Zk.mk z1N z1H zQ z1w z1b (Zj.mk zG zS)) z26 z15), (Zv (ZE.mk (Z8.mk zK zV zU zJ zO zN zL) z1n z12) z10 zX)]) := by
 unfold Z2X
 refine zf (Zfl ..) ?_
 refine ze ?_
 refine zo (.ptr 2 0) ?_
 refine zo (.ptr 2 4) ?_
 refine zo (.p (.lst (shrO z15) (z1b.map Z1x))) ?_
 refine zo (iv (z1b.length : Int)) ?_ (Eq.trans (by kernel_rfl) (xlen_of (P := PP) (t := 56) (d := 62) (by kernel_rfl) Z1x (shrO z15) z1b))
 exact zk (Z8s (z1b) ((z1b.length : Int)) (0) (b0) (b1) (z1N) (z1H) (zQ) (z1w) (z1b) (zG) (zS) (zK) (zV) (zU) (zJ) (zO) (zN) (zL) (z1n) (z12) (shrO z15) zR zM z26 z15 z10 zX z1t z1k z2f)
noncomputable def Z5p (z1N : List Int) (z1H : Int) (zQ : Int) (z1b : List Zr) (zG : Int) (zS : Int) (zK : Int) (zV : Int) (zU : Int) (zJ : Int) (zO : Int) (zN : List Z7) (zL : List Z8) (z12 : Bool) : Option (ZE × Zj) :=
 (ZT 20 z1H z1N zG zS).bind fun r1 =>
 Z2X z1N zQ z1b r1.2.1 r1.2.2 zK zV zU zJ zO zN zL z12
theorem Zbi (b0 : ZE) (b1 : Zj) (z1N : List Int) (z1H : Int) (zQ : Int) (z1w : Int) (z1b : List Zr) (zG : Int) (zS : Int) (zK : Int) (zV : Int) (zU : Int) (zJ : Int) (zO : Int) (zN : List Z7) (zL : List Z8) (z1n : Int) (z12 : Bool) (zR : Own) (zM : Own) (z26 : Own) (z15 : Own) (z10 : Own) (zX : Own) (z1t : okApp zR = true) (z1k : okApp zM = true) (z2f : okApp z15 = true) : Sim (Z29) (Z5p z1N z1H zQ z1b zG zS zK zV zU zJ zO zN zL z12) (Zdo 0 (.ptr 0 0) (.ptr 1 0) (.ptr 2 0) (.ptr 3 0) [(Zv b0 zR zM), (ZC b1), (Zi (Zk.mk z1N z1H zQ z1w z1b (Zj.mk zG zS)) z26 z15), (Zv (ZE.mk (Z8.mk zK zV zU zJ zO zN zL) z1n z12) z10 zX)]) := by
 unfold Z5p
 refine zf (ZfC ..) ?_
 refine ze ?_
 refine zo (.ptr 2 0) ?_
 refine zo (.ptr 2 1) ?_
 refine zo (iv z1H) ?_
 refine zi fun r1 hr1 => ?_
 obtain ⟨qr1, er1, exr1, rfl⟩ := ZW (20) (z1H) (z1N) (z1H) (zQ) (z1w) (z1b) (zG) (zS) z26 z15 z2f r1 hr1
 refine zc [2] (.p (.tup [])) [(Zv b0 zR zM), (ZC b1), (Zi (Zk.mk z1N r1.1 zQ z1w z1b (Zj.mk r1.2.1 r1.2.2)) z26 z15), (Zv (ZE.mk (Z8.mk zK zV zU zJ zO zN zL) z1n z12) z10 zX)] er1 ?_
 exact zk (Z69 (b0) (b1) (z1N) (r1.1) (zQ) (z1w) (z1b) (r1.2.1) (r1.2.2) (zK) (zV) (zU) (zJ) (zO) (zN) (zL) (z1n) (z12) zR zM z26 z15 z10 zX z1t z1k z2f)
noncomputable def Z6b (x0 : ByteArray) : Option (ZE × Zj) :=
 (Z13 ((ByteArray.mk #[40, 63, 105, 41])) ((bytesI x0)) 0).bind fun r1 =>
 (Z2F ((bytesI x0)) r1.2 0 0 (([] : List Zr)) 0 0).bind fun r2 =>
 if ((r2.2.2.2.2.2.1 == 0)) = true then
 (if ((decide (r2.2.1 < ((bytesI x0).length : Int)))) = true then
 (Z5p ((bytesI x0)) r2.2.1 r2.2.2.1 r2.2.2.2.2.1 r2.2.2.2.2.2.1 r2.2.2.2.2.2.2 r2.1.Kind r2.1.Lo r2.1.Hi r2.1.Mode r2.1.Ref r2.1.Set r2.1.Kids r1.1)
 else
 (Z2X ((bytesI x0)) r2.2.2.1 r2.2.2.2.2.1 r2.2.2.2.2.2.1 r2.2.2.2.2.2.2 r2.1.Kind r2.1.Lo r2.1.Hi r2.1.Mode r2.1.Ref r2.1.Set r2.1.Kids r1.1))
 else
 (Z2X ((bytesI x0)) r2.2.2.1 r2.2.2.2.2.1 r2.2.2.2.2.2.1 r2.2.2.2.2.2.2 r2.1.Kind r2.1.Lo r2.1.Hi r2.1.Mode r2.1.Ref r2.1.Set r2.1.Kids r1.1)
theorem Zbj (x0 : ByteArray) (b0 : ZE) (b1 : Zj) (zR : Own) (zM : Own) (z1t : okApp zR = true) (z1k : okApp zM = true) : Sim (Z29) (Z6b x0) (Zdq 0 (.p (.v (.string x0))) (.ptr 0 0) (.ptr 1 0) [(Zv b0 zR zM), (ZC b1)]) := by
 unfold Z6b
 refine zf (ZfL ..) ?_
 refine ze ?_
 refine zo (.p (.lst .sh ((bytesI x0).map (eI .u8)))) ?_ (Eq.trans (by kernel_rfl) (xcnv_byt (P := PP) (s := 9) (d := 40) (by kernel_rfl) (by kernel_rfl) x0))
 refine zo (.p (.agg (Zcy (Zk.mk (bytesI x0) 0 0 0 ([] : List Zr) (Zj.mk 0 0)) .sh .nl))) ?_
 refine zx (.ptr 2 0) [(Zv b0 zR zM), (ZC b1), (Zi (Zk.mk (bytesI x0) 0 0 0 ([] : List Zr) (Zj.mk 0 0)) .sh .nl)] ?_
 refine ze ?_
 refine zi fun r1 hr1 => ?_
 obtain ⟨qr1, er1, exr1, rfl⟩ := Z18 ((ByteArray.mk #[40, 63, 105, 41])) ((bytesI x0)) (0) (0) (0) (([] : List Zr)) (0) (0) .sh .nl rfl r1 hr1
 refine zc [2] (bv r1.1) [(Zv b0 zR zM), (ZC b1), (Zi (Zk.mk (bytesI x0) r1.2 0 0 ([] : List Zr) (Zj.mk 0 0)) .sh .nl)] er1 ?_
 refine zo (.p (.agg (Z1j (ZE.mk (Z8.mk 0 0 0 0 0 ([] : List Z7) ([] : List Z8)) 0 r1.1) .nl .nl))) ?_
 refine zz (.ptr 3 0) [(Zv b0 zR zM), (ZC b1), (Zi (Zk.mk (bytesI x0) r1.2 0 0 ([] : List Zr) (Zj.mk 0 0)) .sh .nl), (Zv (ZE.mk (Z8.mk 0 0 0 0 0 ([] : List Z7) ([] : List Z8)) 0 false) .nl .nl)] ?_
 refine zt [(Zv b0 zR zM), (ZC b1), (Zi (Zk.mk (bytesI x0) r1.2 0 0 ([] : List Zr) (Zj.mk 0 0)) .sh .nl), (Zv (ZE.mk (Z8.mk 0 0 0 0 0 ([] : List Z7) ([] : List Z8)) 0 r1.1) .nl .nl)] ?_
 refine ze ?_
 refine zi fun r2 hr2 => ?_
 obtain ⟨qr2, er2, or2_0_4, exr2, hor2_0_4, rfl⟩ := Z7W ((bytesI x0)) (r1.2) (0) (0) (([] : List Zr)) (0) (0) .sh .nl rfl r2 hr2
 refine zc [2] (.p (.agg (ZD r2.1 .sh .sh))) [(Zv b0 zR zM), (ZC b1), (Zi (Zk.mk (bytesI x0) r2.2.1 r2.2.2.1 r2.2.2.2.1 r2.2.2.2.2.1 (Zj.mk r2.2.2.2.2.2.1 r2.2.2.2.2.2.2)) .sh or2_0_4), (Zv (ZE.mk (Z8.mk 0 0 0 0 0 ([] : List Z7) ([] : List Z8)) 0 r1.1) .nl .nl)] er2 ?_
 refine zo (.ptr 3 0) ?_
 refine zt [(Zv b0 zR zM), (ZC b1), (Zi (Zk.mk (bytesI x0) r2.2.1 r2.2.2.1 r2.2.2.2.1 r2.2.2.2.2.1 (Zj.mk r2.2.2.2.2.2.1 r2.2.2.2.2.2.2)) .sh or2_0_4), (Zv (ZE.mk (Z8.mk r2.1.Kind r2.1.Lo r2.1.Hi r2.1.Mode r2.1.Ref r2.1.Set r2.1.Kids) 0 r1.1) .sh .sh)] ?_
 refine ze ?_
 refine zo (.ptr 2 0) ?_
 refine zo (.ptr 2 5) ?_
 refine zo (.ptr 2 5) ?_
 refine zo (iv r2.2.2.2.2.2.1) ?_
 refine zo (bv (r2.2.2.2.2.2.1 == 0)) ?_
 refine za ((r2.2.2.2.2.2.1 == 0)) ?_ ?_
 ·refine zo (.ptr 2 0) ?_
  refine zo (.ptr 2 1) ?_
  refine zo (iv r2.2.1) ?_
  refine zo (.ptr 2 0) ?_
  refine zo (.ptr 2 0) ?_
  refine zo (.p (.lst .sh ((bytesI x0).map (eI .u8)))) ?_
  refine zo (iv ((bytesI x0).length : Int)) ?_ (Eq.trans (by kernel_rfl) (xlen_of (P := PP) (t := 40) (d := 5) (by kernel_rfl) (eI .u8) .sh (bytesI x0)))
  refine zo (bv (decide (r2.2.1 < ((bytesI x0).length : Int)))) ?_
  refine za ((decide (r2.2.1 < ((bytesI x0).length : Int)))) ?_ ?_
  ·exact zk (Zbi (b0) (b1) ((bytesI x0)) (r2.2.1) (r2.2.2.1) (r2.2.2.2.1) (r2.2.2.2.2.1) (r2.2.2.2.2.2.1) (r2.2.2.2.2.2.2) (r2.1.Kind) (r2.1.Lo) (r2.1.Hi) (r2.1.Mode) (r2.1.Ref) (r2.1.Set) (r2.1.Kids) (0) (r1.1) zR zM .sh or2_0_4 .sh .sh z1t z1k hor2_0_4)
  ·exact zk (Z69 (b0) (b1) ((bytesI x0)) (r2.2.1) (r2.2.2.1) (r2.2.2.2.1) (r2.2.2.2.2.1) (r2.2.2.2.2.2.1) (r2.2.2.2.2.2.2) (r2.1.Kind) (r2.1.Lo) (r2.1.Hi) (r2.1.Mode) (r2.1.Ref) (r2.1.Set) (r2.1.Kids) (0) (r1.1) zR zM .sh or2_0_4 .sh .sh z1t z1k hor2_0_4)
 ·exact zk (Z69 (b0) (b1) ((bytesI x0)) (r2.2.1) (r2.2.2.1) (r2.2.2.2.1) (r2.2.2.2.2.1) (r2.2.2.2.2.2.1) (r2.2.2.2.2.2.2) (r2.1.Kind) (r2.1.Lo) (r2.1.Hi) (r2.1.Mode) (r2.1.Ref) (r2.1.Set) (r2.1.Kids) (0) (r1.1) zR zM .sh or2_0_4 .sh .sh z1t z1k hor2_0_4)
noncomputable def Z7A (x0 : ByteArray) : Option (ZE × Zj) :=
 if ((decide (256 < (x0.size : Int)))) = true then
 (some ((ZE.mk (Z8.mk 0 0 0 0 0 ([] : List Z7) ([] : List Z8)) 0 false), (Zj.mk 12 0)))
 else
 (Z6b x0)
theorem ZbX (x0 : ByteArray) : Sim (Z29) (Z7A x0) (EE 16 [(.p (.v (.string x0)))] []) := by
 unfold Z7A
 refine zf (Zh9 ..) ?_
 refine ze ?_
 refine zz (.ptr 0 0) [(Zv (ZE.mk (Z8.mk 0 0 0 0 0 ([] : List Z7) ([] : List Z8)) 0 false) .nl .nl)] ?_
 refine zz (.ptr 1 0) [(Zv (ZE.mk (Z8.mk 0 0 0 0 0 ([] : List Z7) ([] : List Z8)) 0 false) .nl .nl), (ZC (Zj.mk 0 0))] ?_
 refine ze ?_
 refine zo (iv (x0.size : Int)) ?_
 refine zo (bv (decide (256 < (x0.size : Int)))) ?_
 refine za ((decide (256 < (x0.size : Int)))) ?_ ?_
 ·refine ze ?_
  refine zo (.p (.agg (Z1j (ZE.mk (Z8.mk 0 0 0 0 0 ([] : List Z7) ([] : List Z8)) 0 false) .nl .nl))) ?_
  refine zo (.p (.agg (Z11 (Zj.mk 12 0)))) ?_
  refine zt [(Zv (ZE.mk (Z8.mk 0 0 0 0 0 ([] : List Z7) ([] : List Z8)) 0 false) .nl .nl), (ZC (Zj.mk 0 0))] ?_
  refine zt [(Zv (ZE.mk (Z8.mk 0 0 0 0 0 ([] : List Z7) ([] : List Z8)) 0 false) .nl .nl), (ZC (Zj.mk 12 0))] ?_
  exact zr ((.p (.tup [(.agg (Z1j (ZE.mk (Z8.mk 0 0 0 0 0 ([] : List Z7) ([] : List Z8)) 0 false) .sh .sh)), (.agg (Z11 (Zj.mk 12 0)))])), [(Zv (ZE.mk (Z8.mk 0 0 0 0 0 ([] : List Z7) ([] : List Z8)) 0 false) .nl .nl), (ZC (Zj.mk 12 0))]) ⟨_, rfl⟩
 ·exact zk (Zbj (x0) ((ZE.mk (Z8.mk 0 0 0 0 0 ([] : List Z7) ([] : List Z8)) 0 false)) ((Zj.mk 0 0)) .nl .nl rfl rfl)
theorem Zc7 (x0 : ByteArray) {r} (h : Z7A x0 = some r) : Z3S x0 = some r :=
 pick_of (fun _ _ ha hb => RRun.uniq (Zag) (ha ) (hb )) (ZbX x0 r h)
noncomputable def Z38 (x50 : List Zr) (x51 : Int) (x52 : Int) (z1N : List Int) (zQ : Int) (zG : Int) (zS : Int) (zK : Int) (zV : Int) (zU : Int) (zJ : Int) (zO : Int) (zN : List Z7) (zL : List Z8) (z12 : Bool) : Option (ZE × Zj) :=
 Z4E x50 x51 ((IntKind.i64.wrap (x52 + 1))) z1N zQ zG zS zK zV zU zJ zO zN zL z12
theorem Z7Q (x50 : List Zr) (x51 : Int) (x52 : Int) (b0 : ZE) (b1 : Zj) (z1N : List Int) (z1H : Int) (zQ : Int) (z1w : Int) (z1b : List Zr) (zG : Int) (zS : Int) (zK : Int) (zV : Int) (zU : Int) (zJ : Int) (zO : Int) (zN : List Z7) (zL : List Z8) (z1n : Int) (z12 : Bool) (ox50 : Own) (zR : Own) (zM : Own) (z26 : Own) (z15 : Own) (z10 : Own) (zX : Own) (z1t : okApp zR = true) (z1k : okApp zM = true) (z2f : okApp z15 = true) : Sim (Z29) (Z38 x50 x51 x52 z1N zQ zG zS zK zV zU zJ zO zN zL z12) (ZbN 0 (.ptr 0 0) (.ptr 1 0) (.ptr 2 0) (.ptr 3 0) (.p (.lst ox50 (x50.map Z1x))) (iv x51) (iv x52) [(Zv b0 zR zM), (ZC b1), (Zi (Zk.mk z1N z1H zQ z1w z1b (Zj.mk zG zS)) z26 z15), (Zv (ZE.mk (Z8.mk zK zV zU zJ zO zN zL) z1n z12) z10 zX)]) := by
 unfold Z38
 refine zf (ZeK ..) ?_
 refine ze ?_
 refine zo (iv (IntKind.i64.wrap (x52 + 1))) ?_
 exact zk (Z8s (x50) (x51) ((IntKind.i64.wrap (x52 + 1))) (b0) (b1) (z1N) (z1H) (zQ) (z1w) (z1b) (zG) (zS) (zK) (zV) (zU) (zJ) (zO) (zN) (zL) (z1n) (z12) ox50 zR zM z26 z15 z10 zX z1t z1k z2f)
noncomputable def Z5b (x50 : List Zr) (x51 : Int) (x52 : Int) (z1N : List Int) (zQ : Int) (zG : Int) (zS : Int) (zK : Int) (zV : Int) (zU : Int) (zJ : Int) (zO : Int) (zN : List Z7) (zL : List Z8) (z12 : Bool) : Option (ZE × Zj) :=
 (lget x50 x52).bind fun a1 =>
 if ((decide (zQ < a1.group))) = true then
 ((ZT 26 a1.at_ z1N zG zS).bind fun r2 =>
 Z38 x50 x51 x52 z1N zQ r2.2.1 r2.2.2 zK zV zU zJ zO zN zL z12)
 else
 (Z38 x50 x51 x52 z1N zQ zG zS zK zV zU zJ zO zN zL z12)
theorem ZaD (x50 : List Zr) (x51 : Int) (x52 : Int) (b0 : ZE) (b1 : Zj) (z1N : List Int) (z1H : Int) (zQ : Int) (z1w : Int) (z1b : List Zr) (zG : Int) (zS : Int) (zK : Int) (zV : Int) (zU : Int) (zJ : Int) (zO : Int) (zN : List Z7) (zL : List Z8) (z1n : Int) (z12 : Bool) (ox50 : Own) (zR : Own) (zM : Own) (z26 : Own) (z15 : Own) (z10 : Own) (zX : Own) (z1t : okApp zR = true) (z1k : okApp zM = true) (z2f : okApp z15 = true) : Sim (Z29) (Z5b x50 x51 x52 z1N zQ zG zS zK zV zU zJ zO zN zL z12) (ZcS 0 (.ptr 0 0) (.ptr 1 0) (.ptr 2 0) (.ptr 3 0) (.p (.lst ox50 (x50.map Z1x))) (iv x51) (iv x52) [(Zv b0 zR zM), (ZC b1), (Zi (Zk.mk z1N z1H zQ z1w z1b (Zj.mk zG zS)) z26 z15), (Zv (ZE.mk (Z8.mk zK zV zU zJ zO zN zL) z1n z12) z10 zX)]) := by
 unfold Z5b
 refine zf (ZeG ..) ?_
 refine ze ?_
 refine zi fun a1 ha1 => ?_
 refine zo (.cptr (Z7I a1)) ?_ (Eq.trans (by kernel_rfl) (xidx_of (o := ox50) (k := .i64) (n := 2) (e := Z1x) (cs := Z6a) (fun _ => rfl) (fun _ => rfl) (by decide) ha1))
 refine zo (.p (.agg (Z7I a1))) ?_
 refine zz (.ptr 4 0) [(Zv b0 zR zM), (ZC b1), (Zi (Zk.mk z1N z1H zQ z1w z1b (Zj.mk zG zS)) z26 z15), (Zv (ZE.mk (Z8.mk zK zV zU zJ zO zN zL) z1n z12) z10 zX), (Z7N (Zr.mk 0 0))] ?_
 refine zt [(Zv b0 zR zM), (ZC b1), (Zi (Zk.mk z1N z1H zQ z1w z1b (Zj.mk zG zS)) z26 z15), (Zv (ZE.mk (Z8.mk zK zV zU zJ zO zN zL) z1n z12) z10 zX), (Z7N a1)] ?_
 refine ze ?_
 refine zo (.ptr 4 0) ?_
 refine zo (iv a1.group) ?_
 refine zo (.ptr 2 0) ?_
 refine zo (.ptr 2 2) ?_
 refine zo (iv zQ) ?_
 refine zo (bv (decide (zQ < a1.group))) ?_
 refine za ((decide (zQ < a1.group))) ?_ ?_
 ·refine ze ?_
  refine zo (.ptr 4 1) ?_
  refine zo (iv a1.at_) ?_
  refine zi fun r2 hr2 => ?_
  obtain ⟨qr2, er2, exr2, rfl⟩ := ZW (26) (a1.at_) (z1N) (z1H) (zQ) (z1w) (z1b) (zG) (zS) z26 z15 z2f r2 hr2
  refine zc [2] (.p (.tup [])) [(Zv b0 zR zM), (ZC b1), (Zi (Zk.mk z1N r2.1 zQ z1w z1b (Zj.mk r2.2.1 r2.2.2)) z26 z15), (Zv (ZE.mk (Z8.mk zK zV zU zJ zO zN zL) z1n z12) z10 zX), (Z7N a1)] er2 ?_
  exact zk (Z7Q (x50) (x51) (x52) (b0) (b1) (z1N) (r2.1) (zQ) (z1w) (z1b) (r2.2.1) (r2.2.2) (zK) (zV) (zU) (zJ) (zO) (zN) (zL) (z1n) (z12) ox50 zR zM z26 z15 z10 zX z1t z1k z2f)
 ·exact zk (Z7Q (x50) (x51) (x52) (b0) (b1) (z1N) (z1H) (zQ) (z1w) (z1b) (zG) (zS) (zK) (zV) (zU) (zJ) (zO) (zN) (zL) (z1n) (z12) ox50 zR zM z26 z15 z10 zX z1t z1k z2f)
noncomputable def Z7h (zQ : Int) (zK : Int) (zV : Int) (zU : Int) (zJ : Int) (zO : Int) (zN : List Z7) (zL : List Z8) (z12 : Bool) : Option (ZE × Zj) :=
 some ((ZE.mk (Z8.mk zK zV zU zJ zO zN zL) zQ z12), (Zj.mk 0 0))
theorem ZaB (b0 : ZE) (b1 : Zj) (z1N : List Int) (z1H : Int) (zQ : Int) (z1w : Int) (z1b : List Zr) (zG : Int) (zS : Int) (zK : Int) (zV : Int) (zU : Int) (zJ : Int) (zO : Int) (zN : List Z7) (zL : List Z8) (z1n : Int) (z12 : Bool) (zR : Own) (zM : Own) (z26 : Own) (z15 : Own) (z10 : Own) (zX : Own) (z1t : okApp zR = true) (z1k : okApp zM = true) (z2f : okApp z15 = true) : Sim (Z29) (Z7h zQ zK zV zU zJ zO zN zL z12) (ZcY 0 (.ptr 0 0) (.ptr 1 0) (.ptr 2 0) (.ptr 3 0) [(Zv b0 zR zM), (ZC b1), (Zi (Zk.mk z1N z1H zQ z1w z1b (Zj.mk zG zS)) z26 z15), (Zv (ZE.mk (Z8.mk zK zV zU zJ zO zN zL) z1n z12) z10 zX)]) := by
 unfold Z7h
 refine zf (ZeV ..) ?_
 refine ze ?_
 refine zo (.ptr 2 0) ?_
 refine zo (.ptr 2 2) ?_
 refine zo (iv zQ) ?_
 refine zo (.ptr 3 7) ?_
 refine zt [(Zv b0 zR zM), (ZC b1), (Zi (Zk.mk z1N z1H zQ z1w z1b (Zj.mk zG zS)) z26 z15), (Zv (ZE.mk (Z8.mk zK zV zU zJ zO zN zL) zQ z12) z10 zX)] ?_
 refine ze ?_
 refine zo (.p (.agg (Z1j (ZE.mk (Z8.mk zK zV zU zJ zO zN zL) zQ z12) (shrO z10) (shrO zX)))) ?_
 refine zo (.p (.agg (Z11 (Zj.mk 0 0)))) ?_
 refine zt [(Zv (ZE.mk (Z8.mk zK zV zU zJ zO zN zL) zQ z12) (shrO z10) (shrO zX)), (ZC b1), (Zi (Zk.mk z1N z1H zQ z1w z1b (Zj.mk zG zS)) z26 z15), (Zv (ZE.mk (Z8.mk zK zV zU zJ zO zN zL) zQ z12) z10 zX)] ?_
 refine zt [(Zv (ZE.mk (Z8.mk zK zV zU zJ zO zN zL) zQ z12) (shrO z10) (shrO zX)), (ZC (Zj.mk 0 0)), (Zi (Zk.mk z1N z1H zQ z1w z1b (Zj.mk zG zS)) z26 z15), (Zv (ZE.mk (Z8.mk zK zV zU zJ zO zN zL) zQ z12) z10 zX)] ?_
 exact zr ((.p (.tup [(.agg (Z1j (ZE.mk (Z8.mk zK zV zU zJ zO zN zL) zQ z12) .sh .sh)), (.agg (Z11 (Zj.mk 0 0)))])), [(Zv (ZE.mk (Z8.mk zK zV zU zJ zO zN zL) zQ z12) (shrO z10) (shrO zX)), (ZC (Zj.mk 0 0)), (Zi (Zk.mk z1N z1H zQ z1w z1b (Zj.mk zG zS)) z26 z15), (Zv (ZE.mk (Z8.mk zK zV zU zJ zO zN zL) zQ z12) z10 zX)]) ⟨_, rfl⟩
noncomputable def Z58 (zQ : Int) (zG : Int) (zS : Int) (zK : Int) (zV : Int) (zU : Int) (zJ : Int) (zO : Int) (zN : List Z7) (zL : List Z8) (z12 : Bool) : Option (ZE × Zj) :=
 if ((zG != 0)) = true then
 (some ((ZE.mk (Z8.mk 0 0 0 0 0 ([] : List Z7) ([] : List Z8)) 0 false), (Zj.mk zG zS)))
 else
 (Z7h zQ zK zV zU zJ zO zN zL z12)
theorem ZaV (b0 : ZE) (b1 : Zj) (z1N : List Int) (z1H : Int) (zQ : Int) (z1w : Int) (z1b : List Zr) (zG : Int) (zS : Int) (zK : Int) (zV : Int) (zU : Int) (zJ : Int) (zO : Int) (zN : List Z7) (zL : List Z8) (z1n : Int) (z12 : Bool) (zR : Own) (zM : Own) (z26 : Own) (z15 : Own) (z10 : Own) (zX : Own) (z1t : okApp zR = true) (z1k : okApp zM = true) (z2f : okApp z15 = true) : Sim (Z29) (Z58 zQ zG zS zK zV zU zJ zO zN zL z12) (ZcO 0 (.ptr 0 0) (.ptr 1 0) (.ptr 2 0) (.ptr 3 0) [(Zv b0 zR zM), (ZC b1), (Zi (Zk.mk z1N z1H zQ z1w z1b (Zj.mk zG zS)) z26 z15), (Zv (ZE.mk (Z8.mk zK zV zU zJ zO zN zL) z1n z12) z10 zX)]) := by
 unfold Z58
 refine zf (Zf4 ..) ?_
 refine ze ?_
 refine zo (.ptr 2 0) ?_
 refine zo (.ptr 2 5) ?_
 refine zo (.ptr 2 5) ?_
 refine zo (iv zG) ?_
 refine zo (bv (zG != 0)) ?_
 refine za ((zG != 0)) ?_ ?_
 ·refine ze ?_
  refine zo (.p (.agg (Z1j (ZE.mk (Z8.mk 0 0 0 0 0 ([] : List Z7) ([] : List Z8)) 0 false) .nl .nl))) ?_
  refine zo (.ptr 2 0) ?_
  refine zo (.ptr 2 5) ?_
  refine zo (.p (.agg (Z11 (Zj.mk zG zS)))) ?_
  refine zt [(Zv (ZE.mk (Z8.mk 0 0 0 0 0 ([] : List Z7) ([] : List Z8)) 0 false) .nl .nl), (ZC b1), (Zi (Zk.mk z1N z1H zQ z1w z1b (Zj.mk zG zS)) z26 z15), (Zv (ZE.mk (Z8.mk zK zV zU zJ zO zN zL) z1n z12) z10 zX)] ?_
  refine zt [(Zv (ZE.mk (Z8.mk 0 0 0 0 0 ([] : List Z7) ([] : List Z8)) 0 false) .nl .nl), (ZC (Zj.mk zG zS)), (Zi (Zk.mk z1N z1H zQ z1w z1b (Zj.mk zG zS)) z26 z15), (Zv (ZE.mk (Z8.mk zK zV zU zJ zO zN zL) z1n z12) z10 zX)] ?_
  refine zg ?_
  exact zr ((.p (.tup [(.agg (Z1j (ZE.mk (Z8.mk 0 0 0 0 0 ([] : List Z7) ([] : List Z8)) 0 false) .sh .sh)), (.agg (Z11 (Zj.mk zG zS)))])), [(Zv (ZE.mk (Z8.mk 0 0 0 0 0 ([] : List Z7) ([] : List Z8)) 0 false) .nl .nl), (ZC (Zj.mk zG zS)), (Zi (Zk.mk z1N z1H zQ z1w z1b (Zj.mk zG zS)) z26 z15), (Zv (ZE.mk (Z8.mk zK zV zU zJ zO zN zL) z1n z12) z10 zX)]) ⟨_, rfl⟩
 ·exact zk (ZaB (b0) (b1) (z1N) (z1H) (zQ) (z1w) (z1b) (zG) (zS) (zK) (zV) (zU) (zJ) (zO) (zN) (zL) (z1n) (z12) zR zM z26 z15 z10 zX z1t z1k z2f)
noncomputable def Z3V (x50 : List Zr) (x51 : Int) (x52 : Int) (z1N : List Int) (zQ : Int) (zG : Int) (zS : Int) (zK : Int) (zV : Int) (zU : Int) (zJ : Int) (zO : Int) (zN : List Z7) (zL : List Z8) (z12 : Bool) : Option (ZE × Zj) :=
 if ((decide (x52 < x51))) = true then
 (Z5b x50 x51 x52 z1N zQ zG zS zK zV zU zJ zO zN zL z12)
 else
 (Z58 zQ zG zS zK zV zU zJ zO zN zL z12)
theorem Zbk (x50 : List Zr) (x51 : Int) (x52 : Int) (b0 : ZE) (b1 : Zj) (z1N : List Int) (z1H : Int) (zQ : Int) (z1w : Int) (z1b : List Zr) (zG : Int) (zS : Int) (zK : Int) (zV : Int) (zU : Int) (zJ : Int) (zO : Int) (zN : List Z7) (zL : List Z8) (z1n : Int) (z12 : Bool) (ox50 : Own) (zR : Own) (zM : Own) (z26 : Own) (z15 : Own) (z10 : Own) (zX : Own) (z1t : okApp zR = true) (z1k : okApp zM = true) (z2f : okApp z15 = true) : Sim (Z29) (Z3V x50 x51 x52 z1N zQ zG zS zK zV zU zJ zO zN zL z12) (Zay 0 (.ptr 0 0) (.ptr 1 0) (.ptr 2 0) (.ptr 3 0) (.p (.lst ox50 (x50.map Z1x))) (iv x51) (iv x52) [(Zv b0 zR zM), (ZC b1), (Zi (Zk.mk z1N z1H zQ z1w z1b (Zj.mk zG zS)) z26 z15), (Zv (ZE.mk (Z8.mk zK zV zU zJ zO zN zL) z1n z12) z10 zX)]) := by
 unfold Z3V
 refine zf (Zfe ..) ?_
 refine ze ?_
 refine zo (bv (decide (x52 < x51))) ?_
 refine za ((decide (x52 < x51))) ?_ ?_
 ·exact zk (ZaD (x50) (x51) (x52) (b0) (b1) (z1N) (z1H) (zQ) (z1w) (z1b) (zG) (zS) (zK) (zV) (zU) (zJ) (zO) (zN) (zL) (z1n) (z12) ox50 zR zM z26 z15 z10 zX z1t z1k z2f)
 ·exact zk (ZaV (b0) (b1) (z1N) (z1H) (zQ) (z1w) (z1b) (zG) (zS) (zK) (zV) (zU) (zJ) (zO) (zN) (zL) (z1n) (z12) zR zM z26 z15 z10 zX z1t z1k z2f)
theorem Z5w (x50 : List Zr) (x51 : Int) (x52 : Int) (z1N : List Int) (zQ : Int) (zG : Int) (zS : Int) (zK : Int) (zV : Int) (zU : Int) (zJ : Int) (zO : Int) (zN : List Z7) (zL : List Z8) (z12 : Bool) {r} (h : Z3V x50 x51 x52 z1N zQ zG zS zK zV zU zJ zO zN zL z12 = some r) : Z4E x50 x51 x52 z1N zQ zG zS zK zV zU zJ zO zN zL z12 = some r :=
 pick_of (fun _ _ ha hb => RRun.uniq (Zag) (ha default default default default default default .ex .ex .ex .ex .ex .ex .ex rfl rfl rfl) (hb default default default default default default .ex .ex .ex .ex .ex .ex .ex rfl rfl rfl)) (fun b0 b1 z1H z1w z1b z1n ox50 zR zM z26 z15 z10 zX z1t z1k z2f => Zbk x50 x51 x52 b0 b1 z1N z1H zQ z1w z1b zG zS zK zV zU zJ zO zN zL z1n z12 ox50 zR zM z26 z15 z10 zX z1t z1k z2f r h)
noncomputable def Z4K (zp : Int) : Option (Bool × Int) :=
 some (false, zp)
theorem Z6i (zl : List Int) (zp : Int) (z6 : Int) (zd : Int) (zh : List Zr) (z1 : Int) (z2 : Int) (zn : Own) (zb : Own) (zu : okApp zb = true) : Sim (Z39 zl z6 zd zh z1 z2 zn zb) (Z4K zp) (ZcA 1  [(Zi (Zk.mk zl zp z6 zd zh (Zj.mk z1 z2)) zn zb)]) := by
 unfold Z4K
 refine zf (Zfj ..) ?_
 refine ze ?_
 exact zr ((bv false), [(Zi (Zk.mk zl zp z6 zd zh (Zj.mk z1 z2)) zn zb)]) ⟨_, rfl⟩
noncomputable def Z4L (x1 : ByteArray) (zp : Int) : Option (Bool × Int) :=
 some (true, (IntKind.i64.wrap (zp + (x1.size : Int))))
theorem Z94 (x1 : ByteArray) (zl : List Int) (zp : Int) (z6 : Int) (zd : Int) (zh : List Zr) (z1 : Int) (z2 : Int) (zn : Own) (zb : Own) (zu : okApp zb = true) : Sim (Z39 zl z6 zd zh z1 z2 zn zb) (Z4L x1 zp) (ZdZ 1 (.ptr 0 0) (.p (.v (.string x1))) [(Zi (Zk.mk zl zp z6 zd zh (Zj.mk z1 z2)) zn zb)]) := by
 unfold Z4L
 refine zf (ZfH ..) ?_
 refine ze ?_
 refine zo (.ptr 0 0) ?_
 refine zo (.ptr 0 1) ?_
 refine zo (iv zp) ?_
 refine zo (iv (x1.size : Int)) ?_
 refine zo (iv (IntKind.i64.wrap (zp + (x1.size : Int)))) ?_
 refine zo (.ptr 0 0) ?_
 refine zo (.ptr 0 1) ?_
 refine zt [(Zi (Zk.mk zl (IntKind.i64.wrap (zp + (x1.size : Int))) z6 zd zh (Zj.mk z1 z2)) zn zb)] ?_
 refine ze ?_
 exact zr ((bv true), [(Zi (Zk.mk zl (IntKind.i64.wrap (zp + (x1.size : Int))) z6 zd zh (Zj.mk z1 z2)) zn zb)]) ⟨_, rfl⟩
noncomputable def Z5r (x1 : ByteArray) (zl : List Int) (zp : Int) : Option (Bool × Int) :=
 if ((decide ((IntKind.i64.wrap ((zl.length : Int) - zp)) < (x1.size : Int)))) = true then
 (Z4K zp)
 else
 ((lsl zl zp (IntKind.i64.wrap (zp + (x1.size : Int)))).bind fun a1 =>
 if ((!(seq (strI a1) x1))) = true then
 (Z4K zp)
 else
 (Z4L x1 zp))
theorem Za0 (x1 : ByteArray) (zl : List Int) (zp : Int) (z6 : Int) (zd : Int) (zh : List Zr) (z1 : Int) (z2 : Int) (zn : Own) (zb : Own) (zu : okApp zb = true) : Sim (Z39 zl z6 zd zh z1 z2 zn zb) (Z5r x1 zl zp) (EE 27 [(.ptr 0 0), (.p (.v (.string x1)))] [(Zi (Zk.mk zl zp z6 zd zh (Zj.mk z1 z2)) zn zb)]) := by
 unfold Z5r
 refine zf (Zi2 ..) ?_
 refine ze ?_
 refine ze ?_
 refine zo (.ptr 0 0) ?_
 refine zo (.ptr 0 0) ?_
 refine zo (.p (.lst (shrO zn) (zl.map (eI .u8)))) ?_
 refine zo (iv (zl.length : Int)) ?_ (Eq.trans (by kernel_rfl) (xlen_of (P := PP) (t := 40) (d := 5) (by kernel_rfl) (eI .u8) (shrO zn) zl))
 refine zo (.ptr 0 0) ?_
 refine zo (.ptr 0 1) ?_
 refine zo (iv zp) ?_
 refine zo (iv (IntKind.i64.wrap ((zl.length : Int) - zp))) ?_
 refine zo (iv (x1.size : Int)) ?_
 refine zo (bv (decide ((IntKind.i64.wrap ((zl.length : Int) - zp)) < (x1.size : Int)))) ?_
 refine za ((decide ((IntKind.i64.wrap ((zl.length : Int) - zp)) < (x1.size : Int)))) ?_ ?_
 ·exact zk (Z6i (zl) (zp) (z6) (zd) (zh) (z1) (z2) zn zb zu)
 ·refine zo (.ptr 0 0) ?_
  refine zo (.ptr 0 0) ?_
  refine zo (.p (.lst (shrO zn) (zl.map (eI .u8)))) ?_
  refine zo (.ptr 0 0) ?_
  refine zo (.ptr 0 1) ?_
  refine zo (iv zp) ?_
  refine zo (.ptr 0 0) ?_
  refine zo (.ptr 0 1) ?_
  refine zo (iv zp) ?_
  refine zo (iv (x1.size : Int)) ?_
  refine zo (iv (IntKind.i64.wrap (zp + (x1.size : Int)))) ?_
  refine zi fun a1 ha1 => ?_
  refine zo (.p (.lst (slO (shrO zn)) (a1.map (eI .u8)))) ?_ (Eq.trans (by kernel_rfl) <| xsl_of (n := 1) (o := (shrO zn)) (lo := (some (iv zp))) (hi := (some (iv (IntKind.i64.wrap (zp + (x1.size : Int)))))) (e := (eI .u8)) (fun _ => rfl) (by decide) (by kernel_rfl) (by kernel_rfl) ha1)
  refine zo (.p (.v (.string (strI a1)))) ?_ (Eq.trans (by kernel_rfl) (xcnv_str (P := PP) (s := 40) (d := 9) (by kernel_rfl) (slO (shrO zn)) a1))
  refine zo (bv (!(seq (strI a1) x1))) ?_
  refine za ((!(seq (strI a1) x1))) ?_ ?_
  ·exact zk (Z6i (zl) (zp) (z6) (zd) (zh) (z1) (z2) zn zb zu)
  ·exact zk (Z94 (x1) (zl) (zp) (z6) (zd) (zh) (z1) (z2) zn zb zu)
theorem Zav (x1 : ByteArray) (zl : List Int) (zp : Int) {r} (h : Z5r x1 zl zp = some r) : Z13 x1 zl zp = some r :=
 pick_of (fun _ _ ha hb => RRun.uniq (ZaP _ _ _ _ _ _ _ _) (ha default default default default default .ex .ex rfl) (hb default default default default default .ex .ex rfl)) (fun z6 zd zh z1 z2 zn zb zu => Za0 x1 zl zp z6 zd zh z1 z2 zn zb zu r h)
noncomputable def Z45 (zl : List Int) (zp : Int) (z6 : Int) (zd : Int) (zh : List Zr) (z1 : Int) (z2 : Int) : Option (Z8 × Int × Int × Int × (List Zr) × Int × Int) :=
 (Z40 zl zp z6 zd zh z1 z2).bind fun r1 =>
 Z3k (([r1.1] : List Z8)) zl r1.2.1 r1.2.2.1 r1.2.2.2.1 r1.2.2.2.2.1 r1.2.2.2.2.2.1 r1.2.2.2.2.2.2
theorem Zar (zl : List Int) (zp : Int) (z6 : Int) (zd : Int) (zh : List Zr) (z1 : Int) (z2 : Int) (zn : Own) (zb : Own) (zu : okApp zb = true) : Sim (Z2h zl zn) (Z45 zl zp z6 zd zh z1 z2) (EE 28 [(.ptr 0 0)] [(Zi (Zk.mk zl zp z6 zd zh (Zj.mk z1 z2)) zn zb)]) := by
 unfold Z45
 refine zf (ZgX ..) ?_
 refine ze ?_
 refine zz (.ptr 1 0) [(Zi (Zk.mk zl zp z6 zd zh (Zj.mk z1 z2)) zn zb), (Zq (Z8.mk 0 0 0 0 0 ([] : List Z7) ([] : List Z8)) .nl .nl)] ?_
 refine ze ?_
 refine zi fun r1 hr1 => ?_
 obtain ⟨qr1, er1, or1_0_4, exr1, hor1_0_4, rfl⟩ := Z7U (zl) (zp) (z6) (zd) (zh) (z1) (z2) zn zb zu r1 hr1
 refine zc [0] (.p (.agg (ZD r1.1 .sh .sh))) [(Zi (Zk.mk zl r1.2.1 r1.2.2.1 r1.2.2.2.1 r1.2.2.2.2.1 (Zj.mk r1.2.2.2.2.2.1 r1.2.2.2.2.2.2)) zn or1_0_4), (Zq (Z8.mk 0 0 0 0 0 ([] : List Z7) ([] : List Z8)) .nl .nl)] er1 ?_
 refine zo (.p (.lst .ex (([r1.1] : List Z8).map ZI))) ?_ (Eq.trans (b := some (.p (.lst .ex [.agg (Z2l r1.1)]))) (by kernel_rfl) (by simp only [List.map_cons, List.map_nil, Z2V]))
 exact zk (Z6K (([r1.1] : List Z8)) (zl) (r1.2.1) (r1.2.2.1) (r1.2.2.2.1) (r1.2.2.2.2.1) (r1.2.2.2.2.2.1) (r1.2.2.2.2.2.2) ((Z8.mk 0 0 0 0 0 ([] : List Z7) ([] : List Z8))) .ex zn or1_0_4 .nl .nl rfl hor1_0_4 rfl rfl)
theorem Z7S (zl : List Int) (zp : Int) (z6 : Int) (zd : Int) (zh : List Zr) (z1 : Int) (z2 : Int) {r} (h : Z45 zl zp z6 zd zh z1 z2 = some r) : Z2F zl zp z6 zd zh z1 z2 = some r :=
 pick_of (fun _ _ ha hb => RRun.uniq (Z88 _ _) (ha .ex .ex rfl) (hb .ex .ex rfl)) (fun zn zb zu => Zar zl zp z6 zd zh z1 z2 zn zb zu r h)
noncomputable def Z4Z (x3 : List Z8) (zl : List Int) (zp : Int) (z6 : Int) (zd : Int) (zh : List Zr) (z1 : Int) (z2 : Int) : Option (Z8 × Int × Int × Int × (List Zr) × Int × Int) :=
 (Z40 zl zp z6 zd zh z1 z2).bind fun r1 =>
 (lapp x3 ([r1.1] : List Z8)).bind fun a2 =>
 Z3k a2 zl r1.2.1 r1.2.2.1 r1.2.2.2.1 r1.2.2.2.2.1 r1.2.2.2.2.2.1 r1.2.2.2.2.2.2
theorem Z9g (x3 : List Z8) (zl : List Int) (zp : Int) (z6 : Int) (zd : Int) (zh : List Zr) (z1 : Int) (z2 : Int) (b1 : Z8) (ox3 : Own) (zn : Own) (zb : Own) (zB : Own) (zy : Own) (hox3 : okApp ox3 = true) (zu : okApp zb = true) (zP : okApp zB = true) (zH : okApp zy = true) : Sim (Z2h zl zn) (Z4Z x3 zl zp z6 zd zh z1 z2) (ZdD 1 (.ptr 0 0) (.ptr 1 0) (.p (.lst ox3 (x3.map ZI))) [(Zi (Zk.mk zl zp z6 zd zh (Zj.mk z1 z2)) zn zb), (Zq b1 zB zy)]) := by
 unfold Z4Z
 refine zf (ZfX ..) ?_
 refine ze ?_
 refine zi fun r1 hr1 => ?_
 obtain ⟨qr1, er1, or1_0_4, exr1, hor1_0_4, rfl⟩ := Z7U (zl) (zp) (z6) (zd) (zh) (z1) (z2) zn zb zu r1 hr1
 refine zc [0] (.p (.agg (ZD r1.1 .sh .sh))) [(Zi (Zk.mk zl r1.2.1 r1.2.2.1 r1.2.2.2.1 r1.2.2.2.2.1 (Zj.mk r1.2.2.2.2.2.1 r1.2.2.2.2.2.2)) zn or1_0_4), (Zq b1 zB zy)] er1 ?_
 refine zo (.p (.lst .ex (([r1.1] : List Z8).map ZI))) ?_ (Eq.trans (b := some (.p (.lst .ex [.agg (Z2l r1.1)]))) (by kernel_rfl) (by simp only [List.map_cons, List.map_nil, Z2V]))
 refine zi fun a2 ha2 => ?_
 refine zo (.p (.lst .un (a2.map ZI))) ?_ (Eq.trans (by kernel_rfl) <| xapp_of (n := 7) (o := ox3) (o' := .ex) (e := ZI) (ys := ([r1.1] : List Z8)) ZaC (by decide) hox3 ha2)
 exact zk (Z6K (a2) (zl) (r1.2.1) (r1.2.2.1) (r1.2.2.2.1) (r1.2.2.2.2.1) (r1.2.2.2.2.2.1) (r1.2.2.2.2.2.2) (b1) .un zn or1_0_4 zB zy rfl hor1_0_4 zP zH)
noncomputable def Z48 (x3 : List Z8) (zp : Int) (z6 : Int) (zd : Int) (zh : List Zr) (z1 : Int) (z2 : Int) : Option (Z8 × Int × Int × Int × (List Zr) × Int × Int) :=
 (Z5X 3 x3).bind fun r1 =>
 some (r1, zp, z6, zd, zh, z1, z2)
theorem Z9o (x3 : List Z8) (zl : List Int) (zp : Int) (z6 : Int) (zd : Int) (zh : List Zr) (z1 : Int) (z2 : Int) (b1 : Z8) (ox3 : Own) (zn : Own) (zb : Own) (zB : Own) (zy : Own) (hox3 : okApp ox3 = true) (zu : okApp zb = true) (zP : okApp zB = true) (zH : okApp zy = true) : Sim (Z2h zl zn) (Z48 x3 zp z6 zd zh z1 z2) (Ze3 1 (.ptr 1 0) (.p (.lst ox3 (x3.map ZI))) [(Zi (Zk.mk zl zp z6 zd zh (Zj.mk z1 z2)) zn zb), (Zq b1 zB zy)]) := by
 unfold Z48
 refine zf (ZfB ..) ?_
 refine ze ?_
 refine zi fun r1 hr1 => ?_
 obtain ⟨qr1, er1, exr1, rfl⟩ := Z9f (3) (x3) .sh r1 hr1
 refine zc [] (.p (.agg (ZD r1 .sh .sh))) [(Zi (Zk.mk zl zp z6 zd zh (Zj.mk z1 z2)) zn zb), (Zq b1 zB zy)] er1 ?_
 refine zt [(Zi (Zk.mk zl zp z6 zd zh (Zj.mk z1 z2)) zn zb), (Zq r1 .sh .sh)] ?_
 exact zr ((.p (.agg (ZD r1 .sh .sh))), [(Zi (Zk.mk zl zp z6 zd zh (Zj.mk z1 z2)) zn zb), (Zq r1 .sh .sh)]) ⟨zb, _, zu, rfl⟩
noncomputable def Z3h (x3 : List Z8) (zl : List Int) (zp : Int) (z6 : Int) (zd : Int) (zh : List Zr) (z1 : Int) (z2 : Int) : Option (Z8 × Int × Int × Int × (List Zr) × Int × Int) :=
 (Z13 ((ByteArray.mk #[124])) zl zp).bind fun r1 =>
 if (r1.1) = true then
 (Z4Z x3 zl r1.2 z6 zd zh z1 z2)
 else
 (Z48 x3 r1.2 z6 zd zh z1 z2)
theorem Z9A (x3 : List Z8) (zl : List Int) (zp : Int) (z6 : Int) (zd : Int) (zh : List Zr) (z1 : Int) (z2 : Int) (b1 : Z8) (ox3 : Own) (zn : Own) (zb : Own) (zB : Own) (zy : Own) (hox3 : okApp ox3 = true) (zu : okApp zb = true) (zP : okApp zB = true) (zH : okApp zy = true) : Sim (Z2h zl zn) (Z3h x3 zl zp z6 zd zh z1 z2) (Zaz 1 (.ptr 0 0) (.ptr 1 0) (.p (.lst ox3 (x3.map ZI))) [(Zi (Zk.mk zl zp z6 zd zh (Zj.mk z1 z2)) zn zb), (Zq b1 zB zy)]) := by
 unfold Z3h
 refine zf (Zgf ..) ?_
 refine ze ?_
 refine zi fun r1 hr1 => ?_
 obtain ⟨qr1, er1, exr1, rfl⟩ := Z18 ((ByteArray.mk #[124])) (zl) (zp) (z6) (zd) (zh) (z1) (z2) zn zb zu r1 hr1
 refine zc [0] (bv r1.1) [(Zi (Zk.mk zl r1.2 z6 zd zh (Zj.mk z1 z2)) zn zb), (Zq b1 zB zy)] er1 ?_
 refine za (r1.1) ?_ ?_
 ·exact zk (Z9g (x3) (zl) (r1.2) (z6) (zd) (zh) (z1) (z2) (b1) ox3 zn zb zB zy hox3 zu zP zH)
 ·exact zk (Z9o (x3) (zl) (r1.2) (z6) (zd) (zh) (z1) (z2) (b1) ox3 zn zb zB zy hox3 zu zP zH)
theorem Z6F (x3 : List Z8) (zl : List Int) (zp : Int) (z6 : Int) (zd : Int) (zh : List Zr) (z1 : Int) (z2 : Int) {r} (h : Z3h x3 zl zp z6 zd zh z1 z2 = some r) : Z3k x3 zl zp z6 zd zh z1 z2 = some r :=
 pick_of (fun _ _ ha hb => RRun.uniq (Z88 _ _) (ha default .ex .ex .ex .ex .ex rfl rfl rfl rfl) (hb default .ex .ex .ex .ex .ex rfl rfl rfl rfl)) (fun b1 ox3 zn zb zB zy hox3 zu zP zH => Z9A x3 zl zp z6 zd zh z1 z2 b1 ox3 zn zb zB zy hox3 zu zP zH r h)
noncomputable def Z4W (zl : List Int) (zp : Int) (z6 : Int) (zd : Int) (zh : List Zr) (z1 : Int) (z2 : Int) : Option (Z8 × Int × Int × Int × (List Zr) × Int × Int) :=
 Z3j (([] : List Z8)) zl zp z6 zd zh z1 z2
theorem Zak (zl : List Int) (zp : Int) (z6 : Int) (zd : Int) (zh : List Zr) (z1 : Int) (z2 : Int) (zn : Own) (zb : Own) (zu : okApp zb = true) : Sim (Z24 zl zn) (Z4W zl zp z6 zd zh z1 z2) (EE 35 [(.ptr 0 0)] [(Zi (Zk.mk zl zp z6 zd zh (Zj.mk z1 z2)) zn zb)]) := by
 unfold Z4W
 refine zf (ZhH ..) ?_
 refine ze ?_
 refine zz (.ptr 1 0) [(Zi (Zk.mk zl zp z6 zd zh (Zj.mk z1 z2)) zn zb), (Zq (Z8.mk 0 0 0 0 0 ([] : List Z7) ([] : List Z8)) .nl .nl)] ?_
 refine ze ?_
 exact zk (Z6z (([] : List Z8)) (zl) (zp) (z6) (zd) (zh) (z1) (z2) ((Z8.mk 0 0 0 0 0 ([] : List Z7) ([] : List Z8))) .nl zn zb .nl .nl rfl zu rfl rfl)
theorem Z7T (zl : List Int) (zp : Int) (z6 : Int) (zd : Int) (zh : List Zr) (z1 : Int) (z2 : Int) {r} (h : Z4W zl zp z6 zd zh z1 z2 = some r) : Z40 zl zp z6 zd zh z1 z2 = some r :=
 pick_of (fun _ _ ha hb => RRun.uniq (Z84 _ _) (ha .ex .ex rfl) (hb .ex .ex rfl)) (fun zn zb zu => Zak zl zp z6 zd zh z1 z2 zn zb zu r h)
noncomputable def Z25 (x3 : List Z8) (zp : Int) (z6 : Int) (zd : Int) (zh : List Zr) (z1 : Int) (z2 : Int) : Option (Z8 × Int × Int × Int × (List Zr) × Int × Int) :=
 (Z5X 2 x3).bind fun r1 =>
 some (r1, zp, z6, zd, zh, z1, z2)
theorem Z4g (x3 : List Z8) (zl : List Int) (zp : Int) (z6 : Int) (zd : Int) (zh : List Zr) (z1 : Int) (z2 : Int) (b1 : Z8) (ox3 : Own) (zn : Own) (zb : Own) (zB : Own) (zy : Own) (hox3 : okApp ox3 = true) (zu : okApp zb = true) (zP : okApp zB = true) (zH : okApp zy = true) : Sim (Z24 zl zn) (Z25 x3 zp z6 zd zh z1 z2) (Zb0 1 (.ptr 1 0) (.p (.lst ox3 (x3.map ZI))) [(Zi (Zk.mk zl zp z6 zd zh (Zj.mk z1 z2)) zn zb), (Zq b1 zB zy)]) := by
 unfold Z25
 refine zf (Zg0 ..) ?_
 refine ze ?_
 refine zi fun r1 hr1 => ?_
 obtain ⟨qr1, er1, exr1, rfl⟩ := Z9f (2) (x3) .sh r1 hr1
 refine zc [] (.p (.agg (ZD r1 .sh .sh))) [(Zi (Zk.mk zl zp z6 zd zh (Zj.mk z1 z2)) zn zb), (Zq b1 zB zy)] er1 ?_
 refine zt [(Zi (Zk.mk zl zp z6 zd zh (Zj.mk z1 z2)) zn zb), (Zq r1 .sh .sh)] ?_
 exact zr ((.p (.agg (ZD r1 .sh .sh))), [(Zi (Zk.mk zl zp z6 zd zh (Zj.mk z1 z2)) zn zb), (Zq r1 .sh .sh)]) ⟨zb, _, zu, rfl⟩
noncomputable def Z2M (x3 : List Z8) (zl : List Int) (zp : Int) (z6 : Int) (zd : Int) (zh : List Zr) (z1 : Int) (z2 : Int) : Option (Z8 × Int × Int × Int × (List Zr) × Int × Int) :=
 (Z5v zl zp z6 zd zh z1 z2).bind fun r1 =>
 (Z43 r1.1 r1.2.1 zl r1.2.2.1 r1.2.2.2.1 r1.2.2.2.2.1 r1.2.2.2.2.2.1 r1.2.2.2.2.2.2.1 r1.2.2.2.2.2.2.2).bind fun r2 =>
 (lapp x3 ([r2.1] : List Z8)).bind fun a3 =>
 Z3j a3 zl r2.2.1 r1.2.2.2.1 r1.2.2.2.2.1 r1.2.2.2.2.2.1 r2.2.2.1 r2.2.2.2
theorem Z5i (x3 : List Z8) (zl : List Int) (zp : Int) (z6 : Int) (zd : Int) (zh : List Zr) (z1 : Int) (z2 : Int) (b1 : Z8) (ox3 : Own) (zn : Own) (zb : Own) (zB : Own) (zy : Own) (hox3 : okApp ox3 = true) (zu : okApp zb = true) (zP : okApp zB = true) (zH : okApp zy = true) : Sim (Z24 zl zn) (Z2M x3 zl zp z6 zd zh z1 z2) (ZbF 1 (.ptr 0 0) (.ptr 1 0) (.p (.lst ox3 (x3.map ZI))) [(Zi (Zk.mk zl zp z6 zd zh (Zj.mk z1 z2)) zn zb), (Zq b1 zB zy)]) := by
 unfold Z2M
 refine zf (Zgo ..) ?_
 refine ze ?_
 refine zi fun r1 hr1 => ?_
 obtain ⟨qr1, er1, or1_0_4, exr1, hor1_0_4, rfl⟩ := Zaq (zl) (zp) (z6) (zd) (zh) (z1) (z2) zn zb zu r1 hr1
 refine zc [0] (.p (.tup [(.agg (ZD r1.1 .sh .sh)), (.v (.bool r1.2.1))])) [(Zi (Zk.mk zl r1.2.2.1 r1.2.2.2.1 r1.2.2.2.2.1 r1.2.2.2.2.2.1 (Zj.mk r1.2.2.2.2.2.2.1 r1.2.2.2.2.2.2.2)) zn or1_0_4), (Zq b1 zB zy)] er1 ?_
 refine zo (.p (.agg (ZD r1.1 .sh .sh))) ?_
 refine zo (bv r1.2.1) ?_
 refine zz (.ptr 2 0) [(Zi (Zk.mk zl r1.2.2.1 r1.2.2.2.1 r1.2.2.2.2.1 r1.2.2.2.2.2.1 (Zj.mk r1.2.2.2.2.2.2.1 r1.2.2.2.2.2.2.2)) zn or1_0_4), (Zq b1 zB zy), (Zq (Z8.mk 0 0 0 0 0 ([] : List Z7) ([] : List Z8)) .nl .nl)] ?_
 refine zt [(Zi (Zk.mk zl r1.2.2.1 r1.2.2.2.1 r1.2.2.2.2.1 r1.2.2.2.2.2.1 (Zj.mk r1.2.2.2.2.2.2.1 r1.2.2.2.2.2.2.2)) zn or1_0_4), (Zq b1 zB zy), (Zq r1.1 .sh .sh)] ?_
 refine ze ?_
 refine zo (.p (.agg (ZD r1.1 .sh .sh))) ?_
 refine zi fun r2 hr2 => ?_
 obtain ⟨qr2, er2, exr2, rfl⟩ := Z9U (r1.1) (r1.2.1) (zl) (r1.2.2.1) (r1.2.2.2.1) (r1.2.2.2.2.1) (r1.2.2.2.2.2.1) (r1.2.2.2.2.2.2.1) (r1.2.2.2.2.2.2.2) .sh .sh zn or1_0_4 hor1_0_4 r2 hr2
 refine zc [0] (.p (.agg (ZD r2.1 .sh .sh))) [(Zi (Zk.mk zl r2.2.1 r1.2.2.2.1 r1.2.2.2.2.1 r1.2.2.2.2.2.1 (Zj.mk r2.2.2.1 r2.2.2.2)) zn or1_0_4), (Zq b1 zB zy), (Zq r1.1 .sh .sh)] er2 ?_
 refine zo (.p (.lst .ex (([r2.1] : List Z8).map ZI))) ?_ (Eq.trans (b := some (.p (.lst .ex [.agg (Z2l r2.1)]))) (by kernel_rfl) (by simp only [List.map_cons, List.map_nil, Z2V]))
 refine zi fun a3 ha3 => ?_
 refine zo (.p (.lst .un (a3.map ZI))) ?_ (Eq.trans (by kernel_rfl) <| xapp_of (n := 7) (o := ox3) (o' := .ex) (e := ZI) (ys := ([r2.1] : List Z8)) ZaC (by decide) hox3 ha3)
 exact zk (Z6z (a3) (zl) (r2.2.1) (r1.2.2.2.1) (r1.2.2.2.2.1) (r1.2.2.2.2.2.1) (r2.2.2.1) (r2.2.2.2) (b1) .un zn or1_0_4 zB zy rfl hor1_0_4 zP zH)
noncomputable def Z46 (x3 : List Z8) (zl : List Int) (zp : Int) (z6 : Int) (zd : Int) (zh : List Zr) (z1 : Int) (z2 : Int) : Option (Z8 × Int × Int × Int × (List Zr) × Int × Int) :=
 (Z1C ((Zk.mk zl zp z6 zd zh (Zj.mk z1 z2)))).bind fun r1 =>
 if ((r1 == (-1))) = true then
 (if ((r1 == (-1))) = true then
 (Z25 x3 zp z6 zd zh z1 z2)
 else
 (Z2M x3 zl zp z6 zd zh z1 z2))
 else
 (if ((r1 == 124)) = true then
 (if ((r1 == 124)) = true then
 (Z25 x3 zp z6 zd zh z1 z2)
 else
 (Z2M x3 zl zp z6 zd zh z1 z2))
 else
 (if ((r1 == 41)) = true then
 (Z25 x3 zp z6 zd zh z1 z2)
 else
 (Z2M x3 zl zp z6 zd zh z1 z2)))
theorem Z9i (x3 : List Z8) (zl : List Int) (zp : Int) (z6 : Int) (zd : Int) (zh : List Zr) (z1 : Int) (z2 : Int) (b1 : Z8) (ox3 : Own) (zn : Own) (zb : Own) (zB : Own) (zy : Own) (hox3 : okApp ox3 = true) (zu : okApp zb = true) (zP : okApp zB = true) (zH : okApp zy = true) : Sim (Z24 zl zn) (Z46 x3 zl zp z6 zd zh z1 z2) (Zdi 1 (.ptr 0 0) (.ptr 1 0) (.p (.lst ox3 (x3.map ZI))) [(Zi (Zk.mk zl zp z6 zd zh (Zj.mk z1 z2)) zn zb), (Zq b1 zB zy)]) := by
 unfold Z46
 refine zf (Zgk ..) ?_
 refine ze ?_
 refine zi fun r1 hr1 => ?_
 obtain ⟨qr1, er1, exr1, rfl⟩ := Z1F ((Zk.mk zl zp z6 zd zh (Zj.mk z1 z2))) zn zb zu r1 hr1
 refine zc [0] (iv r1) [(Zi (Zk.mk zl zp z6 zd zh (Zj.mk z1 z2)) zn zb), (Zq b1 zB zy)] er1 ?_
 refine ze ?_
 refine zo (bv (r1 == (-1))) ?_
 refine za ((r1 == (-1))) ?_ ?_
 ·refine za ((r1 == (-1))) ?_ ?_
  ·exact zk (Z4g (x3) (zl) (zp) (z6) (zd) (zh) (z1) (z2) (b1) ox3 zn zb zB zy hox3 zu zP zH)
  ·exact zk (Z5i (x3) (zl) (zp) (z6) (zd) (zh) (z1) (z2) (b1) ox3 zn zb zB zy hox3 zu zP zH)
 ·refine ze ?_
  refine zo (bv (r1 == 124)) ?_
  refine za ((r1 == 124)) ?_ ?_
  ·refine za ((r1 == 124)) ?_ ?_
   ·exact zk (Z4g (x3) (zl) (zp) (z6) (zd) (zh) (z1) (z2) (b1) ox3 zn zb zB zy hox3 zu zP zH)
   ·exact zk (Z5i (x3) (zl) (zp) (z6) (zd) (zh) (z1) (z2) (b1) ox3 zn zb zB zy hox3 zu zP zH)
  ·refine ze ?_
   refine zo (bv (r1 == 41)) ?_
   refine za ((r1 == 41)) ?_ ?_
   ·exact zk (Z4g (x3) (zl) (zp) (z6) (zd) (zh) (z1) (z2) (b1) ox3 zn zb zB zy hox3 zu zP zH)
   ·exact zk (Z5i (x3) (zl) (zp) (z6) (zd) (zh) (z1) (z2) (b1) ox3 zn zb zB zy hox3 zu zP zH)
noncomputable def Z3Y (x3 : List Z8) (zl : List Int) (zp : Int) (z6 : Int) (zd : Int) (zh : List Zr) (z1 : Int) (z2 : Int) : Option (Z8 × Int × Int × Int × (List Zr) × Int × Int) :=
 if ((z1 == 0)) = true then
 (Z46 x3 zl zp z6 zd zh z1 z2)
 else
 (Z25 x3 zp z6 zd zh z1 z2)
theorem Z9h (x3 : List Z8) (zl : List Int) (zp : Int) (z6 : Int) (zd : Int) (zh : List Zr) (z1 : Int) (z2 : Int) (b1 : Z8) (ox3 : Own) (zn : Own) (zb : Own) (zB : Own) (zy : Own) (hox3 : okApp ox3 = true) (zu : okApp zb = true) (zP : okApp zB = true) (zH : okApp zy = true) : Sim (Z24 zl zn) (Z3Y x3 zl zp z6 zd zh z1 z2) (ZaE 1 (.ptr 0 0) (.ptr 1 0) (.p (.lst ox3 (x3.map ZI))) [(Zi (Zk.mk zl zp z6 zd zh (Zj.mk z1 z2)) zn zb), (Zq b1 zB zy)]) := by
 unfold Z3Y
 refine zf (Zgx ..) ?_
 refine ze ?_
 refine zo (.ptr 0 0) ?_
 refine zo (.ptr 0 5) ?_
 refine zo (.ptr 0 5) ?_
 refine zo (iv z1) ?_
 refine zo (bv (z1 == 0)) ?_
 refine za ((z1 == 0)) ?_ ?_
 ·exact zk (Z9i (x3) (zl) (zp) (z6) (zd) (zh) (z1) (z2) (b1) ox3 zn zb zB zy hox3 zu zP zH)
 ·exact zk (Z4g (x3) (zl) (zp) (z6) (zd) (zh) (z1) (z2) (b1) ox3 zn zb zB zy hox3 zu zP zH)
theorem Z6w (x3 : List Z8) (zl : List Int) (zp : Int) (z6 : Int) (zd : Int) (zh : List Zr) (z1 : Int) (z2 : Int) {r} (h : Z3Y x3 zl zp z6 zd zh z1 z2 = some r) : Z3j x3 zl zp z6 zd zh z1 z2 = some r :=
 pick_of (fun _ _ ha hb => RRun.uniq (Z84 _ _) (ha default .ex .ex .ex .ex .ex rfl rfl rfl rfl) (hb default .ex .ex .ex .ex .ex rfl rfl rfl rfl)) (fun b1 ox3 zn zb zB zy hox3 zu zP zH => Z9h x3 zl zp z6 zd zh z1 z2 b1 ox3 zn zb zB zy hox3 zu zP zH r h)
noncomputable def Z4M (b0 : Zk) : Option (Int) :=
 (Z7t b0.b b0.at_).bind fun r1 =>
 some (r1.1)
theorem Z97 (b0 : Zk) (zn : Own) (zb : Own) (zu : okApp zb = true) : Sim (Z3M b0 zn zb) (Z4M b0) (ZdH 1 (.ptr 0 0) [(Zi b0 zn zb)]) := by
 unfold Z4M
 refine zf (Zg5 ..) ?_
 refine ze ?_
 refine zo (.ptr 0 0) ?_
 refine zo (.ptr 0 0) ?_
 refine zo (.p (.lst (shrO zn) (b0.b.map (eI .u8)))) ?_
 refine zo (.ptr 0 0) ?_
 refine zo (.ptr 0 1) ?_
 refine zo (iv b0.at_) ?_
 refine zi fun r1 hr1 => ?_
 obtain ⟨qr1, er1, exr1, rfl⟩ := ZaT (b0.b) (b0.at_) .sh r1 hr1
 refine zc [] (.p (.tup [(.v (.int .i64 r1.1)), (.v (.int .i64 r1.2))])) [(Zi b0 zn zb)] er1 ?_
 refine zo (iv r1.1) ?_
 refine zo (iv r1.2) ?_
 refine ze ?_
 exact zr ((iv r1.1), [(Zi b0 zn zb)]) ⟨_, rfl⟩
noncomputable def Z5t (b0 : Zk) : Option (Int) :=
 if ((decide ((b0.b.length : Int) ≤ b0.at_))) = true then
 (some ((-1)))
 else
 (Z4M b0)
theorem Z9X (b0 : Zk) (zn : Own) (zb : Own) (zu : okApp zb = true) : Sim (Z3M b0 zn zb) (Z5t b0) (EE 41 [(.ptr 0 0)] [(Zi b0 zn zb)]) := by
 unfold Z5t
 refine zf (ZgZ ..) ?_
 refine ze ?_
 refine ze ?_
 refine zo (.ptr 0 0) ?_
 refine zo (.ptr 0 1) ?_
 refine zo (iv b0.at_) ?_
 refine zo (.ptr 0 0) ?_
 refine zo (.ptr 0 0) ?_
 refine zo (.p (.lst (shrO zn) (b0.b.map (eI .u8)))) ?_
 refine zo (iv (b0.b.length : Int)) ?_ (Eq.trans (by kernel_rfl) (xlen_of (P := PP) (t := 40) (d := 5) (by kernel_rfl) (eI .u8) (shrO zn) b0.b))
 refine zo (bv (decide ((b0.b.length : Int) ≤ b0.at_))) ?_
 refine za ((decide ((b0.b.length : Int) ≤ b0.at_))) ?_ ?_
 ·refine ze ?_
  exact zr ((iv (-1)), [(Zi b0 zn zb)]) ⟨_, rfl⟩
 ·exact zk (Z97 (b0) zn zb zu)
theorem Zap (b0 : Zk) {r} (h : Z5t b0 = some r) : Z1C b0 = some r :=
 pick_of (fun _ _ ha hb => RRun.uniq (ZaA _ _ _) (ha .ex .ex rfl) (hb .ex .ex rfl)) (fun zn zb zu => Z9X b0 zn zb zu r h)
noncomputable def Z6Q  : Option (Int × Int) :=
 some (0, 0)
theorem Z8W  : Sim (Z4R) (Z6Q) (Zce 0  []) := by
 unfold Z6Q
 refine zf (ZfK ..) ?_
 refine ze ?_
 exact zr ((.p (.tup [(.v (.int .i64 0)), (.v (.int .i64 0))])), []) ⟨_, rfl⟩
noncomputable def Z71 (x0 : List Int) (x1 : Int) : Option (Int × Int) :=
 (lget x0 x1).bind fun a1 =>
 some ((IntKind.i64.wrap (1114112 + (IntKind.i64.wrap a1))), 1)
theorem Zbv (x0 : List Int) (x1 : Int) (ox0 : Own) : Sim (Z4R) (Z71 x0 x1) (ZdV 0 (.p (.lst ox0 (x0.map (eI .u8)))) (iv x1) []) := by
 unfold Z71
 refine zf (ZfN ..) ?_
 refine ze ?_
 refine zi fun a1 ha1 => ?_
 refine zo (.cptr [(.v (.int .u8 a1))]) ?_ (Eq.trans (by kernel_rfl) (xidx_of (o := (shrO ox0)) (k := .i64) (n := 1) (e := (eI .u8)) (cs := (fun a => [(eI .u8) a])) (fun _ => rfl) (fun _ => rfl) (by decide) ha1))
 refine zo (.p (.v (.int .u8 a1))) ?_
 refine zo (iv (IntKind.i64.wrap a1)) ?_
 refine zo (iv (IntKind.i64.wrap (1114112 + (IntKind.i64.wrap a1)))) ?_
 exact zr ((.p (.tup [(.v (.int .i64 (IntKind.i64.wrap (1114112 + (IntKind.i64.wrap a1))))), (.v (.int .i64 1))])), []) ⟨_, rfl⟩
noncomputable def Z5k (x6 : Int) (x7 : Int) : Option (Int × Int) :=
 some ((IntKind.i64.wrap x6), x7)
theorem Z8Z (x6 : Int) (x7 : Int) : Sim (Z4R) (Z5k x6 x7) (Zcc 0 (.p (.v (.int .i32 x6))) (iv x7) []) := by
 unfold Z5k
 refine zf (Zg2 ..) ?_
 refine ze ?_
 refine zo (iv (IntKind.i64.wrap x6)) ?_
 exact zr ((.p (.tup [(.v (.int .i64 (IntKind.i64.wrap x6))), (.v (.int .i64 x7))])), []) ⟨_, rfl⟩
noncomputable def Z6Y (x0 : List Int) (x1 : Int) : Option (Int × Int) :=
 (lsl x0 x1 (x0.length : Int)).bind fun a1 =>
 (Z5g a1).bind fun r2 =>
 if ((r2.1 == 65533)) = true then
 (if ((r2.2 == 1)) = true then
 (Z71 x0 x1)
 else
 (Z5k r2.1 r2.2))
 else
 (Z5k r2.1 r2.2)
theorem ZbA (x0 : List Int) (x1 : Int) (ox0 : Own) : Sim (Z4R) (Z6Y x0 x1) (Zdx 0 (.p (.lst ox0 (x0.map (eI .u8)))) (iv x1) []) := by
 unfold Z6Y
 refine zf (Zgp ..) ?_
 refine ze ?_
 refine zi fun a1 ha1 => ?_
 refine zo (.p (.lst (slO (shrO ox0)) (a1.map (eI .u8)))) ?_ (Eq.trans (by kernel_rfl) <| xsl_of (n := 1) (o := (shrO ox0)) (lo := (some (iv x1))) (hi := none) (e := (eI .u8)) (fun _ => rfl) (by decide) (by kernel_rfl) (by kernel_rfl) ha1)
 refine zi fun r2 hr2 => ?_
 obtain ⟨qr2, er2, exr2, rfl⟩ := Z8K (a1) .sh r2 hr2
 refine zc [] (.p (.tup [(.v (.int .i32 r2.1)), (.v (.int .i64 r2.2))])) [] er2 ?_
 refine zo (.p (.v (.int .i32 r2.1))) ?_
 refine zo (iv r2.2) ?_
 refine ze ?_
 refine zo (bv (r2.1 == 65533)) ?_
 refine za ((r2.1 == 65533)) ?_ ?_
 ·refine zo (bv (r2.2 == 1)) ?_
  refine za ((r2.2 == 1)) ?_ ?_
  ·exact zk (Zbv (x0) (x1) ox0)
  ·exact zk (Z8Z (r2.1) (r2.2))
 ·exact zk (Z8Z (r2.1) (r2.2))
noncomputable def Z8M (x0 : List Int) (x1 : Int) : Option (Int × Int) :=
 if ((decide (x1 < 0))) = true then
 (Z6Q)
 else
 (if ((decide ((x0.length : Int) ≤ x1))) = true then
 (Z6Q)
 else
 (Z6Y x0 x1))
theorem Zcn (x0 : List Int) (x1 : Int) (ox0 : Own) : Sim (Z4R) (Z8M x0 x1) (EE 45 [(.p (.lst ox0 (x0.map (eI .u8)))), (iv x1)] []) := by
 unfold Z8M
 refine zf (ZgV ..) ?_
 refine ze ?_
 refine ze ?_
 refine zo (bv (decide (x1 < 0))) ?_
 refine za ((decide (x1 < 0))) ?_ ?_
 ·exact zk (Z8W )
 ·refine zo (iv (x0.length : Int)) ?_ (Eq.trans (by kernel_rfl) (xlen_of (P := PP) (t := 40) (d := 5) (by kernel_rfl) (eI .u8) (shrO ox0) x0))
  refine zo (bv (decide ((x0.length : Int) ≤ x1))) ?_
  refine za ((decide ((x0.length : Int) ≤ x1))) ?_ ?_
  ·exact zk (Z8W )
  ·exact zk (ZbA (x0) (x1) ox0)
theorem ZcW (x0 : List Int) (x1 : Int) {r} (h : Z8M x0 x1 = some r) : Z7t x0 x1 = some r :=
 pick_of (fun _ _ ha hb => RRun.uniq (Zd1) (ha .ex) (hb .ex)) (fun ox0 => Zcn x0 x1 ox0 r h)
end Go.Proofs.YtadodmjdkphddaaDoor.N2
end
section
set_option linter.unusedSimpArgs false
set_option linter.unusedVariables false
namespace Go.Proofs.YtadodmjdkphddaaDoor.N2
open Go Go.Abs
set_option linter.unusedVariables false
set_option maxRecDepth 100000
noncomputable def Z7i (x0 : Int) (x1 : List Z8) : Option (Z8) :=
 some ((Z8.mk x0 0 0 0 0 ([] : List Z7) x1))
theorem Zba (x0 : Int) (x1 : List Z8) (b0 : Z8) (ox1 : Own) (z2c : Own) (z1I : Own) (zgD : okApp z2c = true) (zfu : okApp z1I = true) : Sim (Z5m) (Z7i x0 x1) (Zd9 0 (iv x0) (.p (.lst ox1 (x1.map ZI))) (.ptr 0 0) [(Zq b0 z2c z1I)]) := by
 unfold Z7i
 refine zf (Zg4 ..) ?_
 refine ze ?_
 refine zo (.p (.agg (ZD (Z8.mk x0 0 0 0 0 ([] : List Z7) x1) .nl (shrO (shrO ox1))))) ?_
 refine zt [(Zq (Z8.mk x0 0 0 0 0 ([] : List Z7) x1) .nl (shrO (shrO ox1)))] ?_
 exact zr ((.p (.agg (ZD (Z8.mk x0 0 0 0 0 ([] : List Z7) x1) .sh .sh))), [(Zq (Z8.mk x0 0 0 0 0 ([] : List Z7) x1) .nl (shrO (shrO ox1)))]) ⟨_, rfl⟩
noncomputable def Z6Z (x0 : Int) (x1 : List Z8) : Option (Z8) :=
 if (((x1.length : Int) == 0)) = true then
 (some ((Z8.mk 0 0 0 0 0 ([] : List Z7) ([] : List Z8))))
 else
 (if (((x1.length : Int) == 1)) = true then
 ((lget x1 0).bind fun a1 =>
 some (a1))
 else
 (Z7i x0 x1))
theorem ZbD (x0 : Int) (x1 : List Z8) (ox1 : Own) : Sim (Z5m) (Z6Z x0 x1) (EE 36 [(iv x0), (.p (.lst ox1 (x1.map ZI)))] []) := by
 unfold Z6Z
 refine zf (Zi3 ..) ?_
 refine ze ?_
 refine zz (.ptr 0 0) [(Zq (Z8.mk 0 0 0 0 0 ([] : List Z7) ([] : List Z8)) .nl .nl)] ?_
 refine ze ?_
 refine zo (iv (x1.length : Int)) ?_ (Eq.trans (by kernel_rfl) (xlen_of (P := PP) (t := 25) (d := 27) (by kernel_rfl) ZI (shrO ox1) x1))
 refine ze ?_
 refine zo (bv ((x1.length : Int) == 0)) ?_
 refine za (((x1.length : Int) == 0)) ?_ ?_
 ·refine ze ?_
  refine zo (.p (.agg (ZD (Z8.mk 0 0 0 0 0 ([] : List Z7) ([] : List Z8)) .nl .nl))) ?_
  refine zt [(Zq (Z8.mk 0 0 0 0 0 ([] : List Z7) ([] : List Z8)) .nl .nl)] ?_
  exact zr ((.p (.agg (ZD (Z8.mk 0 0 0 0 0 ([] : List Z7) ([] : List Z8)) .sh .sh))), [(Zq (Z8.mk 0 0 0 0 0 ([] : List Z7) ([] : List Z8)) .nl .nl)]) ⟨_, rfl⟩
 ·refine ze ?_
  refine zo (bv ((x1.length : Int) == 1)) ?_
  refine za (((x1.length : Int) == 1)) ?_ ?_
  ·refine ze ?_
   refine zi fun a1 ha1 => ?_
   refine zo (.cptr (ZD a1 .sh .sh)) ?_ (Eq.trans (by kernel_rfl) (xidx_of (o := (shrO ox1)) (k := .i64) (n := 7) (e := ZI) (cs := Z2l) Z5T (fun _ => rfl) (by decide) ha1))
   refine zo (.p (.agg (ZD a1 .sh .sh))) ?_
   refine zt [(Zq a1 .sh .sh)] ?_
   exact zr ((.p (.agg (ZD a1 .sh .sh))), [(Zq a1 .sh .sh)]) ⟨_, rfl⟩
  ·exact zk (Zba (x0) (x1) ((Z8.mk 0 0 0 0 0 ([] : List Z7) ([] : List Z8))) ox1 .nl .nl rfl rfl)
theorem ZbV (x0 : Int) (x1 : List Z8) {r} (h : Z6Z x0 x1 = some r) : Z5X x0 x1 = some r :=
 pick_of (fun _ _ ha hb => RRun.uniq (Zc2) (ha .ex) (hb .ex)) (fun ox1 => ZbD x0 x1 ox1 r h)
noncomputable def Z1d (zp : Int) (z6 : Int) (zd : Int) (zh : List Zr) (z1 : Int) (z2 : Int) : Option (Z8 × Bool × Int × Int × Int × (List Zr) × Int × Int) :=
 some ((Z8.mk 0 0 0 0 0 ([] : List Z7) ([] : List Z8)), true, zp, z6, zd, zh, z1, z2)
theorem Z1e (zl : List Int) (zp : Int) (z6 : Int) (zd : Int) (zh : List Zr) (z1 : Int) (z2 : Int) (b1 : Z8) (zn : Own) (zb : Own) (zB : Own) (zy : Own) (zu : okApp zb = true) (zP : okApp zB = true) (zH : okApp zy = true) : Sim (Z3N zl zn) (Z1d zp z6 zd zh z1 z2) (Z52 1 (.ptr 1 0) [(Zi (Zk.mk zl zp z6 zd zh (Zj.mk z1 z2)) zn zb), (Zq b1 zB zy)]) := by
 unfold Z1d
 refine zf (ZeW ..) ?_
 refine ze ?_
 refine zo (.p (.agg (ZD (Z8.mk 0 0 0 0 0 ([] : List Z7) ([] : List Z8)) .nl .nl))) ?_
 refine zt [(Zi (Zk.mk zl zp z6 zd zh (Zj.mk z1 z2)) zn zb), (Zq (Z8.mk 0 0 0 0 0 ([] : List Z7) ([] : List Z8)) .nl .nl)] ?_
 exact zr ((.p (.tup [(.agg (ZD (Z8.mk 0 0 0 0 0 ([] : List Z7) ([] : List Z8)) .sh .sh)), (.v (.bool true))])), [(Zi (Zk.mk zl zp z6 zd zh (Zj.mk z1 z2)) zn zb), (Zq (Z8.mk 0 0 0 0 0 ([] : List Z7) ([] : List Z8)) .nl .nl)]) ⟨zb, _, zu, rfl⟩
noncomputable def Z4B (zl : List Int) (zp : Int) (z6 : Int) (zd : Int) (zh : List Zr) (z1 : Int) (z2 : Int) : Option (Z8 × Bool × Int × Int × Int × (List Zr) × Int × Int) :=
 (Z1W zl zp).bind fun r1 =>
 if ((r1.1 == 46)) = true then
 ((Z1v 10).bind fun r2 =>
 (Z2t true (([r2] : List Z7))).bind fun r3 =>
 some (r3, true, r1.2, z6, zd, zh, z1, z2))
 else
 (if ((r1.1 == 94)) = true then
 (some ((Z8.mk 9 0 0 0 0 ([] : List Z7) ([] : List Z8)), false, r1.2, z6, zd, zh, z1, z2))
 else
 (if ((r1.1 == 36)) = true then
 (some ((Z8.mk 9 0 0 0 1 ([] : List Z7) ([] : List Z8)), false, r1.2, z6, zd, zh, z1, z2))
 else
 (if ((r1.1 == 92)) = true then
 ((Z2O zp zl r1.2 z6 zd zh z1 z2).bind fun r4 =>
 some (r4.1, (r4.1.Kind != 9), r4.2.1, z6, zd, r4.2.2.1, r4.2.2.2.1, r4.2.2.2.2))
 else
 (if ((r1.1 == 91)) = true then
 ((Z5j zp zl r1.2 z6 zd zh z1 z2).bind fun r5 =>
 some (r5.1, true, r5.2.1, z6, zd, zh, r5.2.2.1, r5.2.2.2))
 else
 (if ((r1.1 == 40)) = true then
 ((Z2U zp zl r1.2 z6 zd zh z1 z2).bind fun r6 =>
 some (r6.1, r6.2.1, r6.2.2.1, r6.2.2.2.1, r6.2.2.2.2.1, r6.2.2.2.2.2.1, r6.2.2.2.2.2.2.1, r6.2.2.2.2.2.2.2))
 else
 (if ((r1.1 == 42)) = true then
 (if ((r1.1 == 42)) = true then
 ((ZT 23 zp zl z1 z2).bind fun r7 =>
 Z1d r7.1 z6 zd zh r7.2.1 r7.2.2)
 else
 (if ((r1.1 == 93)) = true then
 (if ((r1.1 == 93)) = true then
 ((ZT 20 zp zl z1 z2).bind fun r8 =>
 Z1d r8.1 z6 zd zh r8.2.1 r8.2.2)
 else
 ((Z1v r1.1).bind fun r9 =>
 (Z2t false (([r9] : List Z7))).bind fun r10 =>
 some (r10, true, r1.2, z6, zd, zh, z1, z2)))
 else
 (if ((r1.1 == 125)) = true then
 ((ZT 20 zp zl z1 z2).bind fun r11 =>
 Z1d r11.1 z6 zd zh r11.2.1 r11.2.2)
 else
 ((Z1v r1.1).bind fun r12 =>
 (Z2t false (([r12] : List Z7))).bind fun r13 =>
 some (r13, true, r1.2, z6, zd, zh, z1, z2)))))
 else
 (if ((r1.1 == 43)) = true then
 (if ((r1.1 == 43)) = true then
 ((ZT 23 zp zl z1 z2).bind fun r14 =>
 Z1d r14.1 z6 zd zh r14.2.1 r14.2.2)
 else
 (if ((r1.1 == 93)) = true then
 (if ((r1.1 == 93)) = true then
 ((ZT 20 zp zl z1 z2).bind fun r15 =>
 Z1d r15.1 z6 zd zh r15.2.1 r15.2.2)
 else
 ((Z1v r1.1).bind fun r16 =>
 (Z2t false (([r16] : List Z7))).bind fun r17 =>
 some (r17, true, r1.2, z6, zd, zh, z1, z2)))
 else
 (if ((r1.1 == 125)) = true then
 ((ZT 20 zp zl z1 z2).bind fun r18 =>
 Z1d r18.1 z6 zd zh r18.2.1 r18.2.2)
 else
 ((Z1v r1.1).bind fun r19 =>
 (Z2t false (([r19] : List Z7))).bind fun r20 =>
 some (r20, true, r1.2, z6, zd, zh, z1, z2)))))
 else
 (if ((r1.1 == 63)) = true then
 (if ((r1.1 == 63)) = true then
 ((ZT 23 zp zl z1 z2).bind fun r21 =>
 Z1d r21.1 z6 zd zh r21.2.1 r21.2.2)
 else
 (if ((r1.1 == 93)) = true then
 (if ((r1.1 == 93)) = true then
 ((ZT 20 zp zl z1 z2).bind fun r22 =>
 Z1d r22.1 z6 zd zh r22.2.1 r22.2.2)
 else
 ((Z1v r1.1).bind fun r23 =>
 (Z2t false (([r23] : List Z7))).bind fun r24 =>
 some (r24, true, r1.2, z6, zd, zh, z1, z2)))
 else
 (if ((r1.1 == 125)) = true then
 ((ZT 20 zp zl z1 z2).bind fun r25 =>
 Z1d r25.1 z6 zd zh r25.2.1 r25.2.2)
 else
 ((Z1v r1.1).bind fun r26 =>
 (Z2t false (([r26] : List Z7))).bind fun r27 =>
 some (r27, true, r1.2, z6, zd, zh, z1, z2)))))
 else
 (if ((r1.1 == 123)) = true then
 ((ZT 23 zp zl z1 z2).bind fun r28 =>
 Z1d r28.1 z6 zd zh r28.2.1 r28.2.2)
 else
 (if ((r1.1 == 93)) = true then
 (if ((r1.1 == 93)) = true then
 ((ZT 20 zp zl z1 z2).bind fun r29 =>
 Z1d r29.1 z6 zd zh r29.2.1 r29.2.2)
 else
 ((Z1v r1.1).bind fun r30 =>
 (Z2t false (([r30] : List Z7))).bind fun r31 =>
 some (r31, true, r1.2, z6, zd, zh, z1, z2)))
 else
 (if ((r1.1 == 125)) = true then
 ((ZT 20 zp zl z1 z2).bind fun r32 =>
 Z1d r32.1 z6 zd zh r32.2.1 r32.2.2)
 else
 ((Z1v r1.1).bind fun r33 =>
 (Z2t false (([r33] : List Z7))).bind fun r34 =>
 some (r34, true, r1.2, z6, zd, zh, z1, z2)))))))))))))
theorem Za8 (zl : List Int) (zp : Int) (z6 : Int) (zd : Int) (zh : List Zr) (z1 : Int) (z2 : Int) (zn : Own) (zb : Own) (zu : okApp zb = true) : Sim (Z3N zl zn) (Z4B zl zp z6 zd zh z1 z2) (EE 42 [(.ptr 0 0)] [(Zi (Zk.mk zl zp z6 zd zh (Zj.mk z1 z2)) zn zb)]) := by
 unfold Z4B
 refine zf (Zh6 ..) ?_
 refine ze ?_
 refine zz (.ptr 1 0) [(Zi (Zk.mk zl zp z6 zd zh (Zj.mk z1 z2)) zn zb), (Zq (Z8.mk 0 0 0 0 0 ([] : List Z7) ([] : List Z8)) .nl .nl)] ?_
 refine ze ?_
 refine zo (.ptr 0 0) ?_
 refine zo (.ptr 0 1) ?_
 refine zo (iv zp) ?_
 refine ze ?_
 refine zi fun r1 hr1 => ?_
 obtain ⟨qr1, er1, exr1, rfl⟩ := Z2g (zl) (zp) (z6) (zd) (zh) (z1) (z2) zn zb zu r1 hr1
 refine zc [0] (iv r1.1) [(Zi (Zk.mk zl r1.2 z6 zd zh (Zj.mk z1 z2)) zn zb), (Zq (Z8.mk 0 0 0 0 0 ([] : List Z7) ([] : List Z8)) .nl .nl)] er1 ?_
 refine ze ?_
 refine ze ?_
 refine zo (bv (r1.1 == 46)) ?_
 refine za ((r1.1 == 46)) ?_ ?_
 ·refine ze ?_
  refine zi fun r2 hr2 => ?_
  obtain ⟨qr2, er2, exr2, rfl⟩ := Z1p (10) r2 hr2
  refine zc [] (.p (.agg (ZF r2))) [(Zi (Zk.mk zl r1.2 z6 zd zh (Zj.mk z1 z2)) zn zb), (Zq (Z8.mk 0 0 0 0 0 ([] : List Z7) ([] : List Z8)) .nl .nl)] er2 ?_
  refine zo (.p (.lst .ex (([r2] : List Z7).map Zs))) ?_
  refine zi fun r3 hr3 => ?_
  obtain ⟨qr3, er3, exr3, rfl⟩ := Z2E (true) (([r2] : List Z7)) .sh r3 hr3
  refine zc [] (.p (.agg (ZD r3 .sh .sh))) [(Zi (Zk.mk zl r1.2 z6 zd zh (Zj.mk z1 z2)) zn zb), (Zq (Z8.mk 0 0 0 0 0 ([] : List Z7) ([] : List Z8)) .nl .nl)] er3 ?_
  refine zt [(Zi (Zk.mk zl r1.2 z6 zd zh (Zj.mk z1 z2)) zn zb), (Zq r3 .sh .sh)] ?_
  exact zr ((.p (.tup [(.agg (ZD r3 .sh .sh)), (.v (.bool true))])), [(Zi (Zk.mk zl r1.2 z6 zd zh (Zj.mk z1 z2)) zn zb), (Zq r3 .sh .sh)]) ⟨zb, _, zu, rfl⟩
 ·refine ze ?_
  refine zo (bv (r1.1 == 94)) ?_
  refine za ((r1.1 == 94)) ?_ ?_
  ·refine ze ?_
   refine zo (.p (.agg (ZD (Z8.mk 9 0 0 0 0 ([] : List Z7) ([] : List Z8)) .nl .nl))) ?_
   refine zt [(Zi (Zk.mk zl r1.2 z6 zd zh (Zj.mk z1 z2)) zn zb), (Zq (Z8.mk 9 0 0 0 0 ([] : List Z7) ([] : List Z8)) .nl .nl)] ?_
   exact zr ((.p (.tup [(.agg (ZD (Z8.mk 9 0 0 0 0 ([] : List Z7) ([] : List Z8)) .sh .sh)), (.v (.bool false))])), [(Zi (Zk.mk zl r1.2 z6 zd zh (Zj.mk z1 z2)) zn zb), (Zq (Z8.mk 9 0 0 0 0 ([] : List Z7) ([] : List Z8)) .nl .nl)]) ⟨zb, _, zu, rfl⟩
  ·refine ze ?_
   refine zo (bv (r1.1 == 36)) ?_
   refine za ((r1.1 == 36)) ?_ ?_
   ·refine ze ?_
    refine zo (.p (.agg (ZD (Z8.mk 9 0 0 0 1 ([] : List Z7) ([] : List Z8)) .nl .nl))) ?_
    refine zt [(Zi (Zk.mk zl r1.2 z6 zd zh (Zj.mk z1 z2)) zn zb), (Zq (Z8.mk 9 0 0 0 1 ([] : List Z7) ([] : List Z8)) .nl .nl)] ?_
    exact zr ((.p (.tup [(.agg (ZD (Z8.mk 9 0 0 0 1 ([] : List Z7) ([] : List Z8)) .sh .sh)), (.v (.bool false))])), [(Zi (Zk.mk zl r1.2 z6 zd zh (Zj.mk z1 z2)) zn zb), (Zq (Z8.mk 9 0 0 0 1 ([] : List Z7) ([] : List Z8)) .nl .nl)]) ⟨zb, _, zu, rfl⟩
   ·refine ze ?_
    refine zo (bv (r1.1 == 92)) ?_
    refine za ((r1.1 == 92)) ?_ ?_
    ·refine ze ?_
     refine zi fun r4 hr4 => ?_
     obtain ⟨qr4, er4, or4_0_4, exr4, hor4_0_4, rfl⟩ := Z9S (zp) (zl) (r1.2) (z6) (zd) (zh) (z1) (z2) zn zb zu r4 hr4
     refine zc [0] (.p (.agg (ZD r4.1 .sh .sh))) [(Zi (Zk.mk zl r4.2.1 z6 zd r4.2.2.1 (Zj.mk r4.2.2.2.1 r4.2.2.2.2)) zn or4_0_4), (Zq (Z8.mk 0 0 0 0 0 ([] : List Z7) ([] : List Z8)) .nl .nl)] er4 ?_
     refine zz (.ptr 2 0) [(Zi (Zk.mk zl r4.2.1 z6 zd r4.2.2.1 (Zj.mk r4.2.2.2.1 r4.2.2.2.2)) zn or4_0_4), (Zq (Z8.mk 0 0 0 0 0 ([] : List Z7) ([] : List Z8)) .nl .nl), (Zq (Z8.mk 0 0 0 0 0 ([] : List Z7) ([] : List Z8)) .nl .nl)] ?_
     refine zt [(Zi (Zk.mk zl r4.2.1 z6 zd r4.2.2.1 (Zj.mk r4.2.2.2.1 r4.2.2.2.2)) zn or4_0_4), (Zq (Z8.mk 0 0 0 0 0 ([] : List Z7) ([] : List Z8)) .nl .nl), (Zq r4.1 .sh .sh)] ?_
     refine ze ?_
     refine zo (.p (.agg (ZD r4.1 .sh .sh))) ?_
     refine zo (.ptr 2 0) ?_
     refine zo (iv r4.1.Kind) ?_
     refine zo (bv (r4.1.Kind != 9)) ?_
     refine zt [(Zi (Zk.mk zl r4.2.1 z6 zd r4.2.2.1 (Zj.mk r4.2.2.2.1 r4.2.2.2.2)) zn or4_0_4), (Zq r4.1 .sh .sh), (Zq r4.1 .sh .sh)] ?_
     refine zg ?_
     exact zr ((.p (.tup [(.agg (ZD r4.1 .sh .sh)), (.v (.bool (r4.1.Kind != 9)))])), [(Zi (Zk.mk zl r4.2.1 z6 zd r4.2.2.1 (Zj.mk r4.2.2.2.1 r4.2.2.2.2)) zn or4_0_4), (Zq r4.1 .sh .sh), (Zq r4.1 .sh .sh)]) ⟨or4_0_4, _, hor4_0_4, rfl⟩
    ·refine ze ?_
     refine zo (bv (r1.1 == 91)) ?_
     refine za ((r1.1 == 91)) ?_ ?_
     ·refine ze ?_
      refine zi fun r5 hr5 => ?_
      obtain ⟨qr5, er5, exr5, rfl⟩ := Za3 (zp) (zl) (r1.2) (z6) (zd) (zh) (z1) (z2) zn zb zu r5 hr5
      refine zc [0] (.p (.agg (ZD r5.1 .sh .sh))) [(Zi (Zk.mk zl r5.2.1 z6 zd zh (Zj.mk r5.2.2.1 r5.2.2.2)) zn zb), (Zq (Z8.mk 0 0 0 0 0 ([] : List Z7) ([] : List Z8)) .nl .nl)] er5 ?_
      refine zt [(Zi (Zk.mk zl r5.2.1 z6 zd zh (Zj.mk r5.2.2.1 r5.2.2.2)) zn zb), (Zq r5.1 .sh .sh)] ?_
      exact zr ((.p (.tup [(.agg (ZD r5.1 .sh .sh)), (.v (.bool true))])), [(Zi (Zk.mk zl r5.2.1 z6 zd zh (Zj.mk r5.2.2.1 r5.2.2.2)) zn zb), (Zq r5.1 .sh .sh)]) ⟨zb, _, zu, rfl⟩
     ·refine ze ?_
      refine zo (bv (r1.1 == 40)) ?_
      refine za ((r1.1 == 40)) ?_ ?_
      ·refine ze ?_
       refine zi fun r6 hr6 => ?_
       obtain ⟨qr6, er6, or6_0_4, exr6, hor6_0_4, rfl⟩ := Z9W (zp) (zl) (r1.2) (z6) (zd) (zh) (z1) (z2) zn zb zu r6 hr6
       refine zc [0] (.p (.tup [(.agg (ZD r6.1 .sh .sh)), (.v (.bool r6.2.1))])) [(Zi (Zk.mk zl r6.2.2.1 r6.2.2.2.1 r6.2.2.2.2.1 r6.2.2.2.2.2.1 (Zj.mk r6.2.2.2.2.2.2.1 r6.2.2.2.2.2.2.2)) zn or6_0_4), (Zq (Z8.mk 0 0 0 0 0 ([] : List Z7) ([] : List Z8)) .nl .nl)] er6 ?_
       refine zo (.p (.agg (ZD r6.1 .sh .sh))) ?_
       refine zo (bv r6.2.1) ?_
       refine zt [(Zi (Zk.mk zl r6.2.2.1 r6.2.2.2.1 r6.2.2.2.2.1 r6.2.2.2.2.2.1 (Zj.mk r6.2.2.2.2.2.2.1 r6.2.2.2.2.2.2.2)) zn or6_0_4), (Zq r6.1 .sh .sh)] ?_
       exact zr ((.p (.tup [(.agg (ZD r6.1 .sh .sh)), (.v (.bool r6.2.1))])), [(Zi (Zk.mk zl r6.2.2.1 r6.2.2.2.1 r6.2.2.2.2.1 r6.2.2.2.2.2.1 (Zj.mk r6.2.2.2.2.2.2.1 r6.2.2.2.2.2.2.2)) zn or6_0_4), (Zq r6.1 .sh .sh)]) ⟨or6_0_4, _, hor6_0_4, rfl⟩
      ·refine ze ?_
       refine zo (bv (r1.1 == 42)) ?_
       refine za ((r1.1 == 42)) ?_ ?_
       ·refine za ((r1.1 == 42)) ?_ ?_
        ·refine ze ?_
         refine zi fun r7 hr7 => ?_
         obtain ⟨qr7, er7, exr7, rfl⟩ := ZW (23) (zp) (zl) (r1.2) (z6) (zd) (zh) (z1) (z2) zn zb zu r7 hr7
         refine zc [0] (.p (.tup [])) [(Zi (Zk.mk zl r7.1 z6 zd zh (Zj.mk r7.2.1 r7.2.2)) zn zb), (Zq (Z8.mk 0 0 0 0 0 ([] : List Z7) ([] : List Z8)) .nl .nl)] er7 ?_
         exact zk (Z1e (zl) (r7.1) (z6) (zd) (zh) (r7.2.1) (r7.2.2) ((Z8.mk 0 0 0 0 0 ([] : List Z7) ([] : List Z8))) zn zb .nl .nl zu rfl rfl)
        ·refine ze ?_
         refine zo (bv (r1.1 == 93)) ?_
         refine za ((r1.1 == 93)) ?_ ?_
         ·refine za ((r1.1 == 93)) ?_ ?_
          ·refine ze ?_
           refine zi fun r8 hr8 => ?_
           obtain ⟨qr8, er8, exr8, rfl⟩ := ZW (20) (zp) (zl) (r1.2) (z6) (zd) (zh) (z1) (z2) zn zb zu r8 hr8
           refine zc [0] (.p (.tup [])) [(Zi (Zk.mk zl r8.1 z6 zd zh (Zj.mk r8.2.1 r8.2.2)) zn zb), (Zq (Z8.mk 0 0 0 0 0 ([] : List Z7) ([] : List Z8)) .nl .nl)] er8 ?_
           exact zk (Z1e (zl) (r8.1) (z6) (zd) (zh) (r8.2.1) (r8.2.2) ((Z8.mk 0 0 0 0 0 ([] : List Z7) ([] : List Z8))) zn zb .nl .nl zu rfl rfl)
          ·refine ze ?_
           refine zi fun r9 hr9 => ?_
           obtain ⟨qr9, er9, exr9, rfl⟩ := Z1p (r1.1) r9 hr9
           refine zc [] (.p (.agg (ZF r9))) [(Zi (Zk.mk zl r1.2 z6 zd zh (Zj.mk z1 z2)) zn zb), (Zq (Z8.mk 0 0 0 0 0 ([] : List Z7) ([] : List Z8)) .nl .nl)] er9 ?_
           refine zo (.p (.lst .ex (([r9] : List Z7).map Zs))) ?_
           refine zi fun r10 hr10 => ?_
           obtain ⟨qr10, er10, exr10, rfl⟩ := Z2E (false) (([r9] : List Z7)) .sh r10 hr10
           refine zc [] (.p (.agg (ZD r10 .sh .sh))) [(Zi (Zk.mk zl r1.2 z6 zd zh (Zj.mk z1 z2)) zn zb), (Zq (Z8.mk 0 0 0 0 0 ([] : List Z7) ([] : List Z8)) .nl .nl)] er10 ?_
           refine zt [(Zi (Zk.mk zl r1.2 z6 zd zh (Zj.mk z1 z2)) zn zb), (Zq r10 .sh .sh)] ?_
           exact zr ((.p (.tup [(.agg (ZD r10 .sh .sh)), (.v (.bool true))])), [(Zi (Zk.mk zl r1.2 z6 zd zh (Zj.mk z1 z2)) zn zb), (Zq r10 .sh .sh)]) ⟨zb, _, zu, rfl⟩
         ·refine ze ?_
          refine zo (bv (r1.1 == 125)) ?_
          refine za ((r1.1 == 125)) ?_ ?_
          ·refine ze ?_
           refine zi fun r11 hr11 => ?_
           obtain ⟨qr11, er11, exr11, rfl⟩ := ZW (20) (zp) (zl) (r1.2) (z6) (zd) (zh) (z1) (z2) zn zb zu r11 hr11
           refine zc [0] (.p (.tup [])) [(Zi (Zk.mk zl r11.1 z6 zd zh (Zj.mk r11.2.1 r11.2.2)) zn zb), (Zq (Z8.mk 0 0 0 0 0 ([] : List Z7) ([] : List Z8)) .nl .nl)] er11 ?_
           exact zk (Z1e (zl) (r11.1) (z6) (zd) (zh) (r11.2.1) (r11.2.2) ((Z8.mk 0 0 0 0 0 ([] : List Z7) ([] : List Z8))) zn zb .nl .nl zu rfl rfl)
          ·refine ze ?_
           refine zi fun r12 hr12 => ?_
           obtain ⟨qr12, er12, exr12, rfl⟩ := Z1p (r1.1) r12 hr12
           refine zc [] (.p (.agg (ZF r12))) [(Zi (Zk.mk zl r1.2 z6 zd zh (Zj.mk z1 z2)) zn zb), (Zq (Z8.mk 0 0 0 0 0 ([] : List Z7) ([] : List Z8)) .nl .nl)] er12 ?_
           refine zo (.p (.lst .ex (([r12] : List Z7).map Zs))) ?_
           refine zi fun r13 hr13 => ?_
           obtain ⟨qr13, er13, exr13, rfl⟩ := Z2E (false) (([r12] : List Z7)) .sh r13 hr13
           refine zc [] (.p (.agg (ZD r13 .sh .sh))) [(Zi (Zk.mk zl r1.2 z6 zd zh (Zj.mk z1 z2)) zn zb), (Zq (Z8.mk 0 0 0 0 0 ([] : List Z7) ([] : List Z8)) .nl .nl)] er13 ?_
           refine zt [(Zi (Zk.mk zl r1.2 z6 zd zh (Zj.mk z1 z2)) zn zb), (Zq r13 .sh .sh)] ?_
           exact zr ((.p (.tup [(.agg (ZD r13 .sh .sh)), (.v (.bool true))])), [(Zi (Zk.mk zl r1.2 z6 zd zh (Zj.mk z1 z2)) zn zb), (Zq r13 .sh .sh)]) ⟨zb, _, zu, rfl⟩
       ·refine ze ?_
        refine zo (bv (r1.1 == 43)) ?_
        refine za ((r1.1 == 43)) ?_ ?_
        ·refine za ((r1.1 == 43)) ?_ ?_
         ·refine ze ?_
          refine zi fun r14 hr14 => ?_
          obtain ⟨qr14, er14, exr14, rfl⟩ := ZW (23) (zp) (zl) (r1.2) (z6) (zd) (zh) (z1) (z2) zn zb zu r14 hr14
          refine zc [0] (.p (.tup [])) [(Zi (Zk.mk zl r14.1 z6 zd zh (Zj.mk r14.2.1 r14.2.2)) zn zb), (Zq (Z8.mk 0 0 0 0 0 ([] : List Z7) ([] : List Z8)) .nl .nl)] er14 ?_
          exact zk (Z1e (zl) (r14.1) (z6) (zd) (zh) (r14.2.1) (r14.2.2) ((Z8.mk 0 0 0 0 0 ([] : List Z7) ([] : List Z8))) zn zb .nl .nl zu rfl rfl)
         ·refine ze ?_
          refine zo (bv (r1.1 == 93)) ?_
          refine za ((r1.1 == 93)) ?_ ?_
          ·refine za ((r1.1 == 93)) ?_ ?_
           ·refine ze ?_
            refine zi fun r15 hr15 => ?_
            obtain ⟨qr15, er15, exr15, rfl⟩ := ZW (20) (zp) (zl) (r1.2) (z6) (zd) (zh) (z1) (z2) zn zb zu r15 hr15
            refine zc [0] (.p (.tup [])) [(Zi (Zk.mk zl r15.1 z6 zd zh (Zj.mk r15.2.1 r15.2.2)) zn zb), (Zq (Z8.mk 0 0 0 0 0 ([] : List Z7) ([] : List Z8)) .nl .nl)] er15 ?_
            exact zk (Z1e (zl) (r15.1) (z6) (zd) (zh) (r15.2.1) (r15.2.2) ((Z8.mk 0 0 0 0 0 ([] : List Z7) ([] : List Z8))) zn zb .nl .nl zu rfl rfl)
           ·refine ze ?_
            refine zi fun r16 hr16 => ?_
            obtain ⟨qr16, er16, exr16, rfl⟩ := Z1p (r1.1) r16 hr16
            refine zc [] (.p (.agg (ZF r16))) [(Zi (Zk.mk zl r1.2 z6 zd zh (Zj.mk z1 z2)) zn zb), (Zq (Z8.mk 0 0 0 0 0 ([] : List Z7) ([] : List Z8)) .nl .nl)] er16 ?_
            refine zo (.p (.lst .ex (([r16] : List Z7).map Zs))) ?_
            refine zi fun r17 hr17 => ?_
            obtain ⟨qr17, er17, exr17, rfl⟩ := Z2E (false) (([r16] : List Z7)) .sh r17 hr17
            refine zc [] (.p (.agg (ZD r17 .sh .sh))) [(Zi (Zk.mk zl r1.2 z6 zd zh (Zj.mk z1 z2)) zn zb), (Zq (Z8.mk 0 0 0 0 0 ([] : List Z7) ([] : List Z8)) .nl .nl)] er17 ?_
            refine zt [(Zi (Zk.mk zl r1.2 z6 zd zh (Zj.mk z1 z2)) zn zb), (Zq r17 .sh .sh)] ?_
            exact zr ((.p (.tup [(.agg (ZD r17 .sh .sh)), (.v (.bool true))])), [(Zi (Zk.mk zl r1.2 z6 zd zh (Zj.mk z1 z2)) zn zb), (Zq r17 .sh .sh)]) ⟨zb, _, zu, rfl⟩
          ·refine ze ?_
           refine zo (bv (r1.1 == 125)) ?_
           refine za ((r1.1 == 125)) ?_ ?_
           ·refine ze ?_
            refine zi fun r18 hr18 => ?_
            obtain ⟨qr18, er18, exr18, rfl⟩ := ZW (20) (zp) (zl) (r1.2) (z6) (zd) (zh) (z1) (z2) zn zb zu r18 hr18
            refine zc [0] (.p (.tup [])) [(Zi (Zk.mk zl r18.1 z6 zd zh (Zj.mk r18.2.1 r18.2.2)) zn zb), (Zq (Z8.mk 0 0 0 0 0 ([] : List Z7) ([] : List Z8)) .nl .nl)] er18 ?_
            exact zk (Z1e (zl) (r18.1) (z6) (zd) (zh) (r18.2.1) (r18.2.2) ((Z8.mk 0 0 0 0 0 ([] : List Z7) ([] : List Z8))) zn zb .nl .nl zu rfl rfl)
           ·refine ze ?_
            refine zi fun r19 hr19 => ?_
            obtain ⟨qr19, er19, exr19, rfl⟩ := Z1p (r1.1) r19 hr19
            refine zc [] (.p (.agg (ZF r19))) [(Zi (Zk.mk zl r1.2 z6 zd zh (Zj.mk z1 z2)) zn zb), (Zq (Z8.mk 0 0 0 0 0 ([] : List Z7) ([] : List Z8)) .nl .nl)] er19 ?_
            refine zo (.p (.lst .ex (([r19] : List Z7).map Zs))) ?_
            refine zi fun r20 hr20 => ?_
            obtain ⟨qr20, er20, exr20, rfl⟩ := Z2E (false) (([r19] : List Z7)) .sh r20 hr20
            refine zc [] (.p (.agg (ZD r20 .sh .sh))) [(Zi (Zk.mk zl r1.2 z6 zd zh (Zj.mk z1 z2)) zn zb), (Zq (Z8.mk 0 0 0 0 0 ([] : List Z7) ([] : List Z8)) .nl .nl)] er20 ?_
            refine zt [(Zi (Zk.mk zl r1.2 z6 zd zh (Zj.mk z1 z2)) zn zb), (Zq r20 .sh .sh)] ?_
            exact zr ((.p (.tup [(.agg (ZD r20 .sh .sh)), (.v (.bool true))])), [(Zi (Zk.mk zl r1.2 z6 zd zh (Zj.mk z1 z2)) zn zb), (Zq r20 .sh .sh)]) ⟨zb, _, zu, rfl⟩
        ·refine ze ?_
         refine zo (bv (r1.1 == 63)) ?_
         refine za ((r1.1 == 63)) ?_ ?_
         ·refine za ((r1.1 == 63)) ?_ ?_
          ·refine ze ?_
           refine zi fun r21 hr21 => ?_
           obtain ⟨qr21, er21, exr21, rfl⟩ := ZW (23) (zp) (zl) (r1.2) (z6) (zd) (zh) (z1) (z2) zn zb zu r21 hr21
           refine zc [0] (.p (.tup [])) [(Zi (Zk.mk zl r21.1 z6 zd zh (Zj.mk r21.2.1 r21.2.2)) zn zb), (Zq (Z8.mk 0 0 0 0 0 ([] : List Z7) ([] : List Z8)) .nl .nl)] er21 ?_
           exact zk (Z1e (zl) (r21.1) (z6) (zd) (zh) (r21.2.1) (r21.2.2) ((Z8.mk 0 0 0 0 0 ([] : List Z7) ([] : List Z8))) zn zb .nl .nl zu rfl rfl)
          ·refine ze ?_
           refine zo (bv (r1.1 == 93)) ?_
           refine za ((r1.1 == 93)) ?_ ?_
           ·refine za ((r1.1 == 93)) ?_ ?_
            ·refine ze ?_
             refine zi fun r22 hr22 => ?_
             obtain ⟨qr22, er22, exr22, rfl⟩ := ZW (20) (zp) (zl) (r1.2) (z6) (zd) (zh) (z1) (z2) zn zb zu r22 hr22
             refine zc [0] (.p (.tup [])) [(Zi (Zk.mk zl r22.1 z6 zd zh (Zj.mk r22.2.1 r22.2.2)) zn zb), (Zq (Z8.mk 0 0 0 0 0 ([] : List Z7) ([] : List Z8)) .nl .nl)] er22 ?_
             exact zk (Z1e (zl) (r22.1) (z6) (zd) (zh) (r22.2.1) (r22.2.2) ((Z8.mk 0 0 0 0 0 ([] : List Z7) ([] : List Z8))) zn zb .nl .nl zu rfl rfl)
            ·refine ze ?_
             refine zi fun r23 hr23 => ?_
             obtain ⟨qr23, er23, exr23, rfl⟩ := Z1p (r1.1) r23 hr23
             refine zc [] (.p (.agg (ZF r23))) [(Zi (Zk.mk zl r1.2 z6 zd zh (Zj.mk z1 z2)) zn zb), (Zq (Z8.mk 0 0 0 0 0 ([] : List Z7) ([] : List Z8)) .nl .nl)] er23 ?_
             refine zo (.p (.lst .ex (([r23] : List Z7).map Zs))) ?_
             refine zi fun r24 hr24 => ?_
             obtain ⟨qr24, er24, exr24, rfl⟩ := Z2E (false) (([r23] : List Z7)) .sh r24 hr24
             refine zc [] (.p (.agg (ZD r24 .sh .sh))) [(Zi (Zk.mk zl r1.2 z6 zd zh (Zj.mk z1 z2)) zn zb), (Zq (Z8.mk 0 0 0 0 0 ([] : List Z7) ([] : List Z8)) .nl .nl)] er24 ?_
             refine zt [(Zi (Zk.mk zl r1.2 z6 zd zh (Zj.mk z1 z2)) zn zb), (Zq r24 .sh .sh)] ?_
             exact zr ((.p (.tup [(.agg (ZD r24 .sh .sh)), (.v (.bool true))])), [(Zi (Zk.mk zl r1.2 z6 zd zh (Zj.mk z1 z2)) zn zb), (Zq r24 .sh .sh)]) ⟨zb, _, zu, rfl⟩
           ·refine ze ?_
            refine zo (bv (r1.1 == 125)) ?_
            refine za ((r1.1 == 125)) ?_ ?_
            ·refine ze ?_
             refine zi fun r25 hr25 => ?_
             obtain ⟨qr25, er25, exr25, rfl⟩ := ZW (20) (zp) (zl) (r1.2) (z6) (zd) (zh) (z1) (z2) zn zb zu r25 hr25
             refine zc [0] (.p (.tup [])) [(Zi (Zk.mk zl r25.1 z6 zd zh (Zj.mk r25.2.1 r25.2.2)) zn zb), (Zq (Z8.mk 0 0 0 0 0 ([] : List Z7) ([] : List Z8)) .nl .nl)] er25 ?_
             exact zk (Z1e (zl) (r25.1) (z6) (zd) (zh) (r25.2.1) (r25.2.2) ((Z8.mk 0 0 0 0 0 ([] : List Z7) ([] : List Z8))) zn zb .nl .nl zu rfl rfl)
            ·refine ze ?_
             refine zi fun r26 hr26 => ?_
             obtain ⟨qr26, er26, exr26, rfl⟩ := Z1p (r1.1) r26 hr26
             refine zc [] (.p (.agg (ZF r26))) [(Zi (Zk.mk zl r1.2 z6 zd zh (Zj.mk z1 z2)) zn zb), (Zq (Z8.mk 0 0 0 0 0 ([] : List Z7) ([] : List Z8)) .nl .nl)] er26 ?_
             refine zo (.p (.lst .ex (([r26] : List Z7).map Zs))) ?_
             refine zi fun r27 hr27 => ?_
             obtain ⟨qr27, er27, exr27, rfl⟩ := Z2E (false) (([r26] : List Z7)) .sh r27 hr27
             refine zc [] (.p (.agg (ZD r27 .sh .sh))) [(Zi (Zk.mk zl r1.2 z6 zd zh (Zj.mk z1 z2)) zn zb), (Zq (Z8.mk 0 0 0 0 0 ([] : List Z7) ([] : List Z8)) .nl .nl)] er27 ?_
             refine zt [(Zi (Zk.mk zl r1.2 z6 zd zh (Zj.mk z1 z2)) zn zb), (Zq r27 .sh .sh)] ?_
             exact zr ((.p (.tup [(.agg (ZD r27 .sh .sh)), (.v (.bool true))])), [(Zi (Zk.mk zl r1.2 z6 zd zh (Zj.mk z1 z2)) zn zb), (Zq r27 .sh .sh)]) ⟨zb, _, zu, rfl⟩
         ·refine ze ?_
          refine zo (bv (r1.1 == 123)) ?_
          refine za ((r1.1 == 123)) ?_ ?_
          ·refine ze ?_
           refine zi fun r28 hr28 => ?_
           obtain ⟨qr28, er28, exr28, rfl⟩ := ZW (23) (zp) (zl) (r1.2) (z6) (zd) (zh) (z1) (z2) zn zb zu r28 hr28
           refine zc [0] (.p (.tup [])) [(Zi (Zk.mk zl r28.1 z6 zd zh (Zj.mk r28.2.1 r28.2.2)) zn zb), (Zq (Z8.mk 0 0 0 0 0 ([] : List Z7) ([] : List Z8)) .nl .nl)] er28 ?_
           exact zk (Z1e (zl) (r28.1) (z6) (zd) (zh) (r28.2.1) (r28.2.2) ((Z8.mk 0 0 0 0 0 ([] : List Z7) ([] : List Z8))) zn zb .nl .nl zu rfl rfl)
          ·refine ze ?_
           refine zo (bv (r1.1 == 93)) ?_
           refine za ((r1.1 == 93)) ?_ ?_
           ·refine za ((r1.1 == 93)) ?_ ?_
            ·refine ze ?_
             refine zi fun r29 hr29 => ?_
             obtain ⟨qr29, er29, exr29, rfl⟩ := ZW (20) (zp) (zl) (r1.2) (z6) (zd) (zh) (z1) (z2) zn zb zu r29 hr29
             refine zc [0] (.p (.tup [])) [(Zi (Zk.mk zl r29.1 z6 zd zh (Zj.mk r29.2.1 r29.2.2)) zn zb), (Zq (Z8.mk 0 0 0 0 0 ([] : List Z7) ([] : List Z8)) .nl .nl)] er29 ?_
             exact zk (Z1e (zl) (r29.1) (z6) (zd) (zh) (r29.2.1) (r29.2.2) ((Z8.mk 0 0 0 0 0 ([] : List Z7) ([] : List Z8))) zn zb .nl .nl zu rfl rfl)
            ·refine ze ?_
             refine zi fun r30 hr30 => ?_
             obtain ⟨qr30, er30, exr30, rfl⟩ := Z1p (r1.1) r30 hr30
             refine zc [] (.p (.agg (ZF r30))) [(Zi (Zk.mk zl r1.2 z6 zd zh (Zj.mk z1 z2)) zn zb), (Zq (Z8.mk 0 0 0 0 0 ([] : List Z7) ([] : List Z8)) .nl .nl)] er30 ?_
             refine zo (.p (.lst .ex (([r30] : List Z7).map Zs))) ?_
             refine zi fun r31 hr31 => ?_
             obtain ⟨qr31, er31, exr31, rfl⟩ := Z2E (false) (([r30] : List Z7)) .sh r31 hr31
             refine zc [] (.p (.agg (ZD r31 .sh .sh))) [(Zi (Zk.mk zl r1.2 z6 zd zh (Zj.mk z1 z2)) zn zb), (Zq (Z8.mk 0 0 0 0 0 ([] : List Z7) ([] : List Z8)) .nl .nl)] er31 ?_
             refine zt [(Zi (Zk.mk zl r1.2 z6 zd zh (Zj.mk z1 z2)) zn zb), (Zq r31 .sh .sh)] ?_
             exact zr ((.p (.tup [(.agg (ZD r31 .sh .sh)), (.v (.bool true))])), [(Zi (Zk.mk zl r1.2 z6 zd zh (Zj.mk z1 z2)) zn zb), (Zq r31 .sh .sh)]) ⟨zb, _, zu, rfl⟩
           ·refine ze ?_
            refine zo (bv (r1.1 == 125)) ?_
            refine za ((r1.1 == 125)) ?_ ?_
            ·refine ze ?_
             refine zi fun r32 hr32 => ?_
             obtain ⟨qr32, er32, exr32, rfl⟩ := ZW (20) (zp) (zl) (r1.2) (z6) (zd) (zh) (z1) (z2) zn zb zu r32 hr32
             refine zc [0] (.p (.tup [])) [(Zi (Zk.mk zl r32.1 z6 zd zh (Zj.mk r32.2.1 r32.2.2)) zn zb), (Zq (Z8.mk 0 0 0 0 0 ([] : List Z7) ([] : List Z8)) .nl .nl)] er32 ?_
             exact zk (Z1e (zl) (r32.1) (z6) (zd) (zh) (r32.2.1) (r32.2.2) ((Z8.mk 0 0 0 0 0 ([] : List Z7) ([] : List Z8))) zn zb .nl .nl zu rfl rfl)
            ·refine ze ?_
             refine zi fun r33 hr33 => ?_
             obtain ⟨qr33, er33, exr33, rfl⟩ := Z1p (r1.1) r33 hr33
             refine zc [] (.p (.agg (ZF r33))) [(Zi (Zk.mk zl r1.2 z6 zd zh (Zj.mk z1 z2)) zn zb), (Zq (Z8.mk 0 0 0 0 0 ([] : List Z7) ([] : List Z8)) .nl .nl)] er33 ?_
             refine zo (.p (.lst .ex (([r33] : List Z7).map Zs))) ?_
             refine zi fun r34 hr34 => ?_
             obtain ⟨qr34, er34, exr34, rfl⟩ := Z2E (false) (([r33] : List Z7)) .sh r34 hr34
             refine zc [] (.p (.agg (ZD r34 .sh .sh))) [(Zi (Zk.mk zl r1.2 z6 zd zh (Zj.mk z1 z2)) zn zb), (Zq (Z8.mk 0 0 0 0 0 ([] : List Z7) ([] : List Z8)) .nl .nl)] er34 ?_
             refine zt [(Zi (Zk.mk zl r1.2 z6 zd zh (Zj.mk z1 z2)) zn zb), (Zq r34 .sh .sh)] ?_
             exact zr ((.p (.tup [(.agg (ZD r34 .sh .sh)), (.v (.bool true))])), [(Zi (Zk.mk zl r1.2 z6 zd zh (Zj.mk z1 z2)) zn zb), (Zq r34 .sh .sh)]) ⟨zb, _, zu, rfl⟩
theorem Zax (zl : List Int) (zp : Int) (z6 : Int) (zd : Int) (zh : List Zr) (z1 : Int) (z2 : Int) {r} (h : Z4B zl zp z6 zd zh z1 z2 = some r) : Z5v zl zp z6 zd zh z1 z2 = some r :=
 pick_of (fun _ _ ha hb => RRun.uniq (ZaZ _ _) (ha .ex .ex rfl) (hb .ex .ex rfl)) (fun zn zb zu => Za8 zl zp z6 zd zh z1 z2 zn zb zu r h)
noncomputable def Z5u (zl : List Int) (zp : Int) : Option (Int × Int) :=
 (Z7t zl zp).bind fun r1 =>
 some (r1.1, (IntKind.i64.wrap (zp + r1.2)))
theorem Za4 (zl : List Int) (zp : Int) (z6 : Int) (zd : Int) (zh : List Zr) (z1 : Int) (z2 : Int) (zn : Own) (zb : Own) (zu : okApp zb = true) : Sim (Z4C zl z6 zd zh z1 z2 zn zb) (Z5u zl zp) (EE 46 [(.ptr 0 0)] [(Zi (Zk.mk zl zp z6 zd zh (Zj.mk z1 z2)) zn zb)]) := by
 unfold Z5u
 refine zf (ZhY ..) ?_
 refine ze ?_
 refine ze ?_
 refine zo (.ptr 0 0) ?_
 refine zo (.ptr 0 0) ?_
 refine zo (.p (.lst (shrO zn) (zl.map (eI .u8)))) ?_
 refine zo (.ptr 0 0) ?_
 refine zo (.ptr 0 1) ?_
 refine zo (iv zp) ?_
 refine zi fun r1 hr1 => ?_
 obtain ⟨qr1, er1, exr1, rfl⟩ := ZaT (zl) (zp) .sh r1 hr1
 refine zc [] (.p (.tup [(.v (.int .i64 r1.1)), (.v (.int .i64 r1.2))])) [(Zi (Zk.mk zl zp z6 zd zh (Zj.mk z1 z2)) zn zb)] er1 ?_
 refine zo (iv r1.1) ?_
 refine zo (iv r1.2) ?_
 refine ze ?_
 refine zo (.ptr 0 0) ?_
 refine zo (.ptr 0 1) ?_
 refine zo (iv zp) ?_
 refine zo (iv (IntKind.i64.wrap (zp + r1.2))) ?_
 refine zo (.ptr 0 0) ?_
 refine zo (.ptr 0 1) ?_
 refine zt [(Zi (Zk.mk zl (IntKind.i64.wrap (zp + r1.2)) z6 zd zh (Zj.mk z1 z2)) zn zb)] ?_
 refine ze ?_
 exact zr ((iv r1.1), [(Zi (Zk.mk zl (IntKind.i64.wrap (zp + r1.2)) z6 zd zh (Zj.mk z1 z2)) zn zb)]) ⟨_, rfl⟩
theorem Zaw (zl : List Int) (zp : Int) {r} (h : Z5u zl zp = some r) : Z1W zl zp = some r :=
 pick_of (fun _ _ ha hb => RRun.uniq (ZaQ _ _ _ _ _ _ _ _) (ha default default default default default .ex .ex rfl) (hb default default default default default .ex .ex rfl)) (fun z6 zd zh z1 z2 zn zb zu => Za4 zl zp z6 zd zh z1 z2 zn zb zu r h)
noncomputable def Zau (x0 : Int) : Option (Z7) :=
 some ((Z7.mk x0 x0))
theorem Zcs (x0 : Int) : Sim (Z7n) (Zau x0) (EE 48 [(iv x0)] []) := by
 unfold Zau
 refine zf (Zic ..) ?_
 refine ze ?_
 refine zz (.ptr 0 0) [(Z1i (Z7.mk 0 0))] ?_
 refine ze ?_
 refine zo (.p (.agg (ZF (Z7.mk x0 x0)))) ?_
 refine zt [(Z1i (Z7.mk x0 x0))] ?_
 exact zr ((.p (.agg (ZF (Z7.mk x0 x0)))), [(Z1i (Z7.mk x0 x0))]) ⟨_, rfl⟩
theorem ZcG (x0 : Int) {r} (h : Zau x0 = some r) : Z1v x0 = some r :=
 pick_of (fun _ _ ha hb => RRun.uniq (Zd4) (ha ) (hb )) (Zcs x0 r h)
noncomputable def Z70 (x5 : List Z7) : Option (Z8) :=
 some ((Z8.mk 1 0 0 0 0 x5 ([] : List Z8)))
theorem Z91 (x5 : List Z7) (b0 : Z8) (ox5 : Own) (z2c : Own) (z1I : Own) (zgD : okApp z2c = true) (zfu : okApp z1I = true) : Sim (Z6j) (Z70 x5) (Zcu 0 (.ptr 0 0) (.p (.lst ox5 (x5.map Zs))) [(Zq b0 z2c z1I)]) := by
 unfold Z70
 refine zf (Zga ..) ?_
 refine ze ?_
 refine zo (.p (.agg (ZD (Z8.mk 1 0 0 0 0 x5 ([] : List Z8)) (shrO (shrO ox5)) .nl))) ?_
 refine zt [(Zq (Z8.mk 1 0 0 0 0 x5 ([] : List Z8)) (shrO (shrO ox5)) .nl)] ?_
 exact zr ((.p (.agg (ZD (Z8.mk 1 0 0 0 0 x5 ([] : List Z8)) .sh .sh))), [(Zq (Z8.mk 1 0 0 0 0 x5 ([] : List Z8)) (shrO (shrO ox5)) .nl)]) ⟨_, rfl⟩
noncomputable def Z8L (x0 : Bool) (x1 : List Z7) : Option (Z8) :=
 (Z82 x1).bind fun r1 =>
 if (x0) = true then
 ((Z5B r1.1).bind fun r2 =>
 Z70 r2.1)
 else
 (Z70 r1.1)
theorem Zcg (x0 : Bool) (x1 : List Z7) (ox1 : Own) : Sim (Z6j) (Z8L x0 x1) (EE 47 [(bv x0), (.p (.lst ox1 (x1.map Zs)))] []) := by
 unfold Z8L
 refine zf (ZgU ..) ?_
 refine ze ?_
 refine zz (.ptr 0 0) [(Zq (Z8.mk 0 0 0 0 0 ([] : List Z7) ([] : List Z8)) .nl .nl)] ?_
 refine ze ?_
 refine zi fun r1 hr1 => ?_
 obtain ⟨qr1, er1, exr1, rfl⟩ := Zcw (x1) .sh r1 hr1
 refine zc [] (.p (.tup [(.lst .sh (r1.1.map Zs)), (.v (.int .i64 r1.2))])) [(Zq (Z8.mk 0 0 0 0 0 ([] : List Z7) ([] : List Z8)) .nl .nl)] er1 ?_
 refine zo (.p (.lst .sh (r1.1.map Zs))) ?_
 refine zo (iv r1.2) ?_
 refine ze ?_
 refine za (x0) ?_ ?_
 ·refine ze ?_
  refine zi fun r2 hr2 => ?_
  obtain ⟨qr2, er2, exr2, rfl⟩ := Z8U (r1.1) .sh r2 hr2
  refine zc [] (.p (.tup [(.lst .sh (r2.1.map Zs)), (.v (.int .i64 r2.2))])) [(Zq (Z8.mk 0 0 0 0 0 ([] : List Z7) ([] : List Z8)) .nl .nl)] er2 ?_
  refine zo (.p (.lst .sh (r2.1.map Zs))) ?_
  refine zo (iv r2.2) ?_
  exact zk (Z91 (r2.1) ((Z8.mk 0 0 0 0 0 ([] : List Z7) ([] : List Z8))) .sh .nl .nl rfl rfl)
 ·exact zk (Z91 (r1.1) ((Z8.mk 0 0 0 0 0 ([] : List Z7) ([] : List Z8))) .sh .nl .nl rfl rfl)
theorem ZcD (x0 : Bool) (x1 : List Z7) {r} (h : Z8L x0 x1 = some r) : Z2t x0 x1 = some r :=
 pick_of (fun _ _ ha hb => RRun.uniq (Zd2) (ha .ex) (hb .ex)) (fun ox1 => Zcg x0 x1 ox1 r h)
noncomputable def Z6q (x0 : List Z7) : Option ((List Z7) × Int) :=
 (Z6T x0).bind fun r1 =>
 some (r1, 0)
theorem Zbr (x0 : List Z7) (ox0 : Own) : Sim (Z65) (Z6q x0) (Zdw 0 (.p (.lst ox0 (x0.map Zs))) []) := by
 unfold Z6q
 refine zf (Zg9 ..) ?_
 refine ze ?_
 refine zi fun r1 hr1 => ?_
 obtain ⟨qr1, er1, exr1, rfl⟩ := Z9e (x0) .sh r1 hr1
 refine zc [] (.p (.lst .sh (r1.map Zs))) [] er1 ?_
 exact zr ((.p (.tup [(.lst .sh (r1.map Zs)), (.v (.int .i64 0))])), []) ⟨_, rfl⟩
noncomputable def Z86 (x0 : List Z7) : Option ((List Z7) × Int) :=
 (Z33 x0).bind fun r1 =>
 if (r1) = true then
 (some (([] : List Z7), 13))
 else
 (Z6q x0)
theorem Zc8 (x0 : List Z7) (ox0 : Own) : Sim (Z65) (Z86 x0) (EE 54 [(.p (.lst ox0 (x0.map Zs)))] []) := by
 unfold Z86
 refine zf (ZhK ..) ?_
 refine ze ?_
 refine ze ?_
 refine zi fun r1 hr1 => ?_
 obtain ⟨qr1, er1, exr1, rfl⟩ := Z7j (x0) .sh r1 hr1
 refine zc [] (bv r1) [] er1 ?_
 refine za (r1) ?_ ?_
 ·refine ze ?_
  exact zr ((.p (.tup [(.lst .sh []), (.v (.int .i64 13))])), []) ⟨_, rfl⟩
 ·exact zk (Zbr (x0) ox0)
theorem Zcz (x0 : List Z7) {r} (h : Z86 x0 = some r) : Z82 x0 = some r :=
 pick_of (fun _ _ ha hb => RRun.uniq (ZcE) (ha .ex) (hb .ex)) (fun ox0 => Zc8 x0 ox0 r h)
noncomputable def Z32 (x0 : List Z7) : Option (Bool) :=
 (Z3z x0).bind fun r1 =>
 some ((decide (0 ≤ r1)))
theorem Z6V (x0 : List Z7) (ox0 : Own) : Sim (Z2x) (Z32 x0) (EE 65 [(.p (.lst ox0 (x0.map Zs))), (.clo 66 [] [])] []) := by
 unfold Z32
 refine zf (ZhV ..) ?_
 refine ze ?_
 refine ze ?_
 refine zi fun r1 hr1 => ?_
 obtain ⟨qr1, er1, exr1, rfl⟩ := Z7Z (x0) .sh r1 hr1
 refine zc [] (iv r1) [] er1 ?_
 refine zo (bv (decide (0 ≤ r1))) ?_
 exact zr ((bv (decide (0 ≤ r1))), []) ⟨_, rfl⟩
theorem Z7k (x0 : List Z7) {r} (h : Z32 x0 = some r) : Z33 x0 = some r :=
 pick_of (fun _ _ ha hb => RRun.uniq (Z7s) (ha .ex) (hb .ex)) (fun ox0 => Z6V x0 ox0 r h)
noncomputable def Z3E (x0 : List Z7) : Option (Int) :=
 Z2B x0 ((x0.length : Int)) 0
theorem Z7G (x0 : List Z7) (ox0 : Own) : Sim (Z1l) (Z3E x0) (EE 73 [(.p (.lst ox0 (x0.map Zs))), (.clo 66 [] [])] []) := by
 unfold Z3E
 refine zf (ZhG ..) ?_
 refine ze ?_
 refine ze ?_
 refine zo (iv (x0.length : Int)) ?_ (Eq.trans (by kernel_rfl) (xlen_of (P := PP) (t := 23) (d := 39) (by kernel_rfl) Zs (shrO ox0) x0))
 exact zk (Z59 (x0) ((x0.length : Int)) (0) ox0)
theorem Z7X (x0 : List Z7) {r} (h : Z3E x0 = some r) : Z3z x0 = some r :=
 pick_of (fun _ _ ha hb => RRun.uniq (Z5A) (ha .ex) (hb .ex)) (fun ox0 => Z7G x0 ox0 r h)
noncomputable def Z31 (x0 : List Z7) (x7 : Int) (x8 : Int) : Option (Int) :=
 Z2B x0 x7 ((IntKind.i64.wrap (x8 + 1)))
theorem Z6P (x0 : List Z7) (x7 : Int) (x8 : Int) (ox0 : Own) : Sim (Z1l) (Z31 x0 x7 x8) (ZdF 0 (.p (.lst ox0 (x0.map Zs))) (.clo 66 [] []) (iv x7) (iv x8) []) := by
 unfold Z31
 refine zf (Zfk ..) ?_
 refine ze ?_
 refine zo (iv (IntKind.i64.wrap (x8 + 1))) ?_
 exact zk (Z59 (x0) (x7) ((IntKind.i64.wrap (x8 + 1))) ox0)
noncomputable def Z30 (x0 : List Z7) (x7 : Int) (x8 : Int) : Option (Int) :=
 (lget x0 x8).bind fun a1 =>
 (Z6X a1).bind fun r2 =>
 if (r2) = true then
 (some (x8))
 else
 (Z31 x0 x7 x8)
theorem Z72 (x0 : List Z7) (x7 : Int) (x8 : Int) (ox0 : Own) : Sim (Z1l) (Z30 x0 x7 x8) (Zef 0 (.p (.lst ox0 (x0.map Zs))) (.clo 66 [] []) (iv x7) (iv x8) []) := by
 unfold Z30
 refine zf (ZfS ..) ?_
 refine ze ?_
 refine ze ?_
 refine zi fun a1 ha1 => ?_
 refine zo (.cptr (ZF a1)) ?_ (Eq.trans (by kernel_rfl) (xidx_of (o := (shrO ox0)) (k := .i64) (n := 2) (e := Zs) (cs := Z3w) (fun _ => rfl) (fun _ => rfl) (by decide) ha1))
 refine zo (.p (.agg (ZF a1))) ?_
 refine zi fun r2 hr2 => ?_
 obtain ⟨qr2, er2, exr2, rfl⟩ := ZbY (a1) r2 hr2
 refine zv [] (bv r2) [] er2 ?_
 refine za (r2) ?_ ?_
 ·refine ze ?_
  exact zr ((iv x8), []) ⟨_, rfl⟩
 ·exact zk (Z6P (x0) (x7) (x8) ox0)
noncomputable def Z4h  : Option (Int) :=
 some ((-1))
theorem Z6S  : Sim (Z1l) (Z4h) (Zei 0  []) := by
 unfold Z4h
 refine zf (Zfo ..) ?_
 refine ze ?_
 exact zr ((iv (-1)), []) ⟨_, rfl⟩
noncomputable def Z2y (x0 : List Z7) (x7 : Int) (x8 : Int) : Option (Int) :=
 if ((decide (x8 < x7))) = true then
 (Z30 x0 x7 x8)
 else
 (Z4h)
theorem Z6W (x0 : List Z7) (x7 : Int) (x8 : Int) (ox0 : Own) : Sim (Z1l) (Z2y x0 x7 x8) (ZaI 0 (.p (.lst ox0 (x0.map Zs))) (.clo 66 [] []) (iv x7) (iv x8) []) := by
 unfold Z2y
 refine zf (Zg7 ..) ?_
 refine ze ?_
 refine zo (bv (decide (x8 < x7))) ?_
 refine za ((decide (x8 < x7))) ?_ ?_
 ·exact zk (Z72 (x0) (x7) (x8) ox0)
 ·exact zk (Z6S )
theorem Z5a (x0 : List Z7) (x7 : Int) (x8 : Int) {r} (h : Z2y x0 x7 x8 = some r) : Z2B x0 x7 x8 = some r :=
 pick_of (fun _ _ ha hb => RRun.uniq (Z5A) (ha .ex) (hb .ex)) (fun ox0 => Z6W x0 x7 x8 ox0 r h)
noncomputable def Z7a (x0 : Z7) : Option (Bool) :=
 (Z4A x0).bind fun r1 =>
 some ((!r1))
theorem Zbz (x0 : Z7) : Sim (Z5Y) (Z7a x0) (EE 66 [(.p (.agg (ZF x0)))] []) := by
 unfold Z7a
 refine zf (ZhP ..) ?_
 refine ze ?_
 refine zx (.ptr 0 0) [(Z1i x0)] ?_
 refine ze ?_
 refine zo (.p (.agg (ZF x0))) ?_
 refine zi fun r1 hr1 => ?_
 obtain ⟨qr1, er1, exr1, rfl⟩ := Z7o (x0) r1 hr1
 refine zc [] (bv r1) [(Z1i x0)] er1 ?_
 refine zo (bv (!r1)) ?_
 exact zr ((bv (!r1)), [(Z1i x0)]) ⟨_, rfl⟩
theorem Zc0 (x0 : Z7) {r} (h : Z7a x0 = some r) : Z6X x0 = some r :=
 pick_of (fun _ _ ha hb => RRun.uniq (Zc6) (ha ) (hb )) (Zbz x0 r h)
noncomputable def Z5x (x0 : Z7) : Option (Bool) :=
 if ((decide (0 ≤ x0.Lo))) = true then
 (if ((decide (x0.Lo ≤ x0.Hi))) = true then
 (some ((decide (x0.Hi ≤ 1114367))))
 else
 (some (false)))
 else
 (some (false))
theorem Za5 (x0 : Z7) : Sim (Z4y) (Z5x x0) (EE 67 [(.p (.agg (ZF x0)))] []) := by
 unfold Z5x
 refine zf (ZhD ..) ?_
 refine ze ?_
 refine zx (.ptr 0 0) [(Z1i x0)] ?_
 refine ze ?_
 refine zo (.ptr 0 0) ?_
 refine zo (iv x0.Lo) ?_
 refine zo (bv (decide (0 ≤ x0.Lo))) ?_
 refine za ((decide (0 ≤ x0.Lo))) ?_ ?_
 ·refine zo (.ptr 0 0) ?_
  refine zo (iv x0.Lo) ?_
  refine zo (.ptr 0 1) ?_
  refine zo (iv x0.Hi) ?_
  refine zo (bv (decide (x0.Lo ≤ x0.Hi))) ?_
  refine za ((decide (x0.Lo ≤ x0.Hi))) ?_ ?_
  ·refine zo (.ptr 0 1) ?_
   refine zo (iv x0.Hi) ?_
   refine zo (bv (decide (x0.Hi ≤ 1114367))) ?_
   exact zr ((bv (decide (x0.Hi ≤ 1114367))), [(Z1i x0)]) ⟨_, rfl⟩
  ·exact zr ((bv false), [(Z1i x0)]) ⟨_, rfl⟩
 ·exact zr ((bv false), [(Z1i x0)]) ⟨_, rfl⟩
theorem Zas (x0 : Z7) {r} (h : Z5x x0 = some r) : Z4A x0 = some r :=
 pick_of (fun _ _ ha hb => RRun.uniq (ZaW) (ha ) (hb )) (Za5 x0 r h)
noncomputable def Z5I (x0 : List Z7) : Option ((List Z7) × Int) :=
 (Z6u x0).bind fun r1 =>
 some (r1, 0)
theorem Zaj (x0 : List Z7) (ox0 : Own) : Sim (Z50) (Z5I x0) (Zdr 0 (.p (.lst ox0 (x0.map Zs))) []) := by
 unfold Z5I
 refine zf (Zgg ..) ?_
 refine ze ?_
 refine zi fun r1 hr1 => ?_
 obtain ⟨qr1, er1, exr1, rfl⟩ := Zbx (x0) .sh r1 hr1
 refine zc [] (.p (.lst .sh (r1.map Zs))) [] er1 ?_
 exact zr ((.p (.tup [(.lst .sh (r1.map Zs)), (.v (.int .i64 0))])), []) ⟨_, rfl⟩
noncomputable def Z6m (x0 : List Z7) : Option ((List Z7) × Int) :=
 (Z47 x0).bind fun r1 =>
 if ((!r1)) = true then
 (some (([] : List Z7), 10))
 else
 (Z5I x0)
theorem Zbm (x0 : List Z7) (ox0 : Own) : Sim (Z50) (Z6m x0) (EE 55 [(.p (.lst ox0 (x0.map Zs)))] []) := by
 unfold Z6m
 refine zf (Zia ..) ?_
 refine ze ?_
 refine ze ?_
 refine zi fun r1 hr1 => ?_
 obtain ⟨qr1, er1, exr1, rfl⟩ := Z5Z (x0) .sh r1 hr1
 refine zc [] (bv r1) [] er1 ?_
 refine zo (bv (!r1)) ?_
 refine za ((!r1)) ?_ ?_
 ·refine ze ?_
  exact zr ((.p (.tup [(.lst .sh []), (.v (.int .i64 10))])), []) ⟨_, rfl⟩
 ·exact zk (Zaj (x0) ox0)
theorem Zbs (x0 : List Z7) {r} (h : Z6m x0 = some r) : Z5B x0 = some r :=
 pick_of (fun _ _ ha hb => RRun.uniq (ZbZ) (ha .ex) (hb .ex)) (fun ox0 => Zbm x0 ox0 r h)
noncomputable def Z5D (x0 : List Z7) : Option (Bool) :=
 Z42 ((-2)) x0 ((x0.length : Int)) 0
theorem Zan (x0 : List Z7) (ox0 : Own) : Sim (Z1L) (Z5D x0) (EE 69 [(.p (.lst ox0 (x0.map Zs)))] []) := by
 unfold Z5D
 refine zf (Zi8 ..) ?_
 refine ze ?_
 refine ze ?_
 refine ze ?_
 refine zo (iv (x0.length : Int)) ?_ (Eq.trans (by kernel_rfl) (xlen_of (P := PP) (t := 24) (d := 39) (by kernel_rfl) Zs (shrO ox0) x0))
 exact zk (Z6O ((-2)) (x0) ((x0.length : Int)) (0) (shrO ox0))
theorem Zb8 (x0 : List Z7) {r} (h : Z5D x0 = some r) : Z47 x0 = some r :=
 pick_of (fun _ _ ha hb => RRun.uniq (Z89) (ha .ex) (hb .ex)) (fun ox0 => Zan x0 ox0 r h)
noncomputable def Z51  : Option (Bool) :=
 some (false)
theorem Z6r  : Sim (Z1L) (Z51) (Zcr 0  []) := by
 unfold Z51
 refine zf (Zff ..) ?_
 refine ze ?_
 exact zr ((bv false), []) ⟨_, rfl⟩
noncomputable def Z54 (x3 : Int) (x6 : List Z7) (x7 : Int) (x8 : Int) : Option (Bool) :=
 Z42 x3 x6 x7 ((IntKind.i64.wrap (x8 + 1)))
theorem Z9q (x3 : Int) (x6 : List Z7) (x7 : Int) (x8 : Int) (ox6 : Own) : Sim (Z1L) (Z54 x3 x6 x7 x8) (Ze9 0 (iv x3) (.p (.lst ox6 (x6.map Zs))) (iv x7) (iv x8) []) := by
 unfold Z54
 refine zf (Zgc ..) ?_
 refine ze ?_
 refine zo (iv (IntKind.i64.wrap (x8 + 1))) ?_
 exact zk (Z6O (x3) (x6) (x7) ((IntKind.i64.wrap (x8 + 1))) ox6)
noncomputable def Z4X (x6 : List Z7) (x7 : Int) (x8 : Int) (b0 : Z7) : Option (Bool) :=
 Z54 b0.Hi x6 x7 x8
theorem Z9x (x6 : List Z7) (x7 : Int) (x8 : Int) (b0 : Z7) (ox6 : Own) : Sim (Z1L) (Z4X x6 x7 x8 b0) (Zee 0 (.ptr 0 0) (.p (.lst ox6 (x6.map Zs))) (iv x7) (iv x8) [(Z1i b0)]) := by
 unfold Z4X
 refine zf (ZfF ..) ?_
 refine ze ?_
 refine zo (.ptr 0 1) ?_
 refine zo (iv b0.Hi) ?_
 exact zk (Z9q (b0.Hi) (x6) (x7) (x8) ox6)
noncomputable def Z4Y (x3 : Int) (x6 : List Z7) (x7 : Int) (x8 : Int) : Option (Bool) :=
 (lget x6 x8).bind fun a1 =>
 (Z4A a1).bind fun r2 =>
 if ((!r2)) = true then
 (Z51)
 else
 (if ((decide (a1.Lo < (IntKind.i64.wrap (x3 + 2))))) = true then
 (Z51)
 else
 (Z4X x6 x7 x8 a1))
theorem Z9v (x3 : Int) (x6 : List Z7) (x7 : Int) (x8 : Int) (ox6 : Own) : Sim (Z1L) (Z4Y x3 x6 x7 x8) (Zdp 0 (iv x3) (.p (.lst ox6 (x6.map Zs))) (iv x7) (iv x8) []) := by
 unfold Z4Y
 refine zf (Zgv ..) ?_
 refine ze ?_
 refine zi fun a1 ha1 => ?_
 refine zo (.cptr (ZF a1)) ?_ (Eq.trans (by kernel_rfl) (xidx_of (o := ox6) (k := .i64) (n := 2) (e := Zs) (cs := Z3w) (fun _ => rfl) (fun _ => rfl) (by decide) ha1))
 refine zo (.p (.agg (ZF a1))) ?_
 refine zz (.ptr 0 0) [(Z1i (Z7.mk 0 0))] ?_
 refine zt [(Z1i a1)] ?_
 refine ze ?_
 refine zo (.p (.agg (ZF a1))) ?_
 refine zi fun r2 hr2 => ?_
 obtain ⟨qr2, er2, exr2, rfl⟩ := Z7o (a1) r2 hr2
 refine zc [] (bv r2) [(Z1i a1)] er2 ?_
 refine zo (bv (!r2)) ?_
 refine za ((!r2)) ?_ ?_
 ·exact zk (Z6r )
 ·refine zo (.ptr 0 0) ?_
  refine zo (iv a1.Lo) ?_
  refine zo (iv (IntKind.i64.wrap (x3 + 2))) ?_
  refine zo (bv (decide (a1.Lo < (IntKind.i64.wrap (x3 + 2))))) ?_
  refine za ((decide (a1.Lo < (IntKind.i64.wrap (x3 + 2))))) ?_ ?_
  ·exact zk (Z6r )
  ·exact zk (Z9x (x6) (x7) (x8) (a1) ox6)
noncomputable def Z63  : Option (Bool) :=
 some (true)
theorem Z9y  : Sim (Z1L) (Z63) (Zdm 0  []) := by
 unfold Z63
 refine zf (ZfT ..) ?_
 refine ze ?_
 exact zr ((bv true), []) ⟨_, rfl⟩
noncomputable def Z44 (x3 : Int) (x6 : List Z7) (x7 : Int) (x8 : Int) : Option (Bool) :=
 if ((decide (x8 < x7))) = true then
 (Z4Y x3 x6 x7 x8)
 else
 (Z63)
theorem Z9r (x3 : Int) (x6 : List Z7) (x7 : Int) (x8 : Int) (ox6 : Own) : Sim (Z1L) (Z44 x3 x6 x7 x8) (ZaM 0 (iv x3) (.p (.lst ox6 (x6.map Zs))) (iv x7) (iv x8) []) := by
 unfold Z44
 refine zf (Zg3 ..) ?_
 refine ze ?_
 refine zo (bv (decide (x8 < x7))) ?_
 refine za ((decide (x8 < x7))) ?_ ?_
 ·exact zk (Z9v (x3) (x6) (x7) (x8) ox6)
 ·exact zk (Z9y )
theorem Z6M (x3 : Int) (x6 : List Z7) (x7 : Int) (x8 : Int) {r} (h : Z44 x3 x6 x7 x8 = some r) : Z42 x3 x6 x7 x8 = some r :=
 pick_of (fun _ _ ha hb => RRun.uniq (Z89) (ha .ex) (hb .ex)) (fun ox6 => Z9r x3 x6 x7 x8 ox6 r h)
noncomputable def Z6t (x0 : List Z7) : Option ((List Z7)) :=
 Z4V (([] : List Z7)) 0 x0 ((x0.length : Int)) 0
theorem Zbo (x0 : List Z7) (ox0 : Own) : Sim (Z27) (Z6t x0) (EE 70 [(.p (.lst ox0 (x0.map Zs)))] []) := by
 unfold Z6t
 refine zf (Zhg ..) ?_
 refine ze ?_
 refine ze ?_
 refine ze ?_
 refine ze ?_
 refine zo (iv (x0.length : Int)) ?_ (Eq.trans (by kernel_rfl) (xlen_of (P := PP) (t := 24) (d := 39) (by kernel_rfl) Zs (shrO ox0) x0))
 exact zk (Z7V (([] : List Z7)) (0) (x0) ((x0.length : Int)) (0) .nl (shrO ox0) rfl)
theorem ZbB (x0 : List Z7) {r} (h : Z6t x0 = some r) : Z6u x0 = some r :=
 pick_of (fun _ _ ha hb => RRun.uniq (Z9d) (ha .ex) (hb .ex)) (fun ox0 => Zbo x0 ox0 r h)
noncomputable def Z5H (x3 : List Z7) (x4 : Int) (x7 : List Z7) (x8 : Int) (x9 : Int) : Option ((List Z7)) :=
 Z4V x3 x4 x7 x8 ((IntKind.i64.wrap (x9 + 1)))
theorem Zao (x3 : List Z7) (x4 : Int) (x7 : List Z7) (x8 : Int) (x9 : Int) (ox3 : Own) (ox7 : Own) (hox3 : okApp ox3 = true) : Sim (Z27) (Z5H x3 x4 x7 x8 x9) (Zda 0 (.p (.lst ox3 (x3.map Zs))) (iv x4) (.p (.lst ox7 (x7.map Zs))) (iv x8) (iv x9) []) := by
 unfold Z5H
 refine zf (Zfq ..) ?_
 refine ze ?_
 refine zo (iv (IntKind.i64.wrap (x9 + 1))) ?_
 exact zk (Z7V (x3) (x4) (x7) (x8) ((IntKind.i64.wrap (x9 + 1))) ox3 ox7 hox3)
noncomputable def Z3X (x3 : List Z7) (x7 : List Z7) (x8 : Int) (x9 : Int) (b0 : Z7) : Option ((List Z7)) :=
 Z5H x3 ((IntKind.i64.wrap (b0.Hi + 1))) x7 x8 x9
theorem Z7m (x3 : List Z7) (x7 : List Z7) (x8 : Int) (x9 : Int) (b0 : Z7) (ox3 : Own) (ox7 : Own) (hox3 : okApp ox3 = true) : Sim (Z27) (Z3X x3 x7 x8 x9 b0) (Zco 0 (.p (.lst ox3 (x3.map Zs))) (.ptr 0 0) (.p (.lst ox7 (x7.map Zs))) (iv x8) (iv x9) [(Z1i b0)]) := by
 unfold Z3X
 refine zf (ZgA ..) ?_
 refine ze ?_
 refine zo (.ptr 0 1) ?_
 refine zo (iv b0.Hi) ?_
 refine zo (iv (IntKind.i64.wrap (b0.Hi + 1))) ?_
 exact zk (Zao (x3) ((IntKind.i64.wrap (b0.Hi + 1))) (x7) (x8) (x9) ox3 ox7 hox3)
noncomputable def Z5E (x3 : List Z7) (x4 : Int) (x7 : List Z7) (x8 : Int) (x9 : Int) : Option ((List Z7)) :=
 (lget x7 x9).bind fun a1 =>
 if ((decide (x4 < a1.Lo))) = true then
 ((lapp x3 ([(Z7.mk x4 (IntKind.i64.wrap (a1.Lo - 1)))] : List Z7)).bind fun a2 =>
 Z3X a2 x7 x8 x9 a1)
 else
 (Z3X x3 x7 x8 x9 a1)
theorem Zai (x3 : List Z7) (x4 : Int) (x7 : List Z7) (x8 : Int) (x9 : Int) (ox3 : Own) (ox7 : Own) (hox3 : okApp ox3 = true) : Sim (Z27) (Z5E x3 x4 x7 x8 x9) (ZdR 0 (.p (.lst ox3 (x3.map Zs))) (iv x4) (.p (.lst ox7 (x7.map Zs))) (iv x8) (iv x9) []) := by
 unfold Z5E
 refine zf (Zgj ..) ?_
 refine ze ?_
 refine zi fun a1 ha1 => ?_
 refine zo (.cptr (ZF a1)) ?_ (Eq.trans (by kernel_rfl) (xidx_of (o := ox7) (k := .i64) (n := 2) (e := Zs) (cs := Z3w) (fun _ => rfl) (fun _ => rfl) (by decide) ha1))
 refine zo (.p (.agg (ZF a1))) ?_
 refine zz (.ptr 0 0) [(Z1i (Z7.mk 0 0))] ?_
 refine zt [(Z1i a1)] ?_
 refine ze ?_
 refine zo (.ptr 0 0) ?_
 refine zo (iv a1.Lo) ?_
 refine zo (bv (decide (x4 < a1.Lo))) ?_
 refine za ((decide (x4 < a1.Lo))) ?_ ?_
 ·refine ze ?_
  refine zo (.ptr 0 0) ?_
  refine zo (iv a1.Lo) ?_
  refine zo (iv (IntKind.i64.wrap (a1.Lo - 1))) ?_
  refine zo (.p (.agg (ZF (Z7.mk x4 (IntKind.i64.wrap (a1.Lo - 1)))))) ?_
  refine zo (.p (.lst .ex (([(Z7.mk x4 (IntKind.i64.wrap (a1.Lo - 1)))] : List Z7).map Zs))) ?_
  refine zi fun a2 ha2 => ?_
  refine zo (.p (.lst .un (a2.map Zs))) ?_ (Eq.trans (by kernel_rfl) <| xapp_of (n := 2) (o := ox3) (o' := .ex) (e := Zs) (ys := ([(Z7.mk x4 (IntKind.i64.wrap (a1.Lo - 1)))] : List Z7)) (fun _ => rfl) (by decide) hox3 ha2)
  exact zk (Z7m (a2) (x7) (x8) (x9) (a1) .un ox7 rfl)
 ·exact zk (Z7m (x3) (x7) (x8) (x9) (a1) ox3 ox7 hox3)
noncomputable def Z3L (x3 : List Z7) : Option ((List Z7)) :=
 some (x3)
theorem Z7c (x3 : List Z7) (ox3 : Own) (hox3 : okApp ox3 = true) : Sim (Z27) (Z3L x3) (ZbL 0 (.p (.lst ox3 (x3.map Zs))) []) := by
 unfold Z3L
 refine zf (ZeF ..) ?_
 refine ze ?_
 exact zr ((.p (.lst .sh (x3.map Zs))), []) ⟨_, rfl⟩
noncomputable def Z5s (x3 : List Z7) (x4 : Int) : Option ((List Z7)) :=
 if ((decide (x4 ≤ 1114367))) = true then
 ((lapp x3 ([(Z7.mk x4 1114367)] : List Z7)).bind fun a1 =>
 Z3L a1)
 else
 (Z3L x3)
theorem Za9 (x3 : List Z7) (x4 : Int) (ox3 : Own) (hox3 : okApp ox3 = true) : Sim (Z27) (Z5s x3 x4) (ZcU 0 (.p (.lst ox3 (x3.map Zs))) (iv x4) []) := by
 unfold Z5s
 refine zf (ZeD ..) ?_
 refine ze ?_
 refine zo (bv (decide (x4 ≤ 1114367))) ?_
 refine za ((decide (x4 ≤ 1114367))) ?_ ?_
 ·refine ze ?_
  refine zo (.p (.agg (ZF (Z7.mk x4 1114367)))) ?_
  refine zo (.p (.lst .ex (([(Z7.mk x4 1114367)] : List Z7).map Zs))) ?_
  refine zi fun a1 ha1 => ?_
  refine zo (.p (.lst .un (a1.map Zs))) ?_ (Eq.trans (by kernel_rfl) <| xapp_of (n := 2) (o := ox3) (o' := .ex) (e := Zs) (ys := ([(Z7.mk x4 1114367)] : List Z7)) (fun _ => rfl) (by decide) hox3 ha1)
  exact zk (Z7c (a1) .un rfl)
 ·exact zk (Z7c (x3) ox3 hox3)
noncomputable def Z4U (x3 : List Z7) (x4 : Int) (x7 : List Z7) (x8 : Int) (x9 : Int) : Option ((List Z7)) :=
 if ((decide (x9 < x8))) = true then
 (Z5E x3 x4 x7 x8 x9)
 else
 (Z5s x3 x4)
theorem Zat (x3 : List Z7) (x4 : Int) (x7 : List Z7) (x8 : Int) (x9 : Int) (ox3 : Own) (ox7 : Own) (hox3 : okApp ox3 = true) : Sim (Z27) (Z4U x3 x4 x7 x8 x9) (ZaL 0 (.p (.lst ox3 (x3.map Zs))) (iv x4) (.p (.lst ox7 (x7.map Zs))) (iv x8) (iv x9) []) := by
 unfold Z4U
 refine zf (Zfp ..) ?_
 refine ze ?_
 refine zo (bv (decide (x9 < x8))) ?_
 refine za ((decide (x9 < x8))) ?_ ?_
 ·exact zk (Zai (x3) (x4) (x7) (x8) (x9) ox3 ox7 hox3)
 ·exact zk (Za9 (x3) (x4) ox3 hox3)
theorem Z7P (x3 : List Z7) (x4 : Int) (x7 : List Z7) (x8 : Int) (x9 : Int) {r} (h : Z4U x3 x4 x7 x8 x9 = some r) : Z4V x3 x4 x7 x8 x9 = some r :=
 pick_of (fun _ _ ha hb => RRun.uniq (Z9d) (ha .ex .ex rfl) (hb .ex .ex rfl)) (fun ox3 ox7 hox3 => Zat x3 x4 x7 x8 x9 ox3 ox7 hox3 r h)
noncomputable def Z3b (x1 : Int) (x5 : Int) (zp : Int) (zh : List Zr) (z1 : Int) (z2 : Int) : Option (Z8 × Int × (List Zr) × Int × Int) :=
 (lapp zh ([(Zr.mk (IntKind.i64.wrap (x5 - 48)) x1)] : List Zr)).bind fun a1 =>
 some ((Z8.mk 6 0 0 0 (IntKind.i64.wrap (x5 - 48)) ([] : List Z7) ([] : List Z8)), zp, a1, z1, z2)
theorem Z8m (x1 : Int) (x5 : Int) (zl : List Int) (zp : Int) (z6 : Int) (zd : Int) (zh : List Zr) (z1 : Int) (z2 : Int) (b1 : Z8) (zn : Own) (zb : Own) (zB : Own) (zy : Own) (zu : okApp zb = true) (zP : okApp zB = true) (zH : okApp zy = true) : Sim (Z2r zl z6 zd zn) (Z3b x1 x5 zp zh z1 z2) (ZcK 1 (.ptr 0 0) (iv x1) (.ptr 1 0) (iv x5) [(Zi (Zk.mk zl zp z6 zd zh (Zj.mk z1 z2)) zn zb), (Zq b1 zB zy)]) := by
 unfold Z3b
 refine zf (ZeI ..) ?_
 refine ze ?_
 refine zo (.ptr 0 0) ?_
 refine zo (.ptr 0 4) ?_
 refine zw (.p (.lst zb (zh.map Z1x))) [(Zi (Zk.mk zl zp z6 zd zh (Zj.mk z1 z2)) zn (shrO zb)), (Zq b1 zB zy)] ?_
 refine zo (iv (IntKind.i64.wrap (x5 - 48))) ?_
 refine zo (.p (.agg (Z7I (Zr.mk (IntKind.i64.wrap (x5 - 48)) x1)))) ?_
 refine zo (.p (.lst .ex (([(Zr.mk (IntKind.i64.wrap (x5 - 48)) x1)] : List Zr).map Z1x))) ?_
 refine zi fun a1 ha1 => ?_
 refine zo (.p (.lst .un (a1.map Z1x))) ?_ (Eq.trans (by kernel_rfl) <| xapp_of (n := 2) (o := zb) (o' := .ex) (e := Z1x) (ys := ([(Zr.mk (IntKind.i64.wrap (x5 - 48)) x1)] : List Zr)) (fun _ => rfl) (by decide) zu ha1)
 refine zo (.ptr 0 0) ?_
 refine zo (.ptr 0 4) ?_
 refine zt [(Zi (Zk.mk zl zp z6 zd a1 (Zj.mk z1 z2)) zn .un), (Zq b1 zB zy)] ?_
 refine ze ?_
 refine zo (iv (IntKind.i64.wrap (x5 - 48))) ?_
 refine zo (.p (.agg (ZD (Z8.mk 6 0 0 0 (IntKind.i64.wrap (x5 - 48)) ([] : List Z7) ([] : List Z8)) .nl .nl))) ?_
 refine zt [(Zi (Zk.mk zl zp z6 zd a1 (Zj.mk z1 z2)) zn .un), (Zq (Z8.mk 6 0 0 0 (IntKind.i64.wrap (x5 - 48)) ([] : List Z7) ([] : List Z8)) .nl .nl)] ?_
 exact zr ((.p (.agg (ZD (Z8.mk 6 0 0 0 (IntKind.i64.wrap (x5 - 48)) ([] : List Z7) ([] : List Z8)) .sh .sh))), [(Zi (Zk.mk zl zp z6 zd a1 (Zj.mk z1 z2)) zn .un), (Zq (Z8.mk 6 0 0 0 (IntKind.i64.wrap (x5 - 48)) ([] : List Z7) ([] : List Z8)) .nl .nl)]) ⟨.un, _, rfl, rfl⟩
noncomputable def Z1Y (x1 : Int) (x5 : Int) (zl : List Int) (zp : Int) (z6 : Int) (zd : Int) (zh : List Zr) (z1 : Int) (z2 : Int) : Option (Z8 × Int × (List Zr) × Int × Int) :=
 (Z4l x5 x1 zl zp z6 zd zh z1 z2).bind fun r1 =>
 (Z1v r1.1).bind fun r2 =>
 (Z2t false (([r2] : List Z7))).bind fun r3 =>
 some (r3, r1.2.1, zh, r1.2.2.1, r1.2.2.2)
theorem Z5N (x1 : Int) (x5 : Int) (zl : List Int) (zp : Int) (z6 : Int) (zd : Int) (zh : List Zr) (z1 : Int) (z2 : Int) (b1 : Z8) (zn : Own) (zb : Own) (zB : Own) (zy : Own) (zu : okApp zb = true) (zP : okApp zB = true) (zH : okApp zy = true) : Sim (Z2r zl z6 zd zn) (Z1Y x1 x5 zl zp z6 zd zh z1 z2) (ZbJ 1 (.ptr 0 0) (iv x1) (.ptr 1 0) (iv x5) [(Zi (Zk.mk zl zp z6 zd zh (Zj.mk z1 z2)) zn zb), (Zq b1 zB zy)]) := by
 unfold Z1Y
 refine zf (Zf9 ..) ?_
 refine ze ?_
 refine zi fun r1 hr1 => ?_
 obtain ⟨qr1, er1, exr1, rfl⟩ := Z7e (x5) (x1) (zl) (zp) (z6) (zd) (zh) (z1) (z2) zn zb zu r1 hr1
 refine zc [0] (iv r1.1) [(Zi (Zk.mk zl r1.2.1 z6 zd zh (Zj.mk r1.2.2.1 r1.2.2.2)) zn zb), (Zq b1 zB zy)] er1 ?_
 refine zi fun r2 hr2 => ?_
 obtain ⟨qr2, er2, exr2, rfl⟩ := Z1p (r1.1) r2 hr2
 refine zc [] (.p (.agg (ZF r2))) [(Zi (Zk.mk zl r1.2.1 z6 zd zh (Zj.mk r1.2.2.1 r1.2.2.2)) zn zb), (Zq b1 zB zy)] er2 ?_
 refine zo (.p (.lst .ex (([r2] : List Z7).map Zs))) ?_
 refine zi fun r3 hr3 => ?_
 obtain ⟨qr3, er3, exr3, rfl⟩ := Z2E (false) (([r2] : List Z7)) .sh r3 hr3
 refine zc [] (.p (.agg (ZD r3 .sh .sh))) [(Zi (Zk.mk zl r1.2.1 z6 zd zh (Zj.mk r1.2.2.1 r1.2.2.2)) zn zb), (Zq b1 zB zy)] er3 ?_
 refine zt [(Zi (Zk.mk zl r1.2.1 z6 zd zh (Zj.mk r1.2.2.1 r1.2.2.2)) zn zb), (Zq r3 .sh .sh)] ?_
 exact zr ((.p (.agg (ZD r3 .sh .sh))), [(Zi (Zk.mk zl r1.2.1 z6 zd zh (Zj.mk r1.2.2.1 r1.2.2.2)) zn zb), (Zq r3 .sh .sh)]) ⟨zb, _, zu, rfl⟩
noncomputable def Z23 (x1 : Int) (x5 : Int) (zl : List Int) (zp : Int) (z6 : Int) (zd : Int) (zh : List Zr) (z1 : Int) (z2 : Int) : Option (Z8 × Int × (List Zr) × Int × Int) :=
 (Z1W zl zp).bind fun r1 =>
 (Z4v x5).bind fun r2 =>
 (nilO r2.1 r2.2).bind fun a3 =>
 if ((!a3)) = true then
 ((Z4v x5).bind fun r4 =>
 (Z2t ((decide (x5 < 97))) r4.2).bind fun r5 =>
 some (r5, r1.2, zh, z1, z2))
 else
 (if ((x5 == 98)) = true then
 (some ((Z8.mk 9 0 0 0 2 ([] : List Z7) ([] : List Z8)), r1.2, zh, z1, z2))
 else
 (if ((x5 == 66)) = true then
 (some ((Z8.mk 9 0 0 0 3 ([] : List Z7) ([] : List Z8)), r1.2, zh, z1, z2))
 else
 (if ((decide (49 ≤ x5))) = true then
 (if ((decide (x5 ≤ 57))) = true then
 (Z3b x1 x5 r1.2 zh z1 z2)
 else
 (Z1Y x1 x5 zl r1.2 z6 zd zh z1 z2))
 else
 (Z1Y x1 x5 zl r1.2 z6 zd zh z1 z2))))
theorem Z8A (x1 : Int) (x5 : Int) (zl : List Int) (zp : Int) (z6 : Int) (zd : Int) (zh : List Zr) (z1 : Int) (z2 : Int) (b1 : Z8) (zn : Own) (zb : Own) (zB : Own) (zy : Own) (zu : okApp zb = true) (zP : okApp zB = true) (zH : okApp zy = true) : Sim (Z2r zl z6 zd zn) (Z23 x1 x5 zl zp z6 zd zh z1 z2) (ZdE 1 (.ptr 0 0) (iv x1) (.ptr 1 0) (iv x5) [(Zi (Zk.mk zl zp z6 zd zh (Zj.mk z1 z2)) zn zb), (Zq b1 zB zy)]) := by
 unfold Z23
 refine zf (ZfZ ..) ?_
 refine ze ?_
 refine zi fun r1 hr1 => ?_
 obtain ⟨qr1, er1, exr1, rfl⟩ := Z2g (zl) (zp) (z6) (zd) (zh) (z1) (z2) zn zb zu r1 hr1
 refine zc [0] (iv r1.1) [(Zi (Zk.mk zl r1.2 z6 zd zh (Zj.mk z1 z2)) zn zb), (Zq b1 zB zy)] er1 ?_
 refine ze ?_
 refine zi fun r2 hr2 => ?_
 obtain ⟨qr2, er2, exr2, rfl⟩ := Z6c (x5) r2 hr2
 refine zc [] (.p (.lst r2.1 (r2.2.map Zs))) [(Zi (Zk.mk zl r1.2 z6 zd zh (Zj.mk z1 z2)) zn zb), (Zq b1 zB zy)] er2 ?_
 refine zi fun a3 ha3 => ?_
 refine zo (bv (!a3)) ?_ (Eq.trans (by kernel_rfl) (xnil_neq (P := PP) (t := 23) (c := .slice none 0 0) (e := Zs) (by kernel_rfl) ha3))
 refine za ((!a3)) ?_ ?_
 ·refine ze ?_
  refine zo (bv (decide (x5 < 97))) ?_
  refine zi fun r4 hr4 => ?_
  obtain ⟨qr4, er4, exr4, rfl⟩ := Z6c (x5) r4 hr4
  refine zc [] (.p (.lst r4.1 (r4.2.map Zs))) [(Zi (Zk.mk zl r1.2 z6 zd zh (Zj.mk z1 z2)) zn zb), (Zq b1 zB zy)] er4 ?_
  refine zi fun r5 hr5 => ?_
  obtain ⟨qr5, er5, exr5, rfl⟩ := Z2E ((decide (x5 < 97))) (r4.2) .sh r5 hr5
  refine zc [] (.p (.agg (ZD r5 .sh .sh))) [(Zi (Zk.mk zl r1.2 z6 zd zh (Zj.mk z1 z2)) zn zb), (Zq b1 zB zy)] er5 ?_
  refine zt [(Zi (Zk.mk zl r1.2 z6 zd zh (Zj.mk z1 z2)) zn zb), (Zq r5 .sh .sh)] ?_
  exact zr ((.p (.agg (ZD r5 .sh .sh))), [(Zi (Zk.mk zl r1.2 z6 zd zh (Zj.mk z1 z2)) zn zb), (Zq r5 .sh .sh)]) ⟨zb, _, zu, rfl⟩
 ·refine ze ?_
  refine zo (bv (x5 == 98)) ?_
  refine za ((x5 == 98)) ?_ ?_
  ·refine ze ?_
   refine zo (.p (.agg (ZD (Z8.mk 9 0 0 0 2 ([] : List Z7) ([] : List Z8)) .nl .nl))) ?_
   refine zt [(Zi (Zk.mk zl r1.2 z6 zd zh (Zj.mk z1 z2)) zn zb), (Zq (Z8.mk 9 0 0 0 2 ([] : List Z7) ([] : List Z8)) .nl .nl)] ?_
   exact zr ((.p (.agg (ZD (Z8.mk 9 0 0 0 2 ([] : List Z7) ([] : List Z8)) .sh .sh))), [(Zi (Zk.mk zl r1.2 z6 zd zh (Zj.mk z1 z2)) zn zb), (Zq (Z8.mk 9 0 0 0 2 ([] : List Z7) ([] : List Z8)) .nl .nl)]) ⟨zb, _, zu, rfl⟩
  ·refine ze ?_
   refine zo (bv (x5 == 66)) ?_
   refine za ((x5 == 66)) ?_ ?_
   ·refine ze ?_
    refine zo (.p (.agg (ZD (Z8.mk 9 0 0 0 3 ([] : List Z7) ([] : List Z8)) .nl .nl))) ?_
    refine zt [(Zi (Zk.mk zl r1.2 z6 zd zh (Zj.mk z1 z2)) zn zb), (Zq (Z8.mk 9 0 0 0 3 ([] : List Z7) ([] : List Z8)) .nl .nl)] ?_
    exact zr ((.p (.agg (ZD (Z8.mk 9 0 0 0 3 ([] : List Z7) ([] : List Z8)) .sh .sh))), [(Zi (Zk.mk zl r1.2 z6 zd zh (Zj.mk z1 z2)) zn zb), (Zq (Z8.mk 9 0 0 0 3 ([] : List Z7) ([] : List Z8)) .nl .nl)]) ⟨zb, _, zu, rfl⟩
   ·refine ze ?_
    refine zo (bv (decide (49 ≤ x5))) ?_
    refine za ((decide (49 ≤ x5))) ?_ ?_
    ·refine zo (bv (decide (x5 ≤ 57))) ?_
     refine za ((decide (x5 ≤ 57))) ?_ ?_
     ·exact zk (Z8m (x1) (x5) (zl) (r1.2) (z6) (zd) (zh) (z1) (z2) (b1) zn zb zB zy zu zP zH)
     ·exact zk (Z5N (x1) (x5) (zl) (r1.2) (z6) (zd) (zh) (z1) (z2) (b1) zn zb zB zy zu zP zH)
    ·exact zk (Z5N (x1) (x5) (zl) (r1.2) (z6) (zd) (zh) (z1) (z2) (b1) zn zb zB zy zu zP zH)
noncomputable def Z3i (x1 : Int) (zl : List Int) (zp : Int) (z6 : Int) (zd : Int) (zh : List Zr) (z1 : Int) (z2 : Int) : Option (Z8 × Int × (List Zr) × Int × Int) :=
 (Z1C ((Zk.mk zl zp z6 zd zh (Zj.mk z1 z2)))).bind fun r1 =>
 if ((decide (r1 < 0))) = true then
 ((ZT 21 x1 zl z1 z2).bind fun r2 =>
 some ((Z8.mk 0 0 0 0 0 ([] : List Z7) ([] : List Z8)), r2.1, zh, r2.2.1, r2.2.2))
 else
 (Z23 x1 r1 zl zp z6 zd zh z1 z2)
theorem Z9p (x1 : Int) (zl : List Int) (zp : Int) (z6 : Int) (zd : Int) (zh : List Zr) (z1 : Int) (z2 : Int) (zn : Own) (zb : Own) (zu : okApp zb = true) : Sim (Z2r zl z6 zd zn) (Z3i x1 zl zp z6 zd zh z1 z2) (EE 49 [(.ptr 0 0), (iv x1)] [(Zi (Zk.mk zl zp z6 zd zh (Zj.mk z1 z2)) zn zb)]) := by
 unfold Z3i
 refine zf (ZgT ..) ?_
 refine ze ?_
 refine zz (.ptr 1 0) [(Zi (Zk.mk zl zp z6 zd zh (Zj.mk z1 z2)) zn zb), (Zq (Z8.mk 0 0 0 0 0 ([] : List Z7) ([] : List Z8)) .nl .nl)] ?_
 refine ze ?_
 refine zi fun r1 hr1 => ?_
 obtain ⟨qr1, er1, exr1, rfl⟩ := Z1F ((Zk.mk zl zp z6 zd zh (Zj.mk z1 z2))) zn zb zu r1 hr1
 refine zc [0] (iv r1) [(Zi (Zk.mk zl zp z6 zd zh (Zj.mk z1 z2)) zn zb), (Zq (Z8.mk 0 0 0 0 0 ([] : List Z7) ([] : List Z8)) .nl .nl)] er1 ?_
 refine ze ?_
 refine zo (bv (decide (r1 < 0))) ?_
 refine za ((decide (r1 < 0))) ?_ ?_
 ·refine ze ?_
  refine zi fun r2 hr2 => ?_
  obtain ⟨qr2, er2, exr2, rfl⟩ := ZW (21) (x1) (zl) (zp) (z6) (zd) (zh) (z1) (z2) zn zb zu r2 hr2
  refine zc [0] (.p (.tup [])) [(Zi (Zk.mk zl r2.1 z6 zd zh (Zj.mk r2.2.1 r2.2.2)) zn zb), (Zq (Z8.mk 0 0 0 0 0 ([] : List Z7) ([] : List Z8)) .nl .nl)] er2 ?_
  refine ze ?_
  refine zo (.p (.agg (ZD (Z8.mk 0 0 0 0 0 ([] : List Z7) ([] : List Z8)) .nl .nl))) ?_
  refine zt [(Zi (Zk.mk zl r2.1 z6 zd zh (Zj.mk r2.2.1 r2.2.2)) zn zb), (Zq (Z8.mk 0 0 0 0 0 ([] : List Z7) ([] : List Z8)) .nl .nl)] ?_
  exact zr ((.p (.agg (ZD (Z8.mk 0 0 0 0 0 ([] : List Z7) ([] : List Z8)) .sh .sh))), [(Zi (Zk.mk zl r2.1 z6 zd zh (Zj.mk r2.2.1 r2.2.2)) zn zb), (Zq (Z8.mk 0 0 0 0 0 ([] : List Z7) ([] : List Z8)) .nl .nl)]) ⟨zb, _, zu, rfl⟩
 ·exact zk (Z8A (x1) (r1) (zl) (zp) (z6) (zd) (zh) (z1) (z2) ((Z8.mk 0 0 0 0 0 ([] : List Z7) ([] : List Z8))) zn zb .nl .nl zu rfl rfl)
theorem Z9L (x1 : Int) (zl : List Int) (zp : Int) (z6 : Int) (zd : Int) (zh : List Zr) (z1 : Int) (z2 : Int) {r} (h : Z3i x1 zl zp z6 zd zh z1 z2 = some r) : Z2O x1 zl zp z6 zd zh z1 z2 = some r :=
 pick_of (fun _ _ ha hb => RRun.uniq (Za2 _ _ _ _) (ha .ex .ex rfl) (hb .ex .ex rfl)) (fun zn zb zu => Z9p x1 zl zp z6 zd zh z1 z2 zn zb zu r h)
end Go.Proofs.YtadodmjdkphddaaDoor.N2
end
