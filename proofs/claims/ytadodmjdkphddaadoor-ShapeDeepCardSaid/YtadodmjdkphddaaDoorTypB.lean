/- The functions' typed texts. No condition. -/
import Derived.Test.YtadodmjdkphddaaDoorTypA

section
set_option linter.unusedSimpArgs false
set_option linter.unusedVariables false
namespace Go.Proofs.YtadodmjdkphddaaDoor.N2
open Go Go.Abs
set_option linter.unusedVariables false
set_option maxRecDepth 100000
noncomputable def Z3U (x0 : List Int) : Option (Bool) :=
 Z38 ((ByteArray.mk #[97])) 1 x0 ((x0.length : Int)) 0
theorem Z8Q (x0 : List Int) (ox0 : Own) : Sim (Z18) (Z3U x0) (ZgE 0 (.p (.lst ox0 (x0.map (eI .i64)))) []) := by
 unfold Z3U
 refine zf (ZiT ..) ?_
 refine ze ?_
 refine ze ?_
 refine zo (iv (x0.length : Int)) ?_ (Eq.trans (by kernel_rfl) (xlen_of (P := PP) (t := 46) (d := 3) (by kernel_rfl) (eI .i64) (shrO ox0) x0))
 exact zk (Z6b ((ByteArray.mk #[97])) (1) (x0) ((x0.length : Int)) (0) (shrO ox0))
noncomputable def Z41 (x0 : List Int) : Option (Bool) :=
 if ((decide (25 < (x0.length : Int)))) = true then
 (some (true))
 else
 (Z3U x0)
theorem Z8U (x0 : List Int) (ox0 : Own) : Sim (Z18) (Z41 x0) (ZfK 0 (.p (.lst ox0 (x0.map (eI .i64)))) []) := by
 unfold Z41
 refine zf (Zi4 ..) ?_
 refine ze ?_
 refine zo (iv (x0.length : Int)) ?_ (Eq.trans (by kernel_rfl) (xlen_of (P := PP) (t := 46) (d := 3) (by kernel_rfl) (eI .i64) (shrO ox0) x0))
 refine zo (bv (decide (25 < (x0.length : Int)))) ?_
 refine za ((decide (25 < (x0.length : Int)))) ?_ ?_
 ·refine ze ?_
  exact zr ((bv true), []) ⟨_, rfl⟩
 ·exact zk (Z8Q (x0) ox0)
noncomputable def Z4F (x0 : List Int) : Option (Bool) :=
 (Z5j).bind fun r1 =>
 if ((!r1)) = true then
 (some (false))
 else
 (Z41 x0)
theorem Z9x (x0 : List Int) (ox0 : Own) : Sim (Z18) (Z4F x0) (EE 12 [(.p (.lst ox0 (x0.map (eI .i64))))] []) := by
 unfold Z4F
 refine zf (Zkr ..) ?_
 refine ze ?_
 refine ze ?_
 refine zi fun r1 hr1 => ?_
 obtain ⟨qr1, er1, exr1, rfl⟩ := ZaC  r1 hr1
 refine zc [] (bv r1) [] er1 ?_
 refine zo (bv (!r1)) ?_
 refine za ((!r1)) ?_ ?_
 ·refine ze ?_
  exact zr ((bv false), []) ⟨_, rfl⟩
 ·exact zk (Z8U (x0) ox0)
theorem Z9E (x0 : List Int) {r} (h : Z4F x0 = some r) : Z5P x0 = some r :=
 pick_of (fun _ _ ha hb => RRun.uniq (Z6W) (ha .ex) (hb .ex)) (fun ox0 => Z9x x0 ox0 r h)
noncomputable def Z2W  : Option (Bool) :=
 some (true)
theorem Z5R  : Sim (Z18) (Z2W) (Zdl 0  []) := by
 unfold Z2W
 refine zf (Zhv ..) ?_
 refine ze ?_
 exact zr ((bv true), []) ⟨_, rfl⟩
noncomputable def Z3E (x3 : ByteArray) (x4 : Int) (x17 : List Int) (x18 : Int) (x19 : Int) : Option (Bool) :=
 Z38 x3 x4 x17 x18 ((IntKind.i64.wrap (x19 + 1)))
theorem Z8w (x3 : ByteArray) (x4 : Int) (x17 : List Int) (x18 : Int) (x19 : Int) (ox17 : Own) : Sim (Z18) (Z3E x3 x4 x17 x18 x19) (ZeL 0 (.p (.v (.string x3))) (iv x4) (.p (.lst ox17 (x17.map (eI .i64)))) (iv x18) (iv x19) []) := by
 unfold Z3E
 refine zf (ZhP ..) ?_
 refine ze ?_
 refine zo (iv (IntKind.i64.wrap (x19 + 1))) ?_
 exact zk (Z6b (x3) (x4) (x17) (x18) ((IntKind.i64.wrap (x19 + 1))) ox17)
noncomputable def Z3L (x3 : ByteArray) (x4 : Int) (x6 : Int) (x17 : List Int) (x18 : Int) (x19 : Int) : Option (Bool) :=
 (sadd (ByteArray.mk #[40, 63, 58]) x3).bind fun a1 =>
 (sadd a1 (ByteArray.mk #[41, 123])).bind fun a2 =>
 (sadd a2 (strI ([(IntKind.u8.wrap (IntKind.i64.wrap (48 + (IntKind.i64.wrap (Int.tdiv x6 10))))), (IntKind.u8.wrap (IntKind.i64.wrap (48 + (Int.tmod x6 10))))] : List Int))).bind fun a3 =>
 (sadd a3 (ByteArray.mk #[125])).bind fun a4 =>
 Z3E a4 ((min (IntKind.i64.wrap (x4 * x6)) 1048576)) x17 x18 x19
theorem Z8q (x3 : ByteArray) (x4 : Int) (x6 : Int) (x17 : List Int) (x18 : Int) (x19 : Int) (ox17 : Own) : Sim (Z18) (Z3L x3 x4 x6 x17 x18 x19) (Zf0 0 (.p (.v (.string x3))) (iv x4) (iv x6) (.p (.lst ox17 (x17.map (eI .i64)))) (iv x18) (iv x19) []) := by
 unfold Z3L
 refine zf (Zhc ..) ?_
 refine ze ?_
 refine zi fun a1 ha1 => ?_
 refine zo (.p (.v (.string a1))) ?_ (Eq.trans (by kernel_rfl) (xsadd_of (P := PP) (t := 9) ha1))
 refine zi fun a2 ha2 => ?_
 refine zo (.p (.v (.string a2))) ?_ (Eq.trans (by kernel_rfl) (xsadd_of (P := PP) (t := 9) ha2))
 refine zo (iv (IntKind.i64.wrap (Int.tdiv x6 10))) ?_ (Eq.trans (by kernel_rfl) (x_quo (P := PP) (t := 3) (k := .i64) (a := x6) (b := 10) (by decide)))
 refine zo (iv (IntKind.i64.wrap (48 + (IntKind.i64.wrap (Int.tdiv x6 10))))) ?_
 refine zo (.p (.v (.int .u8 (IntKind.u8.wrap (IntKind.i64.wrap (48 + (IntKind.i64.wrap (Int.tdiv x6 10)))))))) ?_
 refine zo (iv (Int.tmod x6 10)) ?_ (Eq.trans (by kernel_rfl) (x_rem (P := PP) (t := 3) (k := .i64) (a := x6) (b := 10) (by decide)))
 refine zo (iv (IntKind.i64.wrap (48 + (Int.tmod x6 10)))) ?_
 refine zo (.p (.v (.int .u8 (IntKind.u8.wrap (IntKind.i64.wrap (48 + (Int.tmod x6 10))))))) ?_
 refine zo (.p (.lst .ex (([(IntKind.u8.wrap (IntKind.i64.wrap (48 + (IntKind.i64.wrap (Int.tdiv x6 10))))), (IntKind.u8.wrap (IntKind.i64.wrap (48 + (Int.tmod x6 10))))] : List Int).map (eI .u8)))) ?_
 refine zo (.p (.v (.string (strI ([(IntKind.u8.wrap (IntKind.i64.wrap (48 + (IntKind.i64.wrap (Int.tdiv x6 10))))), (IntKind.u8.wrap (IntKind.i64.wrap (48 + (Int.tmod x6 10))))] : List Int))))) ?_ (Eq.trans (by kernel_rfl) (xcnv_str (P := PP) (s := 40) (d := 9) (by kernel_rfl) .ex ([(IntKind.u8.wrap (IntKind.i64.wrap (48 + (IntKind.i64.wrap (Int.tdiv x6 10))))), (IntKind.u8.wrap (IntKind.i64.wrap (48 + (Int.tmod x6 10))))] : List Int)))
 refine zi fun a3 ha3 => ?_
 refine zo (.p (.v (.string a3))) ?_ (Eq.trans (by kernel_rfl) (xsadd_of (P := PP) (t := 9) ha3))
 refine zi fun a4 ha4 => ?_
 refine zo (.p (.v (.string a4))) ?_ (Eq.trans (by kernel_rfl) (xsadd_of (P := PP) (t := 9) ha4))
 refine ze ?_
 refine zo (iv (IntKind.i64.wrap (x4 * x6))) ?_
 refine zo (iv (min (IntKind.i64.wrap (x4 * x6)) 1048576)) ?_ (xminmax2_min _ _)
 exact zk (Z8w (a4) ((min (IntKind.i64.wrap (x4 * x6)) 1048576)) (x17) (x18) (x19) ox17)
noncomputable def Z44 (x3 : ByteArray) (x4 : Int) (x17 : List Int) (x18 : Int) (x19 : Int) : Option (Bool) :=
 (lget x17 x19).bind fun a1 =>
 if ((decide (a1 < 0))) = true then
 (Z2W)
 else
 (if ((decide (64 < a1))) = true then
 (Z2W)
 else
 (Z3L x3 x4 a1 x17 x18 x19))
theorem Z8L (x3 : ByteArray) (x4 : Int) (x17 : List Int) (x18 : Int) (x19 : Int) (ox17 : Own) : Sim (Z18) (Z44 x3 x4 x17 x18 x19) (ZfL 0 (.p (.v (.string x3))) (iv x4) (.p (.lst ox17 (x17.map (eI .i64)))) (iv x18) (iv x19) []) := by
 unfold Z44
 refine zf (Zjj ..) ?_
 refine ze ?_
 refine zi fun a1 ha1 => ?_
 refine zo (.cptr [(.v (.int .i64 a1))]) ?_ (Eq.trans (by kernel_rfl) (xidx_of (o := ox17) (k := .i64) (n := 1) (e := (eI .i64)) (cs := (fun a => [(eI .i64) a])) (fun _ => rfl) (fun _ => rfl) (by decide) ha1))
 refine zo (iv a1) ?_
 refine ze ?_
 refine zo (bv (decide (a1 < 0))) ?_
 refine za ((decide (a1 < 0))) ?_ ?_
 ·exact zk (Z5R )
 ·refine zo (bv (decide (64 < a1))) ?_
  refine za ((decide (64 < a1))) ?_ ?_
  ·exact zk (Z5R )
  ·exact zk (Z8q (x3) (x4) (a1) (x17) (x18) (x19) ox17)
noncomputable def Z3F (x4 : Int) (x9 : Int) (x10 : Int) (b0 : ZC) : Option (Bool) :=
 (Z75 b0).bind fun r1 =>
 if (((r1 == 28) == (decide (1997 < x4)))) = true then
 (if ((x9 == x4)) = true then
 (if ((x10 == x4)) = true then
 (some (true))
 else
 (some ((decide (x10 < 0)))))
 else
 (some (false)))
 else
 (some (false))
theorem Z8u (x4 : Int) (x9 : Int) (x10 : Int) (b0 : ZC) (zJ : Own) (zF : Own) : Sim (Z18) (Z3F x4 x9 x10 b0) (ZeV 0 (iv x4) (.ptr 0 0) (iv x9) (iv x10) [(ZA b0 zJ zF)]) := by
 unfold Z3F
 refine zf (Zhk ..) ?_
 refine ze ?_
 refine zo (.p (.agg (Z1w b0 (shrO zJ) (shrO zF)))) ?_
 refine zi fun r1 hr1 => ?_
 obtain ⟨qr1, er1, exr1, rfl⟩ := Zb8 (b0) .sh .sh r1 hr1
 refine zc [] (iv r1) [(ZA b0 zJ zF)] er1 ?_
 refine ze ?_
 refine zo (bv (r1 == 28)) ?_
 refine zo (bv (decide (1997 < x4))) ?_
 refine zo (bv ((r1 == 28) == (decide (1997 < x4)))) ?_
 refine za (((r1 == 28) == (decide (1997 < x4)))) ?_ ?_
 ·refine zo (bv (x9 == x4)) ?_
  refine za ((x9 == x4)) ?_ ?_
  ·refine zo (bv (x10 == x4)) ?_
   refine za ((x10 == x4)) ?_ ?_
   ·exact zr ((bv true), [(ZA b0 zJ zF)]) ⟨_, rfl⟩
   ·refine zo (bv (decide (x10 < 0))) ?_
    exact zr ((bv (decide (x10 < 0))), [(ZA b0 zJ zF)]) ⟨_, rfl⟩
  ·exact zr ((bv false), [(ZA b0 zJ zF)]) ⟨_, rfl⟩
 ·exact zr ((bv false), [(ZA b0 zJ zF)]) ⟨_, rfl⟩
noncomputable def Z3H (x4 : Int) (b0 : ZC) : Option (Bool) :=
 (Z1r b0.Root).bind fun r1 =>
 (Z2e b0.Root).bind fun r2 =>
 if ((r2 != x4)) = true then
 (some (false))
 else
 (Z3F x4 r1.1 r1.2 b0)
theorem Z8B (x4 : Int) (b0 : ZC) (zJ : Own) (zF : Own) : Sim (Z18) (Z3H x4 b0) (Zf6 0 (iv x4) (.ptr 0 0) [(ZA b0 zJ zF)]) := by
 unfold Z3H
 refine zf (Zhq ..) ?_
 refine ze ?_
 refine zo (.ptr 0 0) ?_
 refine zo (.p (.agg (Zz b0.Root (shrO zJ) (shrO zF)))) ?_
 refine zi fun r1 hr1 => ?_
 obtain ⟨qr1, er1, exr1, rfl⟩ := Z3N (b0.Root) .sh .sh r1 hr1
 refine zc [] (.p (.tup [(.v (.int .i64 r1.1)), (.v (.int .i64 r1.2))])) [(ZA b0 zJ zF)] er1 ?_
 refine zo (iv r1.1) ?_
 refine zo (iv r1.2) ?_
 refine ze ?_
 refine zo (.ptr 0 0) ?_
 refine zo (.p (.agg (Zz b0.Root (shrO zJ) (shrO zF)))) ?_
 refine zi fun r2 hr2 => ?_
 obtain ⟨qr2, er2, exr2, rfl⟩ := Z7i (b0.Root) .sh .sh r2 hr2
 refine zc [] (iv r2) [(ZA b0 zJ zF)] er2 ?_
 refine zo (bv (r2 != x4)) ?_
 refine za ((r2 != x4)) ?_ ?_
 ·refine ze ?_
  exact zr ((bv false), [(ZA b0 zJ zF)]) ⟨_, rfl⟩
 ·exact zk (Z8u (x4) (r1.1) (r1.2) (b0) zJ zF)
noncomputable def Z2X (x3 : ByteArray) (x4 : Int) : Option (Bool) :=
 (Z6g x3).bind fun r1 =>
 if ((r1.2.Code != 0)) = true then
 (some ((r1.2.Code == 12)))
 else
 (Z3H x4 r1.1)
theorem Z8z (x3 : ByteArray) (x4 : Int) : Sim (Z18) (Z2X x3 x4) (ZeO 0 (.p (.v (.string x3))) (iv x4) []) := by
 unfold Z2X
 refine zf (ZhD ..) ?_
 refine ze ?_
 refine zi fun r1 hr1 => ?_
 obtain ⟨qr1, er1, exr1, rfl⟩ := Z8Z (x3) r1 hr1
 refine zc [] (.p (.tup [(.agg (Z1w r1.1 .sh .sh)), (.agg (Z2f r1.2))])) [] er1 ?_
 refine zo (.p (.agg (Z1w r1.1 .sh .sh))) ?_
 refine zo (.p (.agg (Z2f r1.2))) ?_
 refine zz (.ptr 0 0) [(ZA (ZC.mk (Z3.mk 0 0 0 0 0 ([] : List Z8) ([] : List Z3)) 0 false) .nl .nl)] ?_
 refine zz (.ptr 1 0) [(ZA (ZC.mk (Z3.mk 0 0 0 0 0 ([] : List Z8) ([] : List Z3)) 0 false) .nl .nl), (ZG (Zj.mk 0 0))] ?_
 refine zt [(ZA r1.1 .sh .sh), (ZG (Zj.mk 0 0))] ?_
 refine zt [(ZA r1.1 .sh .sh), (ZG r1.2)] ?_
 refine ze ?_
 refine zo (.ptr 1 0) ?_
 refine zo (iv r1.2.Code) ?_
 refine zo (bv (r1.2.Code != 0)) ?_
 refine za ((r1.2.Code != 0)) ?_ ?_
 ·refine ze ?_
  refine zo (.ptr 1 0) ?_
  refine zo (iv r1.2.Code) ?_
  refine zo (bv (r1.2.Code == 12)) ?_
  exact zr ((bv (r1.2.Code == 12)), [(ZA r1.1 .sh .sh), (ZG r1.2)]) ⟨_, rfl⟩
 ·exact zk (Z8B (x4) (r1.1) .sh .sh)
noncomputable def Z33 (x3 : ByteArray) (x4 : Int) (x17 : List Int) (x18 : Int) (x19 : Int) : Option (Bool) :=
 if ((decide (x19 < x18))) = true then
 (Z44 x3 x4 x17 x18 x19)
 else
 (Z2X x3 x4)
theorem Z8X (x3 : ByteArray) (x4 : Int) (x17 : List Int) (x18 : Int) (x19 : Int) (ox17 : Own) : Sim (Z18) (Z33 x3 x4 x17 x18 x19) (ZbQ 0 (.p (.v (.string x3))) (iv x4) (.p (.lst ox17 (x17.map (eI .i64)))) (iv x18) (iv x19) []) := by
 unfold Z33
 refine zf (Zjk ..) ?_
 refine ze ?_
 refine zo (bv (decide (x19 < x18))) ?_
 refine za ((decide (x19 < x18))) ?_ ?_
 ·exact zk (Z8L (x3) (x4) (x17) (x18) (x19) ox17)
 ·exact zk (Z8z (x3) (x4))
theorem Z6c (x3 : ByteArray) (x4 : Int) (x17 : List Int) (x18 : Int) (x19 : Int) {r} (h : Z33 x3 x4 x17 x18 x19 = some r) : Z38 x3 x4 x17 x18 x19 = some r :=
 pick_of (fun _ _ ha hb => RRun.uniq (Z6W) (ha .ex) (hb .ex)) (fun ox17 => Z8X x3 x4 x17 x18 x19 ox17 r h)
noncomputable def Z5k  : Option (Bool) :=
 (Z6g ((ByteArray.mk #[97, 123, 50, 44, 51, 125, 124, 98, 42]))).bind fun r1 =>
 (Z1r r1.1.Root).bind fun r2 =>
 (Z6g ((ByteArray.mk #[97, 42]))).bind fun r3 =>
 if ((r1.2.Code == 0)) = true then
 (if ((r3.2.Code == 0)) = true then
 (if ((r2.1 == 0)) = true then
 (if ((r2.2 == (-1))) = true then
 ((Z2e r1.1.Root).bind fun r4 =>
 if ((r4 == 11)) = true then
 ((Z75 r1.1).bind fun r5 =>
 some ((r5 == 0)))
 else
 (some (false)))
 else
 (some (false)))
 else
 (some (false)))
 else
 (some (false)))
 else
 (some (false))
theorem Zai  : Sim (Z4i) (Z5k) (EE 23 [] []) := by
 unfold Z5k
 refine zf (ZjV ..) ?_
 refine ze ?_
 refine ze ?_
 refine zi fun r1 hr1 => ?_
 obtain ⟨qr1, er1, exr1, rfl⟩ := Z8Z ((ByteArray.mk #[97, 123, 50, 44, 51, 125, 124, 98, 42])) r1 hr1
 refine zc [] (.p (.tup [(.agg (Z1w r1.1 .sh .sh)), (.agg (Z2f r1.2))])) [] er1 ?_
 refine zo (.p (.agg (Z1w r1.1 .sh .sh))) ?_
 refine zo (.p (.agg (Z2f r1.2))) ?_
 refine zz (.ptr 0 0) [(ZA (ZC.mk (Z3.mk 0 0 0 0 0 ([] : List Z8) ([] : List Z3)) 0 false) .nl .nl)] ?_
 refine zz (.ptr 1 0) [(ZA (ZC.mk (Z3.mk 0 0 0 0 0 ([] : List Z8) ([] : List Z3)) 0 false) .nl .nl), (ZG (Zj.mk 0 0))] ?_
 refine zt [(ZA r1.1 .sh .sh), (ZG (Zj.mk 0 0))] ?_
 refine zt [(ZA r1.1 .sh .sh), (ZG r1.2)] ?_
 refine ze ?_
 refine zo (.ptr 0 0) ?_
 refine zo (.p (.agg (Zz r1.1.Root .sh .sh))) ?_
 refine zi fun r2 hr2 => ?_
 obtain ⟨qr2, er2, exr2, rfl⟩ := Z3N (r1.1.Root) .sh .sh r2 hr2
 refine zc [] (.p (.tup [(.v (.int .i64 r2.1)), (.v (.int .i64 r2.2))])) [(ZA r1.1 .sh .sh), (ZG r1.2)] er2 ?_
 refine zo (iv r2.1) ?_
 refine zo (iv r2.2) ?_
 refine ze ?_
 refine zi fun r3 hr3 => ?_
 obtain ⟨qr3, er3, exr3, rfl⟩ := Z8Z ((ByteArray.mk #[97, 42])) r3 hr3
 refine zc [] (.p (.tup [(.agg (Z1w r3.1 .sh .sh)), (.agg (Z2f r3.2))])) [(ZA r1.1 .sh .sh), (ZG r1.2)] er3 ?_
 refine zo (.p (.agg (Z1w r3.1 .sh .sh))) ?_
 refine zo (.p (.agg (Z2f r3.2))) ?_
 refine zz (.ptr 2 0) [(ZA r1.1 .sh .sh), (ZG r1.2), (ZA (ZC.mk (Z3.mk 0 0 0 0 0 ([] : List Z8) ([] : List Z3)) 0 false) .nl .nl)] ?_
 refine zz (.ptr 3 0) [(ZA r1.1 .sh .sh), (ZG r1.2), (ZA (ZC.mk (Z3.mk 0 0 0 0 0 ([] : List Z8) ([] : List Z3)) 0 false) .nl .nl), (ZG (Zj.mk 0 0))] ?_
 refine zt [(ZA r1.1 .sh .sh), (ZG r1.2), (ZA r3.1 .sh .sh), (ZG (Zj.mk 0 0))] ?_
 refine zt [(ZA r1.1 .sh .sh), (ZG r1.2), (ZA r3.1 .sh .sh), (ZG r3.2)] ?_
 refine ze ?_
 refine zo (.ptr 1 0) ?_
 refine zo (iv r1.2.Code) ?_
 refine zo (bv (r1.2.Code == 0)) ?_
 refine za ((r1.2.Code == 0)) ?_ ?_
 ·refine zo (.ptr 3 0) ?_
  refine zo (iv r3.2.Code) ?_
  refine zo (bv (r3.2.Code == 0)) ?_
  refine za ((r3.2.Code == 0)) ?_ ?_
  ·refine zo (bv (r2.1 == 0)) ?_
   refine za ((r2.1 == 0)) ?_ ?_
   ·refine zo (bv (r2.2 == (-1))) ?_
    refine za ((r2.2 == (-1))) ?_ ?_
    ·refine zo (.ptr 0 0) ?_
     refine zo (.p (.agg (Zz r1.1.Root .sh .sh))) ?_
     refine zi fun r4 hr4 => ?_
     obtain ⟨qr4, er4, exr4, rfl⟩ := Z7i (r1.1.Root) .sh .sh r4 hr4
     refine zc [] (iv r4) [(ZA r1.1 .sh .sh), (ZG r1.2), (ZA r3.1 .sh .sh), (ZG r3.2)] er4 ?_
     refine zo (bv (r4 == 11)) ?_
     refine za ((r4 == 11)) ?_ ?_
     ·refine zo (.p (.agg (Z1w r1.1 .sh .sh))) ?_
      refine zi fun r5 hr5 => ?_
      obtain ⟨qr5, er5, exr5, rfl⟩ := Zb8 (r1.1) .sh .sh r5 hr5
      refine zc [] (iv r5) [(ZA r1.1 .sh .sh), (ZG r1.2), (ZA r3.1 .sh .sh), (ZG r3.2)] er5 ?_
      refine zo (bv (r5 == 0)) ?_
      exact zr ((bv (r5 == 0)), [(ZA r1.1 .sh .sh), (ZG r1.2), (ZA r3.1 .sh .sh), (ZG r3.2)]) ⟨_, rfl⟩
     ·exact zr ((bv false), [(ZA r1.1 .sh .sh), (ZG r1.2), (ZA r3.1 .sh .sh), (ZG r3.2)]) ⟨_, rfl⟩
    ·exact zr ((bv false), [(ZA r1.1 .sh .sh), (ZG r1.2), (ZA r3.1 .sh .sh), (ZG r3.2)]) ⟨_, rfl⟩
   ·exact zr ((bv false), [(ZA r1.1 .sh .sh), (ZG r1.2), (ZA r3.1 .sh .sh), (ZG r3.2)]) ⟨_, rfl⟩
  ·exact zr ((bv false), [(ZA r1.1 .sh .sh), (ZG r1.2), (ZA r3.1 .sh .sh), (ZG r3.2)]) ⟨_, rfl⟩
 ·exact zr ((bv false), [(ZA r1.1 .sh .sh), (ZG r1.2), (ZA r3.1 .sh .sh), (ZG r3.2)]) ⟨_, rfl⟩
theorem Zay  {r} (h : Z5k = some r) : Z5j = some r :=
 pick_of (fun _ _ ha hb => RRun.uniq (Zb1) (ha ) (hb )) (Zai  r h)
noncomputable def Z3e (z1S : List Int) (zQ : Int) (z1i : List Zq) (zH : Int) (zR : Int) (zK : Int) (zU : Int) (zT : Int) (zM : Int) (zN : Int) (zO : List Z8) (zL : List Z3) (z13 : Bool) : Option (ZC × Zj) :=
 Z5e z1i ((z1i.length : Int)) 0 z1S zQ zH zR zK zU zT zM zN zO zL z13
theorem Z6Y (b0 : ZC) (b1 : Zj) (z1S : List Int) (z1L : Int) (zQ : Int) (z1C : Int) (z1i : List Zq) (zH : Int) (zR : Int) (zK : Int) (zU : Int) (zT : Int) (zM : Int) (zN : Int) (zO : List Z8) (zL : List Z3) (z1t : Int) (z13 : Bool) (zJ : Own) (zF : Own) (z2i : Own) (z19 : Own) (z10 : Own) (zX : Own) (z1y : okApp zJ = true) (z1p : okApp zF = true) (z2r : okApp z19 = true) : Sim (Z2l) (Z3e z1S zQ z1i zH zR zK zU zT zM zN zO zL z13) (Zdh 0 (.ptr 0 0) (.ptr 1 0) (.ptr 2 0) (.ptr 3 0) [(ZA b0 zJ zF), (ZG b1), (Zi (Zk.mk z1S z1L zQ z1C z1i (Zj.mk zH zR)) z2i z19), (ZA (ZC.mk (Z3.mk zK zU zT zM zN zO zL) z1t z13) z10 zX)]) := by
 unfold Z3e
 refine zf (Zi1 ..) ?_
 refine ze ?_
 refine zo (.ptr 2 0) ?_
 refine zo (.ptr 2 4) ?_
 refine zo (.p (.lst (shrO z19) (z1i.map Z1D))) ?_
 refine zo (iv (z1i.length : Int)) ?_ (Eq.trans (by kernel_rfl) (xlen_of (P := PP) (t := 56) (d := 62) (by kernel_rfl) Z1D (shrO z19) z1i))
 exact zk (Z9z (z1i) ((z1i.length : Int)) (0) (b0) (b1) (z1S) (z1L) (zQ) (z1C) (z1i) (zH) (zR) (zK) (zU) (zT) (zM) (zN) (zO) (zL) (z1t) (z13) (shrO z19) zJ zF z2i z19 z10 zX z1y z1p z2r)
noncomputable def Z60 (z1S : List Int) (z1L : Int) (zQ : Int) (z1i : List Zq) (zH : Int) (zR : Int) (zK : Int) (zU : Int) (zT : Int) (zM : Int) (zN : Int) (zO : List Z8) (zL : List Z3) (z13 : Bool) : Option (ZC × Zj) :=
 (ZS 20 z1L z1S zH zR).bind fun r1 =>
 Z3e z1S zQ z1i r1.2.1 r1.2.2 zK zU zT zM zN zO zL z13
theorem ZcM (b0 : ZC) (b1 : Zj) (z1S : List Int) (z1L : Int) (zQ : Int) (z1C : Int) (z1i : List Zq) (zH : Int) (zR : Int) (zK : Int) (zU : Int) (zT : Int) (zM : Int) (zN : Int) (zO : List Z8) (zL : List Z3) (z1t : Int) (z13 : Bool) (zJ : Own) (zF : Own) (z2i : Own) (z19 : Own) (z10 : Own) (zX : Own) (z1y : okApp zJ = true) (z1p : okApp zF = true) (z2r : okApp z19 = true) : Sim (Z2l) (Z60 z1S z1L zQ z1i zH zR zK zU zT zM zN zO zL z13) (Zgs 0 (.ptr 0 0) (.ptr 1 0) (.ptr 2 0) (.ptr 3 0) [(ZA b0 zJ zF), (ZG b1), (Zi (Zk.mk z1S z1L zQ z1C z1i (Zj.mk zH zR)) z2i z19), (ZA (ZC.mk (Z3.mk zK zU zT zM zN zO zL) z1t z13) z10 zX)]) := by
 unfold Z60
 refine zf (Zjr ..) ?_
 refine ze ?_
 refine zo (.ptr 2 0) ?_
 refine zo (.ptr 2 1) ?_
 refine zo (iv z1L) ?_
 refine zi fun r1 hr1 => ?_
 obtain ⟨qr1, er1, exr1, rfl⟩ := ZV (20) (z1L) (z1S) (z1L) (zQ) (z1C) (z1i) (zH) (zR) z2i z19 z2r r1 hr1
 refine zc [2] (.p (.tup [])) [(ZA b0 zJ zF), (ZG b1), (Zi (Zk.mk z1S r1.1 zQ z1C z1i (Zj.mk r1.2.1 r1.2.2)) z2i z19), (ZA (ZC.mk (Z3.mk zK zU zT zM zN zO zL) z1t z13) z10 zX)] er1 ?_
 exact zk (Z6Y (b0) (b1) (z1S) (r1.1) (zQ) (z1C) (z1i) (r1.2.1) (r1.2.2) (zK) (zU) (zT) (zM) (zN) (zO) (zL) (z1t) (z13) zJ zF z2i z19 z10 zX z1y z1p z2r)
noncomputable def Z6X (x0 : ByteArray) : Option (ZC × Zj) :=
 (Z16 ((ByteArray.mk #[40, 63, 105, 41])) ((bytesI x0)) 0).bind fun r1 =>
 (Z2U ((bytesI x0)) r1.2 0 0 (([] : List Zq)) 0 0).bind fun r2 =>
 if ((r2.2.2.2.2.2.1 == 0)) = true then
 (if ((decide (r2.2.1 < ((bytesI x0).length : Int)))) = true then
 (Z60 ((bytesI x0)) r2.2.1 r2.2.2.1 r2.2.2.2.2.1 r2.2.2.2.2.2.1 r2.2.2.2.2.2.2 r2.1.Kind r2.1.Lo r2.1.Hi r2.1.Mode r2.1.Ref r2.1.Set r2.1.Kids r1.1)
 else
 (Z3e ((bytesI x0)) r2.2.2.1 r2.2.2.2.2.1 r2.2.2.2.2.2.1 r2.2.2.2.2.2.2 r2.1.Kind r2.1.Lo r2.1.Hi r2.1.Mode r2.1.Ref r2.1.Set r2.1.Kids r1.1))
 else
 (Z3e ((bytesI x0)) r2.2.2.1 r2.2.2.2.2.1 r2.2.2.2.2.2.1 r2.2.2.2.2.2.2 r2.1.Kind r2.1.Lo r2.1.Hi r2.1.Mode r2.1.Ref r2.1.Set r2.1.Kids r1.1)
theorem Zcy (x0 : ByteArray) (b0 : ZC) (b1 : Zj) (zJ : Own) (zF : Own) (z1y : okApp zJ = true) (z1p : okApp zF = true) : Sim (Z2l) (Z6X x0) (ZfX 0 (.p (.v (.string x0))) (.ptr 0 0) (.ptr 1 0) [(ZA b0 zJ zF), (ZG b1)]) := by
 unfold Z6X
 refine zf (Zir ..) ?_
 refine ze ?_
 refine zo (.p (.lst .sh ((bytesI x0).map (eI .u8)))) ?_ (Eq.trans (by kernel_rfl) (xcnv_byt (P := PP) (s := 9) (d := 40) (by kernel_rfl) (by kernel_rfl) x0))
 refine zo (.p (.agg (Zex (Zk.mk (bytesI x0) 0 0 0 ([] : List Zq) (Zj.mk 0 0)) .sh .nl))) ?_
 refine zx (.ptr 2 0) [(ZA b0 zJ zF), (ZG b1), (Zi (Zk.mk (bytesI x0) 0 0 0 ([] : List Zq) (Zj.mk 0 0)) .sh .nl)] ?_
 refine ze ?_
 refine zi fun r1 hr1 => ?_
 obtain ⟨qr1, er1, exr1, rfl⟩ := Z1c ((ByteArray.mk #[40, 63, 105, 41])) ((bytesI x0)) (0) (0) (0) (([] : List Zq)) (0) (0) .sh .nl rfl r1 hr1
 refine zc [2] (bv r1.1) [(ZA b0 zJ zF), (ZG b1), (Zi (Zk.mk (bytesI x0) r1.2 0 0 ([] : List Zq) (Zj.mk 0 0)) .sh .nl)] er1 ?_
 refine zo (.p (.agg (Z1w (ZC.mk (Z3.mk 0 0 0 0 0 ([] : List Z8) ([] : List Z3)) 0 r1.1) .nl .nl))) ?_
 refine zz (.ptr 3 0) [(ZA b0 zJ zF), (ZG b1), (Zi (Zk.mk (bytesI x0) r1.2 0 0 ([] : List Zq) (Zj.mk 0 0)) .sh .nl), (ZA (ZC.mk (Z3.mk 0 0 0 0 0 ([] : List Z8) ([] : List Z3)) 0 false) .nl .nl)] ?_
 refine zt [(ZA b0 zJ zF), (ZG b1), (Zi (Zk.mk (bytesI x0) r1.2 0 0 ([] : List Zq) (Zj.mk 0 0)) .sh .nl), (ZA (ZC.mk (Z3.mk 0 0 0 0 0 ([] : List Z8) ([] : List Z3)) 0 r1.1) .nl .nl)] ?_
 refine ze ?_
 refine zi fun r2 hr2 => ?_
 obtain ⟨qr2, er2, or2_0_4, exr2, hor2_0_4, rfl⟩ := Z92 ((bytesI x0)) (r1.2) (0) (0) (([] : List Zq)) (0) (0) .sh .nl rfl r2 hr2
 refine zc [2] (.p (.agg (Zz r2.1 .sh .sh))) [(ZA b0 zJ zF), (ZG b1), (Zi (Zk.mk (bytesI x0) r2.2.1 r2.2.2.1 r2.2.2.2.1 r2.2.2.2.2.1 (Zj.mk r2.2.2.2.2.2.1 r2.2.2.2.2.2.2)) .sh or2_0_4), (ZA (ZC.mk (Z3.mk 0 0 0 0 0 ([] : List Z8) ([] : List Z3)) 0 r1.1) .nl .nl)] er2 ?_
 refine zo (.ptr 3 0) ?_
 refine zt [(ZA b0 zJ zF), (ZG b1), (Zi (Zk.mk (bytesI x0) r2.2.1 r2.2.2.1 r2.2.2.2.1 r2.2.2.2.2.1 (Zj.mk r2.2.2.2.2.2.1 r2.2.2.2.2.2.2)) .sh or2_0_4), (ZA (ZC.mk (Z3.mk r2.1.Kind r2.1.Lo r2.1.Hi r2.1.Mode r2.1.Ref r2.1.Set r2.1.Kids) 0 r1.1) .sh .sh)] ?_
 refine ze ?_
 refine zo (.ptr 2 0) ?_
 refine zo (.ptr 2 5) ?_
 refine zo (.ptr 2 5) ?_
 refine zo (iv r2.2.2.2.2.2.1) ?_
 refine zo (bv (r2.2.2.2.2.2.1 == 0)) ?_
 refine za ((r2.2.2.2.2.2.1 == 0)) ?_ ?_
 ·refine zo (.ptr 2 0) ?_
  refine zo (.ptr 2 1) ?_
  refine zo (iv r2.2.1) ?_
  refine zo (.ptr 2 0) ?_
  refine zo (.ptr 2 0) ?_
  refine zo (.p (.lst .sh ((bytesI x0).map (eI .u8)))) ?_
  refine zo (iv ((bytesI x0).length : Int)) ?_ (Eq.trans (by kernel_rfl) (xlen_of (P := PP) (t := 40) (d := 5) (by kernel_rfl) (eI .u8) .sh (bytesI x0)))
  refine zo (bv (decide (r2.2.1 < ((bytesI x0).length : Int)))) ?_
  refine za ((decide (r2.2.1 < ((bytesI x0).length : Int)))) ?_ ?_
  ·exact zk (ZcM (b0) (b1) ((bytesI x0)) (r2.2.1) (r2.2.2.1) (r2.2.2.2.1) (r2.2.2.2.2.1) (r2.2.2.2.2.2.1) (r2.2.2.2.2.2.2) (r2.1.Kind) (r2.1.Lo) (r2.1.Hi) (r2.1.Mode) (r2.1.Ref) (r2.1.Set) (r2.1.Kids) (0) (r1.1) zJ zF .sh or2_0_4 .sh .sh z1y z1p hor2_0_4)
  ·exact zk (Z6Y (b0) (b1) ((bytesI x0)) (r2.2.1) (r2.2.2.1) (r2.2.2.2.1) (r2.2.2.2.2.1) (r2.2.2.2.2.2.1) (r2.2.2.2.2.2.2) (r2.1.Kind) (r2.1.Lo) (r2.1.Hi) (r2.1.Mode) (r2.1.Ref) (r2.1.Set) (r2.1.Kids) (0) (r1.1) zJ zF .sh or2_0_4 .sh .sh z1y z1p hor2_0_4)
 ·exact zk (Z6Y (b0) (b1) ((bytesI x0)) (r2.2.1) (r2.2.2.1) (r2.2.2.2.1) (r2.2.2.2.2.1) (r2.2.2.2.2.2.1) (r2.2.2.2.2.2.2) (r2.1.Kind) (r2.1.Lo) (r2.1.Hi) (r2.1.Mode) (r2.1.Ref) (r2.1.Set) (r2.1.Kids) (0) (r1.1) zJ zF .sh or2_0_4 .sh .sh z1y z1p hor2_0_4)
noncomputable def Z8I (x0 : ByteArray) : Option (ZC × Zj) :=
 if ((decide (256 < (x0.size : Int)))) = true then
 (some ((ZC.mk (Z3.mk 0 0 0 0 0 ([] : List Z8) ([] : List Z3)) 0 false), (Zj.mk 12 0)))
 else
 (Z6X x0)
theorem ZdG (x0 : ByteArray) : Sim (Z2l) (Z8I x0) (EE 16 [(.p (.v (.string x0)))] []) := by
 unfold Z8I
 refine zf (Zkz ..) ?_
 refine ze ?_
 refine zz (.ptr 0 0) [(ZA (ZC.mk (Z3.mk 0 0 0 0 0 ([] : List Z8) ([] : List Z3)) 0 false) .nl .nl)] ?_
 refine zz (.ptr 1 0) [(ZA (ZC.mk (Z3.mk 0 0 0 0 0 ([] : List Z8) ([] : List Z3)) 0 false) .nl .nl), (ZG (Zj.mk 0 0))] ?_
 refine ze ?_
 refine zo (iv (x0.size : Int)) ?_
 refine zo (bv (decide (256 < (x0.size : Int)))) ?_
 refine za ((decide (256 < (x0.size : Int)))) ?_ ?_
 ·refine ze ?_
  refine zo (.p (.agg (Z1w (ZC.mk (Z3.mk 0 0 0 0 0 ([] : List Z8) ([] : List Z3)) 0 false) .nl .nl))) ?_
  refine zo (.p (.agg (Z2f (Zj.mk 12 0)))) ?_
  refine zt [(ZA (ZC.mk (Z3.mk 0 0 0 0 0 ([] : List Z8) ([] : List Z3)) 0 false) .nl .nl), (ZG (Zj.mk 0 0))] ?_
  refine zt [(ZA (ZC.mk (Z3.mk 0 0 0 0 0 ([] : List Z8) ([] : List Z3)) 0 false) .nl .nl), (ZG (Zj.mk 12 0))] ?_
  exact zr ((.p (.tup [(.agg (Z1w (ZC.mk (Z3.mk 0 0 0 0 0 ([] : List Z8) ([] : List Z3)) 0 false) .sh .sh)), (.agg (Z2f (Zj.mk 12 0)))])), [(ZA (ZC.mk (Z3.mk 0 0 0 0 0 ([] : List Z8) ([] : List Z3)) 0 false) .nl .nl), (ZG (Zj.mk 12 0))]) ⟨_, rfl⟩
 ·exact zk (Zcy (x0) ((ZC.mk (Z3.mk 0 0 0 0 0 ([] : List Z8) ([] : List Z3)) 0 false)) ((Zj.mk 0 0)) .nl .nl rfl rfl)
theorem ZdP (x0 : ByteArray) {r} (h : Z8I x0 = some r) : Z6g x0 = some r :=
 pick_of (fun _ _ ha hb => RRun.uniq (Zbr) (ha ) (hb )) (ZdG x0 r h)
noncomputable def Z3o (x50 : List Zq) (x51 : Int) (x52 : Int) (z1S : List Int) (zQ : Int) (zH : Int) (zR : Int) (zK : Int) (zU : Int) (zT : Int) (zM : Int) (zN : Int) (zO : List Z8) (zL : List Z3) (z13 : Bool) : Option (ZC × Zj) :=
 Z5e x50 x51 ((IntKind.i64.wrap (x52 + 1))) z1S zQ zH zR zK zU zT zM zN zO zL z13
theorem Z94 (x50 : List Zq) (x51 : Int) (x52 : Int) (b0 : ZC) (b1 : Zj) (z1S : List Int) (z1L : Int) (zQ : Int) (z1C : Int) (z1i : List Zq) (zH : Int) (zR : Int) (zK : Int) (zU : Int) (zT : Int) (zM : Int) (zN : Int) (zO : List Z8) (zL : List Z3) (z1t : Int) (z13 : Bool) (ox50 : Own) (zJ : Own) (zF : Own) (z2i : Own) (z19 : Own) (z10 : Own) (zX : Own) (z1y : okApp zJ = true) (z1p : okApp zF = true) (z2r : okApp z19 = true) : Sim (Z2l) (Z3o x50 x51 x52 z1S zQ zH zR zK zU zT zM zN zO zL z13) (Zdo 0 (.ptr 0 0) (.ptr 1 0) (.ptr 2 0) (.ptr 3 0) (.p (.lst ox50 (x50.map Z1D))) (iv x51) (iv x52) [(ZA b0 zJ zF), (ZG b1), (Zi (Zk.mk z1S z1L zQ z1C z1i (Zj.mk zH zR)) z2i z19), (ZA (ZC.mk (Z3.mk zK zU zT zM zN zO zL) z1t z13) z10 zX)]) := by
 unfold Z3o
 refine zf (ZhK ..) ?_
 refine ze ?_
 refine zo (iv (IntKind.i64.wrap (x52 + 1))) ?_
 exact zk (Z9z (x50) (x51) ((IntKind.i64.wrap (x52 + 1))) (b0) (b1) (z1S) (z1L) (zQ) (z1C) (z1i) (zH) (zR) (zK) (zU) (zT) (zM) (zN) (zO) (zL) (z1t) (z13) ox50 zJ zF z2i z19 z10 zX z1y z1p z2r)
noncomputable def Z5I (x50 : List Zq) (x51 : Int) (x52 : Int) (z1S : List Int) (zQ : Int) (zH : Int) (zR : Int) (zK : Int) (zU : Int) (zT : Int) (zM : Int) (zN : Int) (zO : List Z8) (zL : List Z3) (z13 : Bool) : Option (ZC × Zj) :=
 (lget x50 x52).bind fun a1 =>
 if ((decide (zQ < a1.group))) = true then
 ((ZS 26 a1.at_ z1S zH zR).bind fun r2 =>
 Z3o x50 x51 x52 z1S zQ r2.2.1 r2.2.2 zK zU zT zM zN zO zL z13)
 else
 (Z3o x50 x51 x52 z1S zQ zH zR zK zU zT zM zN zO zL z13)
theorem Zc1 (x50 : List Zq) (x51 : Int) (x52 : Int) (b0 : ZC) (b1 : Zj) (z1S : List Int) (z1L : Int) (zQ : Int) (z1C : Int) (z1i : List Zq) (zH : Int) (zR : Int) (zK : Int) (zU : Int) (zT : Int) (zM : Int) (zN : Int) (zO : List Z8) (zL : List Z3) (z1t : Int) (z13 : Bool) (ox50 : Own) (zJ : Own) (zF : Own) (z2i : Own) (z19 : Own) (z10 : Own) (zX : Own) (z1y : okApp zJ = true) (z1p : okApp zF = true) (z2r : okApp z19 = true) : Sim (Z2l) (Z5I x50 x51 x52 z1S zQ zH zR zK zU zT zM zN zO zL z13) (Zf8 0 (.ptr 0 0) (.ptr 1 0) (.ptr 2 0) (.ptr 3 0) (.p (.lst ox50 (x50.map Z1D))) (iv x51) (iv x52) [(ZA b0 zJ zF), (ZG b1), (Zi (Zk.mk z1S z1L zQ z1C z1i (Zj.mk zH zR)) z2i z19), (ZA (ZC.mk (Z3.mk zK zU zT zM zN zO zL) z1t z13) z10 zX)]) := by
 unfold Z5I
 refine zf (ZhA ..) ?_
 refine ze ?_
 refine zi fun a1 ha1 => ?_
 refine zo (.cptr (Z8P a1)) ?_ (Eq.trans (by kernel_rfl) (xidx_of (o := ox50) (k := .i64) (n := 2) (e := Z1D) (cs := Z71) (fun _ => rfl) (fun _ => rfl) (by decide) ha1))
 refine zo (.p (.agg (Z8P a1))) ?_
 refine zz (.ptr 4 0) [(ZA b0 zJ zF), (ZG b1), (Zi (Zk.mk z1S z1L zQ z1C z1i (Zj.mk zH zR)) z2i z19), (ZA (ZC.mk (Z3.mk zK zU zT zM zN zO zL) z1t z13) z10 zX), (Z8M (Zq.mk 0 0))] ?_
 refine zt [(ZA b0 zJ zF), (ZG b1), (Zi (Zk.mk z1S z1L zQ z1C z1i (Zj.mk zH zR)) z2i z19), (ZA (ZC.mk (Z3.mk zK zU zT zM zN zO zL) z1t z13) z10 zX), (Z8M a1)] ?_
 refine ze ?_
 refine zo (.ptr 4 0) ?_
 refine zo (iv a1.group) ?_
 refine zo (.ptr 2 0) ?_
 refine zo (.ptr 2 2) ?_
 refine zo (iv zQ) ?_
 refine zo (bv (decide (zQ < a1.group))) ?_
 refine za ((decide (zQ < a1.group))) ?_ ?_
 ·refine ze ?_
  refine zo (.ptr 4 1) ?_
  refine zo (iv a1.at_) ?_
  refine zi fun r2 hr2 => ?_
  obtain ⟨qr2, er2, exr2, rfl⟩ := ZV (26) (a1.at_) (z1S) (z1L) (zQ) (z1C) (z1i) (zH) (zR) z2i z19 z2r r2 hr2
  refine zc [2] (.p (.tup [])) [(ZA b0 zJ zF), (ZG b1), (Zi (Zk.mk z1S r2.1 zQ z1C z1i (Zj.mk r2.2.1 r2.2.2)) z2i z19), (ZA (ZC.mk (Z3.mk zK zU zT zM zN zO zL) z1t z13) z10 zX), (Z8M a1)] er2 ?_
  exact zk (Z94 (x50) (x51) (x52) (b0) (b1) (z1S) (r2.1) (zQ) (z1C) (z1i) (r2.2.1) (r2.2.2) (zK) (zU) (zT) (zM) (zN) (zO) (zL) (z1t) (z13) ox50 zJ zF z2i z19 z10 zX z1y z1p z2r)
 ·exact zk (Z94 (x50) (x51) (x52) (b0) (b1) (z1S) (z1L) (zQ) (z1C) (z1i) (zH) (zR) (zK) (zU) (zT) (zM) (zN) (zO) (zL) (z1t) (z13) ox50 zJ zF z2i z19 z10 zX z1y z1p z2r)
noncomputable def Z8k (zQ : Int) (zK : Int) (zU : Int) (zT : Int) (zM : Int) (zN : Int) (zO : List Z8) (zL : List Z3) (z13 : Bool) : Option (ZC × Zj) :=
 some ((ZC.mk (Z3.mk zK zU zT zM zN zO zL) zQ z13), (Zj.mk 0 0))
theorem Zc7 (b0 : ZC) (b1 : Zj) (z1S : List Int) (z1L : Int) (zQ : Int) (z1C : Int) (z1i : List Zq) (zH : Int) (zR : Int) (zK : Int) (zU : Int) (zT : Int) (zM : Int) (zN : Int) (zO : List Z8) (zL : List Z3) (z1t : Int) (z13 : Bool) (zJ : Own) (zF : Own) (z2i : Own) (z19 : Own) (z10 : Own) (zX : Own) (z1y : okApp zJ = true) (z1p : okApp zF = true) (z2r : okApp z19 = true) : Sim (Z2l) (Z8k zQ zK zU zT zM zN zO zL z13) (ZeR 0 (.ptr 0 0) (.ptr 1 0) (.ptr 2 0) (.ptr 3 0) [(ZA b0 zJ zF), (ZG b1), (Zi (Zk.mk z1S z1L zQ z1C z1i (Zj.mk zH zR)) z2i z19), (ZA (ZC.mk (Z3.mk zK zU zT zM zN zO zL) z1t z13) z10 zX)]) := by
 unfold Z8k
 refine zf (ZhI ..) ?_
 refine ze ?_
 refine zo (.ptr 2 0) ?_
 refine zo (.ptr 2 2) ?_
 refine zo (iv zQ) ?_
 refine zo (.ptr 3 7) ?_
 refine zt [(ZA b0 zJ zF), (ZG b1), (Zi (Zk.mk z1S z1L zQ z1C z1i (Zj.mk zH zR)) z2i z19), (ZA (ZC.mk (Z3.mk zK zU zT zM zN zO zL) zQ z13) z10 zX)] ?_
 refine ze ?_
 refine zo (.p (.agg (Z1w (ZC.mk (Z3.mk zK zU zT zM zN zO zL) zQ z13) (shrO z10) (shrO zX)))) ?_
 refine zo (.p (.agg (Z2f (Zj.mk 0 0)))) ?_
 refine zt [(ZA (ZC.mk (Z3.mk zK zU zT zM zN zO zL) zQ z13) (shrO z10) (shrO zX)), (ZG b1), (Zi (Zk.mk z1S z1L zQ z1C z1i (Zj.mk zH zR)) z2i z19), (ZA (ZC.mk (Z3.mk zK zU zT zM zN zO zL) zQ z13) z10 zX)] ?_
 refine zt [(ZA (ZC.mk (Z3.mk zK zU zT zM zN zO zL) zQ z13) (shrO z10) (shrO zX)), (ZG (Zj.mk 0 0)), (Zi (Zk.mk z1S z1L zQ z1C z1i (Zj.mk zH zR)) z2i z19), (ZA (ZC.mk (Z3.mk zK zU zT zM zN zO zL) zQ z13) z10 zX)] ?_
 exact zr ((.p (.tup [(.agg (Z1w (ZC.mk (Z3.mk zK zU zT zM zN zO zL) zQ z13) .sh .sh)), (.agg (Z2f (Zj.mk 0 0)))])), [(ZA (ZC.mk (Z3.mk zK zU zT zM zN zO zL) zQ z13) (shrO z10) (shrO zX)), (ZG (Zj.mk 0 0)), (Zi (Zk.mk z1S z1L zQ z1C z1i (Zj.mk zH zR)) z2i z19), (ZA (ZC.mk (Z3.mk zK zU zT zM zN zO zL) zQ z13) z10 zX)]) ⟨_, rfl⟩
noncomputable def Z5E (zQ : Int) (zH : Int) (zR : Int) (zK : Int) (zU : Int) (zT : Int) (zM : Int) (zN : Int) (zO : List Z8) (zL : List Z3) (z13 : Bool) : Option (ZC × Zj) :=
 if ((zH != 0)) = true then
 (some ((ZC.mk (Z3.mk 0 0 0 0 0 ([] : List Z8) ([] : List Z3)) 0 false), (Zj.mk zH zR)))
 else
 (Z8k zQ zK zU zT zM zN zO zL z13)
theorem ZbP (b0 : ZC) (b1 : Zj) (z1S : List Int) (z1L : Int) (zQ : Int) (z1C : Int) (z1i : List Zq) (zH : Int) (zR : Int) (zK : Int) (zU : Int) (zT : Int) (zM : Int) (zN : Int) (zO : List Z8) (zL : List Z3) (z1t : Int) (z13 : Bool) (zJ : Own) (zF : Own) (z2i : Own) (z19 : Own) (z10 : Own) (zX : Own) (z1y : okApp zJ = true) (z1p : okApp zF = true) (z2r : okApp z19 = true) : Sim (Z2l) (Z5E zQ zH zR zK zU zT zM zN zO zL z13) (ZeT 0 (.ptr 0 0) (.ptr 1 0) (.ptr 2 0) (.ptr 3 0) [(ZA b0 zJ zF), (ZG b1), (Zi (Zk.mk z1S z1L zQ z1C z1i (Zj.mk zH zR)) z2i z19), (ZA (ZC.mk (Z3.mk zK zU zT zM zN zO zL) z1t z13) z10 zX)]) := by
 unfold Z5E
 refine zf (Zhd ..) ?_
 refine ze ?_
 refine zo (.ptr 2 0) ?_
 refine zo (.ptr 2 5) ?_
 refine zo (.ptr 2 5) ?_
 refine zo (iv zH) ?_
 refine zo (bv (zH != 0)) ?_
 refine za ((zH != 0)) ?_ ?_
 ·refine ze ?_
  refine zo (.p (.agg (Z1w (ZC.mk (Z3.mk 0 0 0 0 0 ([] : List Z8) ([] : List Z3)) 0 false) .nl .nl))) ?_
  refine zo (.ptr 2 0) ?_
  refine zo (.ptr 2 5) ?_
  refine zo (.p (.agg (Z2f (Zj.mk zH zR)))) ?_
  refine zt [(ZA (ZC.mk (Z3.mk 0 0 0 0 0 ([] : List Z8) ([] : List Z3)) 0 false) .nl .nl), (ZG b1), (Zi (Zk.mk z1S z1L zQ z1C z1i (Zj.mk zH zR)) z2i z19), (ZA (ZC.mk (Z3.mk zK zU zT zM zN zO zL) z1t z13) z10 zX)] ?_
  refine zt [(ZA (ZC.mk (Z3.mk 0 0 0 0 0 ([] : List Z8) ([] : List Z3)) 0 false) .nl .nl), (ZG (Zj.mk zH zR)), (Zi (Zk.mk z1S z1L zQ z1C z1i (Zj.mk zH zR)) z2i z19), (ZA (ZC.mk (Z3.mk zK zU zT zM zN zO zL) z1t z13) z10 zX)] ?_
  refine zg ?_
  exact zr ((.p (.tup [(.agg (Z1w (ZC.mk (Z3.mk 0 0 0 0 0 ([] : List Z8) ([] : List Z3)) 0 false) .sh .sh)), (.agg (Z2f (Zj.mk zH zR)))])), [(ZA (ZC.mk (Z3.mk 0 0 0 0 0 ([] : List Z8) ([] : List Z3)) 0 false) .nl .nl), (ZG (Zj.mk zH zR)), (Zi (Zk.mk z1S z1L zQ z1C z1i (Zj.mk zH zR)) z2i z19), (ZA (ZC.mk (Z3.mk zK zU zT zM zN zO zL) z1t z13) z10 zX)]) ⟨_, rfl⟩
 ·exact zk (Zc7 (b0) (b1) (z1S) (z1L) (zQ) (z1C) (z1i) (zH) (zR) (zK) (zU) (zT) (zM) (zN) (zO) (zL) (z1t) (z13) zJ zF z2i z19 z10 zX z1y z1p z2r)
noncomputable def Z4n (x50 : List Zq) (x51 : Int) (x52 : Int) (z1S : List Int) (zQ : Int) (zH : Int) (zR : Int) (zK : Int) (zU : Int) (zT : Int) (zM : Int) (zN : Int) (zO : List Z8) (zL : List Z3) (z13 : Bool) : Option (ZC × Zj) :=
 if ((decide (x52 < x51))) = true then
 (Z5I x50 x51 x52 z1S zQ zH zR zK zU zT zM zN zO zL z13)
 else
 (Z5E zQ zH zR zK zU zT zM zN zO zL z13)
theorem ZcL (x50 : List Zq) (x51 : Int) (x52 : Int) (b0 : ZC) (b1 : Zj) (z1S : List Int) (z1L : Int) (zQ : Int) (z1C : Int) (z1i : List Zq) (zH : Int) (zR : Int) (zK : Int) (zU : Int) (zT : Int) (zM : Int) (zN : Int) (zO : List Z8) (zL : List Z3) (z1t : Int) (z13 : Bool) (ox50 : Own) (zJ : Own) (zF : Own) (z2i : Own) (z19 : Own) (z10 : Own) (zX : Own) (z1y : okApp zJ = true) (z1p : okApp zF = true) (z2r : okApp z19 = true) : Sim (Z2l) (Z4n x50 x51 x52 z1S zQ zH zR zK zU zT zM zN zO zL z13) (ZbR 0 (.ptr 0 0) (.ptr 1 0) (.ptr 2 0) (.ptr 3 0) (.p (.lst ox50 (x50.map Z1D))) (iv x51) (iv x52) [(ZA b0 zJ zF), (ZG b1), (Zi (Zk.mk z1S z1L zQ z1C z1i (Zj.mk zH zR)) z2i z19), (ZA (ZC.mk (Z3.mk zK zU zT zM zN zO zL) z1t z13) z10 zX)]) := by
 unfold Z4n
 refine zf (ZiO ..) ?_
 refine ze ?_
 refine zo (bv (decide (x52 < x51))) ?_
 refine za ((decide (x52 < x51))) ?_ ?_
 ·exact zk (Zc1 (x50) (x51) (x52) (b0) (b1) (z1S) (z1L) (zQ) (z1C) (z1i) (zH) (zR) (zK) (zU) (zT) (zM) (zN) (zO) (zL) (z1t) (z13) ox50 zJ zF z2i z19 z10 zX z1y z1p z2r)
 ·exact zk (ZbP (b0) (b1) (z1S) (z1L) (zQ) (z1C) (z1i) (zH) (zR) (zK) (zU) (zT) (zM) (zN) (zO) (zL) (z1t) (z13) zJ zF z2i z19 z10 zX z1y z1p z2r)
theorem Z65 (x50 : List Zq) (x51 : Int) (x52 : Int) (z1S : List Int) (zQ : Int) (zH : Int) (zR : Int) (zK : Int) (zU : Int) (zT : Int) (zM : Int) (zN : Int) (zO : List Z8) (zL : List Z3) (z13 : Bool) {r} (h : Z4n x50 x51 x52 z1S zQ zH zR zK zU zT zM zN zO zL z13 = some r) : Z5e x50 x51 x52 z1S zQ zH zR zK zU zT zM zN zO zL z13 = some r :=
 pick_of (fun _ _ ha hb => RRun.uniq (Zbr) (ha default default default default default default .ex .ex .ex .ex .ex .ex .ex rfl rfl rfl) (hb default default default default default default .ex .ex .ex .ex .ex .ex .ex rfl rfl rfl)) (fun b0 b1 z1L z1C z1i z1t ox50 zJ zF z2i z19 z10 zX z1y z1p z2r => ZcL x50 x51 x52 b0 b1 z1S z1L zQ z1C z1i zH zR zK zU zT zM zN zO zL z1t z13 ox50 zJ zF z2i z19 z10 zX z1y z1p z2r r h)
noncomputable def Z5l (zp : Int) : Option (Bool × Int) :=
 some (false, zp)
theorem Z79 (zl : List Int) (zp : Int) (z7 : Int) (zd : Int) (zh : List Zq) (z2 : Int) (z6 : Int) (zn : Own) (zb : Own) (zu : okApp zb = true) : Sim (Z3p zl z7 zd zh z2 z6 zn zb) (Z5l zp) (Zef 1  [(Zi (Zk.mk zl zp z7 zd zh (Zj.mk z2 z6)) zn zb)]) := by
 unfold Z5l
 refine zf (ZiC ..) ?_
 refine ze ?_
 exact zr ((bv false), [(Zi (Zk.mk zl zp z7 zd zh (Zj.mk z2 z6)) zn zb)]) ⟨_, rfl⟩
noncomputable def Z5f (x1 : ByteArray) (zp : Int) : Option (Bool × Int) :=
 some (true, (IntKind.i64.wrap (zp + (x1.size : Int))))
theorem Zak (x1 : ByteArray) (zl : List Int) (zp : Int) (z7 : Int) (zd : Int) (zh : List Zq) (z2 : Int) (z6 : Int) (zn : Own) (zb : Own) (zu : okApp zb = true) : Sim (Z3p zl z7 zd zh z2 z6 zn zb) (Z5f x1 zp) (Zg3 1 (.ptr 0 0) (.p (.v (.string x1))) [(Zi (Zk.mk zl zp z7 zd zh (Zj.mk z2 z6)) zn zb)]) := by
 unfold Z5f
 refine zf (Zih ..) ?_
 refine ze ?_
 refine zo (.ptr 0 0) ?_
 refine zo (.ptr 0 1) ?_
 refine zo (iv zp) ?_
 refine zo (iv (x1.size : Int)) ?_
 refine zo (iv (IntKind.i64.wrap (zp + (x1.size : Int)))) ?_
 refine zo (.ptr 0 0) ?_
 refine zo (.ptr 0 1) ?_
 refine zt [(Zi (Zk.mk zl (IntKind.i64.wrap (zp + (x1.size : Int))) z7 zd zh (Zj.mk z2 z6)) zn zb)] ?_
 refine ze ?_
 exact zr ((bv true), [(Zi (Zk.mk zl (IntKind.i64.wrap (zp + (x1.size : Int))) z7 zd zh (Zj.mk z2 z6)) zn zb)]) ⟨_, rfl⟩
noncomputable def Z63 (x1 : ByteArray) (zl : List Int) (zp : Int) : Option (Bool × Int) :=
 if ((decide ((IntKind.i64.wrap ((zl.length : Int) - zp)) < (x1.size : Int)))) = true then
 (Z5l zp)
 else
 ((lsl zl zp (IntKind.i64.wrap (zp + (x1.size : Int)))).bind fun a1 =>
 if ((!(seq (strI a1) x1))) = true then
 (Z5l zp)
 else
 (Z5f x1 zp))
theorem Zbh (x1 : ByteArray) (zl : List Int) (zp : Int) (z7 : Int) (zd : Int) (zh : List Zq) (z2 : Int) (z6 : Int) (zn : Own) (zb : Own) (zu : okApp zb = true) : Sim (Z3p zl z7 zd zh z2 z6 zn zb) (Z63 x1 zl zp) (EE 27 [(.ptr 0 0), (.p (.v (.string x1)))] [(Zi (Zk.mk zl zp z7 zd zh (Zj.mk z2 z6)) zn zb)]) := by
 unfold Z63
 refine zf (ZkM ..) ?_
 refine ze ?_
 refine ze ?_
 refine zo (.ptr 0 0) ?_
 refine zo (.ptr 0 0) ?_
 refine zo (.p (.lst (shrO zn) (zl.map (eI .u8)))) ?_
 refine zo (iv (zl.length : Int)) ?_ (Eq.trans (by kernel_rfl) (xlen_of (P := PP) (t := 40) (d := 5) (by kernel_rfl) (eI .u8) (shrO zn) zl))
 refine zo (.ptr 0 0) ?_
 refine zo (.ptr 0 1) ?_
 refine zo (iv zp) ?_
 refine zo (iv (IntKind.i64.wrap ((zl.length : Int) - zp))) ?_
 refine zo (iv (x1.size : Int)) ?_
 refine zo (bv (decide ((IntKind.i64.wrap ((zl.length : Int) - zp)) < (x1.size : Int)))) ?_
 refine za ((decide ((IntKind.i64.wrap ((zl.length : Int) - zp)) < (x1.size : Int)))) ?_ ?_
 ·exact zk (Z79 (zl) (zp) (z7) (zd) (zh) (z2) (z6) zn zb zu)
 ·refine zo (.ptr 0 0) ?_
  refine zo (.ptr 0 0) ?_
  refine zo (.p (.lst (shrO zn) (zl.map (eI .u8)))) ?_
  refine zo (.ptr 0 0) ?_
  refine zo (.ptr 0 1) ?_
  refine zo (iv zp) ?_
  refine zo (.ptr 0 0) ?_
  refine zo (.ptr 0 1) ?_
  refine zo (iv zp) ?_
  refine zo (iv (x1.size : Int)) ?_
  refine zo (iv (IntKind.i64.wrap (zp + (x1.size : Int)))) ?_
  refine zi fun a1 ha1 => ?_
  refine zo (.p (.lst (slO (shrO zn)) (a1.map (eI .u8)))) ?_ (Eq.trans (by kernel_rfl) <| xsl_of (n := 1) (o := (shrO zn)) (lo := (some (iv zp))) (hi := (some (iv (IntKind.i64.wrap (zp + (x1.size : Int)))))) (e := (eI .u8)) (fun _ => rfl) (by decide) (by kernel_rfl) (by kernel_rfl) ha1)
  refine zo (.p (.v (.string (strI a1)))) ?_ (Eq.trans (by kernel_rfl) (xcnv_str (P := PP) (s := 40) (d := 9) (by kernel_rfl) (slO (shrO zn)) a1))
  refine zo (bv (!(seq (strI a1) x1))) ?_
  refine za ((!(seq (strI a1) x1))) ?_ ?_
  ·exact zk (Z79 (zl) (zp) (z7) (zd) (zh) (z2) (z6) zn zb zu)
  ·exact zk (Zak (x1) (zl) (zp) (z7) (zd) (zh) (z2) (z6) zn zb zu)
theorem ZbM (x1 : ByteArray) (zl : List Int) (zp : Int) {r} (h : Z63 x1 zl zp = some r) : Z16 x1 zl zp = some r :=
 pick_of (fun _ _ ha hb => RRun.uniq (Zcb _ _ _ _ _ _ _ _) (ha default default default default default .ex .ex rfl) (hb default default default default default .ex .ex rfl)) (fun z7 zd zh z2 z6 zn zb zu => Zbh x1 zl zp z7 zd zh z2 z6 zn zb zu r h)
noncomputable def Z4q (zl : List Int) (zp : Int) (z7 : Int) (zd : Int) (zh : List Zq) (z2 : Int) (z6 : Int) : Option (Z3 × Int × Int × Int × (List Zq) × Int × Int) :=
 (Z4B zl zp z7 zd zh z2 z6).bind fun r1 =>
 Z3C (([r1.1] : List Z3)) zl r1.2.1 r1.2.2.1 r1.2.2.2.1 r1.2.2.2.2.1 r1.2.2.2.2.2.1 r1.2.2.2.2.2.2
theorem ZbB (zl : List Int) (zp : Int) (z7 : Int) (zd : Int) (zh : List Zq) (z2 : Int) (z6 : Int) (zn : Own) (zb : Own) (zu : okApp zb = true) : Sim (Z2q zl zn) (Z4q zl zp z7 zd zh z2 z6) (EE 28 [(.ptr 0 0)] [(Zi (Zk.mk zl zp z7 zd zh (Zj.mk z2 z6)) zn zb)]) := by
 unfold Z4q
 refine zf (ZjW ..) ?_
 refine ze ?_
 refine zz (.ptr 1 0) [(Zi (Zk.mk zl zp z7 zd zh (Zj.mk z2 z6)) zn zb), (Zo (Z3.mk 0 0 0 0 0 ([] : List Z8) ([] : List Z3)) .nl .nl)] ?_
 refine ze ?_
 refine zi fun r1 hr1 => ?_
 obtain ⟨qr1, er1, or1_0_4, exr1, hor1_0_4, rfl⟩ := Z90 (zl) (zp) (z7) (zd) (zh) (z2) (z6) zn zb zu r1 hr1
 refine zc [0] (.p (.agg (Zz r1.1 .sh .sh))) [(Zi (Zk.mk zl r1.2.1 r1.2.2.1 r1.2.2.2.1 r1.2.2.2.2.1 (Zj.mk r1.2.2.2.2.2.1 r1.2.2.2.2.2.2)) zn or1_0_4), (Zo (Z3.mk 0 0 0 0 0 ([] : List Z8) ([] : List Z3)) .nl .nl)] er1 ?_
 refine zo (.p (.lst .ex (([r1.1] : List Z3).map ZD))) ?_ (Eq.trans (b := some (.p (.lst .ex [.agg (Z1T r1.1)]))) (by kernel_rfl) (by simp only [List.map_cons, List.map_nil, Z3a]))
 exact zk (Z7s (([r1.1] : List Z3)) (zl) (r1.2.1) (r1.2.2.1) (r1.2.2.2.1) (r1.2.2.2.2.1) (r1.2.2.2.2.2.1) (r1.2.2.2.2.2.2) ((Z3.mk 0 0 0 0 0 ([] : List Z8) ([] : List Z3))) .ex zn or1_0_4 .nl .nl rfl hor1_0_4 rfl rfl)
theorem Z98 (zl : List Int) (zp : Int) (z7 : Int) (zd : Int) (zh : List Zq) (z2 : Int) (z6 : Int) {r} (h : Z4q zl zp z7 zd zh z2 z6 = some r) : Z2U zl zp z7 zd zh z2 z6 = some r :=
 pick_of (fun _ _ ha hb => RRun.uniq (Z9u _ _) (ha .ex .ex rfl) (hb .ex .ex rfl)) (fun zn zb zu => ZbB zl zp z7 zd zh z2 z6 zn zb zu r h)
noncomputable def Z5A (x3 : List Z3) (zl : List Int) (zp : Int) (z7 : Int) (zd : Int) (zh : List Zq) (z2 : Int) (z6 : Int) : Option (Z3 × Int × Int × Int × (List Zq) × Int × Int) :=
 (Z4B zl zp z7 zd zh z2 z6).bind fun r1 =>
 (lapp x3 ([r1.1] : List Z3)).bind fun a2 =>
 Z3C a2 zl r1.2.1 r1.2.2.1 r1.2.2.2.1 r1.2.2.2.2.1 r1.2.2.2.2.2.1 r1.2.2.2.2.2.2
theorem Zaz (x3 : List Z3) (zl : List Int) (zp : Int) (z7 : Int) (zd : Int) (zh : List Zq) (z2 : Int) (z6 : Int) (b1 : Z3) (ox3 : Own) (zn : Own) (zb : Own) (zB : Own) (zy : Own) (hox3 : okApp ox3 = true) (zu : okApp zb = true) (zP : okApp zB = true) (zI : okApp zy = true) : Sim (Z2q zl zn) (Z5A x3 zl zp z7 zd zh z2 z6) (Zfn 1 (.ptr 0 0) (.ptr 1 0) (.p (.lst ox3 (x3.map ZD))) [(Zi (Zk.mk zl zp z7 zd zh (Zj.mk z2 z6)) zn zb), (Zo b1 zB zy)]) := by
 unfold Z5A
 refine zf (Zj7 ..) ?_
 refine ze ?_
 refine zi fun r1 hr1 => ?_
 obtain ⟨qr1, er1, or1_0_4, exr1, hor1_0_4, rfl⟩ := Z90 (zl) (zp) (z7) (zd) (zh) (z2) (z6) zn zb zu r1 hr1
 refine zc [0] (.p (.agg (Zz r1.1 .sh .sh))) [(Zi (Zk.mk zl r1.2.1 r1.2.2.1 r1.2.2.2.1 r1.2.2.2.2.1 (Zj.mk r1.2.2.2.2.2.1 r1.2.2.2.2.2.2)) zn or1_0_4), (Zo b1 zB zy)] er1 ?_
 refine zo (.p (.lst .ex (([r1.1] : List Z3).map ZD))) ?_ (Eq.trans (b := some (.p (.lst .ex [.agg (Z1T r1.1)]))) (by kernel_rfl) (by simp only [List.map_cons, List.map_nil, Z3a]))
 refine zi fun a2 ha2 => ?_
 refine zo (.p (.lst .un (a2.map ZD))) ?_ (Eq.trans (by kernel_rfl) <| xapp_of (n := 7) (o := ox3) (o' := .ex) (e := ZD) (ys := ([r1.1] : List Z3)) ZbS (by decide) hox3 ha2)
 exact zk (Z7s (a2) (zl) (r1.2.1) (r1.2.2.1) (r1.2.2.2.1) (r1.2.2.2.2.1) (r1.2.2.2.2.2.1) (r1.2.2.2.2.2.2) (b1) .un zn or1_0_4 zB zy rfl hor1_0_4 zP zI)
noncomputable def Z4t (x3 : List Z3) (zp : Int) (z7 : Int) (zd : Int) (zh : List Zq) (z2 : Int) (z6 : Int) : Option (Z3 × Int × Int × Int × (List Zq) × Int × Int) :=
 (Z6G 3 x3).bind fun r1 =>
 some (r1, zp, z7, zd, zh, z2, z6)
theorem ZaH (x3 : List Z3) (zl : List Int) (zp : Int) (z7 : Int) (zd : Int) (zh : List Zq) (z2 : Int) (z6 : Int) (b1 : Z3) (ox3 : Own) (zn : Own) (zb : Own) (zB : Own) (zy : Own) (hox3 : okApp ox3 = true) (zu : okApp zb = true) (zP : okApp zB = true) (zI : okApp zy = true) : Sim (Z2q zl zn) (Z4t x3 zp z7 zd zh z2 z6) (ZfM 1 (.ptr 1 0) (.p (.lst ox3 (x3.map ZD))) [(Zi (Zk.mk zl zp z7 zd zh (Zj.mk z2 z6)) zn zb), (Zo b1 zB zy)]) := by
 unfold Z4t
 refine zf (ZhX ..) ?_
 refine ze ?_
 refine zi fun r1 hr1 => ?_
 obtain ⟨qr1, er1, exr1, rfl⟩ := Zal (3) (x3) .sh r1 hr1
 refine zc [] (.p (.agg (Zz r1 .sh .sh))) [(Zi (Zk.mk zl zp z7 zd zh (Zj.mk z2 z6)) zn zb), (Zo b1 zB zy)] er1 ?_
 refine zt [(Zi (Zk.mk zl zp z7 zd zh (Zj.mk z2 z6)) zn zb), (Zo r1 .sh .sh)] ?_
 exact zr ((.p (.agg (Zz r1 .sh .sh))), [(Zi (Zk.mk zl zp z7 zd zh (Zj.mk z2 z6)) zn zb), (Zo r1 .sh .sh)]) ⟨zb, _, zu, rfl⟩
noncomputable def Z3D (x3 : List Z3) (zl : List Int) (zp : Int) (z7 : Int) (zd : Int) (zh : List Zq) (z2 : Int) (z6 : Int) : Option (Z3 × Int × Int × Int × (List Zq) × Int × Int) :=
 (Z16 ((ByteArray.mk #[124])) zl zp).bind fun r1 =>
 if (r1.1) = true then
 (Z5A x3 zl r1.2 z7 zd zh z2 z6)
 else
 (Z4t x3 r1.2 z7 zd zh z2 z6)
theorem Zax (x3 : List Z3) (zl : List Int) (zp : Int) (z7 : Int) (zd : Int) (zh : List Zq) (z2 : Int) (z6 : Int) (b1 : Z3) (ox3 : Own) (zn : Own) (zb : Own) (zB : Own) (zy : Own) (hox3 : okApp ox3 = true) (zu : okApp zb = true) (zP : okApp zB = true) (zI : okApp zy = true) : Sim (Z2q zl zn) (Z3D x3 zl zp z7 zd zh z2 z6) (Zcr 1 (.ptr 0 0) (.ptr 1 0) (.p (.lst ox3 (x3.map ZD))) [(Zi (Zk.mk zl zp z7 zd zh (Zj.mk z2 z6)) zn zb), (Zo b1 zB zy)]) := by
 unfold Z3D
 refine zf (Zi6 ..) ?_
 refine ze ?_
 refine zi fun r1 hr1 => ?_
 obtain ⟨qr1, er1, exr1, rfl⟩ := Z1c ((ByteArray.mk #[124])) (zl) (zp) (z7) (zd) (zh) (z2) (z6) zn zb zu r1 hr1
 refine zc [0] (bv r1.1) [(Zi (Zk.mk zl r1.2 z7 zd zh (Zj.mk z2 z6)) zn zb), (Zo b1 zB zy)] er1 ?_
 refine za (r1.1) ?_ ?_
 ·exact zk (Zaz (x3) (zl) (r1.2) (z7) (zd) (zh) (z2) (z6) (b1) ox3 zn zb zB zy hox3 zu zP zI)
 ·exact zk (ZaH (x3) (zl) (r1.2) (z7) (zd) (zh) (z2) (z6) (b1) ox3 zn zb zB zy hox3 zu zP zI)
theorem Z7D (x3 : List Z3) (zl : List Int) (zp : Int) (z7 : Int) (zd : Int) (zh : List Zq) (z2 : Int) (z6 : Int) {r} (h : Z3D x3 zl zp z7 zd zh z2 z6 = some r) : Z3C x3 zl zp z7 zd zh z2 z6 = some r :=
 pick_of (fun _ _ ha hb => RRun.uniq (Z9u _ _) (ha default .ex .ex .ex .ex .ex rfl rfl rfl rfl) (hb default .ex .ex .ex .ex .ex rfl rfl rfl rfl)) (fun b1 ox3 zn zb zB zy hox3 zu zP zI => Zax x3 zl zp z7 zd zh z2 z6 b1 ox3 zn zb zB zy hox3 zu zP zI r h)
noncomputable def Z5n (zl : List Int) (zp : Int) (z7 : Int) (zd : Int) (zh : List Zq) (z2 : Int) (z6 : Int) : Option (Z3 × Int × Int × Int × (List Zq) × Int × Int) :=
 Z3y (([] : List Z3)) zl zp z7 zd zh z2 z6
theorem ZbL (zl : List Int) (zp : Int) (z7 : Int) (zd : Int) (zh : List Zq) (z2 : Int) (z6 : Int) (zn : Own) (zb : Own) (zu : okApp zb = true) : Sim (Z2c zl zn) (Z5n zl zp z7 zd zh z2 z6) (EE 35 [(.ptr 0 0)] [(Zi (Zk.mk zl zp z7 zd zh (Zj.mk z2 z6)) zn zb)]) := by
 unfold Z5n
 refine zf (ZkA ..) ?_
 refine ze ?_
 refine zz (.ptr 1 0) [(Zi (Zk.mk zl zp z7 zd zh (Zj.mk z2 z6)) zn zb), (Zo (Z3.mk 0 0 0 0 0 ([] : List Z8) ([] : List Z3)) .nl .nl)] ?_
 refine ze ?_
 exact zk (Z7A (([] : List Z3)) (zl) (zp) (z7) (zd) (zh) (z2) (z6) ((Z3.mk 0 0 0 0 0 ([] : List Z8) ([] : List Z3))) .nl zn zb .nl .nl rfl zu rfl rfl)
theorem Z91 (zl : List Int) (zp : Int) (z7 : Int) (zd : Int) (zh : List Zq) (z2 : Int) (z6 : Int) {r} (h : Z5n zl zp z7 zd zh z2 z6 = some r) : Z4B zl zp z7 zd zh z2 z6 = some r :=
 pick_of (fun _ _ ha hb => RRun.uniq (Z9o _ _) (ha .ex .ex rfl) (hb .ex .ex rfl)) (fun zn zb zu => ZbL zl zp z7 zd zh z2 z6 zn zb zu r h)
noncomputable def Z2j (x3 : List Z3) (zp : Int) (z7 : Int) (zd : Int) (zh : List Zq) (z2 : Int) (z6 : Int) : Option (Z3 × Int × Int × Int × (List Zq) × Int × Int) :=
 (Z6G 2 x3).bind fun r1 =>
 some (r1, zp, z7, zd, zh, z2, z6)
theorem Z4H (x3 : List Z3) (zl : List Int) (zp : Int) (z7 : Int) (zd : Int) (zh : List Zq) (z2 : Int) (z6 : Int) (b1 : Z3) (ox3 : Own) (zn : Own) (zb : Own) (zB : Own) (zy : Own) (hox3 : okApp ox3 = true) (zu : okApp zb = true) (zP : okApp zB = true) (zI : okApp zy = true) : Sim (Z2c zl zn) (Z2j x3 zp z7 zd zh z2 z6) (Zc8 1 (.ptr 1 0) (.p (.lst ox3 (x3.map ZD))) [(Zi (Zk.mk zl zp z7 zd zh (Zj.mk z2 z6)) zn zb), (Zo b1 zB zy)]) := by
 unfold Z2j
 refine zf (Zie ..) ?_
 refine ze ?_
 refine zi fun r1 hr1 => ?_
 obtain ⟨qr1, er1, exr1, rfl⟩ := Zal (2) (x3) .sh r1 hr1
 refine zc [] (.p (.agg (Zz r1 .sh .sh))) [(Zi (Zk.mk zl zp z7 zd zh (Zj.mk z2 z6)) zn zb), (Zo b1 zB zy)] er1 ?_
 refine zt [(Zi (Zk.mk zl zp z7 zd zh (Zj.mk z2 z6)) zn zb), (Zo r1 .sh .sh)] ?_
 exact zr ((.p (.agg (Zz r1 .sh .sh))), [(Zi (Zk.mk zl zp z7 zd zh (Zj.mk z2 z6)) zn zb), (Zo r1 .sh .sh)]) ⟨zb, _, zu, rfl⟩
noncomputable def Z34 (x3 : List Z3) (zl : List Int) (zp : Int) (z7 : Int) (zd : Int) (zh : List Zq) (z2 : Int) (z6 : Int) : Option (Z3 × Int × Int × Int × (List Zq) × Int × Int) :=
 (Z64 zl zp z7 zd zh z2 z6).bind fun r1 =>
 (Z4r r1.1 r1.2.1 zl r1.2.2.1 r1.2.2.2.1 r1.2.2.2.2.1 r1.2.2.2.2.2.1 r1.2.2.2.2.2.2.1 r1.2.2.2.2.2.2.2).bind fun r2 =>
 (lapp x3 ([r2.1] : List Z3)).bind fun a3 =>
 Z3y a3 zl r2.2.1 r1.2.2.2.1 r1.2.2.2.2.1 r1.2.2.2.2.2.1 r2.2.2.1 r2.2.2.2
theorem Z5Q (x3 : List Z3) (zl : List Int) (zp : Int) (z7 : Int) (zd : Int) (zh : List Zq) (z2 : Int) (z6 : Int) (b1 : Z3) (ox3 : Own) (zn : Own) (zb : Own) (zB : Own) (zy : Own) (hox3 : okApp ox3 = true) (zu : okApp zb = true) (zP : okApp zB = true) (zI : okApp zy = true) : Sim (Z2c zl zn) (Z34 x3 zl zp z7 zd zh z2 z6) (Zdf 1 (.ptr 0 0) (.ptr 1 0) (.p (.lst ox3 (x3.map ZD))) [(Zi (Zk.mk zl zp z7 zd zh (Zj.mk z2 z6)) zn zb), (Zo b1 zB zy)]) := by
 unfold Z34
 refine zf (Zia ..) ?_
 refine ze ?_
 refine zi fun r1 hr1 => ?_
 obtain ⟨qr1, er1, or1_0_4, exr1, hor1_0_4, rfl⟩ := ZbO (zl) (zp) (z7) (zd) (zh) (z2) (z6) zn zb zu r1 hr1
 refine zc [0] (.p (.tup [(.agg (Zz r1.1 .sh .sh)), (.v (.bool r1.2.1))])) [(Zi (Zk.mk zl r1.2.2.1 r1.2.2.2.1 r1.2.2.2.2.1 r1.2.2.2.2.2.1 (Zj.mk r1.2.2.2.2.2.2.1 r1.2.2.2.2.2.2.2)) zn or1_0_4), (Zo b1 zB zy)] er1 ?_
 refine zo (.p (.agg (Zz r1.1 .sh .sh))) ?_
 refine zo (bv r1.2.1) ?_
 refine zz (.ptr 2 0) [(Zi (Zk.mk zl r1.2.2.1 r1.2.2.2.1 r1.2.2.2.2.1 r1.2.2.2.2.2.1 (Zj.mk r1.2.2.2.2.2.2.1 r1.2.2.2.2.2.2.2)) zn or1_0_4), (Zo b1 zB zy), (Zo (Z3.mk 0 0 0 0 0 ([] : List Z8) ([] : List Z3)) .nl .nl)] ?_
 refine zt [(Zi (Zk.mk zl r1.2.2.1 r1.2.2.2.1 r1.2.2.2.2.1 r1.2.2.2.2.2.1 (Zj.mk r1.2.2.2.2.2.2.1 r1.2.2.2.2.2.2.2)) zn or1_0_4), (Zo b1 zB zy), (Zo r1.1 .sh .sh)] ?_
 refine ze ?_
 refine zo (.p (.agg (Zz r1.1 .sh .sh))) ?_
 refine zi fun r2 hr2 => ?_
 obtain ⟨qr2, er2, exr2, rfl⟩ := Zb7 (r1.1) (r1.2.1) (zl) (r1.2.2.1) (r1.2.2.2.1) (r1.2.2.2.2.1) (r1.2.2.2.2.2.1) (r1.2.2.2.2.2.2.1) (r1.2.2.2.2.2.2.2) .sh .sh zn or1_0_4 hor1_0_4 r2 hr2
 refine zc [0] (.p (.agg (Zz r2.1 .sh .sh))) [(Zi (Zk.mk zl r2.2.1 r1.2.2.2.1 r1.2.2.2.2.1 r1.2.2.2.2.2.1 (Zj.mk r2.2.2.1 r2.2.2.2)) zn or1_0_4), (Zo b1 zB zy), (Zo r1.1 .sh .sh)] er2 ?_
 refine zo (.p (.lst .ex (([r2.1] : List Z3).map ZD))) ?_ (Eq.trans (b := some (.p (.lst .ex [.agg (Z1T r2.1)]))) (by kernel_rfl) (by simp only [List.map_cons, List.map_nil, Z3a]))
 refine zi fun a3 ha3 => ?_
 refine zo (.p (.lst .un (a3.map ZD))) ?_ (Eq.trans (by kernel_rfl) <| xapp_of (n := 7) (o := ox3) (o' := .ex) (e := ZD) (ys := ([r2.1] : List Z3)) ZbS (by decide) hox3 ha3)
 exact zk (Z7A (a3) (zl) (r2.2.1) (r1.2.2.2.1) (r1.2.2.2.2.1) (r1.2.2.2.2.2.1) (r2.2.2.1) (r2.2.2.2) (b1) .un zn or1_0_4 zB zy rfl hor1_0_4 zP zI)
noncomputable def Z4C (x3 : List Z3) (zl : List Int) (zp : Int) (z7 : Int) (zd : Int) (zh : List Zq) (z2 : Int) (z6 : Int) : Option (Z3 × Int × Int × Int × (List Zq) × Int × Int) :=
 (Z1F ((Zk.mk zl zp z7 zd zh (Zj.mk z2 z6)))).bind fun r1 =>
 if ((r1 == (-1))) = true then
 (if ((r1 == (-1))) = true then
 (Z2j x3 zp z7 zd zh z2 z6)
 else
 (Z34 x3 zl zp z7 zd zh z2 z6))
 else
 (if ((r1 == 124)) = true then
 (if ((r1 == 124)) = true then
 (Z2j x3 zp z7 zd zh z2 z6)
 else
 (Z34 x3 zl zp z7 zd zh z2 z6))
 else
 (if ((r1 == 41)) = true then
 (Z2j x3 zp z7 zd zh z2 z6)
 else
 (Z34 x3 zl zp z7 zd zh z2 z6)))
theorem Zat (x3 : List Z3) (zl : List Int) (zp : Int) (z7 : Int) (zd : Int) (zh : List Zq) (z2 : Int) (z6 : Int) (b1 : Z3) (ox3 : Own) (zn : Own) (zb : Own) (zB : Own) (zy : Own) (hox3 : okApp ox3 = true) (zu : okApp zb = true) (zP : okApp zB = true) (zI : okApp zy = true) : Sim (Z2c zl zn) (Z4C x3 zl zp z7 zd zh z2 z6) (Zfw 1 (.ptr 0 0) (.ptr 1 0) (.p (.lst ox3 (x3.map ZD))) [(Zi (Zk.mk zl zp z7 zd zh (Zj.mk z2 z6)) zn zb), (Zo b1 zB zy)]) := by
 unfold Z4C
 refine zf (Zjf ..) ?_
 refine ze ?_
 refine zi fun r1 hr1 => ?_
 obtain ⟨qr1, er1, exr1, rfl⟩ := Z1K ((Zk.mk zl zp z7 zd zh (Zj.mk z2 z6))) zn zb zu r1 hr1
 refine zc [0] (iv r1) [(Zi (Zk.mk zl zp z7 zd zh (Zj.mk z2 z6)) zn zb), (Zo b1 zB zy)] er1 ?_
 refine ze ?_
 refine zo (bv (r1 == (-1))) ?_
 refine za ((r1 == (-1))) ?_ ?_
 ·refine za ((r1 == (-1))) ?_ ?_
  ·exact zk (Z4H (x3) (zl) (zp) (z7) (zd) (zh) (z2) (z6) (b1) ox3 zn zb zB zy hox3 zu zP zI)
  ·exact zk (Z5Q (x3) (zl) (zp) (z7) (zd) (zh) (z2) (z6) (b1) ox3 zn zb zB zy hox3 zu zP zI)
 ·refine ze ?_
  refine zo (bv (r1 == 124)) ?_
  refine za ((r1 == 124)) ?_ ?_
  ·refine za ((r1 == 124)) ?_ ?_
   ·exact zk (Z4H (x3) (zl) (zp) (z7) (zd) (zh) (z2) (z6) (b1) ox3 zn zb zB zy hox3 zu zP zI)
   ·exact zk (Z5Q (x3) (zl) (zp) (z7) (zd) (zh) (z2) (z6) (b1) ox3 zn zb zB zy hox3 zu zP zI)
  ·refine ze ?_
   refine zo (bv (r1 == 41)) ?_
   refine za ((r1 == 41)) ?_ ?_
   ·exact zk (Z4H (x3) (zl) (zp) (z7) (zd) (zh) (z2) (z6) (b1) ox3 zn zb zB zy hox3 zu zP zI)
   ·exact zk (Z5Q (x3) (zl) (zp) (z7) (zd) (zh) (z2) (z6) (b1) ox3 zn zb zB zy hox3 zu zP zI)
noncomputable def Z4z (x3 : List Z3) (zl : List Int) (zp : Int) (z7 : Int) (zd : Int) (zh : List Zq) (z2 : Int) (z6 : Int) : Option (Z3 × Int × Int × Int × (List Zq) × Int × Int) :=
 if ((z2 == 0)) = true then
 (Z4C x3 zl zp z7 zd zh z2 z6)
 else
 (Z2j x3 zp z7 zd zh z2 z6)
theorem ZaB (x3 : List Z3) (zl : List Int) (zp : Int) (z7 : Int) (zd : Int) (zh : List Zq) (z2 : Int) (z6 : Int) (b1 : Z3) (ox3 : Own) (zn : Own) (zb : Own) (zB : Own) (zy : Own) (hox3 : okApp ox3 = true) (zu : okApp zb = true) (zP : okApp zB = true) (zI : okApp zy = true) : Sim (Z2c zl zn) (Z4z x3 zl zp z7 zd zh z2 z6) (Zcq 1 (.ptr 0 0) (.ptr 1 0) (.p (.lst ox3 (x3.map ZD))) [(Zi (Zk.mk zl zp z7 zd zh (Zj.mk z2 z6)) zn zb), (Zo b1 zB zy)]) := by
 unfold Z4z
 refine zf (ZiI ..) ?_
 refine ze ?_
 refine zo (.ptr 0 0) ?_
 refine zo (.ptr 0 5) ?_
 refine zo (.ptr 0 5) ?_
 refine zo (iv z2) ?_
 refine zo (bv (z2 == 0)) ?_
 refine za ((z2 == 0)) ?_ ?_
 ·exact zk (Zat (x3) (zl) (zp) (z7) (zd) (zh) (z2) (z6) (b1) ox3 zn zb zB zy hox3 zu zP zI)
 ·exact zk (Z4H (x3) (zl) (zp) (z7) (zd) (zh) (z2) (z6) (b1) ox3 zn zb zB zy hox3 zu zP zI)
theorem Z7H (x3 : List Z3) (zl : List Int) (zp : Int) (z7 : Int) (zd : Int) (zh : List Zq) (z2 : Int) (z6 : Int) {r} (h : Z4z x3 zl zp z7 zd zh z2 z6 = some r) : Z3y x3 zl zp z7 zd zh z2 z6 = some r :=
 pick_of (fun _ _ ha hb => RRun.uniq (Z9o _ _) (ha default .ex .ex .ex .ex .ex rfl rfl rfl rfl) (hb default .ex .ex .ex .ex .ex rfl rfl rfl rfl)) (fun b1 ox3 zn zb zB zy hox3 zu zP zI => ZaB x3 zl zp z7 zd zh z2 z6 b1 ox3 zn zb zB zy hox3 zu zP zI r h)
noncomputable def Z5m (b0 : Zk) : Option (Int) :=
 (Z8y b0.b b0.at_).bind fun r1 =>
 some (r1.1)
theorem Zag (b0 : Zk) (zn : Own) (zb : Own) (zu : okApp zb = true) : Sim (Z4g b0 zn zb) (Z5m b0) (Zg0 1 (.ptr 0 0) [(Zi b0 zn zb)]) := by
 unfold Z5m
 refine zf (Zic ..) ?_
 refine ze ?_
 refine zo (.ptr 0 0) ?_
 refine zo (.ptr 0 0) ?_
 refine zo (.p (.lst (shrO zn) (b0.b.map (eI .u8)))) ?_
 refine zo (.ptr 0 0) ?_
 refine zo (.ptr 0 1) ?_
 refine zo (iv b0.at_) ?_
 refine zi fun r1 hr1 => ?_
 obtain ⟨qr1, er1, exr1, rfl⟩ := Zc3 (b0.b) (b0.at_) .sh r1 hr1
 refine zc [] (.p (.tup [(.v (.int .i64 r1.1)), (.v (.int .i64 r1.2))])) [(Zi b0 zn zb)] er1 ?_
 refine zo (iv r1.1) ?_
 refine zo (iv r1.2) ?_
 refine ze ?_
 exact zr ((iv r1.1), [(Zi b0 zn zb)]) ⟨_, rfl⟩
noncomputable def Z6a (b0 : Zk) : Option (Int) :=
 if ((decide ((b0.b.length : Int) ≤ b0.at_))) = true then
 (some ((-1)))
 else
 (Z5m b0)
theorem Zbe (b0 : Zk) (zn : Own) (zb : Own) (zu : okApp zb = true) : Sim (Z4g b0 zn zb) (Z6a b0) (EE 41 [(.ptr 0 0)] [(Zi b0 zn zb)]) := by
 unfold Z6a
 refine zf (Zli ..) ?_
 refine ze ?_
 refine ze ?_
 refine zo (.ptr 0 0) ?_
 refine zo (.ptr 0 1) ?_
 refine zo (iv b0.at_) ?_
 refine zo (.ptr 0 0) ?_
 refine zo (.ptr 0 0) ?_
 refine zo (.p (.lst (shrO zn) (b0.b.map (eI .u8)))) ?_
 refine zo (iv (b0.b.length : Int)) ?_ (Eq.trans (by kernel_rfl) (xlen_of (P := PP) (t := 40) (d := 5) (by kernel_rfl) (eI .u8) (shrO zn) b0.b))
 refine zo (bv (decide ((b0.b.length : Int) ≤ b0.at_))) ?_
 refine za ((decide ((b0.b.length : Int) ≤ b0.at_))) ?_ ?_
 ·refine ze ?_
  exact zr ((iv (-1)), [(Zi b0 zn zb)]) ⟨_, rfl⟩
 ·exact zk (Zag (b0) zn zb zu)
theorem ZbE (b0 : Zk) {r} (h : Z6a b0 = some r) : Z1F b0 = some r :=
 pick_of (fun _ _ ha hb => RRun.uniq (ZbX _ _ _) (ha .ex .ex rfl) (hb .ex .ex rfl)) (fun zn zb zu => Zbe b0 zn zb zu r h)
end Go.Proofs.YtadodmjdkphddaaDoor.N2
end
section
set_option linter.unusedSimpArgs false
set_option linter.unusedVariables false
namespace Go.Proofs.YtadodmjdkphddaaDoor.N2
open Go Go.Abs
set_option linter.unusedVariables false
set_option maxRecDepth 100000
noncomputable def Z82  : Option (Int × Int) :=
 some (0, 0)
theorem Zaf  : Sim (Z5g) (Z82) (Zen 0  []) := by
 unfold Z82
 refine zf (Zj3 ..) ?_
 refine ze ?_
 exact zr ((.p (.tup [(.v (.int .i64 0)), (.v (.int .i64 0))])), []) ⟨_, rfl⟩
noncomputable def Z7U (x0 : List Int) (x1 : Int) : Option (Int × Int) :=
 (lget x0 x1).bind fun a1 =>
 some ((IntKind.i64.wrap (1114112 + (IntKind.i64.wrap a1))), 1)
theorem Zd9 (x0 : List Int) (x1 : Int) (ox0 : Own) : Sim (Z5g) (Z7U x0 x1) (ZgM 0 (.p (.lst ox0 (x0.map (eI .u8)))) (iv x1) []) := by
 unfold Z7U
 refine zf (Zip ..) ?_
 refine ze ?_
 refine zi fun a1 ha1 => ?_
 refine zo (.cptr [(.v (.int .u8 a1))]) ?_ (Eq.trans (by kernel_rfl) (xidx_of (o := (shrO ox0)) (k := .i64) (n := 1) (e := (eI .u8)) (cs := (fun a => [(eI .u8) a])) (fun _ => rfl) (fun _ => rfl) (by decide) ha1))
 refine zo (.p (.v (.int .u8 a1))) ?_
 refine zo (iv (IntKind.i64.wrap a1)) ?_
 refine zo (iv (IntKind.i64.wrap (1114112 + (IntKind.i64.wrap a1)))) ?_
 exact zr ((.p (.tup [(.v (.int .i64 (IntKind.i64.wrap (1114112 + (IntKind.i64.wrap a1))))), (.v (.int .i64 1))])), []) ⟨_, rfl⟩
noncomputable def Z5U (x6 : Int) (x7 : Int) : Option (Int × Int) :=
 some ((IntKind.i64.wrap x6), x7)
theorem Zaa (x6 : Int) (x7 : Int) : Sim (Z5g) (Z5U x6 x7) (Zeo 0 (.p (.v (.int .i32 x6))) (iv x7) []) := by
 unfold Z5U
 refine zf (ZiQ ..) ?_
 refine ze ?_
 refine zo (iv (IntKind.i64.wrap x6)) ?_
 exact zr ((.p (.tup [(.v (.int .i64 (IntKind.i64.wrap x6))), (.v (.int .i64 x7))])), []) ⟨_, rfl⟩
noncomputable def Z7K (x0 : List Int) (x1 : Int) : Option (Int × Int) :=
 (lsl x0 x1 (x0.length : Int)).bind fun a1 =>
 (Z5L a1).bind fun r2 =>
 if ((r2.1 == 65533)) = true then
 (if ((r2.2 == 1)) = true then
 (Z7U x0 x1)
 else
 (Z5U r2.1 r2.2))
 else
 (Z5U r2.1 r2.2)
theorem Zdg (x0 : List Int) (x1 : Int) (ox0 : Own) : Sim (Z5g) (Z7K x0 x1) (Zgj 0 (.p (.lst ox0 (x0.map (eI .u8)))) (iv x1) []) := by
 unfold Z7K
 refine zf (Zjg ..) ?_
 refine ze ?_
 refine zi fun a1 ha1 => ?_
 refine zo (.p (.lst (slO (shrO ox0)) (a1.map (eI .u8)))) ?_ (Eq.trans (by kernel_rfl) <| xsl_of (n := 1) (o := (shrO ox0)) (lo := (some (iv x1))) (hi := none) (e := (eI .u8)) (fun _ => rfl) (by decide) (by kernel_rfl) (by kernel_rfl) ha1)
 refine zi fun r2 hr2 => ?_
 obtain ⟨qr2, er2, exr2, rfl⟩ := Z9N (a1) .sh r2 hr2
 refine zc [] (.p (.tup [(.v (.int .i32 r2.1)), (.v (.int .i64 r2.2))])) [] er2 ?_
 refine zo (.p (.v (.int .i32 r2.1))) ?_
 refine zo (iv r2.2) ?_
 refine ze ?_
 refine zo (bv (r2.1 == 65533)) ?_
 refine za ((r2.1 == 65533)) ?_ ?_
 ·refine zo (bv (r2.2 == 1)) ?_
  refine za ((r2.2 == 1)) ?_ ?_
  ·exact zk (Zd9 (x0) (x1) ox0)
  ·exact zk (Zaa (r2.1) (r2.2))
 ·exact zk (Zaa (r2.1) (r2.2))
noncomputable def Z9X (x0 : List Int) (x1 : Int) : Option (Int × Int) :=
 if ((decide (x1 < 0))) = true then
 (Z82)
 else
 (if ((decide ((x0.length : Int) ≤ x1))) = true then
 (Z82)
 else
 (Z7K x0 x1))
theorem Ze3 (x0 : List Int) (x1 : Int) (ox0 : Own) : Sim (Z5g) (Z9X x0 x1) (EE 45 [(.p (.lst ox0 (x0.map (eI .u8)))), (iv x1)] []) := by
 unfold Z9X
 refine zf (ZkW ..) ?_
 refine ze ?_
 refine ze ?_
 refine zo (bv (decide (x1 < 0))) ?_
 refine za ((decide (x1 < 0))) ?_ ?_
 ·exact zk (Zaf )
 ·refine zo (iv (x0.length : Int)) ?_ (Eq.trans (by kernel_rfl) (xlen_of (P := PP) (t := 40) (d := 5) (by kernel_rfl) (eI .u8) (shrO ox0) x0))
  refine zo (bv (decide ((x0.length : Int) ≤ x1))) ?_
  refine za ((decide ((x0.length : Int) ≤ x1))) ?_ ?_
  ·exact zk (Zaf )
  ·exact zk (Zdg (x0) (x1) ox0)
theorem ZeM (x0 : List Int) (x1 : Int) {r} (h : Z9X x0 x1 = some r) : Z8y x0 x1 = some r :=
 pick_of (fun _ _ ha hb => RRun.uniq (Zfe) (ha .ex) (hb .ex)) (fun ox0 => Ze3 x0 x1 ox0 r h)
noncomputable def Z8h (x0 : Int) (x1 : List Z3) : Option (Z3) :=
 some ((Z3.mk x0 0 0 0 0 ([] : List Z8) x1))
theorem ZbZ (x0 : Int) (x1 : List Z3) (b0 : Z3) (ox1 : Own) (z1e : Own) (z12 : Own) (zju : okApp z1e = true) (zjl : okApp z12 = true) : Sim (Z5T) (Z8h x0 x1) (Zgo 0 (iv x0) (.p (.lst ox1 (x1.map ZD))) (.ptr 0 0) [(Zo b0 z1e z12)]) := by
 unfold Z8h
 refine zf (Zif ..) ?_
 refine ze ?_
 refine zo (.p (.agg (Zz (Z3.mk x0 0 0 0 0 ([] : List Z8) x1) .nl (shrO (shrO ox1))))) ?_
 refine zt [(Zo (Z3.mk x0 0 0 0 0 ([] : List Z8) x1) .nl (shrO (shrO ox1)))] ?_
 exact zr ((.p (.agg (Zz (Z3.mk x0 0 0 0 0 ([] : List Z8) x1) .sh .sh))), [(Zo (Z3.mk x0 0 0 0 0 ([] : List Z8) x1) .nl (shrO (shrO ox1)))]) ⟨_, rfl⟩
noncomputable def Z7R (x0 : Int) (x1 : List Z3) : Option (Z3) :=
 if (((x1.length : Int) == 0)) = true then
 (some ((Z3.mk 0 0 0 0 0 ([] : List Z8) ([] : List Z3))))
 else
 (if (((x1.length : Int) == 1)) = true then
 ((lget x1 0).bind fun a1 =>
 some (a1))
 else
 (Z8h x0 x1))
theorem Zd3 (x0 : Int) (x1 : List Z3) (ox1 : Own) : Sim (Z5T) (Z7R x0 x1) (EE 36 [(iv x0), (.p (.lst ox1 (x1.map ZD)))] []) := by
 unfold Z7R
 refine zf (ZkY ..) ?_
 refine ze ?_
 refine zz (.ptr 0 0) [(Zo (Z3.mk 0 0 0 0 0 ([] : List Z8) ([] : List Z3)) .nl .nl)] ?_
 refine ze ?_
 refine zo (iv (x1.length : Int)) ?_ (Eq.trans (by kernel_rfl) (xlen_of (P := PP) (t := 25) (d := 27) (by kernel_rfl) ZD (shrO ox1) x1))
 refine ze ?_
 refine zo (bv ((x1.length : Int) == 0)) ?_
 refine za (((x1.length : Int) == 0)) ?_ ?_
 ·refine ze ?_
  refine zo (.p (.agg (Zz (Z3.mk 0 0 0 0 0 ([] : List Z8) ([] : List Z3)) .nl .nl))) ?_
  refine zt [(Zo (Z3.mk 0 0 0 0 0 ([] : List Z8) ([] : List Z3)) .nl .nl)] ?_
  exact zr ((.p (.agg (Zz (Z3.mk 0 0 0 0 0 ([] : List Z8) ([] : List Z3)) .sh .sh))), [(Zo (Z3.mk 0 0 0 0 0 ([] : List Z8) ([] : List Z3)) .nl .nl)]) ⟨_, rfl⟩
 ·refine ze ?_
  refine zo (bv ((x1.length : Int) == 1)) ?_
  refine za (((x1.length : Int) == 1)) ?_ ?_
  ·refine ze ?_
   refine zi fun a1 ha1 => ?_
   refine zo (.cptr (Zz a1 .sh .sh)) ?_ (Eq.trans (by kernel_rfl) (xidx_of (o := (shrO ox1)) (k := .i64) (n := 7) (e := ZD) (cs := Z1T) Z40 (fun _ => rfl) (by decide) ha1))
   refine zo (.p (.agg (Zz a1 .sh .sh))) ?_
   refine zt [(Zo a1 .sh .sh)] ?_
   exact zr ((.p (.agg (Zz a1 .sh .sh))), [(Zo a1 .sh .sh)]) ⟨_, rfl⟩
  ·exact zk (ZbZ (x0) (x1) ((Z3.mk 0 0 0 0 0 ([] : List Z8) ([] : List Z3))) ox1 .nl .nl rfl rfl)
theorem Zdz (x0 : Int) (x1 : List Z3) {r} (h : Z7R x0 x1 = some r) : Z6G x0 x1 = some r :=
 pick_of (fun _ _ ha hb => RRun.uniq (ZdX) (ha .ex) (hb .ex)) (fun ox1 => Zd3 x0 x1 ox1 r h)
noncomputable def Z1j (zp : Int) (z7 : Int) (zd : Int) (zh : List Zq) (z2 : Int) (z6 : Int) : Option (Z3 × Bool × Int × Int × Int × (List Zq) × Int × Int) :=
 some ((Z3.mk 0 0 0 0 0 ([] : List Z8) ([] : List Z3)), true, zp, z7, zd, zh, z2, z6)
theorem Z1k (zl : List Int) (zp : Int) (z7 : Int) (zd : Int) (zh : List Zq) (z2 : Int) (z6 : Int) (b1 : Z3) (zn : Own) (zb : Own) (zB : Own) (zy : Own) (zu : okApp zb = true) (zP : okApp zB = true) (zI : okApp zy = true) : Sim (Z4e zl zn) (Z1j zp z7 zd zh z2 z6) (Z5s 1 (.ptr 1 0) [(Zi (Zk.mk zl zp z7 zd zh (Zj.mk z2 z6)) zn zb), (Zo b1 zB zy)]) := by
 unfold Z1j
 refine zf (ZhM ..) ?_
 refine ze ?_
 refine zo (.p (.agg (Zz (Z3.mk 0 0 0 0 0 ([] : List Z8) ([] : List Z3)) .nl .nl))) ?_
 refine zt [(Zi (Zk.mk zl zp z7 zd zh (Zj.mk z2 z6)) zn zb), (Zo (Z3.mk 0 0 0 0 0 ([] : List Z8) ([] : List Z3)) .nl .nl)] ?_
 exact zr ((.p (.tup [(.agg (Zz (Z3.mk 0 0 0 0 0 ([] : List Z8) ([] : List Z3)) .sh .sh)), (.v (.bool true))])), [(Zi (Zk.mk zl zp z7 zd zh (Zj.mk z2 z6)) zn zb), (Zo (Z3.mk 0 0 0 0 0 ([] : List Z8) ([] : List Z3)) .nl .nl)]) ⟨zb, _, zu, rfl⟩
noncomputable def Z52 (zl : List Int) (zp : Int) (z7 : Int) (zd : Int) (zh : List Zq) (z2 : Int) (z6 : Int) : Option (Z3 × Bool × Int × Int × Int × (List Zq) × Int × Int) :=
 (Z24 zl zp).bind fun r1 =>
 if ((r1.1 == 46)) = true then
 ((Z1A 10).bind fun r2 =>
 (Z2F true (([r2] : List Z8))).bind fun r3 =>
 some (r3, true, r1.2, z7, zd, zh, z2, z6))
 else
 (if ((r1.1 == 94)) = true then
 (some ((Z3.mk 9 0 0 0 0 ([] : List Z8) ([] : List Z3)), false, r1.2, z7, zd, zh, z2, z6))
 else
 (if ((r1.1 == 36)) = true then
 (some ((Z3.mk 9 0 0 0 1 ([] : List Z8) ([] : List Z3)), false, r1.2, z7, zd, zh, z2, z6))
 else
 (if ((r1.1 == 92)) = true then
 ((Z35 zp zl r1.2 z7 zd zh z2 z6).bind fun r4 =>
 some (r4.1, (r4.1.Kind != 9), r4.2.1, z7, zd, r4.2.2.1, r4.2.2.2.1, r4.2.2.2.2))
 else
 (if ((r1.1 == 91)) = true then
 ((Z5M zp zl r1.2 z7 zd zh z2 z6).bind fun r5 =>
 some (r5.1, true, r5.2.1, z7, zd, zh, r5.2.2.1, r5.2.2.2))
 else
 (if ((r1.1 == 40)) = true then
 ((Z3b zp zl r1.2 z7 zd zh z2 z6).bind fun r6 =>
 some (r6.1, r6.2.1, r6.2.2.1, r6.2.2.2.1, r6.2.2.2.2.1, r6.2.2.2.2.2.1, r6.2.2.2.2.2.2.1, r6.2.2.2.2.2.2.2))
 else
 (if ((r1.1 == 42)) = true then
 (if ((r1.1 == 42)) = true then
 ((ZS 23 zp zl z2 z6).bind fun r7 =>
 Z1j r7.1 z7 zd zh r7.2.1 r7.2.2)
 else
 (if ((r1.1 == 93)) = true then
 (if ((r1.1 == 93)) = true then
 ((ZS 20 zp zl z2 z6).bind fun r8 =>
 Z1j r8.1 z7 zd zh r8.2.1 r8.2.2)
 else
 ((Z1A r1.1).bind fun r9 =>
 (Z2F false (([r9] : List Z8))).bind fun r10 =>
 some (r10, true, r1.2, z7, zd, zh, z2, z6)))
 else
 (if ((r1.1 == 125)) = true then
 ((ZS 20 zp zl z2 z6).bind fun r11 =>
 Z1j r11.1 z7 zd zh r11.2.1 r11.2.2)
 else
 ((Z1A r1.1).bind fun r12 =>
 (Z2F false (([r12] : List Z8))).bind fun r13 =>
 some (r13, true, r1.2, z7, zd, zh, z2, z6)))))
 else
 (if ((r1.1 == 43)) = true then
 (if ((r1.1 == 43)) = true then
 ((ZS 23 zp zl z2 z6).bind fun r14 =>
 Z1j r14.1 z7 zd zh r14.2.1 r14.2.2)
 else
 (if ((r1.1 == 93)) = true then
 (if ((r1.1 == 93)) = true then
 ((ZS 20 zp zl z2 z6).bind fun r15 =>
 Z1j r15.1 z7 zd zh r15.2.1 r15.2.2)
 else
 ((Z1A r1.1).bind fun r16 =>
 (Z2F false (([r16] : List Z8))).bind fun r17 =>
 some (r17, true, r1.2, z7, zd, zh, z2, z6)))
 else
 (if ((r1.1 == 125)) = true then
 ((ZS 20 zp zl z2 z6).bind fun r18 =>
 Z1j r18.1 z7 zd zh r18.2.1 r18.2.2)
 else
 ((Z1A r1.1).bind fun r19 =>
 (Z2F false (([r19] : List Z8))).bind fun r20 =>
 some (r20, true, r1.2, z7, zd, zh, z2, z6)))))
 else
 (if ((r1.1 == 63)) = true then
 (if ((r1.1 == 63)) = true then
 ((ZS 23 zp zl z2 z6).bind fun r21 =>
 Z1j r21.1 z7 zd zh r21.2.1 r21.2.2)
 else
 (if ((r1.1 == 93)) = true then
 (if ((r1.1 == 93)) = true then
 ((ZS 20 zp zl z2 z6).bind fun r22 =>
 Z1j r22.1 z7 zd zh r22.2.1 r22.2.2)
 else
 ((Z1A r1.1).bind fun r23 =>
 (Z2F false (([r23] : List Z8))).bind fun r24 =>
 some (r24, true, r1.2, z7, zd, zh, z2, z6)))
 else
 (if ((r1.1 == 125)) = true then
 ((ZS 20 zp zl z2 z6).bind fun r25 =>
 Z1j r25.1 z7 zd zh r25.2.1 r25.2.2)
 else
 ((Z1A r1.1).bind fun r26 =>
 (Z2F false (([r26] : List Z8))).bind fun r27 =>
 some (r27, true, r1.2, z7, zd, zh, z2, z6)))))
 else
 (if ((r1.1 == 123)) = true then
 ((ZS 23 zp zl z2 z6).bind fun r28 =>
 Z1j r28.1 z7 zd zh r28.2.1 r28.2.2)
 else
 (if ((r1.1 == 93)) = true then
 (if ((r1.1 == 93)) = true then
 ((ZS 20 zp zl z2 z6).bind fun r29 =>
 Z1j r29.1 z7 zd zh r29.2.1 r29.2.2)
 else
 ((Z1A r1.1).bind fun r30 =>
 (Z2F false (([r30] : List Z8))).bind fun r31 =>
 some (r31, true, r1.2, z7, zd, zh, z2, z6)))
 else
 (if ((r1.1 == 125)) = true then
 ((ZS 20 zp zl z2 z6).bind fun r32 =>
 Z1j r32.1 z7 zd zh r32.2.1 r32.2.2)
 else
 ((Z1A r1.1).bind fun r33 =>
 (Z2F false (([r33] : List Z8))).bind fun r34 =>
 some (r34, true, r1.2, z7, zd, zh, z2, z6)))))))))))))
theorem Zba (zl : List Int) (zp : Int) (z7 : Int) (zd : Int) (zh : List Zq) (z2 : Int) (z6 : Int) (zn : Own) (zb : Own) (zu : okApp zb = true) : Sim (Z4e zl zn) (Z52 zl zp z7 zd zh z2 z6) (EE 42 [(.ptr 0 0)] [(Zi (Zk.mk zl zp z7 zd zh (Zj.mk z2 z6)) zn zb)]) := by
 unfold Z52
 refine zf (ZkI ..) ?_
 refine ze ?_
 refine zz (.ptr 1 0) [(Zi (Zk.mk zl zp z7 zd zh (Zj.mk z2 z6)) zn zb), (Zo (Z3.mk 0 0 0 0 0 ([] : List Z8) ([] : List Z3)) .nl .nl)] ?_
 refine ze ?_
 refine zo (.ptr 0 0) ?_
 refine zo (.ptr 0 1) ?_
 refine zo (iv zp) ?_
 refine ze ?_
 refine zi fun r1 hr1 => ?_
 obtain ⟨qr1, er1, exr1, rfl⟩ := Z2p (zl) (zp) (z7) (zd) (zh) (z2) (z6) zn zb zu r1 hr1
 refine zc [0] (iv r1.1) [(Zi (Zk.mk zl r1.2 z7 zd zh (Zj.mk z2 z6)) zn zb), (Zo (Z3.mk 0 0 0 0 0 ([] : List Z8) ([] : List Z3)) .nl .nl)] er1 ?_
 refine ze ?_
 refine ze ?_
 refine zo (bv (r1.1 == 46)) ?_
 refine za ((r1.1 == 46)) ?_ ?_
 ·refine ze ?_
  refine zi fun r2 hr2 => ?_
  obtain ⟨qr2, er2, exr2, rfl⟩ := Z1u (10) r2 hr2
  refine zc [] (.p (.agg (ZE r2))) [(Zi (Zk.mk zl r1.2 z7 zd zh (Zj.mk z2 z6)) zn zb), (Zo (Z3.mk 0 0 0 0 0 ([] : List Z8) ([] : List Z3)) .nl .nl)] er2 ?_
  refine zo (.p (.lst .ex (([r2] : List Z8).map Zv))) ?_
  refine zi fun r3 hr3 => ?_
  obtain ⟨qr3, er3, exr3, rfl⟩ := Z2O (true) (([r2] : List Z8)) .sh r3 hr3
  refine zc [] (.p (.agg (Zz r3 .sh .sh))) [(Zi (Zk.mk zl r1.2 z7 zd zh (Zj.mk z2 z6)) zn zb), (Zo (Z3.mk 0 0 0 0 0 ([] : List Z8) ([] : List Z3)) .nl .nl)] er3 ?_
  refine zt [(Zi (Zk.mk zl r1.2 z7 zd zh (Zj.mk z2 z6)) zn zb), (Zo r3 .sh .sh)] ?_
  exact zr ((.p (.tup [(.agg (Zz r3 .sh .sh)), (.v (.bool true))])), [(Zi (Zk.mk zl r1.2 z7 zd zh (Zj.mk z2 z6)) zn zb), (Zo r3 .sh .sh)]) ⟨zb, _, zu, rfl⟩
 ·refine ze ?_
  refine zo (bv (r1.1 == 94)) ?_
  refine za ((r1.1 == 94)) ?_ ?_
  ·refine ze ?_
   refine zo (.p (.agg (Zz (Z3.mk 9 0 0 0 0 ([] : List Z8) ([] : List Z3)) .nl .nl))) ?_
   refine zt [(Zi (Zk.mk zl r1.2 z7 zd zh (Zj.mk z2 z6)) zn zb), (Zo (Z3.mk 9 0 0 0 0 ([] : List Z8) ([] : List Z3)) .nl .nl)] ?_
   exact zr ((.p (.tup [(.agg (Zz (Z3.mk 9 0 0 0 0 ([] : List Z8) ([] : List Z3)) .sh .sh)), (.v (.bool false))])), [(Zi (Zk.mk zl r1.2 z7 zd zh (Zj.mk z2 z6)) zn zb), (Zo (Z3.mk 9 0 0 0 0 ([] : List Z8) ([] : List Z3)) .nl .nl)]) ⟨zb, _, zu, rfl⟩
  ·refine ze ?_
   refine zo (bv (r1.1 == 36)) ?_
   refine za ((r1.1 == 36)) ?_ ?_
   ·refine ze ?_
    refine zo (.p (.agg (Zz (Z3.mk 9 0 0 0 1 ([] : List Z8) ([] : List Z3)) .nl .nl))) ?_
    refine zt [(Zi (Zk.mk zl r1.2 z7 zd zh (Zj.mk z2 z6)) zn zb), (Zo (Z3.mk 9 0 0 0 1 ([] : List Z8) ([] : List Z3)) .nl .nl)] ?_
    exact zr ((.p (.tup [(.agg (Zz (Z3.mk 9 0 0 0 1 ([] : List Z8) ([] : List Z3)) .sh .sh)), (.v (.bool false))])), [(Zi (Zk.mk zl r1.2 z7 zd zh (Zj.mk z2 z6)) zn zb), (Zo (Z3.mk 9 0 0 0 1 ([] : List Z8) ([] : List Z3)) .nl .nl)]) ⟨zb, _, zu, rfl⟩
   ·refine ze ?_
    refine zo (bv (r1.1 == 92)) ?_
    refine za ((r1.1 == 92)) ?_ ?_
    ·refine ze ?_
     refine zi fun r4 hr4 => ?_
     obtain ⟨qr4, er4, or4_0_4, exr4, hor4_0_4, rfl⟩ := Zb4 (zp) (zl) (r1.2) (z7) (zd) (zh) (z2) (z6) zn zb zu r4 hr4
     refine zc [0] (.p (.agg (Zz r4.1 .sh .sh))) [(Zi (Zk.mk zl r4.2.1 z7 zd r4.2.2.1 (Zj.mk r4.2.2.2.1 r4.2.2.2.2)) zn or4_0_4), (Zo (Z3.mk 0 0 0 0 0 ([] : List Z8) ([] : List Z3)) .nl .nl)] er4 ?_
     refine zz (.ptr 2 0) [(Zi (Zk.mk zl r4.2.1 z7 zd r4.2.2.1 (Zj.mk r4.2.2.2.1 r4.2.2.2.2)) zn or4_0_4), (Zo (Z3.mk 0 0 0 0 0 ([] : List Z8) ([] : List Z3)) .nl .nl), (Zo (Z3.mk 0 0 0 0 0 ([] : List Z8) ([] : List Z3)) .nl .nl)] ?_
     refine zt [(Zi (Zk.mk zl r4.2.1 z7 zd r4.2.2.1 (Zj.mk r4.2.2.2.1 r4.2.2.2.2)) zn or4_0_4), (Zo (Z3.mk 0 0 0 0 0 ([] : List Z8) ([] : List Z3)) .nl .nl), (Zo r4.1 .sh .sh)] ?_
     refine ze ?_
     refine zo (.p (.agg (Zz r4.1 .sh .sh))) ?_
     refine zo (.ptr 2 0) ?_
     refine zo (iv r4.1.Kind) ?_
     refine zo (bv (r4.1.Kind != 9)) ?_
     refine zt [(Zi (Zk.mk zl r4.2.1 z7 zd r4.2.2.1 (Zj.mk r4.2.2.2.1 r4.2.2.2.2)) zn or4_0_4), (Zo r4.1 .sh .sh), (Zo r4.1 .sh .sh)] ?_
     refine zg ?_
     exact zr ((.p (.tup [(.agg (Zz r4.1 .sh .sh)), (.v (.bool (r4.1.Kind != 9)))])), [(Zi (Zk.mk zl r4.2.1 z7 zd r4.2.2.1 (Zj.mk r4.2.2.2.1 r4.2.2.2.2)) zn or4_0_4), (Zo r4.1 .sh .sh), (Zo r4.1 .sh .sh)]) ⟨or4_0_4, _, hor4_0_4, rfl⟩
    ·refine ze ?_
     refine zo (bv (r1.1 == 91)) ?_
     refine za ((r1.1 == 91)) ?_ ?_
     ·refine ze ?_
      refine zi fun r5 hr5 => ?_
      obtain ⟨qr5, er5, exr5, rfl⟩ := Zbo (zp) (zl) (r1.2) (z7) (zd) (zh) (z2) (z6) zn zb zu r5 hr5
      refine zc [0] (.p (.agg (Zz r5.1 .sh .sh))) [(Zi (Zk.mk zl r5.2.1 z7 zd zh (Zj.mk r5.2.2.1 r5.2.2.2)) zn zb), (Zo (Z3.mk 0 0 0 0 0 ([] : List Z8) ([] : List Z3)) .nl .nl)] er5 ?_
      refine zt [(Zi (Zk.mk zl r5.2.1 z7 zd zh (Zj.mk r5.2.2.1 r5.2.2.2)) zn zb), (Zo r5.1 .sh .sh)] ?_
      exact zr ((.p (.tup [(.agg (Zz r5.1 .sh .sh)), (.v (.bool true))])), [(Zi (Zk.mk zl r5.2.1 z7 zd zh (Zj.mk r5.2.2.1 r5.2.2.2)) zn zb), (Zo r5.1 .sh .sh)]) ⟨zb, _, zu, rfl⟩
     ·refine ze ?_
      refine zo (bv (r1.1 == 40)) ?_
      refine za ((r1.1 == 40)) ?_ ?_
      ·refine ze ?_
       refine zi fun r6 hr6 => ?_
       obtain ⟨qr6, er6, or6_0_4, exr6, hor6_0_4, rfl⟩ := Zbn (zp) (zl) (r1.2) (z7) (zd) (zh) (z2) (z6) zn zb zu r6 hr6
       refine zc [0] (.p (.tup [(.agg (Zz r6.1 .sh .sh)), (.v (.bool r6.2.1))])) [(Zi (Zk.mk zl r6.2.2.1 r6.2.2.2.1 r6.2.2.2.2.1 r6.2.2.2.2.2.1 (Zj.mk r6.2.2.2.2.2.2.1 r6.2.2.2.2.2.2.2)) zn or6_0_4), (Zo (Z3.mk 0 0 0 0 0 ([] : List Z8) ([] : List Z3)) .nl .nl)] er6 ?_
       refine zo (.p (.agg (Zz r6.1 .sh .sh))) ?_
       refine zo (bv r6.2.1) ?_
       refine zt [(Zi (Zk.mk zl r6.2.2.1 r6.2.2.2.1 r6.2.2.2.2.1 r6.2.2.2.2.2.1 (Zj.mk r6.2.2.2.2.2.2.1 r6.2.2.2.2.2.2.2)) zn or6_0_4), (Zo r6.1 .sh .sh)] ?_
       exact zr ((.p (.tup [(.agg (Zz r6.1 .sh .sh)), (.v (.bool r6.2.1))])), [(Zi (Zk.mk zl r6.2.2.1 r6.2.2.2.1 r6.2.2.2.2.1 r6.2.2.2.2.2.1 (Zj.mk r6.2.2.2.2.2.2.1 r6.2.2.2.2.2.2.2)) zn or6_0_4), (Zo r6.1 .sh .sh)]) ⟨or6_0_4, _, hor6_0_4, rfl⟩
      ·refine ze ?_
       refine zo (bv (r1.1 == 42)) ?_
       refine za ((r1.1 == 42)) ?_ ?_
       ·refine za ((r1.1 == 42)) ?_ ?_
        ·refine ze ?_
         refine zi fun r7 hr7 => ?_
         obtain ⟨qr7, er7, exr7, rfl⟩ := ZV (23) (zp) (zl) (r1.2) (z7) (zd) (zh) (z2) (z6) zn zb zu r7 hr7
         refine zc [0] (.p (.tup [])) [(Zi (Zk.mk zl r7.1 z7 zd zh (Zj.mk r7.2.1 r7.2.2)) zn zb), (Zo (Z3.mk 0 0 0 0 0 ([] : List Z8) ([] : List Z3)) .nl .nl)] er7 ?_
         exact zk (Z1k (zl) (r7.1) (z7) (zd) (zh) (r7.2.1) (r7.2.2) ((Z3.mk 0 0 0 0 0 ([] : List Z8) ([] : List Z3))) zn zb .nl .nl zu rfl rfl)
        ·refine ze ?_
         refine zo (bv (r1.1 == 93)) ?_
         refine za ((r1.1 == 93)) ?_ ?_
         ·refine za ((r1.1 == 93)) ?_ ?_
          ·refine ze ?_
           refine zi fun r8 hr8 => ?_
           obtain ⟨qr8, er8, exr8, rfl⟩ := ZV (20) (zp) (zl) (r1.2) (z7) (zd) (zh) (z2) (z6) zn zb zu r8 hr8
           refine zc [0] (.p (.tup [])) [(Zi (Zk.mk zl r8.1 z7 zd zh (Zj.mk r8.2.1 r8.2.2)) zn zb), (Zo (Z3.mk 0 0 0 0 0 ([] : List Z8) ([] : List Z3)) .nl .nl)] er8 ?_
           exact zk (Z1k (zl) (r8.1) (z7) (zd) (zh) (r8.2.1) (r8.2.2) ((Z3.mk 0 0 0 0 0 ([] : List Z8) ([] : List Z3))) zn zb .nl .nl zu rfl rfl)
          ·refine ze ?_
           refine zi fun r9 hr9 => ?_
           obtain ⟨qr9, er9, exr9, rfl⟩ := Z1u (r1.1) r9 hr9
           refine zc [] (.p (.agg (ZE r9))) [(Zi (Zk.mk zl r1.2 z7 zd zh (Zj.mk z2 z6)) zn zb), (Zo (Z3.mk 0 0 0 0 0 ([] : List Z8) ([] : List Z3)) .nl .nl)] er9 ?_
           refine zo (.p (.lst .ex (([r9] : List Z8).map Zv))) ?_
           refine zi fun r10 hr10 => ?_
           obtain ⟨qr10, er10, exr10, rfl⟩ := Z2O (false) (([r9] : List Z8)) .sh r10 hr10
           refine zc [] (.p (.agg (Zz r10 .sh .sh))) [(Zi (Zk.mk zl r1.2 z7 zd zh (Zj.mk z2 z6)) zn zb), (Zo (Z3.mk 0 0 0 0 0 ([] : List Z8) ([] : List Z3)) .nl .nl)] er10 ?_
           refine zt [(Zi (Zk.mk zl r1.2 z7 zd zh (Zj.mk z2 z6)) zn zb), (Zo r10 .sh .sh)] ?_
           exact zr ((.p (.tup [(.agg (Zz r10 .sh .sh)), (.v (.bool true))])), [(Zi (Zk.mk zl r1.2 z7 zd zh (Zj.mk z2 z6)) zn zb), (Zo r10 .sh .sh)]) ⟨zb, _, zu, rfl⟩
         ·refine ze ?_
          refine zo (bv (r1.1 == 125)) ?_
          refine za ((r1.1 == 125)) ?_ ?_
          ·refine ze ?_
           refine zi fun r11 hr11 => ?_
           obtain ⟨qr11, er11, exr11, rfl⟩ := ZV (20) (zp) (zl) (r1.2) (z7) (zd) (zh) (z2) (z6) zn zb zu r11 hr11
           refine zc [0] (.p (.tup [])) [(Zi (Zk.mk zl r11.1 z7 zd zh (Zj.mk r11.2.1 r11.2.2)) zn zb), (Zo (Z3.mk 0 0 0 0 0 ([] : List Z8) ([] : List Z3)) .nl .nl)] er11 ?_
           exact zk (Z1k (zl) (r11.1) (z7) (zd) (zh) (r11.2.1) (r11.2.2) ((Z3.mk 0 0 0 0 0 ([] : List Z8) ([] : List Z3))) zn zb .nl .nl zu rfl rfl)
          ·refine ze ?_
           refine zi fun r12 hr12 => ?_
           obtain ⟨qr12, er12, exr12, rfl⟩ := Z1u (r1.1) r12 hr12
           refine zc [] (.p (.agg (ZE r12))) [(Zi (Zk.mk zl r1.2 z7 zd zh (Zj.mk z2 z6)) zn zb), (Zo (Z3.mk 0 0 0 0 0 ([] : List Z8) ([] : List Z3)) .nl .nl)] er12 ?_
           refine zo (.p (.lst .ex (([r12] : List Z8).map Zv))) ?_
           refine zi fun r13 hr13 => ?_
           obtain ⟨qr13, er13, exr13, rfl⟩ := Z2O (false) (([r12] : List Z8)) .sh r13 hr13
           refine zc [] (.p (.agg (Zz r13 .sh .sh))) [(Zi (Zk.mk zl r1.2 z7 zd zh (Zj.mk z2 z6)) zn zb), (Zo (Z3.mk 0 0 0 0 0 ([] : List Z8) ([] : List Z3)) .nl .nl)] er13 ?_
           refine zt [(Zi (Zk.mk zl r1.2 z7 zd zh (Zj.mk z2 z6)) zn zb), (Zo r13 .sh .sh)] ?_
           exact zr ((.p (.tup [(.agg (Zz r13 .sh .sh)), (.v (.bool true))])), [(Zi (Zk.mk zl r1.2 z7 zd zh (Zj.mk z2 z6)) zn zb), (Zo r13 .sh .sh)]) ⟨zb, _, zu, rfl⟩
       ·refine ze ?_
        refine zo (bv (r1.1 == 43)) ?_
        refine za ((r1.1 == 43)) ?_ ?_
        ·refine za ((r1.1 == 43)) ?_ ?_
         ·refine ze ?_
          refine zi fun r14 hr14 => ?_
          obtain ⟨qr14, er14, exr14, rfl⟩ := ZV (23) (zp) (zl) (r1.2) (z7) (zd) (zh) (z2) (z6) zn zb zu r14 hr14
          refine zc [0] (.p (.tup [])) [(Zi (Zk.mk zl r14.1 z7 zd zh (Zj.mk r14.2.1 r14.2.2)) zn zb), (Zo (Z3.mk 0 0 0 0 0 ([] : List Z8) ([] : List Z3)) .nl .nl)] er14 ?_
          exact zk (Z1k (zl) (r14.1) (z7) (zd) (zh) (r14.2.1) (r14.2.2) ((Z3.mk 0 0 0 0 0 ([] : List Z8) ([] : List Z3))) zn zb .nl .nl zu rfl rfl)
         ·refine ze ?_
          refine zo (bv (r1.1 == 93)) ?_
          refine za ((r1.1 == 93)) ?_ ?_
          ·refine za ((r1.1 == 93)) ?_ ?_
           ·refine ze ?_
            refine zi fun r15 hr15 => ?_
            obtain ⟨qr15, er15, exr15, rfl⟩ := ZV (20) (zp) (zl) (r1.2) (z7) (zd) (zh) (z2) (z6) zn zb zu r15 hr15
            refine zc [0] (.p (.tup [])) [(Zi (Zk.mk zl r15.1 z7 zd zh (Zj.mk r15.2.1 r15.2.2)) zn zb), (Zo (Z3.mk 0 0 0 0 0 ([] : List Z8) ([] : List Z3)) .nl .nl)] er15 ?_
            exact zk (Z1k (zl) (r15.1) (z7) (zd) (zh) (r15.2.1) (r15.2.2) ((Z3.mk 0 0 0 0 0 ([] : List Z8) ([] : List Z3))) zn zb .nl .nl zu rfl rfl)
           ·refine ze ?_
            refine zi fun r16 hr16 => ?_
            obtain ⟨qr16, er16, exr16, rfl⟩ := Z1u (r1.1) r16 hr16
            refine zc [] (.p (.agg (ZE r16))) [(Zi (Zk.mk zl r1.2 z7 zd zh (Zj.mk z2 z6)) zn zb), (Zo (Z3.mk 0 0 0 0 0 ([] : List Z8) ([] : List Z3)) .nl .nl)] er16 ?_
            refine zo (.p (.lst .ex (([r16] : List Z8).map Zv))) ?_
            refine zi fun r17 hr17 => ?_
            obtain ⟨qr17, er17, exr17, rfl⟩ := Z2O (false) (([r16] : List Z8)) .sh r17 hr17
            refine zc [] (.p (.agg (Zz r17 .sh .sh))) [(Zi (Zk.mk zl r1.2 z7 zd zh (Zj.mk z2 z6)) zn zb), (Zo (Z3.mk 0 0 0 0 0 ([] : List Z8) ([] : List Z3)) .nl .nl)] er17 ?_
            refine zt [(Zi (Zk.mk zl r1.2 z7 zd zh (Zj.mk z2 z6)) zn zb), (Zo r17 .sh .sh)] ?_
            exact zr ((.p (.tup [(.agg (Zz r17 .sh .sh)), (.v (.bool true))])), [(Zi (Zk.mk zl r1.2 z7 zd zh (Zj.mk z2 z6)) zn zb), (Zo r17 .sh .sh)]) ⟨zb, _, zu, rfl⟩
          ·refine ze ?_
           refine zo (bv (r1.1 == 125)) ?_
           refine za ((r1.1 == 125)) ?_ ?_
           ·refine ze ?_
            refine zi fun r18 hr18 => ?_
            obtain ⟨qr18, er18, exr18, rfl⟩ := ZV (20) (zp) (zl) (r1.2) (z7) (zd) (zh) (z2) (z6) zn zb zu r18 hr18
            refine zc [0] (.p (.tup [])) [(Zi (Zk.mk zl r18.1 z7 zd zh (Zj.mk r18.2.1 r18.2.2)) zn zb), (Zo (Z3.mk 0 0 0 0 0 ([] : List Z8) ([] : List Z3)) .nl .nl)] er18 ?_
            exact zk (Z1k (zl) (r18.1) (z7) (zd) (zh) (r18.2.1) (r18.2.2) ((Z3.mk 0 0 0 0 0 ([] : List Z8) ([] : List Z3))) zn zb .nl .nl zu rfl rfl)
           ·refine ze ?_
            refine zi fun r19 hr19 => ?_
            obtain ⟨qr19, er19, exr19, rfl⟩ := Z1u (r1.1) r19 hr19
            refine zc [] (.p (.agg (ZE r19))) [(Zi (Zk.mk zl r1.2 z7 zd zh (Zj.mk z2 z6)) zn zb), (Zo (Z3.mk 0 0 0 0 0 ([] : List Z8) ([] : List Z3)) .nl .nl)] er19 ?_
            refine zo (.p (.lst .ex (([r19] : List Z8).map Zv))) ?_
            refine zi fun r20 hr20 => ?_
            obtain ⟨qr20, er20, exr20, rfl⟩ := Z2O (false) (([r19] : List Z8)) .sh r20 hr20
            refine zc [] (.p (.agg (Zz r20 .sh .sh))) [(Zi (Zk.mk zl r1.2 z7 zd zh (Zj.mk z2 z6)) zn zb), (Zo (Z3.mk 0 0 0 0 0 ([] : List Z8) ([] : List Z3)) .nl .nl)] er20 ?_
            refine zt [(Zi (Zk.mk zl r1.2 z7 zd zh (Zj.mk z2 z6)) zn zb), (Zo r20 .sh .sh)] ?_
            exact zr ((.p (.tup [(.agg (Zz r20 .sh .sh)), (.v (.bool true))])), [(Zi (Zk.mk zl r1.2 z7 zd zh (Zj.mk z2 z6)) zn zb), (Zo r20 .sh .sh)]) ⟨zb, _, zu, rfl⟩
        ·refine ze ?_
         refine zo (bv (r1.1 == 63)) ?_
         refine za ((r1.1 == 63)) ?_ ?_
         ·refine za ((r1.1 == 63)) ?_ ?_
          ·refine ze ?_
           refine zi fun r21 hr21 => ?_
           obtain ⟨qr21, er21, exr21, rfl⟩ := ZV (23) (zp) (zl) (r1.2) (z7) (zd) (zh) (z2) (z6) zn zb zu r21 hr21
           refine zc [0] (.p (.tup [])) [(Zi (Zk.mk zl r21.1 z7 zd zh (Zj.mk r21.2.1 r21.2.2)) zn zb), (Zo (Z3.mk 0 0 0 0 0 ([] : List Z8) ([] : List Z3)) .nl .nl)] er21 ?_
           exact zk (Z1k (zl) (r21.1) (z7) (zd) (zh) (r21.2.1) (r21.2.2) ((Z3.mk 0 0 0 0 0 ([] : List Z8) ([] : List Z3))) zn zb .nl .nl zu rfl rfl)
          ·refine ze ?_
           refine zo (bv (r1.1 == 93)) ?_
           refine za ((r1.1 == 93)) ?_ ?_
           ·refine za ((r1.1 == 93)) ?_ ?_
            ·refine ze ?_
             refine zi fun r22 hr22 => ?_
             obtain ⟨qr22, er22, exr22, rfl⟩ := ZV (20) (zp) (zl) (r1.2) (z7) (zd) (zh) (z2) (z6) zn zb zu r22 hr22
             refine zc [0] (.p (.tup [])) [(Zi (Zk.mk zl r22.1 z7 zd zh (Zj.mk r22.2.1 r22.2.2)) zn zb), (Zo (Z3.mk 0 0 0 0 0 ([] : List Z8) ([] : List Z3)) .nl .nl)] er22 ?_
             exact zk (Z1k (zl) (r22.1) (z7) (zd) (zh) (r22.2.1) (r22.2.2) ((Z3.mk 0 0 0 0 0 ([] : List Z8) ([] : List Z3))) zn zb .nl .nl zu rfl rfl)
            ·refine ze ?_
             refine zi fun r23 hr23 => ?_
             obtain ⟨qr23, er23, exr23, rfl⟩ := Z1u (r1.1) r23 hr23
             refine zc [] (.p (.agg (ZE r23))) [(Zi (Zk.mk zl r1.2 z7 zd zh (Zj.mk z2 z6)) zn zb), (Zo (Z3.mk 0 0 0 0 0 ([] : List Z8) ([] : List Z3)) .nl .nl)] er23 ?_
             refine zo (.p (.lst .ex (([r23] : List Z8).map Zv))) ?_
             refine zi fun r24 hr24 => ?_
             obtain ⟨qr24, er24, exr24, rfl⟩ := Z2O (false) (([r23] : List Z8)) .sh r24 hr24
             refine zc [] (.p (.agg (Zz r24 .sh .sh))) [(Zi (Zk.mk zl r1.2 z7 zd zh (Zj.mk z2 z6)) zn zb), (Zo (Z3.mk 0 0 0 0 0 ([] : List Z8) ([] : List Z3)) .nl .nl)] er24 ?_
             refine zt [(Zi (Zk.mk zl r1.2 z7 zd zh (Zj.mk z2 z6)) zn zb), (Zo r24 .sh .sh)] ?_
             exact zr ((.p (.tup [(.agg (Zz r24 .sh .sh)), (.v (.bool true))])), [(Zi (Zk.mk zl r1.2 z7 zd zh (Zj.mk z2 z6)) zn zb), (Zo r24 .sh .sh)]) ⟨zb, _, zu, rfl⟩
           ·refine ze ?_
            refine zo (bv (r1.1 == 125)) ?_
            refine za ((r1.1 == 125)) ?_ ?_
            ·refine ze ?_
             refine zi fun r25 hr25 => ?_
             obtain ⟨qr25, er25, exr25, rfl⟩ := ZV (20) (zp) (zl) (r1.2) (z7) (zd) (zh) (z2) (z6) zn zb zu r25 hr25
             refine zc [0] (.p (.tup [])) [(Zi (Zk.mk zl r25.1 z7 zd zh (Zj.mk r25.2.1 r25.2.2)) zn zb), (Zo (Z3.mk 0 0 0 0 0 ([] : List Z8) ([] : List Z3)) .nl .nl)] er25 ?_
             exact zk (Z1k (zl) (r25.1) (z7) (zd) (zh) (r25.2.1) (r25.2.2) ((Z3.mk 0 0 0 0 0 ([] : List Z8) ([] : List Z3))) zn zb .nl .nl zu rfl rfl)
            ·refine ze ?_
             refine zi fun r26 hr26 => ?_
             obtain ⟨qr26, er26, exr26, rfl⟩ := Z1u (r1.1) r26 hr26
             refine zc [] (.p (.agg (ZE r26))) [(Zi (Zk.mk zl r1.2 z7 zd zh (Zj.mk z2 z6)) zn zb), (Zo (Z3.mk 0 0 0 0 0 ([] : List Z8) ([] : List Z3)) .nl .nl)] er26 ?_
             refine zo (.p (.lst .ex (([r26] : List Z8).map Zv))) ?_
             refine zi fun r27 hr27 => ?_
             obtain ⟨qr27, er27, exr27, rfl⟩ := Z2O (false) (([r26] : List Z8)) .sh r27 hr27
             refine zc [] (.p (.agg (Zz r27 .sh .sh))) [(Zi (Zk.mk zl r1.2 z7 zd zh (Zj.mk z2 z6)) zn zb), (Zo (Z3.mk 0 0 0 0 0 ([] : List Z8) ([] : List Z3)) .nl .nl)] er27 ?_
             refine zt [(Zi (Zk.mk zl r1.2 z7 zd zh (Zj.mk z2 z6)) zn zb), (Zo r27 .sh .sh)] ?_
             exact zr ((.p (.tup [(.agg (Zz r27 .sh .sh)), (.v (.bool true))])), [(Zi (Zk.mk zl r1.2 z7 zd zh (Zj.mk z2 z6)) zn zb), (Zo r27 .sh .sh)]) ⟨zb, _, zu, rfl⟩
         ·refine ze ?_
          refine zo (bv (r1.1 == 123)) ?_
          refine za ((r1.1 == 123)) ?_ ?_
          ·refine ze ?_
           refine zi fun r28 hr28 => ?_
           obtain ⟨qr28, er28, exr28, rfl⟩ := ZV (23) (zp) (zl) (r1.2) (z7) (zd) (zh) (z2) (z6) zn zb zu r28 hr28
           refine zc [0] (.p (.tup [])) [(Zi (Zk.mk zl r28.1 z7 zd zh (Zj.mk r28.2.1 r28.2.2)) zn zb), (Zo (Z3.mk 0 0 0 0 0 ([] : List Z8) ([] : List Z3)) .nl .nl)] er28 ?_
           exact zk (Z1k (zl) (r28.1) (z7) (zd) (zh) (r28.2.1) (r28.2.2) ((Z3.mk 0 0 0 0 0 ([] : List Z8) ([] : List Z3))) zn zb .nl .nl zu rfl rfl)
          ·refine ze ?_
           refine zo (bv (r1.1 == 93)) ?_
           refine za ((r1.1 == 93)) ?_ ?_
           ·refine za ((r1.1 == 93)) ?_ ?_
            ·refine ze ?_
             refine zi fun r29 hr29 => ?_
             obtain ⟨qr29, er29, exr29, rfl⟩ := ZV (20) (zp) (zl) (r1.2) (z7) (zd) (zh) (z2) (z6) zn zb zu r29 hr29
             refine zc [0] (.p (.tup [])) [(Zi (Zk.mk zl r29.1 z7 zd zh (Zj.mk r29.2.1 r29.2.2)) zn zb), (Zo (Z3.mk 0 0 0 0 0 ([] : List Z8) ([] : List Z3)) .nl .nl)] er29 ?_
             exact zk (Z1k (zl) (r29.1) (z7) (zd) (zh) (r29.2.1) (r29.2.2) ((Z3.mk 0 0 0 0 0 ([] : List Z8) ([] : List Z3))) zn zb .nl .nl zu rfl rfl)
            ·refine ze ?_
             refine zi fun r30 hr30 => ?_
             obtain ⟨qr30, er30, exr30, rfl⟩ := Z1u (r1.1) r30 hr30
             refine zc [] (.p (.agg (ZE r30))) [(Zi (Zk.mk zl r1.2 z7 zd zh (Zj.mk z2 z6)) zn zb), (Zo (Z3.mk 0 0 0 0 0 ([] : List Z8) ([] : List Z3)) .nl .nl)] er30 ?_
             refine zo (.p (.lst .ex (([r30] : List Z8).map Zv))) ?_
             refine zi fun r31 hr31 => ?_
             obtain ⟨qr31, er31, exr31, rfl⟩ := Z2O (false) (([r30] : List Z8)) .sh r31 hr31
             refine zc [] (.p (.agg (Zz r31 .sh .sh))) [(Zi (Zk.mk zl r1.2 z7 zd zh (Zj.mk z2 z6)) zn zb), (Zo (Z3.mk 0 0 0 0 0 ([] : List Z8) ([] : List Z3)) .nl .nl)] er31 ?_
             refine zt [(Zi (Zk.mk zl r1.2 z7 zd zh (Zj.mk z2 z6)) zn zb), (Zo r31 .sh .sh)] ?_
             exact zr ((.p (.tup [(.agg (Zz r31 .sh .sh)), (.v (.bool true))])), [(Zi (Zk.mk zl r1.2 z7 zd zh (Zj.mk z2 z6)) zn zb), (Zo r31 .sh .sh)]) ⟨zb, _, zu, rfl⟩
           ·refine ze ?_
            refine zo (bv (r1.1 == 125)) ?_
            refine za ((r1.1 == 125)) ?_ ?_
            ·refine ze ?_
             refine zi fun r32 hr32 => ?_
             obtain ⟨qr32, er32, exr32, rfl⟩ := ZV (20) (zp) (zl) (r1.2) (z7) (zd) (zh) (z2) (z6) zn zb zu r32 hr32
             refine zc [0] (.p (.tup [])) [(Zi (Zk.mk zl r32.1 z7 zd zh (Zj.mk r32.2.1 r32.2.2)) zn zb), (Zo (Z3.mk 0 0 0 0 0 ([] : List Z8) ([] : List Z3)) .nl .nl)] er32 ?_
             exact zk (Z1k (zl) (r32.1) (z7) (zd) (zh) (r32.2.1) (r32.2.2) ((Z3.mk 0 0 0 0 0 ([] : List Z8) ([] : List Z3))) zn zb .nl .nl zu rfl rfl)
            ·refine ze ?_
             refine zi fun r33 hr33 => ?_
             obtain ⟨qr33, er33, exr33, rfl⟩ := Z1u (r1.1) r33 hr33
             refine zc [] (.p (.agg (ZE r33))) [(Zi (Zk.mk zl r1.2 z7 zd zh (Zj.mk z2 z6)) zn zb), (Zo (Z3.mk 0 0 0 0 0 ([] : List Z8) ([] : List Z3)) .nl .nl)] er33 ?_
             refine zo (.p (.lst .ex (([r33] : List Z8).map Zv))) ?_
             refine zi fun r34 hr34 => ?_
             obtain ⟨qr34, er34, exr34, rfl⟩ := Z2O (false) (([r33] : List Z8)) .sh r34 hr34
             refine zc [] (.p (.agg (Zz r34 .sh .sh))) [(Zi (Zk.mk zl r1.2 z7 zd zh (Zj.mk z2 z6)) zn zb), (Zo (Z3.mk 0 0 0 0 0 ([] : List Z8) ([] : List Z3)) .nl .nl)] er34 ?_
             refine zt [(Zi (Zk.mk zl r1.2 z7 zd zh (Zj.mk z2 z6)) zn zb), (Zo r34 .sh .sh)] ?_
             exact zr ((.p (.tup [(.agg (Zz r34 .sh .sh)), (.v (.bool true))])), [(Zi (Zk.mk zl r1.2 z7 zd zh (Zj.mk z2 z6)) zn zb), (Zo r34 .sh .sh)]) ⟨zb, _, zu, rfl⟩
theorem ZbA (zl : List Int) (zp : Int) (z7 : Int) (zd : Int) (zh : List Zq) (z2 : Int) (z6 : Int) {r} (h : Z52 zl zp z7 zd zh z2 z6 = some r) : Z64 zl zp z7 zd zh z2 z6 = some r :=
 pick_of (fun _ _ ha hb => RRun.uniq (Zcf _ _) (ha .ex .ex rfl) (hb .ex .ex rfl)) (fun zn zb zu => Zba zl zp z7 zd zh z2 z6 zn zb zu r h)
noncomputable def Z66 (zl : List Int) (zp : Int) : Option (Int × Int) :=
 (Z8y zl zp).bind fun r1 =>
 some (r1.1, (IntKind.i64.wrap (zp + r1.2)))
theorem Zb9 (zl : List Int) (zp : Int) (z7 : Int) (zd : Int) (zh : List Zq) (z2 : Int) (z6 : Int) (zn : Own) (zb : Own) (zu : okApp zb = true) : Sim (Z54 zl z7 zd zh z2 z6 zn zb) (Z66 zl zp) (EE 46 [(.ptr 0 0)] [(Zi (Zk.mk zl zp z7 zd zh (Zj.mk z2 z6)) zn zb)]) := by
 unfold Z66
 refine zf (Zkn ..) ?_
 refine ze ?_
 refine ze ?_
 refine zo (.ptr 0 0) ?_
 refine zo (.ptr 0 0) ?_
 refine zo (.p (.lst (shrO zn) (zl.map (eI .u8)))) ?_
 refine zo (.ptr 0 0) ?_
 refine zo (.ptr 0 1) ?_
 refine zo (iv zp) ?_
 refine zi fun r1 hr1 => ?_
 obtain ⟨qr1, er1, exr1, rfl⟩ := Zc3 (zl) (zp) .sh r1 hr1
 refine zc [] (.p (.tup [(.v (.int .i64 r1.1)), (.v (.int .i64 r1.2))])) [(Zi (Zk.mk zl zp z7 zd zh (Zj.mk z2 z6)) zn zb)] er1 ?_
 refine zo (iv r1.1) ?_
 refine zo (iv r1.2) ?_
 refine ze ?_
 refine zo (.ptr 0 0) ?_
 refine zo (.ptr 0 1) ?_
 refine zo (iv zp) ?_
 refine zo (iv (IntKind.i64.wrap (zp + r1.2))) ?_
 refine zo (.ptr 0 0) ?_
 refine zo (.ptr 0 1) ?_
 refine zt [(Zi (Zk.mk zl (IntKind.i64.wrap (zp + r1.2)) z7 zd zh (Zj.mk z2 z6)) zn zb)] ?_
 refine ze ?_
 exact zr ((iv r1.1), [(Zi (Zk.mk zl (IntKind.i64.wrap (zp + r1.2)) z7 zd zh (Zj.mk z2 z6)) zn zb)]) ⟨_, rfl⟩
theorem ZbG (zl : List Int) (zp : Int) {r} (h : Z66 zl zp = some r) : Z24 zl zp = some r :=
 pick_of (fun _ _ ha hb => RRun.uniq (Zc0 _ _ _ _ _ _ _ _) (ha default default default default default .ex .ex rfl) (hb default default default default default .ex .ex rfl)) (fun z7 zd zh z2 z6 zn zb zu => Zb9 zl zp z7 zd zh z2 z6 zn zb zu r h)
noncomputable def Zbz (x0 : Int) : Option (Z8) :=
 some ((Z8.mk x0 x0))
theorem Zem (x0 : Int) : Sim (Z8A) (Zbz x0) (EE 48 [(iv x0)] []) := by
 unfold Zbz
 refine zf (ZkT ..) ?_
 refine ze ?_
 refine zz (.ptr 0 0) [(Z1B (Z8.mk 0 0))] ?_
 refine ze ?_
 refine zo (.p (.agg (ZE (Z8.mk x0 x0)))) ?_
 refine zt [(Z1B (Z8.mk x0 x0))] ?_
 exact zr ((.p (.agg (ZE (Z8.mk x0 x0)))), [(Z1B (Z8.mk x0 x0))]) ⟨_, rfl⟩
theorem ZeF (x0 : Int) {r} (h : Zbz x0 = some r) : Z1A x0 = some r :=
 pick_of (fun _ _ ha hb => RRun.uniq (Zff) (ha ) (hb )) (Zem x0 r h)
noncomputable def Z7Q (x5 : List Z8) : Option (Z3) :=
 some ((Z3.mk 1 0 0 0 0 x5 ([] : List Z3)))
theorem Zad (x5 : List Z8) (b0 : Z3) (ox5 : Own) (z1e : Own) (z12 : Own) (zju : okApp z1e = true) (zjl : okApp z12 = true) : Sim (Z7c) (Z7Q x5) (Zeb 0 (.ptr 0 0) (.p (.lst ox5 (x5.map Zv))) [(Zo b0 z1e z12)]) := by
 unfold Z7Q
 refine zf (Zis ..) ?_
 refine ze ?_
 refine zo (.p (.agg (Zz (Z3.mk 1 0 0 0 0 x5 ([] : List Z3)) (shrO (shrO ox5)) .nl))) ?_
 refine zt [(Zo (Z3.mk 1 0 0 0 0 x5 ([] : List Z3)) (shrO (shrO ox5)) .nl)] ?_
 exact zr ((.p (.agg (Zz (Z3.mk 1 0 0 0 0 x5 ([] : List Z3)) .sh .sh))), [(Zo (Z3.mk 1 0 0 0 0 x5 ([] : List Z3)) (shrO (shrO ox5)) .nl)]) ⟨_, rfl⟩
noncomputable def Z9V (x0 : Bool) (x1 : List Z8) : Option (Z3) :=
 (Z9s x1).bind fun r1 =>
 if (x0) = true then
 ((Z6p r1.1).bind fun r2 =>
 Z7Q r2.1)
 else
 (Z7Q r1.1)
theorem Ze8 (x0 : Bool) (x1 : List Z8) (ox1 : Own) : Sim (Z7c) (Z9V x0 x1) (EE 47 [(bv x0), (.p (.lst ox1 (x1.map Zv)))] []) := by
 unfold Z9V
 refine zf (Zkf ..) ?_
 refine ze ?_
 refine zz (.ptr 0 0) [(Zo (Z3.mk 0 0 0 0 0 ([] : List Z8) ([] : List Z3)) .nl .nl)] ?_
 refine ze ?_
 refine zi fun r1 hr1 => ?_
 obtain ⟨qr1, er1, exr1, rfl⟩ := Ze1 (x1) .sh r1 hr1
 refine zc [] (.p (.tup [(.lst .sh (r1.1.map Zv)), (.v (.int .i64 r1.2))])) [(Zo (Z3.mk 0 0 0 0 0 ([] : List Z8) ([] : List Z3)) .nl .nl)] er1 ?_
 refine zo (.p (.lst .sh (r1.1.map Zv))) ?_
 refine zo (iv r1.2) ?_
 refine ze ?_
 refine za (x0) ?_ ?_
 ·refine ze ?_
  refine zi fun r2 hr2 => ?_
  obtain ⟨qr2, er2, exr2, rfl⟩ := Za8 (r1.1) .sh r2 hr2
  refine zc [] (.p (.tup [(.lst .sh (r2.1.map Zv)), (.v (.int .i64 r2.2))])) [(Zo (Z3.mk 0 0 0 0 0 ([] : List Z8) ([] : List Z3)) .nl .nl)] er2 ?_
  refine zo (.p (.lst .sh (r2.1.map Zv))) ?_
  refine zo (iv r2.2) ?_
  exact zk (Zad (r2.1) ((Z3.mk 0 0 0 0 0 ([] : List Z8) ([] : List Z3))) .sh .nl .nl rfl rfl)
 ·exact zk (Zad (r1.1) ((Z3.mk 0 0 0 0 0 ([] : List Z8) ([] : List Z3))) .sh .nl .nl rfl rfl)
theorem ZeP (x0 : Bool) (x1 : List Z8) {r} (h : Z9V x0 x1 = some r) : Z2F x0 x1 = some r :=
 pick_of (fun _ _ ha hb => RRun.uniq (Zfc) (ha .ex) (hb .ex)) (fun ox1 => Ze8 x0 x1 ox1 r h)
noncomputable def Z7e (x0 : List Z8) : Option ((List Z8) × Int) :=
 (Z84 x0).bind fun r1 =>
 some (r1, 0)
theorem ZcR (x0 : List Z8) (ox0 : Own) : Sim (Z6P) (Z7e x0) (Zfm 0 (.p (.lst ox0 (x0.map Zv))) []) := by
 unfold Z7e
 refine zf (Zik ..) ?_
 refine ze ?_
 refine zi fun r1 hr1 => ?_
 obtain ⟨qr1, er1, exr1, rfl⟩ := Zan (x0) .sh r1 hr1
 refine zc [] (.p (.lst .sh (r1.map Zv))) [] er1 ?_
 exact zr ((.p (.tup [(.lst .sh (r1.map Zv)), (.v (.int .i64 0))])), []) ⟨_, rfl⟩
noncomputable def Z9j (x0 : List Z8) : Option ((List Z8) × Int) :=
 (Z3g x0).bind fun r1 =>
 if (r1) = true then
 (some (([] : List Z8), 13))
 else
 (Z7e x0)
theorem ZdT (x0 : List Z8) (ox0 : Own) : Sim (Z6P) (Z9j x0) (EE 54 [(.p (.lst ox0 (x0.map Zv)))] []) := by
 unfold Z9j
 refine zf (Zl6 ..) ?_
 refine ze ?_
 refine ze ?_
 refine zi fun r1 hr1 => ?_
 obtain ⟨qr1, er1, exr1, rfl⟩ := Z8f (x0) .sh r1 hr1
 refine zc [] (bv r1) [] er1 ?_
 refine za (r1) ?_ ?_
 ·refine ze ?_
  exact zr ((.p (.tup [(.lst .sh []), (.v (.int .i64 13))])), []) ⟨_, rfl⟩
 ·exact zk (ZcR (x0) ox0)
theorem Ze2 (x0 : List Z8) {r} (h : Z9j x0 = some r) : Z9s x0 = some r :=
 pick_of (fun _ _ ha hb => RRun.uniq (ZeJ) (ha .ex) (hb .ex)) (fun ox0 => ZdT x0 ox0 r h)
noncomputable def Z3h (x0 : List Z8) : Option (Bool) :=
 (Z43 x0).bind fun r1 =>
 some ((decide (0 ≤ r1)))
theorem Z88 (x0 : List Z8) (ox0 : Own) : Sim (Z2M) (Z3h x0) (EE 65 [(.p (.lst ox0 (x0.map Zv))), (.clo 66 [] [])] []) := by
 unfold Z3h
 refine zf (Zk7 ..) ?_
 refine ze ?_
 refine ze ?_
 refine zi fun r1 hr1 => ?_
 obtain ⟨qr1, er1, exr1, rfl⟩ := Z9e (x0) .sh r1 hr1
 refine zc [] (iv r1) [] er1 ?_
 refine zo (bv (decide (0 ≤ r1))) ?_
 exact zr ((bv (decide (0 ≤ r1))), []) ⟨_, rfl⟩
theorem Z8m (x0 : List Z8) {r} (h : Z3h x0 = some r) : Z3g x0 = some r :=
 pick_of (fun _ _ ha hb => RRun.uniq (Z8n) (ha .ex) (hb .ex)) (fun ox0 => Z88 x0 ox0 r h)
noncomputable def Z3V (x0 : List Z8) : Option (Int) :=
 Z2K x0 ((x0.length : Int)) 0
theorem Z8N (x0 : List Z8) (ox0 : Own) : Sim (Z1q) (Z3V x0) (EE 73 [(.p (.lst ox0 (x0.map Zv))), (.clo 66 [] [])] []) := by
 unfold Z3V
 refine zf (Zkk ..) ?_
 refine ze ?_
 refine ze ?_
 refine zo (iv (x0.length : Int)) ?_ (Eq.trans (by kernel_rfl) (xlen_of (P := PP) (t := 23) (d := 39) (by kernel_rfl) Zv (shrO ox0) x0))
 exact zk (Z5H (x0) ((x0.length : Int)) (0) ox0)
theorem Z9f (x0 : List Z8) {r} (h : Z3V x0 = some r) : Z43 x0 = some r :=
 pick_of (fun _ _ ha hb => RRun.uniq (Z6j) (ha .ex) (hb .ex)) (fun ox0 => Z8N x0 ox0 r h)
noncomputable def Z3j (x0 : List Z8) (x7 : Int) (x8 : Int) : Option (Int) :=
 Z2K x0 x7 ((IntKind.i64.wrap (x8 + 1)))
theorem Z7S (x0 : List Z8) (x7 : Int) (x8 : Int) (ox0 : Own) : Sim (Z1q) (Z3j x0 x7 x8) (ZfC 0 (.p (.lst ox0 (x0.map Zv))) (.clo 66 [] []) (iv x7) (iv x8) []) := by
 unfold Z3j
 refine zf (ZiF ..) ?_
 refine ze ?_
 refine zo (iv (IntKind.i64.wrap (x8 + 1))) ?_
 exact zk (Z5H (x0) (x7) ((IntKind.i64.wrap (x8 + 1))) ox0)
noncomputable def Z3m (x0 : List Z8) (x7 : Int) (x8 : Int) : Option (Int) :=
 (lget x0 x8).bind fun a1 =>
 (Z80 a1).bind fun r2 =>
 if (r2) = true then
 (some (x8))
 else
 (Z3j x0 x7 x8)
theorem Z7V (x0 : List Z8) (x7 : Int) (x8 : Int) (ox0 : Own) : Sim (Z1q) (Z3m x0 x7 x8) (Zgy 0 (.p (.lst ox0 (x0.map Zv))) (.clo 66 [] []) (iv x7) (iv x8) []) := by
 unfold Z3m
 refine zf (ZhZ ..) ?_
 refine ze ?_
 refine ze ?_
 refine zi fun a1 ha1 => ?_
 refine zo (.cptr (ZE a1)) ?_ (Eq.trans (by kernel_rfl) (xidx_of (o := (shrO ox0)) (k := .i64) (n := 2) (e := Zv) (cs := Z5d) (fun _ => rfl) (fun _ => rfl) (by decide) ha1))
 refine zo (.p (.agg (ZE a1))) ?_
 refine zi fun r2 hr2 => ?_
 obtain ⟨qr2, er2, exr2, rfl⟩ := ZdD (a1) r2 hr2
 refine zv [] (bv r2) [] er2 ?_
 refine za (r2) ?_ ?_
 ·refine ze ?_
  exact zr ((iv x8), []) ⟨_, rfl⟩
 ·exact zk (Z7S (x0) (x7) (x8) ox0)
noncomputable def Z4J  : Option (Int) :=
 some ((-1))
theorem Z83  : Sim (Z1q) (Z4J) (ZgD 0  []) := by
 unfold Z4J
 refine zf (ZhS ..) ?_
 refine ze ?_
 exact zr ((iv (-1)), []) ⟨_, rfl⟩
noncomputable def Z2I (x0 : List Z8) (x7 : Int) (x8 : Int) : Option (Int) :=
 if ((decide (x8 < x7))) = true then
 (Z3m x0 x7 x8)
 else
 (Z4J)
theorem Z7N (x0 : List Z8) (x7 : Int) (x8 : Int) (ox0 : Own) : Sim (Z1q) (Z2I x0 x7 x8) (Zcl 0 (.p (.lst ox0 (x0.map Zv))) (.clo 66 [] []) (iv x7) (iv x8) []) := by
 unfold Z2I
 refine zf (ZiE ..) ?_
 refine ze ?_
 refine zo (bv (decide (x8 < x7))) ?_
 refine za ((decide (x8 < x7))) ?_ ?_
 ·exact zk (Z7V (x0) (x7) (x8) ox0)
 ·exact zk (Z83 )
theorem Z5J (x0 : List Z8) (x7 : Int) (x8 : Int) {r} (h : Z2I x0 x7 x8 = some r) : Z2K x0 x7 x8 = some r :=
 pick_of (fun _ _ ha hb => RRun.uniq (Z6j) (ha .ex) (hb .ex)) (fun ox0 => Z7N x0 x7 x8 ox0 r h)
noncomputable def Z7L (x0 : Z8) : Option (Bool) :=
 (Z56 x0).bind fun r1 =>
 some ((!r1))
theorem Zdj (x0 : Z8) : Sim (Z6Q) (Z7L x0) (EE 66 [(.p (.agg (ZE x0)))] []) := by
 unfold Z7L
 refine zf (Zld ..) ?_
 refine ze ?_
 refine zx (.ptr 0 0) [(Z1B x0)] ?_
 refine ze ?_
 refine zo (.p (.agg (ZE x0))) ?_
 refine zi fun r1 hr1 => ?_
 obtain ⟨qr1, er1, exr1, rfl⟩ := Z8D (x0) r1 hr1
 refine zc [] (bv r1) [(Z1B x0)] er1 ?_
 refine zo (bv (!r1)) ?_
 exact zr ((bv (!r1)), [(Z1B x0)]) ⟨_, rfl⟩
theorem ZdK (x0 : Z8) {r} (h : Z7L x0 = some r) : Z80 x0 = some r :=
 pick_of (fun _ _ ha hb => RRun.uniq (ZdN) (ha ) (hb )) (Zdj x0 r h)
noncomputable def Z62 (x0 : Z8) : Option (Bool) :=
 if ((decide (0 ≤ x0.Lo))) = true then
 (if ((decide (x0.Lo ≤ x0.Hi))) = true then
 (some ((decide (x0.Hi ≤ 1114367))))
 else
 (some (false)))
 else
 (some (false))
theorem Zbg (x0 : Z8) : Sim (Z53) (Z62 x0) (EE 67 [(.p (.agg (ZE x0)))] []) := by
 unfold Z62
 refine zf (ZkV ..) ?_
 refine ze ?_
 refine zx (.ptr 0 0) [(Z1B x0)] ?_
 refine ze ?_
 refine zo (.ptr 0 0) ?_
 refine zo (iv x0.Lo) ?_
 refine zo (bv (decide (0 ≤ x0.Lo))) ?_
 refine za ((decide (0 ≤ x0.Lo))) ?_ ?_
 ·refine zo (.ptr 0 0) ?_
  refine zo (iv x0.Lo) ?_
  refine zo (.ptr 0 1) ?_
  refine zo (iv x0.Hi) ?_
  refine zo (bv (decide (x0.Lo ≤ x0.Hi))) ?_
  refine za ((decide (x0.Lo ≤ x0.Hi))) ?_ ?_
  ·refine zo (.ptr 0 1) ?_
   refine zo (iv x0.Hi) ?_
   refine zo (bv (decide (x0.Hi ≤ 1114367))) ?_
   exact zr ((bv (decide (x0.Hi ≤ 1114367))), [(Z1B x0)]) ⟨_, rfl⟩
  ·exact zr ((bv false), [(Z1B x0)]) ⟨_, rfl⟩
 ·exact zr ((bv false), [(Z1B x0)]) ⟨_, rfl⟩
theorem ZbC (x0 : Z8) {r} (h : Z62 x0 = some r) : Z56 x0 = some r :=
 pick_of (fun _ _ ha hb => RRun.uniq (Zco) (ha ) (hb )) (Zbg x0 r h)
noncomputable def Z6l (x0 : List Z8) : Option ((List Z8) × Int) :=
 (Z7n x0).bind fun r1 =>
 some (r1, 0)
theorem ZbN (x0 : List Z8) (ox0 : Own) : Sim (Z5B) (Z6l x0) (Zfy 0 (.p (.lst ox0 (x0.map Zv))) []) := by
 unfold Z6l
 refine zf (Zii ..) ?_
 refine ze ?_
 refine zi fun r1 hr1 => ?_
 obtain ⟨qr1, er1, exr1, rfl⟩ := Zd8 (x0) .sh r1 hr1
 refine zc [] (.p (.lst .sh (r1.map Zv))) [] er1 ?_
 exact zr ((.p (.tup [(.lst .sh (r1.map Zv)), (.v (.int .i64 0))])), []) ⟨_, rfl⟩
noncomputable def Z7h (x0 : List Z8) : Option ((List Z8) × Int) :=
 (Z4A x0).bind fun r1 =>
 if ((!r1)) = true then
 (some (([] : List Z8), 10))
 else
 (Z6l x0)
theorem ZcU (x0 : List Z8) (ox0 : Own) : Sim (Z5B) (Z7h x0) (EE 55 [(.p (.lst ox0 (x0.map Zv)))] []) := by
 unfold Z7h
 refine zf (ZjY ..) ?_
 refine ze ?_
 refine ze ?_
 refine zi fun r1 hr1 => ?_
 obtain ⟨qr1, er1, exr1, rfl⟩ := Z6L (x0) .sh r1 hr1
 refine zc [] (bv r1) [] er1 ?_
 refine zo (bv (!r1)) ?_
 refine za ((!r1)) ?_ ?_
 ·refine ze ?_
  exact zr ((.p (.tup [(.lst .sh []), (.v (.int .i64 10))])), []) ⟨_, rfl⟩
 ·exact zk (ZbN (x0) ox0)
theorem Zda (x0 : List Z8) {r} (h : Z7h x0 = some r) : Z6p x0 = some r :=
 pick_of (fun _ _ ha hb => RRun.uniq (ZdA) (ha .ex) (hb .ex)) (fun ox0 => ZcU x0 ox0 r h)
noncomputable def Z6s (x0 : List Z8) : Option (Bool) :=
 Z4w ((-2)) x0 ((x0.length : Int)) 0
theorem ZbI (x0 : List Z8) (ox0 : Own) : Sim (Z1O) (Z6s x0) (EE 69 [(.p (.lst ox0 (x0.map Zv)))] []) := by
 unfold Z6s
 refine zf (ZkD ..) ?_
 refine ze ?_
 refine ze ?_
 refine ze ?_
 refine zo (iv (x0.length : Int)) ?_ (Eq.trans (by kernel_rfl) (xlen_of (P := PP) (t := 24) (d := 39) (by kernel_rfl) Zv (shrO ox0) x0))
 exact zk (Z7I ((-2)) (x0) ((x0.length : Int)) (0) (shrO ox0))
theorem Zce (x0 : List Z8) {r} (h : Z6s x0 = some r) : Z4A x0 = some r :=
 pick_of (fun _ _ ha hb => RRun.uniq (Z9l) (ha .ex) (hb .ex)) (fun ox0 => ZbI x0 ox0 r h)
noncomputable def Z5y  : Option (Bool) :=
 some (false)
theorem Z7d  : Sim (Z1O) (Z5y) (Ze6 0  []) := by
 unfold Z5y
 refine zf (Zi9 ..) ?_
 refine ze ?_
 exact zr ((bv false), []) ⟨_, rfl⟩
noncomputable def Z5v (x3 : Int) (x6 : List Z8) (x7 : Int) (x8 : Int) : Option (Bool) :=
 Z4w x3 x6 x7 ((IntKind.i64.wrap (x8 + 1)))
theorem Zav (x3 : Int) (x6 : List Z8) (x7 : Int) (x8 : Int) (ox6 : Own) : Sim (Z1O) (Z5v x3 x6 x7 x8) (ZgB 0 (iv x3) (.p (.lst ox6 (x6.map Zv))) (iv x7) (iv x8) []) := by
 unfold Z5v
 refine zf (ZiY ..) ?_
 refine ze ?_
 refine zo (iv (IntKind.i64.wrap (x8 + 1))) ?_
 exact zk (Z7I (x3) (x6) (x7) ((IntKind.i64.wrap (x8 + 1))) ox6)
noncomputable def Z5u (x6 : List Z8) (x7 : Int) (x8 : Int) (b0 : Z8) : Option (Bool) :=
 Z5v b0.Hi x6 x7 x8
theorem Zas (x6 : List Z8) (x7 : Int) (x8 : Int) (b0 : Z8) (ox6 : Own) : Sim (Z1O) (Z5u x6 x7 x8 b0) (Zg6 0 (.ptr 0 0) (.p (.lst ox6 (x6.map Zv))) (iv x7) (iv x8) [(Z1B b0)]) := by
 unfold Z5u
 refine zf (ZiW ..) ?_
 refine ze ?_
 refine zo (.ptr 0 1) ?_
 refine zo (iv b0.Hi) ?_
 exact zk (Zav (b0.Hi) (x6) (x7) (x8) ox6)
noncomputable def Z5x (x3 : Int) (x6 : List Z8) (x7 : Int) (x8 : Int) : Option (Bool) :=
 (lget x6 x8).bind fun a1 =>
 (Z56 a1).bind fun r2 =>
 if ((!r2)) = true then
 (Z5y)
 else
 (if ((decide (a1.Lo < (IntKind.i64.wrap (x3 + 2))))) = true then
 (Z5y)
 else
 (Z5u x6 x7 x8 a1))
theorem Zau (x3 : Int) (x6 : List Z8) (x7 : Int) (x8 : Int) (ox6 : Own) : Sim (Z1O) (Z5x x3 x6 x7 x8) (Zgm 0 (iv x3) (.p (.lst ox6 (x6.map Zv))) (iv x7) (iv x8) []) := by
 unfold Z5x
 refine zf (Zjd ..) ?_
 refine ze ?_
 refine zi fun a1 ha1 => ?_
 refine zo (.cptr (ZE a1)) ?_ (Eq.trans (by kernel_rfl) (xidx_of (o := ox6) (k := .i64) (n := 2) (e := Zv) (cs := Z5d) (fun _ => rfl) (fun _ => rfl) (by decide) ha1))
 refine zo (.p (.agg (ZE a1))) ?_
 refine zz (.ptr 0 0) [(Z1B (Z8.mk 0 0))] ?_
 refine zt [(Z1B a1)] ?_
 refine ze ?_
 refine zo (.p (.agg (ZE a1))) ?_
 refine zi fun r2 hr2 => ?_
 obtain ⟨qr2, er2, exr2, rfl⟩ := Z8D (a1) r2 hr2
 refine zc [] (bv r2) [(Z1B a1)] er2 ?_
 refine zo (bv (!r2)) ?_
 refine za ((!r2)) ?_ ?_
 ·exact zk (Z7d )
 ·refine zo (.ptr 0 0) ?_
  refine zo (iv a1.Lo) ?_
  refine zo (iv (IntKind.i64.wrap (x3 + 2))) ?_
  refine zo (bv (decide (a1.Lo < (IntKind.i64.wrap (x3 + 2))))) ?_
  refine za ((decide (a1.Lo < (IntKind.i64.wrap (x3 + 2))))) ?_ ?_
  ·exact zk (Z7d )
  ·exact zk (Zas (x6) (x7) (x8) (a1) ox6)
noncomputable def Z6I  : Option (Bool) :=
 some (true)
theorem ZaE  : Sim (Z1O) (Z6I) (Zgi 0  []) := by
 unfold Z6I
 refine zf (Ziw ..) ?_
 refine ze ?_
 exact zr ((bv true), []) ⟨_, rfl⟩
noncomputable def Z4u (x3 : Int) (x6 : List Z8) (x7 : Int) (x8 : Int) : Option (Bool) :=
 if ((decide (x8 < x7))) = true then
 (Z5x x3 x6 x7 x8)
 else
 (Z6I)
theorem ZaG (x3 : Int) (x6 : List Z8) (x7 : Int) (x8 : Int) (ox6 : Own) : Sim (Z1O) (Z4u x3 x6 x7 x8) (ZbU 0 (iv x3) (.p (.lst ox6 (x6.map Zv))) (iv x7) (iv x8) []) := by
 unfold Z4u
 refine zf (ZiG ..) ?_
 refine ze ?_
 refine zo (bv (decide (x8 < x7))) ?_
 refine za ((decide (x8 < x7))) ?_ ?_
 ·exact zk (Zau (x3) (x6) (x7) (x8) ox6)
 ·exact zk (ZaE )
theorem Z7G (x3 : Int) (x6 : List Z8) (x7 : Int) (x8 : Int) {r} (h : Z4u x3 x6 x7 x8 = some r) : Z4w x3 x6 x7 x8 = some r :=
 pick_of (fun _ _ ha hb => RRun.uniq (Z9l) (ha .ex) (hb .ex)) (fun ox6 => ZaG x3 x6 x7 x8 ox6 r h)
noncomputable def Z7g (x0 : List Z8) : Option ((List Z8)) :=
 Z5r (([] : List Z8)) 0 x0 ((x0.length : Int)) 0
theorem ZcS (x0 : List Z8) (ox0 : Own) : Sim (Z2g) (Z7g x0) (EE 70 [(.p (.lst ox0 (x0.map Zv)))] []) := by
 unfold Z7g
 refine zf (Zlp ..) ?_
 refine ze ?_
 refine ze ?_
 refine ze ?_
 refine ze ?_
 refine zo (iv (x0.length : Int)) ?_ (Eq.trans (by kernel_rfl) (xlen_of (P := PP) (t := 24) (d := 39) (by kernel_rfl) Zv (shrO ox0) x0))
 exact zk (Z9a (([] : List Z8)) (0) (x0) ((x0.length : Int)) (0) .nl (shrO ox0) rfl)
theorem Zdc (x0 : List Z8) {r} (h : Z7g x0 = some r) : Z7n x0 = some r :=
 pick_of (fun _ _ ha hb => RRun.uniq (Zam) (ha .ex) (hb .ex)) (fun ox0 => ZcS x0 ox0 r h)
noncomputable def Z6n (x3 : List Z8) (x4 : Int) (x7 : List Z8) (x8 : Int) (x9 : Int) : Option ((List Z8)) :=
 Z5r x3 x4 x7 x8 ((IntKind.i64.wrap (x9 + 1)))
theorem Zby (x3 : List Z8) (x4 : Int) (x7 : List Z8) (x8 : Int) (x9 : Int) (ox3 : Own) (ox7 : Own) (hox3 : okApp ox3 = true) : Sim (Z2g) (Z6n x3 x4 x7 x8 x9) (Zfq 0 (.p (.lst ox3 (x3.map Zv))) (iv x4) (.p (.lst ox7 (x7.map Zv))) (iv x8) (iv x9) []) := by
 unfold Z6n
 refine zf (Zix ..) ?_
 refine ze ?_
 refine zo (iv (IntKind.i64.wrap (x9 + 1))) ?_
 exact zk (Z9a (x3) (x4) (x7) (x8) ((IntKind.i64.wrap (x9 + 1))) ox3 ox7 hox3)
noncomputable def Z4y (x3 : List Z8) (x7 : List Z8) (x8 : Int) (x9 : Int) (b0 : Z8) : Option ((List Z8)) :=
 Z6n x3 ((IntKind.i64.wrap (b0.Hi + 1))) x7 x8 x9
theorem Z8v (x3 : List Z8) (x7 : List Z8) (x8 : Int) (x9 : Int) (b0 : Z8) (ox3 : Own) (ox7 : Own) (hox3 : okApp ox3 = true) : Sim (Z2g) (Z4y x3 x7 x8 x9 b0) (Zev 0 (.p (.lst ox3 (x3.map Zv))) (.ptr 0 0) (.p (.lst ox7 (x7.map Zv))) (iv x8) (iv x9) [(Z1B b0)]) := by
 unfold Z4y
 refine zf (ZiD ..) ?_
 refine ze ?_
 refine zo (.ptr 0 1) ?_
 refine zo (iv b0.Hi) ?_
 refine zo (iv (IntKind.i64.wrap (b0.Hi + 1))) ?_
 exact zk (Zby (x3) ((IntKind.i64.wrap (b0.Hi + 1))) (x7) (x8) (x9) ox3 ox7 hox3)
noncomputable def Z6m (x3 : List Z8) (x4 : Int) (x7 : List Z8) (x8 : Int) (x9 : Int) : Option ((List Z8)) :=
 (lget x7 x9).bind fun a1 =>
 if ((decide (x4 < a1.Lo))) = true then
 ((lapp x3 ([(Z8.mk x4 (IntKind.i64.wrap (a1.Lo - 1)))] : List Z8)).bind fun a2 =>
 Z4y a2 x7 x8 x9 a1)
 else
 (Z4y x3 x7 x8 x9 a1)
theorem ZbH (x3 : List Z8) (x4 : Int) (x7 : List Z8) (x8 : Int) (x9 : Int) (ox3 : Own) (ox7 : Own) (hox3 : okApp ox3 = true) : Sim (Z2g) (Z6m x3 x4 x7 x8 x9) (Zg1 0 (.p (.lst ox3 (x3.map Zv))) (iv x4) (.p (.lst ox7 (x7.map Zv))) (iv x8) (iv x9) []) := by
 unfold Z6m
 refine zf (Zij ..) ?_
 refine ze ?_
 refine zi fun a1 ha1 => ?_
 refine zo (.cptr (ZE a1)) ?_ (Eq.trans (by kernel_rfl) (xidx_of (o := ox7) (k := .i64) (n := 2) (e := Zv) (cs := Z5d) (fun _ => rfl) (fun _ => rfl) (by decide) ha1))
 refine zo (.p (.agg (ZE a1))) ?_
 refine zz (.ptr 0 0) [(Z1B (Z8.mk 0 0))] ?_
 refine zt [(Z1B a1)] ?_
 refine ze ?_
 refine zo (.ptr 0 0) ?_
 refine zo (iv a1.Lo) ?_
 refine zo (bv (decide (x4 < a1.Lo))) ?_
 refine za ((decide (x4 < a1.Lo))) ?_ ?_
 ·refine ze ?_
  refine zo (.ptr 0 0) ?_
  refine zo (iv a1.Lo) ?_
  refine zo (iv (IntKind.i64.wrap (a1.Lo - 1))) ?_
  refine zo (.p (.agg (ZE (Z8.mk x4 (IntKind.i64.wrap (a1.Lo - 1)))))) ?_
  refine zo (.p (.lst .ex (([(Z8.mk x4 (IntKind.i64.wrap (a1.Lo - 1)))] : List Z8).map Zv))) ?_
  refine zi fun a2 ha2 => ?_
  refine zo (.p (.lst .un (a2.map Zv))) ?_ (Eq.trans (by kernel_rfl) <| xapp_of (n := 2) (o := ox3) (o' := .ex) (e := Zv) (ys := ([(Z8.mk x4 (IntKind.i64.wrap (a1.Lo - 1)))] : List Z8)) (fun _ => rfl) (by decide) hox3 ha2)
  exact zk (Z8v (a2) (x7) (x8) (x9) (a1) .un ox7 rfl)
 ·exact zk (Z8v (x3) (x7) (x8) (x9) (a1) ox3 ox7 hox3)
noncomputable def Z4f (x3 : List Z8) : Option ((List Z8)) :=
 some (x3)
theorem Z8a (x3 : List Z8) (ox3 : Own) (hox3 : okApp ox3 = true) : Sim (Z2g) (Z4f x3) (Zdu 0 (.p (.lst ox3 (x3.map Zv))) []) := by
 unfold Z4f
 refine zf (Zhh ..) ?_
 refine ze ?_
 exact zr ((.p (.lst .sh (x3.map Zv))), []) ⟨_, rfl⟩
noncomputable def Z68 (x3 : List Z8) (x4 : Int) : Option ((List Z8)) :=
 if ((decide (x4 ≤ 1114367))) = true then
 ((lapp x3 ([(Z8.mk x4 1114367)] : List Z8)).bind fun a1 =>
 Z4f a1)
 else
 (Z4f x3)
theorem Zbj (x3 : List Z8) (x4 : Int) (ox3 : Own) (hox3 : okApp ox3 = true) : Sim (Z2g) (Z68 x3 x4) (ZeN 0 (.p (.lst ox3 (x3.map Zv))) (iv x4) []) := by
 unfold Z68
 refine zf (ZhL ..) ?_
 refine ze ?_
 refine zo (bv (decide (x4 ≤ 1114367))) ?_
 refine za ((decide (x4 ≤ 1114367))) ?_ ?_
 ·refine ze ?_
  refine zo (.p (.agg (ZE (Z8.mk x4 1114367)))) ?_
  refine zo (.p (.lst .ex (([(Z8.mk x4 1114367)] : List Z8).map Zv))) ?_
  refine zi fun a1 ha1 => ?_
  refine zo (.p (.lst .un (a1.map Zv))) ?_ (Eq.trans (by kernel_rfl) <| xapp_of (n := 2) (o := ox3) (o' := .ex) (e := Zv) (ys := ([(Z8.mk x4 1114367)] : List Z8)) (fun _ => rfl) (by decide) hox3 ha1)
  exact zk (Z8a (a1) .un rfl)
 ·exact zk (Z8a (x3) ox3 hox3)
noncomputable def Z5o (x3 : List Z8) (x4 : Int) (x7 : List Z8) (x8 : Int) (x9 : Int) : Option ((List Z8)) :=
 if ((decide (x9 < x8))) = true then
 (Z6m x3 x4 x7 x8 x9)
 else
 (Z68 x3 x4)
theorem ZbD (x3 : List Z8) (x4 : Int) (x7 : List Z8) (x8 : Int) (x9 : Int) (ox3 : Own) (ox7 : Own) (hox3 : okApp ox3 = true) : Sim (Z2g) (Z5o x3 x4 x7 x8 x9) (Zcw 0 (.p (.lst ox3 (x3.map Zv))) (iv x4) (.p (.lst ox7 (x7.map Zv))) (iv x8) (iv x9) []) := by
 unfold Z5o
 refine zf (Zi5 ..) ?_
 refine ze ?_
 refine zo (bv (decide (x9 < x8))) ?_
 refine za ((decide (x9 < x8))) ?_ ?_
 ·exact zk (ZbH (x3) (x4) (x7) (x8) (x9) ox3 ox7 hox3)
 ·exact zk (Zbj (x3) (x4) ox3 hox3)
theorem Z96 (x3 : List Z8) (x4 : Int) (x7 : List Z8) (x8 : Int) (x9 : Int) {r} (h : Z5o x3 x4 x7 x8 x9 = some r) : Z5r x3 x4 x7 x8 x9 = some r :=
 pick_of (fun _ _ ha hb => RRun.uniq (Zam) (ha .ex .ex rfl) (hb .ex .ex rfl)) (fun ox3 ox7 hox3 => ZbD x3 x4 x7 x8 x9 ox3 ox7 hox3 r h)
noncomputable def Z3s (x1 : Int) (x5 : Int) (zp : Int) (zh : List Zq) (z2 : Int) (z6 : Int) : Option (Z3 × Int × (List Zq) × Int × Int) :=
 (lapp zh ([(Zq.mk (IntKind.i64.wrap (x5 - 48)) x1)] : List Zq)).bind fun a1 =>
 some ((Z3.mk 6 0 0 0 (IntKind.i64.wrap (x5 - 48)) ([] : List Z8) ([] : List Z3)), zp, a1, z2, z6)
theorem Z9v (x1 : Int) (x5 : Int) (zl : List Int) (zp : Int) (z7 : Int) (zd : Int) (zh : List Zq) (z2 : Int) (z6 : Int) (b1 : Z3) (zn : Own) (zb : Own) (zB : Own) (zy : Own) (zu : okApp zb = true) (zP : okApp zB = true) (zI : okApp zy = true) : Sim (Z2C zl z7 zd zn) (Z3s x1 x5 zp zh z2 z6) (ZeD 1 (.ptr 0 0) (iv x1) (.ptr 1 0) (iv x5) [(Zi (Zk.mk zl zp z7 zd zh (Zj.mk z2 z6)) zn zb), (Zo b1 zB zy)]) := by
 unfold Z3s
 refine zf (ZhC ..) ?_
 refine ze ?_
 refine zo (.ptr 0 0) ?_
 refine zo (.ptr 0 4) ?_
 refine zw (.p (.lst zb (zh.map Z1D))) [(Zi (Zk.mk zl zp z7 zd zh (Zj.mk z2 z6)) zn (shrO zb)), (Zo b1 zB zy)] ?_
 refine zo (iv (IntKind.i64.wrap (x5 - 48))) ?_
 refine zo (.p (.agg (Z8P (Zq.mk (IntKind.i64.wrap (x5 - 48)) x1)))) ?_
 refine zo (.p (.lst .ex (([(Zq.mk (IntKind.i64.wrap (x5 - 48)) x1)] : List Zq).map Z1D))) ?_
 refine zi fun a1 ha1 => ?_
 refine zo (.p (.lst .un (a1.map Z1D))) ?_ (Eq.trans (by kernel_rfl) <| xapp_of (n := 2) (o := zb) (o' := .ex) (e := Z1D) (ys := ([(Zq.mk (IntKind.i64.wrap (x5 - 48)) x1)] : List Zq)) (fun _ => rfl) (by decide) zu ha1)
 refine zo (.ptr 0 0) ?_
 refine zo (.ptr 0 4) ?_
 refine zt [(Zi (Zk.mk zl zp z7 zd a1 (Zj.mk z2 z6)) zn .un), (Zo b1 zB zy)] ?_
 refine ze ?_
 refine zo (iv (IntKind.i64.wrap (x5 - 48))) ?_
 refine zo (.p (.agg (Zz (Z3.mk 6 0 0 0 (IntKind.i64.wrap (x5 - 48)) ([] : List Z8) ([] : List Z3)) .nl .nl))) ?_
 refine zt [(Zi (Zk.mk zl zp z7 zd a1 (Zj.mk z2 z6)) zn .un), (Zo (Z3.mk 6 0 0 0 (IntKind.i64.wrap (x5 - 48)) ([] : List Z8) ([] : List Z3)) .nl .nl)] ?_
 exact zr ((.p (.agg (Zz (Z3.mk 6 0 0 0 (IntKind.i64.wrap (x5 - 48)) ([] : List Z8) ([] : List Z3)) .sh .sh))), [(Zi (Zk.mk zl zp z7 zd a1 (Zj.mk z2 z6)) zn .un), (Zo (Z3.mk 6 0 0 0 (IntKind.i64.wrap (x5 - 48)) ([] : List Z8) ([] : List Z3)) .nl .nl)]) ⟨.un, _, rfl, rfl⟩
noncomputable def Z27 (x1 : Int) (x5 : Int) (zl : List Int) (zp : Int) (z7 : Int) (zd : Int) (zh : List Zq) (z2 : Int) (z6 : Int) : Option (Z3 × Int × (List Zq) × Int × Int) :=
 (Z4T x5 x1 zl zp z7 zd zh z2 z6).bind fun r1 =>
 (Z1A r1.1).bind fun r2 =>
 (Z2F false (([r2] : List Z8))).bind fun r3 =>
 some (r3, r1.2.1, zh, r1.2.2.1, r1.2.2.2)
theorem Z6w (x1 : Int) (x5 : Int) (zl : List Int) (zp : Int) (z7 : Int) (zd : Int) (zh : List Zq) (z2 : Int) (z6 : Int) (b1 : Z3) (zn : Own) (zb : Own) (zB : Own) (zy : Own) (zu : okApp zb = true) (zP : okApp zB = true) (zI : okApp zy = true) : Sim (Z2C zl z7 zd zn) (Z27 x1 x5 zl zp z7 zd zh z2 z6) (Zdq 1 (.ptr 0 0) (iv x1) (.ptr 1 0) (iv x5) [(Zi (Zk.mk zl zp z7 zd zh (Zj.mk z2 z6)) zn zb), (Zo b1 zB zy)]) := by
 unfold Z27
 refine zf (Zhg ..) ?_
 refine ze ?_
 refine zi fun r1 hr1 => ?_
 obtain ⟨qr1, er1, exr1, rfl⟩ := Z8b (x5) (x1) (zl) (zp) (z7) (zd) (zh) (z2) (z6) zn zb zu r1 hr1
 refine zc [0] (iv r1.1) [(Zi (Zk.mk zl r1.2.1 z7 zd zh (Zj.mk r1.2.2.1 r1.2.2.2)) zn zb), (Zo b1 zB zy)] er1 ?_
 refine zi fun r2 hr2 => ?_
 obtain ⟨qr2, er2, exr2, rfl⟩ := Z1u (r1.1) r2 hr2
 refine zc [] (.p (.agg (ZE r2))) [(Zi (Zk.mk zl r1.2.1 z7 zd zh (Zj.mk r1.2.2.1 r1.2.2.2)) zn zb), (Zo b1 zB zy)] er2 ?_
 refine zo (.p (.lst .ex (([r2] : List Z8).map Zv))) ?_
 refine zi fun r3 hr3 => ?_
 obtain ⟨qr3, er3, exr3, rfl⟩ := Z2O (false) (([r2] : List Z8)) .sh r3 hr3
 refine zc [] (.p (.agg (Zz r3 .sh .sh))) [(Zi (Zk.mk zl r1.2.1 z7 zd zh (Zj.mk r1.2.2.1 r1.2.2.2)) zn zb), (Zo b1 zB zy)] er3 ?_
 refine zt [(Zi (Zk.mk zl r1.2.1 z7 zd zh (Zj.mk r1.2.2.1 r1.2.2.2)) zn zb), (Zo r3 .sh .sh)] ?_
 exact zr ((.p (.agg (Zz r3 .sh .sh))), [(Zi (Zk.mk zl r1.2.1 z7 zd zh (Zj.mk r1.2.2.1 r1.2.2.2)) zn zb), (Zo r3 .sh .sh)]) ⟨zb, _, zu, rfl⟩
noncomputable def Z2d (x1 : Int) (x5 : Int) (zl : List Int) (zp : Int) (z7 : Int) (zd : Int) (zh : List Zq) (z2 : Int) (z6 : Int) : Option (Z3 × Int × (List Zq) × Int × Int) :=
 (Z24 zl zp).bind fun r1 =>
 (Z50 x5).bind fun r2 =>
 (nilO r2.1 r2.2).bind fun a3 =>
 if ((!a3)) = true then
 ((Z50 x5).bind fun r4 =>
 (Z2F ((decide (x5 < 97))) r4.2).bind fun r5 =>
 some (r5, r1.2, zh, z2, z6))
 else
 (if ((x5 == 98)) = true then
 (some ((Z3.mk 9 0 0 0 2 ([] : List Z8) ([] : List Z3)), r1.2, zh, z2, z6))
 else
 (if ((x5 == 66)) = true then
 (some ((Z3.mk 9 0 0 0 3 ([] : List Z8) ([] : List Z3)), r1.2, zh, z2, z6))
 else
 (if ((decide (49 ≤ x5))) = true then
 (if ((decide (x5 ≤ 57))) = true then
 (Z3s x1 x5 r1.2 zh z2 z6)
 else
 (Z27 x1 x5 zl r1.2 z7 zd zh z2 z6))
 else
 (Z27 x1 x5 zl r1.2 z7 zd zh z2 z6))))
theorem Z9R (x1 : Int) (x5 : Int) (zl : List Int) (zp : Int) (z7 : Int) (zd : Int) (zh : List Zq) (z2 : Int) (z6 : Int) (b1 : Z3) (zn : Own) (zb : Own) (zB : Own) (zy : Own) (zu : okApp zb = true) (zP : okApp zB = true) (zI : okApp zy = true) : Sim (Z2C zl z7 zd zn) (Z2d x1 x5 zl zp z7 zd zh z2 z6) (Zgg 1 (.ptr 0 0) (iv x1) (.ptr 1 0) (iv x5) [(Zi (Zk.mk zl zp z7 zd zh (Zj.mk z2 z6)) zn zb), (Zo b1 zB zy)]) := by
 unfold Z2d
 refine zf (Zjp ..) ?_
 refine ze ?_
 refine zi fun r1 hr1 => ?_
 obtain ⟨qr1, er1, exr1, rfl⟩ := Z2p (zl) (zp) (z7) (zd) (zh) (z2) (z6) zn zb zu r1 hr1
 refine zc [0] (iv r1.1) [(Zi (Zk.mk zl r1.2 z7 zd zh (Zj.mk z2 z6)) zn zb), (Zo b1 zB zy)] er1 ?_
 refine ze ?_
 refine zi fun r2 hr2 => ?_
 obtain ⟨qr2, er2, exr2, rfl⟩ := Z72 (x5) r2 hr2
 refine zc [] (.p (.lst r2.1 (r2.2.map Zv))) [(Zi (Zk.mk zl r1.2 z7 zd zh (Zj.mk z2 z6)) zn zb), (Zo b1 zB zy)] er2 ?_
 refine zi fun a3 ha3 => ?_
 refine zo (bv (!a3)) ?_ (Eq.trans (by kernel_rfl) (xnil_neq (P := PP) (t := 23) (c := .slice none 0 0) (e := Zv) (by kernel_rfl) ha3))
 refine za ((!a3)) ?_ ?_
 ·refine ze ?_
  refine zo (bv (decide (x5 < 97))) ?_
  refine zi fun r4 hr4 => ?_
  obtain ⟨qr4, er4, exr4, rfl⟩ := Z72 (x5) r4 hr4
  refine zc [] (.p (.lst r4.1 (r4.2.map Zv))) [(Zi (Zk.mk zl r1.2 z7 zd zh (Zj.mk z2 z6)) zn zb), (Zo b1 zB zy)] er4 ?_
  refine zi fun r5 hr5 => ?_
  obtain ⟨qr5, er5, exr5, rfl⟩ := Z2O ((decide (x5 < 97))) (r4.2) .sh r5 hr5
  refine zc [] (.p (.agg (Zz r5 .sh .sh))) [(Zi (Zk.mk zl r1.2 z7 zd zh (Zj.mk z2 z6)) zn zb), (Zo b1 zB zy)] er5 ?_
  refine zt [(Zi (Zk.mk zl r1.2 z7 zd zh (Zj.mk z2 z6)) zn zb), (Zo r5 .sh .sh)] ?_
  exact zr ((.p (.agg (Zz r5 .sh .sh))), [(Zi (Zk.mk zl r1.2 z7 zd zh (Zj.mk z2 z6)) zn zb), (Zo r5 .sh .sh)]) ⟨zb, _, zu, rfl⟩
 ·refine ze ?_
  refine zo (bv (x5 == 98)) ?_
  refine za ((x5 == 98)) ?_ ?_
  ·refine ze ?_
   refine zo (.p (.agg (Zz (Z3.mk 9 0 0 0 2 ([] : List Z8) ([] : List Z3)) .nl .nl))) ?_
   refine zt [(Zi (Zk.mk zl r1.2 z7 zd zh (Zj.mk z2 z6)) zn zb), (Zo (Z3.mk 9 0 0 0 2 ([] : List Z8) ([] : List Z3)) .nl .nl)] ?_
   exact zr ((.p (.agg (Zz (Z3.mk 9 0 0 0 2 ([] : List Z8) ([] : List Z3)) .sh .sh))), [(Zi (Zk.mk zl r1.2 z7 zd zh (Zj.mk z2 z6)) zn zb), (Zo (Z3.mk 9 0 0 0 2 ([] : List Z8) ([] : List Z3)) .nl .nl)]) ⟨zb, _, zu, rfl⟩
  ·refine ze ?_
   refine zo (bv (x5 == 66)) ?_
   refine za ((x5 == 66)) ?_ ?_
   ·refine ze ?_
    refine zo (.p (.agg (Zz (Z3.mk 9 0 0 0 3 ([] : List Z8) ([] : List Z3)) .nl .nl))) ?_
    refine zt [(Zi (Zk.mk zl r1.2 z7 zd zh (Zj.mk z2 z6)) zn zb), (Zo (Z3.mk 9 0 0 0 3 ([] : List Z8) ([] : List Z3)) .nl .nl)] ?_
    exact zr ((.p (.agg (Zz (Z3.mk 9 0 0 0 3 ([] : List Z8) ([] : List Z3)) .sh .sh))), [(Zi (Zk.mk zl r1.2 z7 zd zh (Zj.mk z2 z6)) zn zb), (Zo (Z3.mk 9 0 0 0 3 ([] : List Z8) ([] : List Z3)) .nl .nl)]) ⟨zb, _, zu, rfl⟩
   ·refine ze ?_
    refine zo (bv (decide (49 ≤ x5))) ?_
    refine za ((decide (49 ≤ x5))) ?_ ?_
    ·refine zo (bv (decide (x5 ≤ 57))) ?_
     refine za ((decide (x5 ≤ 57))) ?_ ?_
     ·exact zk (Z9v (x1) (x5) (zl) (r1.2) (z7) (zd) (zh) (z2) (z6) (b1) zn zb zB zy zu zP zI)
     ·exact zk (Z6w (x1) (x5) (zl) (r1.2) (z7) (zd) (zh) (z2) (z6) (b1) zn zb zB zy zu zP zI)
    ·exact zk (Z6w (x1) (x5) (zl) (r1.2) (z7) (zd) (zh) (z2) (z6) (b1) zn zb zB zy zu zP zI)
noncomputable def Z3A (x1 : Int) (zl : List Int) (zp : Int) (z7 : Int) (zd : Int) (zh : List Zq) (z2 : Int) (z6 : Int) : Option (Z3 × Int × (List Zq) × Int × Int) :=
 (Z1F ((Zk.mk zl zp z7 zd zh (Zj.mk z2 z6)))).bind fun r1 =>
 if ((decide (r1 < 0))) = true then
 ((ZS 21 x1 zl z2 z6).bind fun r2 =>
 some ((Z3.mk 0 0 0 0 0 ([] : List Z8) ([] : List Z3)), r2.1, zh, r2.2.1, r2.2.2))
 else
 (Z2d x1 r1 zl zp z7 zd zh z2 z6)
theorem Zaw (x1 : Int) (zl : List Int) (zp : Int) (z7 : Int) (zd : Int) (zh : List Zq) (z2 : Int) (z6 : Int) (zn : Own) (zb : Own) (zu : okApp zb = true) : Sim (Z2C zl z7 zd zn) (Z3A x1 zl zp z7 zd zh z2 z6) (EE 49 [(.ptr 0 0), (iv x1)] [(Zi (Zk.mk zl zp z7 zd zh (Zj.mk z2 z6)) zn zb)]) := by
 unfold Z3A
 refine zf (Zko ..) ?_
 refine ze ?_
 refine zz (.ptr 1 0) [(Zi (Zk.mk zl zp z7 zd zh (Zj.mk z2 z6)) zn zb), (Zo (Z3.mk 0 0 0 0 0 ([] : List Z8) ([] : List Z3)) .nl .nl)] ?_
 refine ze ?_
 refine zi fun r1 hr1 => ?_
 obtain ⟨qr1, er1, exr1, rfl⟩ := Z1K ((Zk.mk zl zp z7 zd zh (Zj.mk z2 z6))) zn zb zu r1 hr1
 refine zc [0] (iv r1) [(Zi (Zk.mk zl zp z7 zd zh (Zj.mk z2 z6)) zn zb), (Zo (Z3.mk 0 0 0 0 0 ([] : List Z8) ([] : List Z3)) .nl .nl)] er1 ?_
 refine ze ?_
 refine zo (bv (decide (r1 < 0))) ?_
 refine za ((decide (r1 < 0))) ?_ ?_
 ·refine ze ?_
  refine zi fun r2 hr2 => ?_
  obtain ⟨qr2, er2, exr2, rfl⟩ := ZV (21) (x1) (zl) (zp) (z7) (zd) (zh) (z2) (z6) zn zb zu r2 hr2
  refine zc [0] (.p (.tup [])) [(Zi (Zk.mk zl r2.1 z7 zd zh (Zj.mk r2.2.1 r2.2.2)) zn zb), (Zo (Z3.mk 0 0 0 0 0 ([] : List Z8) ([] : List Z3)) .nl .nl)] er2 ?_
  refine ze ?_
  refine zo (.p (.agg (Zz (Z3.mk 0 0 0 0 0 ([] : List Z8) ([] : List Z3)) .nl .nl))) ?_
  refine zt [(Zi (Zk.mk zl r2.1 z7 zd zh (Zj.mk r2.2.1 r2.2.2)) zn zb), (Zo (Z3.mk 0 0 0 0 0 ([] : List Z8) ([] : List Z3)) .nl .nl)] ?_
  exact zr ((.p (.agg (Zz (Z3.mk 0 0 0 0 0 ([] : List Z8) ([] : List Z3)) .sh .sh))), [(Zi (Zk.mk zl r2.1 z7 zd zh (Zj.mk r2.2.1 r2.2.2)) zn zb), (Zo (Z3.mk 0 0 0 0 0 ([] : List Z8) ([] : List Z3)) .nl .nl)]) ⟨zb, _, zu, rfl⟩
 ·exact zk (Z9R (x1) (r1) (zl) (zp) (z7) (zd) (zh) (z2) (z6) ((Z3.mk 0 0 0 0 0 ([] : List Z8) ([] : List Z3))) zn zb .nl .nl zu rfl rfl)
theorem ZaV (x1 : Int) (zl : List Int) (zp : Int) (z7 : Int) (zd : Int) (zh : List Zq) (z2 : Int) (z6 : Int) {r} (h : Z3A x1 zl zp z7 zd zh z2 z6 = some r) : Z35 x1 zl zp z7 zd zh z2 z6 = some r :=
 pick_of (fun _ _ ha hb => RRun.uniq (Zbm _ _ _ _) (ha .ex .ex rfl) (hb .ex .ex rfl)) (fun zn zb zu => Zaw x1 zl zp z7 zd zh z2 z6 zn zb zu r h)
end Go.Proofs.YtadodmjdkphddaaDoor.N2
end
section
set_option linter.unusedSimpArgs false
set_option linter.unusedVariables false
namespace Go.Proofs.YtadodmjdkphddaaDoor.N2
open Go Go.Abs
set_option linter.unusedVariables false
set_option maxRecDepth 100000
noncomputable def Z3n (zl : List Int) (z2 : Int) (z6 : Int) : Option (Int × Int × Int) :=
 some ((zl.length : Int), z2, z6)
theorem Z78 (zl : List Int) (zp : Int) (z7 : Int) (zd : Int) (zh : List Zq) (z2 : Int) (z6 : Int) (zn : Own) (zb : Own) (zu : okApp zb = true) : Sim (Z4h zl z7 zd zh zn zb) (Z3n zl z2 z6) (Zed 1 (.ptr 0 0) [(Zi (Zk.mk zl zp z7 zd zh (Zj.mk z2 z6)) zn zb)]) := by
 unfold Z3n
 refine zf (Zj0 ..) ?_
 refine ze ?_
 refine zo (.ptr 0 0) ?_
 refine zo (.ptr 0 0) ?_
 refine zo (.p (.lst (shrO zn) (zl.map (eI .u8)))) ?_
 refine zo (iv (zl.length : Int)) ?_ (Eq.trans (by kernel_rfl) (xlen_of (P := PP) (t := 40) (d := 5) (by kernel_rfl) (eI .u8) (shrO zn) zl))
 refine zo (.ptr 0 0) ?_
 refine zo (.ptr 0 1) ?_
 refine zt [(Zi (Zk.mk zl (zl.length : Int) z7 zd zh (Zj.mk z2 z6)) zn zb)] ?_
 exact zr ((.p (.tup [])), [(Zi (Zk.mk zl (zl.length : Int) z7 zd zh (Zj.mk z2 z6)) zn zb)]) ⟨_, rfl⟩
noncomputable def Z55 (x1 : Int) (x2 : Int) (zl : List Int) (z2 : Int) (z6 : Int) : Option (Int × Int × Int) :=
 if ((z2 == 0)) = true then
 (Z3n zl x1 x2)
 else
 (Z3n zl z2 z6)
theorem Zbd (x1 : Int) (x2 : Int) (zl : List Int) (zp : Int) (z7 : Int) (zd : Int) (zh : List Zq) (z2 : Int) (z6 : Int) (zn : Own) (zb : Own) (zu : okApp zb = true) : Sim (Z4h zl z7 zd zh zn zb) (Z55 x1 x2 zl z2 z6) (EE 29 [(.ptr 0 0), (iv x1), (iv x2)] [(Zi (Zk.mk zl zp z7 zd zh (Zj.mk z2 z6)) zn zb)]) := by
 unfold Z55
 refine zf (Zl2 ..) ?_
 refine ze ?_
 refine zo (.ptr 0 0) ?_
 refine zo (.ptr 0 5) ?_
 refine zo (.ptr 0 5) ?_
 refine zo (iv z2) ?_
 refine zo (bv (z2 == 0)) ?_
 refine za ((z2 == 0)) ?_ ?_
 ·refine ze ?_
  refine zo (.p (.agg (Z2f (Zj.mk x1 x2)))) ?_
  refine zo (.ptr 0 0) ?_
  refine zo (.ptr 0 5) ?_
  refine zt [(Zi (Zk.mk zl zp z7 zd zh (Zj.mk x1 x2)) zn zb)] ?_
  exact zk (Z78 (zl) (zp) (z7) (zd) (zh) (x1) (x2) zn zb zu)
 ·exact zk (Z78 (zl) (zp) (z7) (zd) (zh) (z2) (z6) zn zb zu)
theorem Z8p (x1 : Int) (x2 : Int) (zl : List Int) (z2 : Int) (z6 : Int) {r} (h : Z55 x1 x2 zl z2 z6 = some r) : ZS x1 x2 zl z2 z6 = some r :=
 pick_of (fun _ _ ha hb => RRun.uniq (Zcu _ _ _ _ _ _) (ha default default default default .ex .ex rfl) (hb default default default default .ex .ex rfl)) (fun zp z7 zd zh zn zb zu => Zbd x1 x2 zl zp z7 zd zh z2 z6 zn zb zu r h)
noncomputable def Z1Q  : Option ((Own × (List Z8))) :=
 some ((.nl, ([] : List Z8)))
theorem Z26  : Sim (Z4Z) (Z1Q) (Z7b 0  []) := by
 unfold Z1Q
 refine zf (Zh5 ..) ?_
 refine ze ?_
 exact zr ((.p (.lst .nl [])), []) ⟨_, rfl⟩
noncomputable def Z2E (x0 : Int) : Option ((Own × (List Z8))) :=
 if ((x0 == 100)) = true then
 (if ((x0 == 100)) = true then
 (some ((.ex, ([(Z8.mk 48 57)] : List Z8))))
 else
 (if ((x0 == 119)) = true then
 (if ((x0 == 119)) = true then
 ((Z1A 95).bind fun r1 =>
 some ((.ex, ([(Z8.mk 48 57), (Z8.mk 65 90), r1, (Z8.mk 97 122)] : List Z8))))
 else
 (if ((x0 == 115)) = true then
 (if ((x0 == 115)) = true then
 ((Z1A 32).bind fun r2 =>
 some ((.ex, ([(Z8.mk 9 13), r2] : List Z8))))
 else
 (Z1Q))
 else
 (if ((x0 == 83)) = true then
 ((Z1A 32).bind fun r3 =>
 some ((.ex, ([(Z8.mk 9 13), r3] : List Z8))))
 else
 (Z1Q))))
 else
 (if ((x0 == 87)) = true then
 ((Z1A 95).bind fun r4 =>
 some ((.ex, ([(Z8.mk 48 57), (Z8.mk 65 90), r4, (Z8.mk 97 122)] : List Z8))))
 else
 (if ((x0 == 115)) = true then
 (if ((x0 == 115)) = true then
 ((Z1A 32).bind fun r5 =>
 some ((.ex, ([(Z8.mk 9 13), r5] : List Z8))))
 else
 (Z1Q))
 else
 (if ((x0 == 83)) = true then
 ((Z1A 32).bind fun r6 =>
 some ((.ex, ([(Z8.mk 9 13), r6] : List Z8))))
 else
 (Z1Q))))))
 else
 (if ((x0 == 68)) = true then
 (some ((.ex, ([(Z8.mk 48 57)] : List Z8))))
 else
 (if ((x0 == 119)) = true then
 (if ((x0 == 119)) = true then
 ((Z1A 95).bind fun r7 =>
 some ((.ex, ([(Z8.mk 48 57), (Z8.mk 65 90), r7, (Z8.mk 97 122)] : List Z8))))
 else
 (if ((x0 == 115)) = true then
 (if ((x0 == 115)) = true then
 ((Z1A 32).bind fun r8 =>
 some ((.ex, ([(Z8.mk 9 13), r8] : List Z8))))
 else
 (Z1Q))
 else
 (if ((x0 == 83)) = true then
 ((Z1A 32).bind fun r9 =>
 some ((.ex, ([(Z8.mk 9 13), r9] : List Z8))))
 else
 (Z1Q))))
 else
 (if ((x0 == 87)) = true then
 ((Z1A 95).bind fun r10 =>
 some ((.ex, ([(Z8.mk 48 57), (Z8.mk 65 90), r10, (Z8.mk 97 122)] : List Z8))))
 else
 (if ((x0 == 115)) = true then
 (if ((x0 == 115)) = true then
 ((Z1A 32).bind fun r11 =>
 some ((.ex, ([(Z8.mk 9 13), r11] : List Z8))))
 else
 (Z1Q))
 else
 (if ((x0 == 83)) = true then
 ((Z1A 32).bind fun r12 =>
 some ((.ex, ([(Z8.mk 9 13), r12] : List Z8))))
 else
 (Z1Q))))))
theorem Zci (x0 : Int) : Sim (Z4Z) (Z2E x0) (EE 56 [(iv x0)] []) := by
 unfold Z2E
 refine zf (Zk2 ..) ?_
 refine ze ?_
 refine ze ?_
 refine ze ?_
 refine zo (bv (x0 == 100)) ?_
 refine za ((x0 == 100)) ?_ ?_
 ·refine za ((x0 == 100)) ?_ ?_
  ·refine ze ?_
   refine zo (.p (.agg (ZE (Z8.mk 48 57)))) ?_
   refine zo (.p (.lst .ex (([(Z8.mk 48 57)] : List Z8).map Zv))) ?_
   exact zr ((.p (.lst .ex (([(Z8.mk 48 57)] : List Z8).map Zv))), []) ⟨_, rfl⟩
  ·refine ze ?_
   refine zo (bv (x0 == 119)) ?_
   refine za ((x0 == 119)) ?_ ?_
   ·refine za ((x0 == 119)) ?_ ?_
    ·refine ze ?_
     refine zo (.p (.agg (ZE (Z8.mk 48 57)))) ?_
     refine zo (.p (.agg (ZE (Z8.mk 65 90)))) ?_
     refine zi fun r1 hr1 => ?_
     obtain ⟨qr1, er1, exr1, rfl⟩ := Z1u (95) r1 hr1
     refine zc [] (.p (.agg (ZE r1))) [] er1 ?_
     refine zo (.p (.agg (ZE (Z8.mk 97 122)))) ?_
     refine zo (.p (.lst .ex (([(Z8.mk 48 57), (Z8.mk 65 90), r1, (Z8.mk 97 122)] : List Z8).map Zv))) ?_
     exact zr ((.p (.lst .ex (([(Z8.mk 48 57), (Z8.mk 65 90), r1, (Z8.mk 97 122)] : List Z8).map Zv))), []) ⟨_, rfl⟩
    ·refine ze ?_
     refine zo (bv (x0 == 115)) ?_
     refine za ((x0 == 115)) ?_ ?_
     ·refine za ((x0 == 115)) ?_ ?_
      ·refine ze ?_
       refine zo (.p (.agg (ZE (Z8.mk 9 13)))) ?_
       refine zi fun r2 hr2 => ?_
       obtain ⟨qr2, er2, exr2, rfl⟩ := Z1u (32) r2 hr2
       refine zc [] (.p (.agg (ZE r2))) [] er2 ?_
       refine zo (.p (.lst .ex (([(Z8.mk 9 13), r2] : List Z8).map Zv))) ?_
       exact zr ((.p (.lst .ex (([(Z8.mk 9 13), r2] : List Z8).map Zv))), []) ⟨_, rfl⟩
      ·exact zk (Z26 )
     ·refine ze ?_
      refine zo (bv (x0 == 83)) ?_
      refine za ((x0 == 83)) ?_ ?_
      ·refine ze ?_
       refine zo (.p (.agg (ZE (Z8.mk 9 13)))) ?_
       refine zi fun r3 hr3 => ?_
       obtain ⟨qr3, er3, exr3, rfl⟩ := Z1u (32) r3 hr3
       refine zc [] (.p (.agg (ZE r3))) [] er3 ?_
       refine zo (.p (.lst .ex (([(Z8.mk 9 13), r3] : List Z8).map Zv))) ?_
       exact zr ((.p (.lst .ex (([(Z8.mk 9 13), r3] : List Z8).map Zv))), []) ⟨_, rfl⟩
      ·exact zk (Z26 )
   ·refine ze ?_
    refine zo (bv (x0 == 87)) ?_
    refine za ((x0 == 87)) ?_ ?_
    ·refine ze ?_
     refine zo (.p (.agg (ZE (Z8.mk 48 57)))) ?_
     refine zo (.p (.agg (ZE (Z8.mk 65 90)))) ?_
     refine zi fun r4 hr4 => ?_
     obtain ⟨qr4, er4, exr4, rfl⟩ := Z1u (95) r4 hr4
     refine zc [] (.p (.agg (ZE r4))) [] er4 ?_
     refine zo (.p (.agg (ZE (Z8.mk 97 122)))) ?_
     refine zo (.p (.lst .ex (([(Z8.mk 48 57), (Z8.mk 65 90), r4, (Z8.mk 97 122)] : List Z8).map Zv))) ?_
     exact zr ((.p (.lst .ex (([(Z8.mk 48 57), (Z8.mk 65 90), r4, (Z8.mk 97 122)] : List Z8).map Zv))), []) ⟨_, rfl⟩
    ·refine ze ?_
     refine zo (bv (x0 == 115)) ?_
     refine za ((x0 == 115)) ?_ ?_
     ·refine za ((x0 == 115)) ?_ ?_
      ·refine ze ?_
       refine zo (.p (.agg (ZE (Z8.mk 9 13)))) ?_
       refine zi fun r5 hr5 => ?_
       obtain ⟨qr5, er5, exr5, rfl⟩ := Z1u (32) r5 hr5
       refine zc [] (.p (.agg (ZE r5))) [] er5 ?_
       refine zo (.p (.lst .ex (([(Z8.mk 9 13), r5] : List Z8).map Zv))) ?_
       exact zr ((.p (.lst .ex (([(Z8.mk 9 13), r5] : List Z8).map Zv))), []) ⟨_, rfl⟩
      ·exact zk (Z26 )
     ·refine ze ?_
      refine zo (bv (x0 == 83)) ?_
      refine za ((x0 == 83)) ?_ ?_
      ·refine ze ?_
       refine zo (.p (.agg (ZE (Z8.mk 9 13)))) ?_
       refine zi fun r6 hr6 => ?_
       obtain ⟨qr6, er6, exr6, rfl⟩ := Z1u (32) r6 hr6
       refine zc [] (.p (.agg (ZE r6))) [] er6 ?_
       refine zo (.p (.lst .ex (([(Z8.mk 9 13), r6] : List Z8).map Zv))) ?_
       exact zr ((.p (.lst .ex (([(Z8.mk 9 13), r6] : List Z8).map Zv))), []) ⟨_, rfl⟩
      ·exact zk (Z26 )
 ·refine ze ?_
  refine zo (bv (x0 == 68)) ?_
  refine za ((x0 == 68)) ?_ ?_
  ·refine ze ?_
   refine zo (.p (.agg (ZE (Z8.mk 48 57)))) ?_
   refine zo (.p (.lst .ex (([(Z8.mk 48 57)] : List Z8).map Zv))) ?_
   exact zr ((.p (.lst .ex (([(Z8.mk 48 57)] : List Z8).map Zv))), []) ⟨_, rfl⟩
  ·refine ze ?_
   refine zo (bv (x0 == 119)) ?_
   refine za ((x0 == 119)) ?_ ?_
   ·refine za ((x0 == 119)) ?_ ?_
    ·refine ze ?_
     refine zo (.p (.agg (ZE (Z8.mk 48 57)))) ?_
     refine zo (.p (.agg (ZE (Z8.mk 65 90)))) ?_
     refine zi fun r7 hr7 => ?_
     obtain ⟨qr7, er7, exr7, rfl⟩ := Z1u (95) r7 hr7
     refine zc [] (.p (.agg (ZE r7))) [] er7 ?_
     refine zo (.p (.agg (ZE (Z8.mk 97 122)))) ?_
     refine zo (.p (.lst .ex (([(Z8.mk 48 57), (Z8.mk 65 90), r7, (Z8.mk 97 122)] : List Z8).map Zv))) ?_
     exact zr ((.p (.lst .ex (([(Z8.mk 48 57), (Z8.mk 65 90), r7, (Z8.mk 97 122)] : List Z8).map Zv))), []) ⟨_, rfl⟩
    ·refine ze ?_
     refine zo (bv (x0 == 115)) ?_
     refine za ((x0 == 115)) ?_ ?_
     ·refine za ((x0 == 115)) ?_ ?_
      ·refine ze ?_
       refine zo (.p (.agg (ZE (Z8.mk 9 13)))) ?_
       refine zi fun r8 hr8 => ?_
       obtain ⟨qr8, er8, exr8, rfl⟩ := Z1u (32) r8 hr8
       refine zc [] (.p (.agg (ZE r8))) [] er8 ?_
       refine zo (.p (.lst .ex (([(Z8.mk 9 13), r8] : List Z8).map Zv))) ?_
       exact zr ((.p (.lst .ex (([(Z8.mk 9 13), r8] : List Z8).map Zv))), []) ⟨_, rfl⟩
      ·exact zk (Z26 )
     ·refine ze ?_
      refine zo (bv (x0 == 83)) ?_
      refine za ((x0 == 83)) ?_ ?_
      ·refine ze ?_
       refine zo (.p (.agg (ZE (Z8.mk 9 13)))) ?_
       refine zi fun r9 hr9 => ?_
       obtain ⟨qr9, er9, exr9, rfl⟩ := Z1u (32) r9 hr9
       refine zc [] (.p (.agg (ZE r9))) [] er9 ?_
       refine zo (.p (.lst .ex (([(Z8.mk 9 13), r9] : List Z8).map Zv))) ?_
       exact zr ((.p (.lst .ex (([(Z8.mk 9 13), r9] : List Z8).map Zv))), []) ⟨_, rfl⟩
      ·exact zk (Z26 )
   ·refine ze ?_
    refine zo (bv (x0 == 87)) ?_
    refine za ((x0 == 87)) ?_ ?_
    ·refine ze ?_
     refine zo (.p (.agg (ZE (Z8.mk 48 57)))) ?_
     refine zo (.p (.agg (ZE (Z8.mk 65 90)))) ?_
     refine zi fun r10 hr10 => ?_
     obtain ⟨qr10, er10, exr10, rfl⟩ := Z1u (95) r10 hr10
     refine zc [] (.p (.agg (ZE r10))) [] er10 ?_
     refine zo (.p (.agg (ZE (Z8.mk 97 122)))) ?_
     refine zo (.p (.lst .ex (([(Z8.mk 48 57), (Z8.mk 65 90), r10, (Z8.mk 97 122)] : List Z8).map Zv))) ?_
     exact zr ((.p (.lst .ex (([(Z8.mk 48 57), (Z8.mk 65 90), r10, (Z8.mk 97 122)] : List Z8).map Zv))), []) ⟨_, rfl⟩
    ·refine ze ?_
     refine zo (bv (x0 == 115)) ?_
     refine za ((x0 == 115)) ?_ ?_
     ·refine za ((x0 == 115)) ?_ ?_
      ·refine ze ?_
       refine zo (.p (.agg (ZE (Z8.mk 9 13)))) ?_
       refine zi fun r11 hr11 => ?_
       obtain ⟨qr11, er11, exr11, rfl⟩ := Z1u (32) r11 hr11
       refine zc [] (.p (.agg (ZE r11))) [] er11 ?_
       refine zo (.p (.lst .ex (([(Z8.mk 9 13), r11] : List Z8).map Zv))) ?_
       exact zr ((.p (.lst .ex (([(Z8.mk 9 13), r11] : List Z8).map Zv))), []) ⟨_, rfl⟩
      ·exact zk (Z26 )
     ·refine ze ?_
      refine zo (bv (x0 == 83)) ?_
      refine za ((x0 == 83)) ?_ ?_
      ·refine ze ?_
       refine zo (.p (.agg (ZE (Z8.mk 9 13)))) ?_
       refine zi fun r12 hr12 => ?_
       obtain ⟨qr12, er12, exr12, rfl⟩ := Z1u (32) r12 hr12
       refine zc [] (.p (.agg (ZE r12))) [] er12 ?_
       refine zo (.p (.lst .ex (([(Z8.mk 9 13), r12] : List Z8).map Zv))) ?_
       exact zr ((.p (.lst .ex (([(Z8.mk 9 13), r12] : List Z8).map Zv))), []) ⟨_, rfl⟩
      ·exact zk (Z26 )
theorem ZcJ (x0 : Int) {r} (h : Z2E x0 = some r) : Z50 x0 = some r :=
 pick_of (fun _ _ ha hb => RRun.uniq (ZcQ) (ha ) (hb )) (Zci x0 r h)
noncomputable def Z1U (x2 : Int) (zl : List Int) (z2 : Int) (z6 : Int) : Option (Int × Int × Int × Int) :=
 (ZS 21 x2 zl z2 z6).bind fun r1 =>
 some (0, r1.1, r1.2.1, r1.2.2)
theorem Z30 (x2 : Int) (zl : List Int) (zp : Int) (z7 : Int) (zd : Int) (zh : List Zq) (z2 : Int) (z6 : Int) (zn : Own) (zb : Own) (zu : okApp zb = true) : Sim (Z3c zl z7 zd zh zn zb) (Z1U x2 zl z2 z6) (Z9O 1 (.ptr 0 0) (iv x2) [(Zi (Zk.mk zl zp z7 zd zh (Zj.mk z2 z6)) zn zb)]) := by
 unfold Z1U
 refine zf (Zhy ..) ?_
 refine ze ?_
 refine zi fun r1 hr1 => ?_
 obtain ⟨qr1, er1, exr1, rfl⟩ := ZV (21) (x2) (zl) (zp) (z7) (zd) (zh) (z2) (z6) zn zb zu r1 hr1
 refine zc [0] (.p (.tup [])) [(Zi (Zk.mk zl r1.1 z7 zd zh (Zj.mk r1.2.1 r1.2.2)) zn zb)] er1 ?_
 refine ze ?_
 exact zr ((iv 0), [(Zi (Zk.mk zl r1.1 z7 zd zh (Zj.mk r1.2.1 r1.2.2)) zn zb)]) ⟨_, rfl⟩
noncomputable def Z5V (x1 : Int) (zp : Int) (z2 : Int) (z6 : Int) : Option (Int × Int × Int × Int) :=
 some (x1, zp, z2, z6)
theorem Z9G (x1 : Int) (zl : List Int) (zp : Int) (z7 : Int) (zd : Int) (zh : List Zq) (z2 : Int) (z6 : Int) (zn : Own) (zb : Own) (zu : okApp zb = true) : Sim (Z3c zl z7 zd zh zn zb) (Z5V x1 zp z2 z6) (ZeU 1 (iv x1) [(Zi (Zk.mk zl zp z7 zd zh (Zj.mk z2 z6)) zn zb)]) := by
 unfold Z5V
 refine zf (Zhx ..) ?_
 refine ze ?_
 exact zr ((iv x1), [(Zi (Zk.mk zl zp z7 zd zh (Zj.mk z2 z6)) zn zb)]) ⟨_, rfl⟩
noncomputable def Z5N (x1 : Int) (x2 : Int) (zl : List Int) (zp : Int) (z7 : Int) (zd : Int) (zh : List Zq) (z2 : Int) (z6 : Int) : Option (Int × Int × Int × Int) :=
 if ((x1 == 110)) = true then
 (some (10, zp, z2, z6))
 else
 (if ((x1 == 116)) = true then
 (some (9, zp, z2, z6))
 else
 (if ((x1 == 114)) = true then
 (some (13, zp, z2, z6))
 else
 (if ((x1 == 120)) = true then
 ((Z1F ((Zk.mk zl zp z7 zd zh (Zj.mk z2 z6)))).bind fun r1 =>
 (Z8C r1).bind fun r2 =>
 if ((decide (0 ≤ r2))) = true then
 ((Z24 zl zp).bind fun r3 =>
 (Z1F ((Zk.mk zl r3.2 z7 zd zh (Zj.mk z2 z6)))).bind fun r4 =>
 (Z8C r4).bind fun r5 =>
 if ((decide (0 ≤ r5))) = true then
 ((Z24 zl r3.2).bind fun r6 =>
 some ((IntKind.i64.wrap ((IntKind.i64.wrap (16 * r2)) + r5)), r6.2, z2, z6))
 else
 (Z1U x2 zl z2 z6))
 else
 (Z1U x2 zl z2 z6))
 else
 (if ((decide (32 < x1))) = true then
 (if ((decide (x1 < 127))) = true then
 ((Z6o (([(Z8.mk 48 57), (Z8.mk 65 90), (Z8.mk 97 122)] : List Z8)) x1).bind fun r7 =>
 if ((!r7)) = true then
 (Z5V x1 zp z2 z6)
 else
 (Z1U x2 zl z2 z6))
 else
 (Z1U x2 zl z2 z6))
 else
 (Z1U x2 zl z2 z6)))))
theorem Zb3 (x1 : Int) (x2 : Int) (zl : List Int) (zp : Int) (z7 : Int) (zd : Int) (zh : List Zq) (z2 : Int) (z6 : Int) (zn : Own) (zb : Own) (zu : okApp zb = true) : Sim (Z3c zl z7 zd zh zn zb) (Z5N x1 x2 zl zp z7 zd zh z2 z6) (EE 57 [(.ptr 0 0), (iv x1), (iv x2)] [(Zi (Zk.mk zl zp z7 zd zh (Zj.mk z2 z6)) zn zb)]) := by
 unfold Z5N
 refine zf (ZjU ..) ?_
 refine ze ?_
 refine ze ?_
 refine zo (bv (x1 == 110)) ?_
 refine za ((x1 == 110)) ?_ ?_
 ·refine ze ?_
  exact zr ((iv 10), [(Zi (Zk.mk zl zp z7 zd zh (Zj.mk z2 z6)) zn zb)]) ⟨_, rfl⟩
 ·refine ze ?_
  refine zo (bv (x1 == 116)) ?_
  refine za ((x1 == 116)) ?_ ?_
  ·refine ze ?_
   exact zr ((iv 9), [(Zi (Zk.mk zl zp z7 zd zh (Zj.mk z2 z6)) zn zb)]) ⟨_, rfl⟩
  ·refine ze ?_
   refine zo (bv (x1 == 114)) ?_
   refine za ((x1 == 114)) ?_ ?_
   ·refine ze ?_
    exact zr ((iv 13), [(Zi (Zk.mk zl zp z7 zd zh (Zj.mk z2 z6)) zn zb)]) ⟨_, rfl⟩
   ·refine ze ?_
    refine zo (bv (x1 == 120)) ?_
    refine za ((x1 == 120)) ?_ ?_
    ·refine ze ?_
     refine zi fun r1 hr1 => ?_
     obtain ⟨qr1, er1, exr1, rfl⟩ := Z1K ((Zk.mk zl zp z7 zd zh (Zj.mk z2 z6))) zn zb zu r1 hr1
     refine zc [0] (iv r1) [(Zi (Zk.mk zl zp z7 zd zh (Zj.mk z2 z6)) zn zb)] er1 ?_
     refine zi fun r2 hr2 => ?_
     obtain ⟨qr2, er2, exr2, rfl⟩ := ZbV (r1) r2 hr2
     refine zc [] (iv r2) [(Zi (Zk.mk zl zp z7 zd zh (Zj.mk z2 z6)) zn zb)] er2 ?_
     refine ze ?_
     refine zo (bv (decide (0 ≤ r2))) ?_
     refine za ((decide (0 ≤ r2))) ?_ ?_
     ·refine ze ?_
      refine zi fun r3 hr3 => ?_
      obtain ⟨qr3, er3, exr3, rfl⟩ := Z2p (zl) (zp) (z7) (zd) (zh) (z2) (z6) zn zb zu r3 hr3
      refine zc [0] (iv r3.1) [(Zi (Zk.mk zl r3.2 z7 zd zh (Zj.mk z2 z6)) zn zb)] er3 ?_
      refine ze ?_
      refine zi fun r4 hr4 => ?_
      obtain ⟨qr4, er4, exr4, rfl⟩ := Z1K ((Zk.mk zl r3.2 z7 zd zh (Zj.mk z2 z6))) zn zb zu r4 hr4
      refine zc [0] (iv r4) [(Zi (Zk.mk zl r3.2 z7 zd zh (Zj.mk z2 z6)) zn zb)] er4 ?_
      refine zi fun r5 hr5 => ?_
      obtain ⟨qr5, er5, exr5, rfl⟩ := ZbV (r4) r5 hr5
      refine zc [] (iv r5) [(Zi (Zk.mk zl r3.2 z7 zd zh (Zj.mk z2 z6)) zn zb)] er5 ?_
      refine ze ?_
      refine zo (bv (decide (0 ≤ r5))) ?_
      refine za ((decide (0 ≤ r5))) ?_ ?_
      ·refine ze ?_
       refine zi fun r6 hr6 => ?_
       obtain ⟨qr6, er6, exr6, rfl⟩ := Z2p (zl) (r3.2) (z7) (zd) (zh) (z2) (z6) zn zb zu r6 hr6
       refine zc [0] (iv r6.1) [(Zi (Zk.mk zl r6.2 z7 zd zh (Zj.mk z2 z6)) zn zb)] er6 ?_
       refine ze ?_
       refine zo (iv (IntKind.i64.wrap (16 * r2))) ?_
       refine zo (iv (IntKind.i64.wrap ((IntKind.i64.wrap (16 * r2)) + r5))) ?_
       exact zr ((iv (IntKind.i64.wrap ((IntKind.i64.wrap (16 * r2)) + r5))), [(Zi (Zk.mk zl r6.2 z7 zd zh (Zj.mk z2 z6)) zn zb)]) ⟨_, rfl⟩
      ·exact zk (Z30 (x2) (zl) (r3.2) (z7) (zd) (zh) (z2) (z6) zn zb zu)
     ·exact zk (Z30 (x2) (zl) (zp) (z7) (zd) (zh) (z2) (z6) zn zb zu)
    ·refine ze ?_
     refine zo (bv (decide (32 < x1))) ?_
     refine za ((decide (32 < x1))) ?_ ?_
     ·refine zo (bv (decide (x1 < 127))) ?_
      refine za ((decide (x1 < 127))) ?_ ?_
      ·refine zo (.p (.agg (ZE (Z8.mk 48 57)))) ?_
       refine zo (.p (.agg (ZE (Z8.mk 65 90)))) ?_
       refine zo (.p (.agg (ZE (Z8.mk 97 122)))) ?_
       refine zo (.p (.lst .ex (([(Z8.mk 48 57), (Z8.mk 65 90), (Z8.mk 97 122)] : List Z8).map Zv))) ?_
       refine zi fun r7 hr7 => ?_
       obtain ⟨qr7, er7, exr7, rfl⟩ := Zdb (([(Z8.mk 48 57), (Z8.mk 65 90), (Z8.mk 97 122)] : List Z8)) (x1) .sh r7 hr7
       refine zc [] (bv r7) [(Zi (Zk.mk zl zp z7 zd zh (Zj.mk z2 z6)) zn zb)] er7 ?_
       refine zo (bv (!r7)) ?_
       refine za ((!r7)) ?_ ?_
       ·exact zk (Z9G (x1) (zl) (zp) (z7) (zd) (zh) (z2) (z6) zn zb zu)
       ·exact zk (Z30 (x2) (zl) (zp) (z7) (zd) (zh) (z2) (z6) zn zb zu)
      ·exact zk (Z30 (x2) (zl) (zp) (z7) (zd) (zh) (z2) (z6) zn zb zu)
     ·exact zk (Z30 (x2) (zl) (zp) (z7) (zd) (zh) (z2) (z6) zn zb zu)
theorem Zbk (x1 : Int) (x2 : Int) (zl : List Int) (zp : Int) (z7 : Int) (zd : Int) (zh : List Zq) (z2 : Int) (z6 : Int) {r} (h : Z5N x1 x2 zl zp z7 zd zh z2 z6 = some r) : Z4T x1 x2 zl zp z7 zd zh z2 z6 = some r :=
 pick_of (fun _ _ ha hb => RRun.uniq (ZbK _ _ _ _ _ _) (ha .ex .ex rfl) (hb .ex .ex rfl)) (fun zn zb zu => Zb3 x1 x2 zl zp z7 zd zh z2 z6 zn zb zu r h)
noncomputable def Z7O (x0 : Int) : Option (Int) :=
 some ((IntKind.i64.wrap (x0 - 48)))
theorem Zd6 (x0 : Int) : Sim (Z5h) (Z7O x0) (Zfz 0 (iv x0) []) := by
 unfold Z7O
 refine zf (Zjq ..) ?_
 refine ze ?_
 refine zo (iv (IntKind.i64.wrap (x0 - 48))) ?_
 exact zr ((iv (IntKind.i64.wrap (x0 - 48))), []) ⟨_, rfl⟩
noncomputable def Z7W (x0 : Int) : Option (Int) :=
 some ((IntKind.i64.wrap ((IntKind.i64.wrap (x0 - 97)) + 10)))
theorem Zd5 (x0 : Int) : Sim (Z5h) (Z7W x0) (ZfB 0 (iv x0) []) := by
 unfold Z7W
 refine zf (ZiB ..) ?_
 refine ze ?_
 refine zo (iv (IntKind.i64.wrap (x0 - 97))) ?_
 refine zo (iv (IntKind.i64.wrap ((IntKind.i64.wrap (x0 - 97)) + 10))) ?_
 exact zr ((iv (IntKind.i64.wrap ((IntKind.i64.wrap (x0 - 97)) + 10))), []) ⟨_, rfl⟩
noncomputable def Z6M  : Option (Int) :=
 some ((-1))
theorem Zab  : Sim (Z5h) (Z6M) (Zek 0  []) := by
 unfold Z6M
 refine zf (ZiU ..) ?_
 refine ze ?_
 exact zr ((iv (-1)), []) ⟨_, rfl⟩
noncomputable def Z6J (x0 : Int) : Option (Int) :=
 if ((decide (97 ≤ x0))) = true then
 (if ((decide (x0 ≤ 102))) = true then
 (Z7W x0)
 else
 (Z6M))
 else
 (Z6M)
theorem Za2 (x0 : Int) : Sim (Z5h) (Z6J x0) (Zeq 0 (iv x0) []) := by
 unfold Z6J
 refine zf (Zi7 ..) ?_
 refine ze ?_
 refine zo (bv (decide (97 ≤ x0))) ?_
 refine za ((decide (97 ≤ x0))) ?_ ?_
 ·refine zo (bv (decide (x0 ≤ 102))) ?_
  refine za ((decide (x0 ≤ 102))) ?_ ?_
  ·exact zk (Zd5 (x0))
  ·exact zk (Zab )
 ·exact zk (Zab )
noncomputable def Z9Y (x0 : Int) : Option (Int) :=
 if ((decide (48 ≤ x0))) = true then
 (if ((decide (x0 ≤ 57))) = true then
 (Z7O x0)
 else
 (Z6J x0))
 else
 (Z6J x0)
theorem Zeh (x0 : Int) : Sim (Z5h) (Z9Y x0) (EE 71 [(iv x0)] []) := by
 unfold Z9Y
 refine zf (Zlj ..) ?_
 refine ze ?_
 refine ze ?_
 refine zo (bv (decide (48 ≤ x0))) ?_
 refine za ((decide (48 ≤ x0))) ?_ ?_
 ·refine zo (bv (decide (x0 ≤ 57))) ?_
  refine za ((decide (x0 ≤ 57))) ?_ ?_
  ·exact zk (Zd6 (x0))
  ·exact zk (Za2 (x0))
 ·exact zk (Za2 (x0))
theorem Zfa (x0 : Int) {r} (h : Z9Y x0 = some r) : Z8C x0 = some r :=
 pick_of (fun _ _ ha hb => RRun.uniq (Zfb) (ha ) (hb )) (Zeh x0 r h)
noncomputable def Z7m (x0 : List Z8) (x1 : Int) : Option (Bool) :=
 (Z3k x0 x1).bind fun r1 =>
 some (r1)
theorem ZcZ (x0 : List Z8) (x1 : Int) (ox0 : Own) : Sim (Z6q) (Z7m x0 x1) (EE 19 [(.p (.lst ox0 (x0.map Zv))), (iv x1)] []) := by
 unfold Z7m
 refine zf (ZkK ..) ?_
 refine ze ?_
 refine zx (.ptr 0 0) [[(iv x1)]] ?_
 refine ze ?_
 refine zi fun r1 hr1 => ?_
 obtain ⟨qr1, er1, exr1, rfl⟩ := Z8i (x0) (x1) .sh r1 hr1
 refine zc [0] (bv r1) [[(iv x1)]] er1 ?_
 exact zr ((bv r1), [[(iv x1)]]) ⟨_, rfl⟩
theorem Zd7 (x0 : List Z8) (x1 : Int) {r} (h : Z7m x0 x1 = some r) : Z6o x0 x1 = some r :=
 pick_of (fun _ _ ha hb => RRun.uniq (ZdC) (ha .ex) (hb .ex)) (fun ox0 => ZcZ x0 x1 ox0 r h)
noncomputable def Z3i (x0 : List Z8) (zZ : Int) : Option (Bool) :=
 (Z42 x0 zZ).bind fun r1 =>
 some ((decide (0 ≤ r1)))
theorem Z7Z (x0 : List Z8) (zZ : Int) (ox0 : Own) : Sim (Z2L zZ) (Z3i x0 zZ) (EE 30 [(.p (.lst ox0 (x0.map Zv))), (.clo 31 [] [(.ptr 0 0)])] [[(iv zZ)]]) := by
 unfold Z3i
 refine zf (ZkJ ..) ?_
 refine ze ?_
 refine ze ?_
 refine zi fun r1 hr1 => ?_
 obtain ⟨qr1, er1, exr1, rfl⟩ := Z9d (x0) (zZ) .sh r1 hr1
 refine zc [0] (iv r1) [[(iv zZ)]] er1 ?_
 refine zo (bv (decide (0 ≤ r1))) ?_
 exact zr ((bv (decide (0 ≤ r1))), [[(iv zZ)]]) ⟨_, rfl⟩
theorem Z8l (x0 : List Z8) (zZ : Int) {r} (h : Z3i x0 zZ = some r) : Z3k x0 zZ = some r :=
 pick_of (fun _ _ ha hb => RRun.uniq (Z8x _) (ha .ex) (hb .ex)) (fun ox0 => Z7Z x0 zZ ox0 r h)
noncomputable def Z45 (x0 : List Z8) (zZ : Int) : Option (Int) :=
 Z2H x0 ((x0.length : Int)) 0 zZ
theorem Z8S (x0 : List Z8) (zZ : Int) (ox0 : Own) : Sim (Z1o zZ) (Z45 x0 zZ) (EE 37 [(.p (.lst ox0 (x0.map Zv))), (.clo 31 [] [(.ptr 0 0)])] [[(iv zZ)]]) := by
 unfold Z45
 refine zf (Zk3 ..) ?_
 refine ze ?_
 refine ze ?_
 refine zo (iv (x0.length : Int)) ?_ (Eq.trans (by kernel_rfl) (xlen_of (P := PP) (t := 24) (d := 39) (by kernel_rfl) Zv (shrO ox0) x0))
 exact zk (Z5F (x0) ((x0.length : Int)) (0) (zZ) ox0)
theorem Z9b (x0 : List Z8) (zZ : Int) {r} (h : Z45 x0 zZ = some r) : Z42 x0 zZ = some r :=
 pick_of (fun _ _ ha hb => RRun.uniq (Z6i _) (ha .ex) (hb .ex)) (fun ox0 => Z8S x0 zZ ox0 r h)
noncomputable def Z3l (x0 : List Z8) (x7 : Int) (x8 : Int) (zZ : Int) : Option (Int) :=
 Z2H x0 x7 ((IntKind.i64.wrap (x8 + 1))) zZ
theorem Z85 (x0 : List Z8) (x7 : Int) (x8 : Int) (zZ : Int) (ox0 : Own) : Sim (Z1o zZ) (Z3l x0 x7 x8 zZ) (Zgl 1 (.p (.lst ox0 (x0.map Zv))) (.clo 31 [] [(.ptr 0 0)]) (iv x7) (iv x8) [[(iv zZ)]]) := by
 unfold Z3l
 refine zf (Zit ..) ?_
 refine ze ?_
 refine zo (iv (IntKind.i64.wrap (x8 + 1))) ?_
 exact zk (Z5F (x0) (x7) ((IntKind.i64.wrap (x8 + 1))) (zZ) ox0)
noncomputable def Z2J (x0 : List Z8) (x7 : Int) (x8 : Int) (zZ : Int) : Option (Int) :=
 (lget x0 x8).bind fun a1 =>
 (Z6A a1 zZ).bind fun r2 =>
 if (r2) = true then
 (some (x8))
 else
 (Z3l x0 x7 x8 zZ)
theorem Z7X (x0 : List Z8) (x7 : Int) (x8 : Int) (zZ : Int) (ox0 : Own) : Sim (Z1o zZ) (Z2J x0 x7 x8 zZ) (Zg4 1 (.p (.lst ox0 (x0.map Zv))) (.clo 31 [] [(.ptr 0 0)]) (iv x7) (iv x8) [[(iv zZ)]]) := by
 unfold Z2J
 refine zf (Zi0 ..) ?_
 refine ze ?_
 refine ze ?_
 refine zi fun a1 ha1 => ?_
 refine zo (.cptr (ZE a1)) ?_ (Eq.trans (by kernel_rfl) (xidx_of (o := (shrO ox0)) (k := .i64) (n := 2) (e := Zv) (cs := Z5d) (fun _ => rfl) (fun _ => rfl) (by decide) ha1))
 refine zo (.p (.agg (ZE a1))) ?_
 refine zi fun r2 hr2 => ?_
 obtain ⟨qr2, er2, exr2, rfl⟩ := ZcD (a1) (zZ) r2 hr2
 refine zv [0] (bv r2) [[(iv zZ)]] er2 ?_
 refine za (r2) ?_ ?_
 ·refine ze ?_
  exact zr ((iv x8), [[(iv zZ)]]) ⟨_, rfl⟩
 ·exact zk (Z85 (x0) (x7) (x8) (zZ) ox0)
noncomputable def Z4I  : Option (Int) :=
 some ((-1))
theorem Z86 (zZ : Int) : Sim (Z1o zZ) (Z4I) (ZfS 1  [[(iv zZ)]]) := by
 unfold Z4I
 refine zf (ZhU ..) ?_
 refine ze ?_
 exact zr ((iv (-1)), [[(iv zZ)]]) ⟨_, rfl⟩
noncomputable def Z2b (x0 : List Z8) (x7 : Int) (x8 : Int) (zZ : Int) : Option (Int) :=
 if ((decide (x8 < x7))) = true then
 (Z2J x0 x7 x8 zZ)
 else
 (Z4I)
theorem Z87 (x0 : List Z8) (x7 : Int) (x8 : Int) (zZ : Int) (ox0 : Own) : Sim (Z1o zZ) (Z2b x0 x7 x8 zZ) (Zc6 1 (.p (.lst ox0 (x0.map Zv))) (.clo 31 [] [(.ptr 0 0)]) (iv x7) (iv x8) [[(iv zZ)]]) := by
 unfold Z2b
 refine zf (ZiR ..) ?_
 refine ze ?_
 refine zo (bv (decide (x8 < x7))) ?_
 refine za ((decide (x8 < x7))) ?_ ?_
 ·exact zk (Z7X (x0) (x7) (x8) (zZ) ox0)
 ·exact zk (Z86 (zZ))
theorem Z48 (x0 : List Z8) (x7 : Int) (x8 : Int) (zZ : Int) {r} (h : Z2b x0 x7 x8 zZ = some r) : Z2H x0 x7 x8 zZ = some r :=
 pick_of (fun _ _ ha hb => RRun.uniq (Z6i _) (ha .ex) (hb .ex)) (fun ox0 => Z87 x0 x7 x8 zZ ox0 r h)
noncomputable def Z6D (x0 : Z8) (zZ : Int) : Option (Bool) :=
 if ((decide (x0.Lo ≤ zZ))) = true then
 (some ((decide (zZ ≤ x0.Hi))))
 else
 (some (false))
theorem Zcp (x0 : Z8) (zZ : Int) : Sim (Z5G zZ) (Z6D x0 zZ) (EE 31 [(.p (.agg (ZE x0))), (.ptr 0 0)] [[(iv zZ)]]) := by
 unfold Z6D
 refine zf (Zky ..) ?_
 refine ze ?_
 refine zx (.ptr 1 0) [[(iv zZ)], (Z1B x0)] ?_
 refine ze ?_
 refine zo (.ptr 1 0) ?_
 refine zo (iv x0.Lo) ?_
 refine zo (iv zZ) ?_
 refine zo (bv (decide (x0.Lo ≤ zZ))) ?_
 refine za ((decide (x0.Lo ≤ zZ))) ?_ ?_
 ·refine zo (iv zZ) ?_
  refine zo (.ptr 1 1) ?_
  refine zo (iv x0.Hi) ?_
  refine zo (bv (decide (zZ ≤ x0.Hi))) ?_
  exact zr ((bv (decide (zZ ≤ x0.Hi))), [[(iv zZ)], (Z1B x0)]) ⟨_, rfl⟩
 ·exact zr ((bv false), [[(iv zZ)], (Z1B x0)]) ⟨_, rfl⟩
theorem ZcF (x0 : Z8) (zZ : Int) {r} (h : Z6D x0 zZ = some r) : Z6A x0 zZ = some r :=
 pick_of (fun _ _ ha hb => RRun.uniq (ZcY _) (ha ) (hb )) (Zcp x0 zZ r h)
noncomputable def Z4P (x1 : Int) (zl : List Int) (zp : Int) (z7 : Int) (zd : Int) (zh : List Zq) (z2 : Int) (z6 : Int) : Option (Z3 × Int × Int × Int) :=
 (Z16 ((ByteArray.mk #[94])) zl zp).bind fun r1 =>
 Z2N x1 r1.1 0 zl r1.2 z7 zd zh z2 z6 (([] : List Z8))
theorem Zb2 (x1 : Int) (zl : List Int) (zp : Int) (z7 : Int) (zd : Int) (zh : List Zq) (z2 : Int) (z6 : Int) (zn : Own) (zb : Own) (zu : okApp zb = true) : Sim (Z1a zl z7 zd zh zn zb) (Z4P x1 zl zp z7 zd zh z2 z6) (EE 50 [(.ptr 0 0), (iv x1)] [(Zi (Zk.mk zl zp z7 zd zh (Zj.mk z2 z6)) zn zb)]) := by
 unfold Z4P
 refine zf (Zkl ..) ?_
 refine ze ?_
 refine zz (.ptr 1 0) [(Zi (Zk.mk zl zp z7 zd zh (Zj.mk z2 z6)) zn zb), (Zo (Z3.mk 0 0 0 0 0 ([] : List Z8) ([] : List Z3)) .nl .nl)] ?_
 refine ze ?_
 refine zi fun r1 hr1 => ?_
 obtain ⟨qr1, er1, exr1, rfl⟩ := Z1c ((ByteArray.mk #[94])) (zl) (zp) (z7) (zd) (zh) (z2) (z6) zn zb zu r1 hr1
 refine zc [0] (bv r1.1) [(Zi (Zk.mk zl r1.2 z7 zd zh (Zj.mk z2 z6)) zn zb), (Zo (Z3.mk 0 0 0 0 0 ([] : List Z8) ([] : List Z3)) .nl .nl)] er1 ?_
 refine ze ?_
 refine zz (.ptr 2 0) [(Zi (Zk.mk zl r1.2 z7 zd zh (Zj.mk z2 z6)) zn zb), (Zo (Z3.mk 0 0 0 0 0 ([] : List Z8) ([] : List Z3)) .nl .nl), [(.p (.lst .nl []))]] ?_
 refine ze ?_
 refine ze ?_
 exact zk (Z7a (x1) (r1.1) (0) (zl) (r1.2) (z7) (zd) (zh) (z2) (z6) ((Z3.mk 0 0 0 0 0 ([] : List Z8) ([] : List Z3))) (([] : List Z8)) zn zb .nl .nl .nl zu rfl rfl)
theorem Zbb (x1 : Int) (zl : List Int) (zp : Int) (z7 : Int) (zd : Int) (zh : List Zq) (z2 : Int) (z6 : Int) {r} (h : Z4P x1 zl zp z7 zd zh z2 z6 = some r) : Z5M x1 zl zp z7 zd zh z2 z6 = some r :=
 pick_of (fun _ _ ha hb => RRun.uniq (Z8t _ _ _ _ _ _) (ha .ex .ex rfl) (hb .ex .ex rfl)) (fun zn zb zu => Zb2 x1 zl zp z7 zd zh z2 z6 zn zb zu r h)
noncomputable def Z1f (x1 : Int) (x5 : Bool) (x8 : Int) (zl : List Int) (zp : Int) (z7 : Int) (zd : Int) (zh : List Zq) (z2 : Int) (z6 : Int) (z11 : List Z8) : Option (Z3 × Int × Int × Int) :=
 Z2N x1 x5 ((IntKind.i64.wrap (x8 + 1))) zl zp z7 zd zh z2 z6 z11
theorem Z1I (x1 : Int) (x5 : Bool) (x8 : Int) (zl : List Int) (zp : Int) (z7 : Int) (zd : Int) (zh : List Zq) (z2 : Int) (z6 : Int) (b1 : Z3) (z11 : List Z8) (zn : Own) (zb : Own) (zB : Own) (zy : Own) (z1g : Own) (zu : okApp zb = true) (zP : okApp zB = true) (zI : okApp zy = true) : Sim (Z1a zl z7 zd zh zn zb) (Z1f x1 x5 x8 zl zp z7 zd zh z2 z6 z11) (Z7y 1 (.ptr 0 0) (iv x1) (.ptr 1 0) (bv x5) (.ptr 2 0) (.clo 58 [] [(.ptr 2 0)]) (iv x8) [(Zi (Zk.mk zl zp z7 zd zh (Zj.mk z2 z6)) zn zb), (Zo b1 zB zy), [(.p (.lst z1g (z11.map Zv)))]]) := by
 unfold Z1f
 refine zf (ZiX ..) ?_
 refine ze ?_
 refine zo (iv (IntKind.i64.wrap (x8 + 1))) ?_
 exact zk (Z7a (x1) (x5) ((IntKind.i64.wrap (x8 + 1))) (zl) (zp) (z7) (zd) (zh) (z2) (z6) (b1) (z11) zn zb zB zy z1g zu zP zI)
noncomputable def Z3Q (zp : Int) (z2 : Int) (z6 : Int) (z11 : List Z8) : Option (Z3 × Int × Int × Int) :=
 some ((Z3.mk 1 0 0 0 0 z11 ([] : List Z3)), zp, z2, z6)
theorem Z6K (zl : List Int) (zp : Int) (z7 : Int) (zd : Int) (zh : List Zq) (z2 : Int) (z6 : Int) (b1 : Z3) (z11 : List Z8) (zn : Own) (zb : Own) (zB : Own) (zy : Own) (z1g : Own) (zu : okApp zb = true) (zP : okApp zB = true) (zI : okApp zy = true) : Sim (Z1a zl z7 zd zh zn zb) (Z3Q zp z2 z6 z11) (Zdn 1 (.ptr 1 0) (.ptr 2 0) [(Zi (Zk.mk zl zp z7 zd zh (Zj.mk z2 z6)) zn zb), (Zo b1 zB zy), [(.p (.lst z1g (z11.map Zv)))]]) := by
 unfold Z3Q
 refine zf (Zhi ..) ?_
 refine ze ?_
 refine zo (.p (.lst (shrO z1g) (z11.map Zv))) ?_
 refine zo (.p (.agg (Zz (Z3.mk 1 0 0 0 0 z11 ([] : List Z3)) (shrO (shrO z1g)) .nl))) ?_
 refine zt [(Zi (Zk.mk zl zp z7 zd zh (Zj.mk z2 z6)) zn zb), (Zo (Z3.mk 1 0 0 0 0 z11 ([] : List Z3)) (shrO (shrO z1g)) .nl), [(.p (.lst z1g (z11.map Zv)))]] ?_
 exact zr ((.p (.agg (Zz (Z3.mk 1 0 0 0 0 z11 ([] : List Z3)) .sh .sh))), [(Zi (Zk.mk zl zp z7 zd zh (Zj.mk z2 z6)) zn zb), (Zo (Z3.mk 1 0 0 0 0 z11 ([] : List Z3)) (shrO (shrO z1g)) .nl), [(.p (.lst z1g (z11.map Zv)))]]) ⟨_, rfl⟩
noncomputable def Z4S (x5 : Bool) (zl : List Int) (zp : Int) (z2 : Int) (z6 : Int) (z11 : List Z8) : Option (Z3 × Int × Int × Int) :=
 (Z24 zl zp).bind fun r1 =>
 if (x5) = true then
 ((Z6p z11).bind fun r2 =>
 Z3Q r1.2 z2 z6 r2.1)
 else
 (Z3Q r1.2 z2 z6 z11)
theorem Z9K (x5 : Bool) (zl : List Int) (zp : Int) (z7 : Int) (zd : Int) (zh : List Zq) (z2 : Int) (z6 : Int) (b1 : Z3) (z11 : List Z8) (zn : Own) (zb : Own) (zB : Own) (zy : Own) (z1g : Own) (zu : okApp zb = true) (zP : okApp zB = true) (zI : okApp zy = true) : Sim (Z1a zl z7 zd zh zn zb) (Z4S x5 zl zp z2 z6 z11) (ZeH 1 (.ptr 0 0) (.ptr 1 0) (bv x5) (.ptr 2 0) [(Zi (Zk.mk zl zp z7 zd zh (Zj.mk z2 z6)) zn zb), (Zo b1 zB zy), [(.p (.lst z1g (z11.map Zv)))]]) := by
 unfold Z4S
 refine zf (ZhE ..) ?_
 refine ze ?_
 refine zi fun r1 hr1 => ?_
 obtain ⟨qr1, er1, exr1, rfl⟩ := Z2p (zl) (zp) (z7) (zd) (zh) (z2) (z6) zn zb zu r1 hr1
 refine zc [0] (iv r1.1) [(Zi (Zk.mk zl r1.2 z7 zd zh (Zj.mk z2 z6)) zn zb), (Zo b1 zB zy), [(.p (.lst z1g (z11.map Zv)))]] er1 ?_
 refine ze ?_
 refine za (x5) ?_ ?_
 ·refine ze ?_
  refine zo (.p (.lst (shrO z1g) (z11.map Zv))) ?_
  refine zi fun r2 hr2 => ?_
  obtain ⟨qr2, er2, exr2, rfl⟩ := Za8 (z11) .sh r2 hr2
  refine zc [] (.p (.tup [(.lst .sh (r2.1.map Zv)), (.v (.int .i64 r2.2))])) [(Zi (Zk.mk zl r1.2 z7 zd zh (Zj.mk z2 z6)) zn zb), (Zo b1 zB zy), [(.p (.lst z1g (z11.map Zv)))]] er2 ?_
  refine zo (.p (.lst .sh (r2.1.map Zv))) ?_
  refine zo (iv r2.2) ?_
  refine zt [(Zi (Zk.mk zl r1.2 z7 zd zh (Zj.mk z2 z6)) zn zb), (Zo b1 zB zy), [(.p (.lst .sh (r2.1.map Zv)))]] ?_
  exact zk (Z6K (zl) (r1.2) (z7) (zd) (zh) (z2) (z6) (b1) (r2.1) zn zb zB zy .sh zu zP zI)
 ·exact zk (Z6K (zl) (r1.2) (z7) (zd) (zh) (z2) (z6) (b1) (z11) zn zb zB zy z1g zu zP zI)
noncomputable def Z2z (x1 : Int) (x5 : Bool) (x8 : Int) (x9 : Int) (zl : List Int) (z7 : Int) (zd : Int) (zh : List Zq) (z2 : Int) (z6 : Int) (z11 : List Z8) : Option (Z3 × Int × Int × Int) :=
 (ZS 22 x9 zl z2 z6).bind fun r1 =>
 Z1f x1 x5 x8 zl r1.1 z7 zd zh r1.2.1 r1.2.2 z11
theorem Z3Z (x1 : Int) (x5 : Bool) (x8 : Int) (x9 : Int) (zl : List Int) (zp : Int) (z7 : Int) (zd : Int) (zh : List Zq) (z2 : Int) (z6 : Int) (b1 : Z3) (z11 : List Z8) (zn : Own) (zb : Own) (zB : Own) (zy : Own) (z1g : Own) (zu : okApp zb = true) (zP : okApp zB = true) (zI : okApp zy = true) : Sim (Z1a zl z7 zd zh zn zb) (Z2z x1 x5 x8 x9 zl z7 zd zh z2 z6 z11) (ZaR 1 (.ptr 0 0) (iv x1) (.ptr 1 0) (bv x5) (.ptr 2 0) (.clo 58 [] [(.ptr 2 0)]) (iv x8) (iv x9) [(Zi (Zk.mk zl zp z7 zd zh (Zj.mk z2 z6)) zn zb), (Zo b1 zB zy), [(.p (.lst z1g (z11.map Zv)))]]) := by
 unfold Z2z
 refine zf (Zho ..) ?_
 refine ze ?_
 refine zi fun r1 hr1 => ?_
 obtain ⟨qr1, er1, exr1, rfl⟩ := ZV (22) (x9) (zl) (zp) (z7) (zd) (zh) (z2) (z6) zn zb zu r1 hr1
 refine zc [0] (.p (.tup [])) [(Zi (Zk.mk zl r1.1 z7 zd zh (Zj.mk r1.2.1 r1.2.2)) zn zb), (Zo b1 zB zy), [(.p (.lst z1g (z11.map Zv)))]] er1 ?_
 exact zk (Z1I (x1) (x5) (x8) (zl) (r1.1) (z7) (zd) (zh) (r1.2.1) (r1.2.2) (b1) (z11) zn zb zB zy z1g zu zP zI)
noncomputable def Z1E (x1 : Int) (x5 : Bool) (x8 : Int) (x11 : Int) (x15 : Int) (zl : List Int) (zp : Int) (z7 : Int) (zd : Int) (zh : List Zq) (z2 : Int) (z6 : Int) (z11 : List Z8) : Option (Z3 × Int × Int × Int) :=
 if ((z2 == 0)) = true then
 ((Z4j (([(Z8.mk x11 x15)] : List Z8)) z11).bind fun r1 =>
 Z1f x1 x5 x8 zl zp z7 zd zh z2 z6 r1)
 else
 (Z1f x1 x5 x8 zl zp z7 zd zh z2 z6 z11)
theorem Z3R (x1 : Int) (x5 : Bool) (x8 : Int) (x11 : Int) (x15 : Int) (zl : List Int) (zp : Int) (z7 : Int) (zd : Int) (zh : List Zq) (z2 : Int) (z6 : Int) (b1 : Z3) (z11 : List Z8) (zn : Own) (zb : Own) (zB : Own) (zy : Own) (z1g : Own) (zu : okApp zb = true) (zP : okApp zB = true) (zI : okApp zy = true) : Sim (Z1a zl z7 zd zh zn zb) (Z1E x1 x5 x8 x11 x15 zl zp z7 zd zh z2 z6 z11) (ZaM 1 (.ptr 0 0) (iv x1) (.ptr 1 0) (bv x5) (.ptr 2 0) (.clo 58 [] [(.ptr 2 0)]) (iv x8) (iv x11) (iv x15) [(Zi (Zk.mk zl zp z7 zd zh (Zj.mk z2 z6)) zn zb), (Zo b1 zB zy), [(.p (.lst z1g (z11.map Zv)))]]) := by
 unfold Z1E
 refine zf (Zh4 ..) ?_
 refine ze ?_
 refine zo (.ptr 0 0) ?_
 refine zo (.ptr 0 5) ?_
 refine zo (.ptr 0 5) ?_
 refine zo (iv z2) ?_
 refine zo (bv (z2 == 0)) ?_
 refine za ((z2 == 0)) ?_ ?_
 ·refine ze ?_
  refine zo (.p (.agg (ZE (Z8.mk x11 x15)))) ?_
  refine zo (.p (.lst .ex (([(Z8.mk x11 x15)] : List Z8).map Zv))) ?_
  refine zi fun r1 hr1 => ?_
  obtain ⟨qr1, er1, or1_0_0, exr1, rfl⟩ := Z7k (([(Z8.mk x11 x15)] : List Z8)) (z11) .sh z1g r1 hr1
  refine zv [2] (.p (.tup [])) [(Zi (Zk.mk zl zp z7 zd zh (Zj.mk z2 z6)) zn zb), (Zo b1 zB zy), [(.p (.lst or1_0_0 (r1.map Zv)))]] er1 ?_
  exact zk (Z1I (x1) (x5) (x8) (zl) (zp) (z7) (zd) (zh) (z2) (z6) (b1) (r1) zn zb zB zy or1_0_0 zu zP zI)
 ·exact zk (Z1I (x1) (x5) (x8) (zl) (zp) (z7) (zd) (zh) (z2) (z6) (b1) (z11) zn zb zB zy z1g zu zP zI)
noncomputable def Z37 (x1 : Int) (x5 : Bool) (x8 : Int) (x9 : Int) (x11 : Int) (x15 : Int) (zl : List Int) (z7 : Int) (zd : Int) (zh : List Zq) (z2 : Int) (z6 : Int) (z11 : List Z8) : Option (Z3 × Int × Int × Int) :=
 (ZS 22 x9 zl z2 z6).bind fun r1 =>
 Z1E x1 x5 x8 x11 x15 zl r1.1 z7 zd zh r1.2.1 r1.2.2 z11
theorem Z6S (x1 : Int) (x5 : Bool) (x8 : Int) (x9 : Int) (x11 : Int) (x15 : Int) (zl : List Int) (zp : Int) (z7 : Int) (zd : Int) (zh : List Zq) (z2 : Int) (z6 : Int) (b1 : Z3) (z11 : List Z8) (zn : Own) (zb : Own) (zB : Own) (zy : Own) (z1g : Own) (zu : okApp zb = true) (zP : okApp zB = true) (zI : okApp zy = true) : Sim (Z1a zl z7 zd zh zn zb) (Z37 x1 x5 x8 x9 x11 x15 zl z7 zd zh z2 z6 z11) (Zdp 1 (.ptr 0 0) (iv x1) (.ptr 1 0) (bv x5) (.ptr 2 0) (.clo 58 [] [(.ptr 2 0)]) (iv x8) (iv x9) (iv x11) (iv x15) [(Zi (Zk.mk zl zp z7 zd zh (Zj.mk z2 z6)) zn zb), (Zo b1 zB zy), [(.p (.lst z1g (z11.map Zv)))]]) := by
 unfold Z37
 refine zf (Zh8 ..) ?_
 refine ze ?_
 refine zi fun r1 hr1 => ?_
 obtain ⟨qr1, er1, exr1, rfl⟩ := ZV (22) (x9) (zl) (zp) (z7) (zd) (zh) (z2) (z6) zn zb zu r1 hr1
 refine zc [0] (.p (.tup [])) [(Zi (Zk.mk zl r1.1 z7 zd zh (Zj.mk r1.2.1 r1.2.2)) zn zb), (Zo b1 zB zy), [(.p (.lst z1g (z11.map Zv)))]] er1 ?_
 exact zk (Z3R (x1) (x5) (x8) (x11) (x15) (zl) (r1.1) (z7) (zd) (zh) (r1.2.1) (r1.2.2) (b1) (z11) zn zb zB zy z1g zu zP zI)
noncomputable def Z4N (x1 : Int) (x5 : Bool) (x8 : Int) (x9 : Int) (x11 : Int) (zl : List Int) (zp : Int) (z7 : Int) (zd : Int) (zh : List Zq) (z2 : Int) (z6 : Int) (z11 : List Z8) : Option (Z3 × Int × Int × Int) :=
 (Z3w zl zp z7 zd zh z2 z6).bind fun r1 =>
 if ((r1.2.2.2.2.1 == 0)) = true then
 ((nilO (shrO (shrO (shrO (shrO r1.2.1.1)))) r1.2.1.2).bind fun a2 =>
 if ((!a2)) = true then
 (Z37 x1 x5 x8 x9 x11 r1.1 zl z7 zd zh r1.2.2.2.2.1 r1.2.2.2.2.2 z11)
 else
 (if ((decide (r1.1 < x11))) = true then
 (Z37 x1 x5 x8 x9 x11 r1.1 zl z7 zd zh r1.2.2.2.2.1 r1.2.2.2.2.2 z11)
 else
 (Z1E x1 x5 x8 x11 r1.1 zl r1.2.2.2.1 z7 zd zh r1.2.2.2.2.1 r1.2.2.2.2.2 z11)))
 else
 (Z1E x1 x5 x8 x11 r1.1 zl r1.2.2.2.1 z7 zd zh r1.2.2.2.2.1 r1.2.2.2.2.2 z11)
theorem Z9Q (x1 : Int) (x5 : Bool) (x8 : Int) (x9 : Int) (x11 : Int) (zl : List Int) (zp : Int) (z7 : Int) (zd : Int) (zh : List Zq) (z2 : Int) (z6 : Int) (b1 : Z3) (z11 : List Z8) (zn : Own) (zb : Own) (zB : Own) (zy : Own) (z1g : Own) (zu : okApp zb = true) (zP : okApp zB = true) (zI : okApp zy = true) : Sim (Z1a zl z7 zd zh zn zb) (Z4N x1 x5 x8 x9 x11 zl zp z7 zd zh z2 z6 z11) (ZeG 1 (.ptr 0 0) (iv x1) (.ptr 1 0) (bv x5) (.ptr 2 0) (.clo 58 [] [(.ptr 2 0)]) (iv x8) (iv x9) (iv x11) [(Zi (Zk.mk zl zp z7 zd zh (Zj.mk z2 z6)) zn zb), (Zo b1 zB zy), [(.p (.lst z1g (z11.map Zv)))]]) := by
 unfold Z4N
 refine zf (Zhm ..) ?_
 refine ze ?_
 refine zi fun r1 hr1 => ?_
 obtain ⟨qr1, er1, exr1, rfl⟩ := Z7u (zl) (zp) (z7) (zd) (zh) (z2) (z6) zn zb zu r1 hr1
 refine zc [0] (.p (.tup [(.v (.int .i64 r1.1)), (.lst r1.2.1.1 (r1.2.1.2.map Zv)), (.v (.bool r1.2.2.1))])) [(Zi (Zk.mk zl r1.2.2.2.1 z7 zd zh (Zj.mk r1.2.2.2.2.1 r1.2.2.2.2.2)) zn zb), (Zo b1 zB zy), [(.p (.lst z1g (z11.map Zv)))]] er1 ?_
 refine zo (iv r1.1) ?_
 refine zo (.p (.lst (shrO r1.2.1.1) (r1.2.1.2.map Zv))) ?_
 refine zo (bv r1.2.2.1) ?_
 refine ze ?_
 refine zo (.ptr 0 0) ?_
 refine zo (.ptr 0 5) ?_
 refine zo (.ptr 0 5) ?_
 refine zo (iv r1.2.2.2.2.1) ?_
 refine zo (bv (r1.2.2.2.2.1 == 0)) ?_
 refine za ((r1.2.2.2.2.1 == 0)) ?_ ?_
 ·refine zi fun a2 ha2 => ?_
  refine zo (bv (!a2)) ?_ (Eq.trans (by kernel_rfl) (xnil_neq (P := PP) (t := 23) (c := .slice none 0 0) (e := Zv) (by kernel_rfl) ha2))
  refine za ((!a2)) ?_ ?_
  ·exact zk (Z6S (x1) (x5) (x8) (x9) (x11) (r1.1) (zl) (r1.2.2.2.1) (z7) (zd) (zh) (r1.2.2.2.2.1) (r1.2.2.2.2.2) (b1) (z11) zn zb zB zy z1g zu zP zI)
  ·refine zo (bv (decide (r1.1 < x11))) ?_
   refine za ((decide (r1.1 < x11))) ?_ ?_
   ·exact zk (Z6S (x1) (x5) (x8) (x9) (x11) (r1.1) (zl) (r1.2.2.2.1) (z7) (zd) (zh) (r1.2.2.2.2.1) (r1.2.2.2.2.2) (b1) (z11) zn zb zB zy z1g zu zP zI)
   ·exact zk (Z3R (x1) (x5) (x8) (x11) (r1.1) (zl) (r1.2.2.2.1) (z7) (zd) (zh) (r1.2.2.2.2.1) (r1.2.2.2.2.2) (b1) (z11) zn zb zB zy z1g zu zP zI)
 ·exact zk (Z3R (x1) (x5) (x8) (x11) (r1.1) (zl) (r1.2.2.2.1) (z7) (zd) (zh) (r1.2.2.2.2.1) (r1.2.2.2.2.2) (b1) (z11) zn zb zB zy z1g zu zP zI)
noncomputable def Z3M (x1 : Int) (x5 : Bool) (x8 : Int) (x9 : Int) (x11 : Int) (zl : List Int) (zp : Int) (z7 : Int) (zd : Int) (zh : List Zq) (z2 : Int) (z6 : Int) (z11 : List Z8) : Option (Z3 × Int × Int × Int) :=
 (Z16 ((ByteArray.mk #[45])) zl zp).bind fun r1 =>
 if (r1.1) = true then
 ((Z1F ((Zk.mk zl r1.2 z7 zd zh (Zj.mk z2 z6)))).bind fun r2 =>
 if ((r2 == 93)) = true then
 (Z2z x1 x5 x8 x9 zl z7 zd zh z2 z6 z11)
 else
 (if ((r2 == 91)) = true then
 (Z2z x1 x5 x8 x9 zl z7 zd zh z2 z6 z11)
 else
 (if ((r2 == 45)) = true then
 (Z2z x1 x5 x8 x9 zl z7 zd zh z2 z6 z11)
 else
 (if ((decide (r2 < 0))) = true then
 (Z2z x1 x5 x8 x9 zl z7 zd zh z2 z6 z11)
 else
 (Z4N x1 x5 x8 x9 x11 zl r1.2 z7 zd zh z2 z6 z11)))))
 else
 (Z1E x1 x5 x8 x11 x11 zl r1.2 z7 zd zh z2 z6 z11)
theorem Z9L (x1 : Int) (x5 : Bool) (x8 : Int) (x9 : Int) (x11 : Int) (zl : List Int) (zp : Int) (z7 : Int) (zd : Int) (zh : List Zq) (z2 : Int) (z6 : Int) (b1 : Z3) (z11 : List Z8) (zn : Own) (zb : Own) (zB : Own) (zy : Own) (z1g : Own) (zu : okApp zb = true) (zP : okApp zB = true) (zI : okApp zy = true) : Sim (Z1a zl z7 zd zh zn zb) (Z3M x1 x5 x8 x9 x11 zl zp z7 zd zh z2 z6 z11) (ZeB 1 (.ptr 0 0) (iv x1) (.ptr 1 0) (bv x5) (.ptr 2 0) (.clo 58 [] [(.ptr 2 0)]) (iv x8) (iv x9) (iv x11) [(Zi (Zk.mk zl zp z7 zd zh (Zj.mk z2 z6)) zn zb), (Zo b1 zB zy), [(.p (.lst z1g (z11.map Zv)))]]) := by
 unfold Z3M
 refine zf (Zhs ..) ?_
 refine ze ?_
 refine ze ?_
 refine zi fun r1 hr1 => ?_
 obtain ⟨qr1, er1, exr1, rfl⟩ := Z1c ((ByteArray.mk #[45])) (zl) (zp) (z7) (zd) (zh) (z2) (z6) zn zb zu r1 hr1
 refine zc [0] (bv r1.1) [(Zi (Zk.mk zl r1.2 z7 zd zh (Zj.mk z2 z6)) zn zb), (Zo b1 zB zy), [(.p (.lst z1g (z11.map Zv)))]] er1 ?_
 refine za (r1.1) ?_ ?_
 ·refine ze ?_
  refine zi fun r2 hr2 => ?_
  obtain ⟨qr2, er2, exr2, rfl⟩ := Z1K ((Zk.mk zl r1.2 z7 zd zh (Zj.mk z2 z6))) zn zb zu r2 hr2
  refine zc [0] (iv r2) [(Zi (Zk.mk zl r1.2 z7 zd zh (Zj.mk z2 z6)) zn zb), (Zo b1 zB zy), [(.p (.lst z1g (z11.map Zv)))]] er2 ?_
  refine ze ?_
  refine zo (bv (r2 == 93)) ?_
  refine za ((r2 == 93)) ?_ ?_
  ·exact zk (Z3Z (x1) (x5) (x8) (x9) (zl) (r1.2) (z7) (zd) (zh) (z2) (z6) (b1) (z11) zn zb zB zy z1g zu zP zI)
  ·refine zo (bv (r2 == 91)) ?_
   refine za ((r2 == 91)) ?_ ?_
   ·exact zk (Z3Z (x1) (x5) (x8) (x9) (zl) (r1.2) (z7) (zd) (zh) (z2) (z6) (b1) (z11) zn zb zB zy z1g zu zP zI)
   ·refine zo (bv (r2 == 45)) ?_
    refine za ((r2 == 45)) ?_ ?_
    ·exact zk (Z3Z (x1) (x5) (x8) (x9) (zl) (r1.2) (z7) (zd) (zh) (z2) (z6) (b1) (z11) zn zb zB zy z1g zu zP zI)
    ·refine zo (bv (decide (r2 < 0))) ?_
     refine za ((decide (r2 < 0))) ?_ ?_
     ·exact zk (Z3Z (x1) (x5) (x8) (x9) (zl) (r1.2) (z7) (zd) (zh) (z2) (z6) (b1) (z11) zn zb zB zy z1g zu zP zI)
     ·exact zk (Z9Q (x1) (x5) (x8) (x9) (x11) (zl) (r1.2) (z7) (zd) (zh) (z2) (z6) (b1) (z11) zn zb zB zy z1g zu zP zI)
 ·exact zk (Z3R (x1) (x5) (x8) (x11) (x11) (zl) (r1.2) (z7) (zd) (zh) (z2) (z6) (b1) (z11) zn zb zB zy z1g zu zP zI)
noncomputable def Z3O (x1 : Int) (x5 : Bool) (x8 : Int) (x9 : Int) (zl : List Int) (zp : Int) (z7 : Int) (zd : Int) (zh : List Zq) (z2 : Int) (z6 : Int) (z11 : List Z8) : Option (Z3 × Int × Int × Int) :=
 (Z3w zl zp z7 zd zh z2 z6).bind fun r1 =>
 (nilO (shrO (shrO (shrO (shrO r1.2.1.1)))) r1.2.1.2).bind fun a2 =>
 if ((!a2)) = true then
 ((Z2F r1.2.2.1 r1.2.1.2).bind fun r3 =>
 (Z4j r3.Set z11).bind fun r4 =>
 (Z1F ((Zk.mk zl r1.2.2.2.1 z7 zd zh (Zj.mk r1.2.2.2.2.1 r1.2.2.2.2.2)))).bind fun r5 =>
 if ((r5 == 45)) = true then
 ((ZS 22 r1.2.2.2.1 zl r1.2.2.2.2.1 r1.2.2.2.2.2).bind fun r6 =>
 Z1f x1 x5 x8 zl r6.1 z7 zd zh r6.2.1 r6.2.2 r4)
 else
 (Z1f x1 x5 x8 zl r1.2.2.2.1 z7 zd zh r1.2.2.2.2.1 r1.2.2.2.2.2 r4))
 else
 (Z3M x1 x5 x8 x9 r1.1 zl r1.2.2.2.1 z7 zd zh r1.2.2.2.2.1 r1.2.2.2.2.2 z11)
theorem Z6O (x1 : Int) (x5 : Bool) (x8 : Int) (x9 : Int) (zl : List Int) (zp : Int) (z7 : Int) (zd : Int) (zh : List Zq) (z2 : Int) (z6 : Int) (b1 : Z3) (z11 : List Z8) (zn : Own) (zb : Own) (zB : Own) (zy : Own) (z1g : Own) (zu : okApp zb = true) (zP : okApp zB = true) (zI : okApp zy = true) : Sim (Z1a zl z7 zd zh zn zb) (Z3O x1 x5 x8 x9 zl zp z7 zd zh z2 z6 z11) (Zdw 1 (.ptr 0 0) (iv x1) (.ptr 1 0) (bv x5) (.ptr 2 0) (.clo 58 [] [(.ptr 2 0)]) (iv x8) (iv x9) [(Zi (Zk.mk zl zp z7 zd zh (Zj.mk z2 z6)) zn zb), (Zo b1 zB zy), [(.p (.lst z1g (z11.map Zv)))]]) := by
 unfold Z3O
 refine zf (ZhO ..) ?_
 refine ze ?_
 refine zi fun r1 hr1 => ?_
 obtain ⟨qr1, er1, exr1, rfl⟩ := Z7u (zl) (zp) (z7) (zd) (zh) (z2) (z6) zn zb zu r1 hr1
 refine zc [0] (.p (.tup [(.v (.int .i64 r1.1)), (.lst r1.2.1.1 (r1.2.1.2.map Zv)), (.v (.bool r1.2.2.1))])) [(Zi (Zk.mk zl r1.2.2.2.1 z7 zd zh (Zj.mk r1.2.2.2.2.1 r1.2.2.2.2.2)) zn zb), (Zo b1 zB zy), [(.p (.lst z1g (z11.map Zv)))]] er1 ?_
 refine zo (iv r1.1) ?_
 refine zo (.p (.lst (shrO r1.2.1.1) (r1.2.1.2.map Zv))) ?_
 refine zo (bv r1.2.2.1) ?_
 refine ze ?_
 refine zi fun a2 ha2 => ?_
 refine zo (bv (!a2)) ?_ (Eq.trans (by kernel_rfl) (xnil_neq (P := PP) (t := 23) (c := .slice none 0 0) (e := Zv) (by kernel_rfl) ha2))
 refine za ((!a2)) ?_ ?_
 ·refine ze ?_
  refine zi fun r3 hr3 => ?_
  obtain ⟨qr3, er3, exr3, rfl⟩ := Z2O (r1.2.2.1) (r1.2.1.2) .sh r3 hr3
  refine zc [] (.p (.agg (Zz r3 .sh .sh))) [(Zi (Zk.mk zl r1.2.2.2.1 z7 zd zh (Zj.mk r1.2.2.2.2.1 r1.2.2.2.2.2)) zn zb), (Zo b1 zB zy), [(.p (.lst z1g (z11.map Zv)))]] er3 ?_
  refine zz (.ptr 3 0) [(Zi (Zk.mk zl r1.2.2.2.1 z7 zd zh (Zj.mk r1.2.2.2.2.1 r1.2.2.2.2.2)) zn zb), (Zo b1 zB zy), [(.p (.lst z1g (z11.map Zv)))], (Zo (Z3.mk 0 0 0 0 0 ([] : List Z8) ([] : List Z3)) .nl .nl)] ?_
  refine zt [(Zi (Zk.mk zl r1.2.2.2.1 z7 zd zh (Zj.mk r1.2.2.2.2.1 r1.2.2.2.2.2)) zn zb), (Zo b1 zB zy), [(.p (.lst z1g (z11.map Zv)))], (Zo r3 .sh .sh)] ?_
  refine ze ?_
  refine zo (.ptr 3 5) ?_
  refine zo (.p (.lst .sh (r3.Set.map Zv))) ?_
  refine zi fun r4 hr4 => ?_
  obtain ⟨qr4, er4, or4_0_0, exr4, rfl⟩ := Z7k (r3.Set) (z11) .sh z1g r4 hr4
  refine zv [2] (.p (.tup [])) [(Zi (Zk.mk zl r1.2.2.2.1 z7 zd zh (Zj.mk r1.2.2.2.2.1 r1.2.2.2.2.2)) zn zb), (Zo b1 zB zy), [(.p (.lst or4_0_0 (r4.map Zv)))], (Zo r3 .sh .sh)] er4 ?_
  refine ze ?_
  refine zi fun r5 hr5 => ?_
  obtain ⟨qr5, er5, exr5, rfl⟩ := Z1K ((Zk.mk zl r1.2.2.2.1 z7 zd zh (Zj.mk r1.2.2.2.2.1 r1.2.2.2.2.2))) zn zb zu r5 hr5
  refine zc [0] (iv r5) [(Zi (Zk.mk zl r1.2.2.2.1 z7 zd zh (Zj.mk r1.2.2.2.2.1 r1.2.2.2.2.2)) zn zb), (Zo b1 zB zy), [(.p (.lst or4_0_0 (r4.map Zv)))], (Zo r3 .sh .sh)] er5 ?_
  refine zo (bv (r5 == 45)) ?_
  refine za ((r5 == 45)) ?_ ?_
  ·refine ze ?_
   refine zo (.ptr 0 0) ?_
   refine zo (.ptr 0 1) ?_
   refine zo (iv r1.2.2.2.1) ?_
   refine zi fun r6 hr6 => ?_
   obtain ⟨qr6, er6, exr6, rfl⟩ := ZV (22) (r1.2.2.2.1) (zl) (r1.2.2.2.1) (z7) (zd) (zh) (r1.2.2.2.2.1) (r1.2.2.2.2.2) zn zb zu r6 hr6
   refine zc [0] (.p (.tup [])) [(Zi (Zk.mk zl r6.1 z7 zd zh (Zj.mk r6.2.1 r6.2.2)) zn zb), (Zo b1 zB zy), [(.p (.lst or4_0_0 (r4.map Zv)))], (Zo r3 .sh .sh)] er6 ?_
   exact zk (Z1I (x1) (x5) (x8) (zl) (r6.1) (z7) (zd) (zh) (r6.2.1) (r6.2.2) (b1) (r4) zn zb zB zy or4_0_0 zu zP zI)
  ·exact zk (Z1I (x1) (x5) (x8) (zl) (r1.2.2.2.1) (z7) (zd) (zh) (r1.2.2.2.2.1) (r1.2.2.2.2.2) (b1) (r4) zn zb zB zy or4_0_0 zu zP zI)
 ·exact zk (Z9L (x1) (x5) (x8) (x9) (r1.1) (zl) (r1.2.2.2.1) (z7) (zd) (zh) (r1.2.2.2.2.1) (r1.2.2.2.2.2) (b1) (z11) zn zb zB zy z1g zu zP zI)
noncomputable def Z39 (x1 : Int) (x5 : Bool) (x8 : Int) (zl : List Int) (zp : Int) (z7 : Int) (zd : Int) (zh : List Zq) (z2 : Int) (z6 : Int) (z11 : List Z8) : Option (Z3 × Int × Int × Int) :=
 (Z1F ((Zk.mk zl zp z7 zd zh (Zj.mk z2 z6)))).bind fun r1 =>
 if ((r1 == (-1))) = true then
 ((ZS 22 x1 zl z2 z6).bind fun r2 =>
 Z1f x1 x5 x8 zl r2.1 z7 zd zh r2.2.1 r2.2.2 z11)
 else
 (if ((r1 == 93)) = true then
 (if ((x8 == 0)) = true then
 ((ZS 22 x1 zl z2 z6).bind fun r3 =>
 Z1f x1 x5 x8 zl r3.1 z7 zd zh r3.2.1 r3.2.2 z11)
 else
 (Z4S x5 zl zp z2 z6 z11))
 else
 (if ((r1 == 91)) = true then
 (if ((r1 == 91)) = true then
 ((ZS 22 zp zl z2 z6).bind fun r4 =>
 Z1f x1 x5 x8 zl r4.1 z7 zd zh r4.2.1 r4.2.2 z11)
 else
 (Z3O x1 x5 x8 zp zl zp z7 zd zh z2 z6 z11))
 else
 (if ((r1 == 45)) = true then
 ((ZS 22 zp zl z2 z6).bind fun r5 =>
 Z1f x1 x5 x8 zl r5.1 z7 zd zh r5.2.1 r5.2.2 z11)
 else
 (Z3O x1 x5 x8 zp zl zp z7 zd zh z2 z6 z11))))
theorem Za9 (x1 : Int) (x5 : Bool) (x8 : Int) (zl : List Int) (zp : Int) (z7 : Int) (zd : Int) (zh : List Zq) (z2 : Int) (z6 : Int) (b1 : Z3) (z11 : List Z8) (zn : Own) (zb : Own) (zB : Own) (zy : Own) (z1g : Own) (zu : okApp zb = true) (zP : okApp zB = true) (zI : okApp zy = true) : Sim (Z1a zl z7 zd zh zn zb) (Z39 x1 x5 x8 zl zp z7 zd zh z2 z6 z11) (Zge 1 (.ptr 0 0) (iv x1) (.ptr 1 0) (bv x5) (.ptr 2 0) (.clo 58 [] [(.ptr 2 0)]) (iv x8) [(Zi (Zk.mk zl zp z7 zd zh (Zj.mk z2 z6)) zn zb), (Zo b1 zB zy), [(.p (.lst z1g (z11.map Zv)))]]) := by
 unfold Z39
 refine zf (ZiL ..) ?_
 refine ze ?_
 refine zo (.ptr 0 0) ?_
 refine zo (.ptr 0 1) ?_
 refine zo (iv zp) ?_
 refine ze ?_
 refine zi fun r1 hr1 => ?_
 obtain ⟨qr1, er1, exr1, rfl⟩ := Z1K ((Zk.mk zl zp z7 zd zh (Zj.mk z2 z6))) zn zb zu r1 hr1
 refine zc [0] (iv r1) [(Zi (Zk.mk zl zp z7 zd zh (Zj.mk z2 z6)) zn zb), (Zo b1 zB zy), [(.p (.lst z1g (z11.map Zv)))]] er1 ?_
 refine ze ?_
 refine ze ?_
 refine zo (bv (r1 == (-1))) ?_
 refine za ((r1 == (-1))) ?_ ?_
 ·refine ze ?_
  refine zi fun r2 hr2 => ?_
  obtain ⟨qr2, er2, exr2, rfl⟩ := ZV (22) (x1) (zl) (zp) (z7) (zd) (zh) (z2) (z6) zn zb zu r2 hr2
  refine zc [0] (.p (.tup [])) [(Zi (Zk.mk zl r2.1 z7 zd zh (Zj.mk r2.2.1 r2.2.2)) zn zb), (Zo b1 zB zy), [(.p (.lst z1g (z11.map Zv)))]] er2 ?_
  exact zk (Z1I (x1) (x5) (x8) (zl) (r2.1) (z7) (zd) (zh) (r2.2.1) (r2.2.2) (b1) (z11) zn zb zB zy z1g zu zP zI)
 ·refine ze ?_
  refine zo (bv (r1 == 93)) ?_
  refine za ((r1 == 93)) ?_ ?_
  ·refine ze ?_
   refine zo (bv (x8 == 0)) ?_
   refine za ((x8 == 0)) ?_ ?_
   ·refine ze ?_
    refine zi fun r3 hr3 => ?_
    obtain ⟨qr3, er3, exr3, rfl⟩ := ZV (22) (x1) (zl) (zp) (z7) (zd) (zh) (z2) (z6) zn zb zu r3 hr3
    refine zc [0] (.p (.tup [])) [(Zi (Zk.mk zl r3.1 z7 zd zh (Zj.mk r3.2.1 r3.2.2)) zn zb), (Zo b1 zB zy), [(.p (.lst z1g (z11.map Zv)))]] er3 ?_
    exact zk (Z1I (x1) (x5) (x8) (zl) (r3.1) (z7) (zd) (zh) (r3.2.1) (r3.2.2) (b1) (z11) zn zb zB zy z1g zu zP zI)
   ·exact zk (Z9K (x5) (zl) (zp) (z7) (zd) (zh) (z2) (z6) (b1) (z11) zn zb zB zy z1g zu zP zI)
  ·refine ze ?_
   refine zo (bv (r1 == 91)) ?_
   refine za ((r1 == 91)) ?_ ?_
   ·refine za ((r1 == 91)) ?_ ?_
    ·refine ze ?_
     refine zi fun r4 hr4 => ?_
     obtain ⟨qr4, er4, exr4, rfl⟩ := ZV (22) (zp) (zl) (zp) (z7) (zd) (zh) (z2) (z6) zn zb zu r4 hr4
     refine zc [0] (.p (.tup [])) [(Zi (Zk.mk zl r4.1 z7 zd zh (Zj.mk r4.2.1 r4.2.2)) zn zb), (Zo b1 zB zy), [(.p (.lst z1g (z11.map Zv)))]] er4 ?_
     exact zk (Z1I (x1) (x5) (x8) (zl) (r4.1) (z7) (zd) (zh) (r4.2.1) (r4.2.2) (b1) (z11) zn zb zB zy z1g zu zP zI)
    ·exact zk (Z6O (x1) (x5) (x8) (zp) (zl) (zp) (z7) (zd) (zh) (z2) (z6) (b1) (z11) zn zb zB zy z1g zu zP zI)
   ·refine ze ?_
    refine zo (bv (r1 == 45)) ?_
    refine za ((r1 == 45)) ?_ ?_
    ·refine ze ?_
     refine zi fun r5 hr5 => ?_
     obtain ⟨qr5, er5, exr5, rfl⟩ := ZV (22) (zp) (zl) (zp) (z7) (zd) (zh) (z2) (z6) zn zb zu r5 hr5
     refine zc [0] (.p (.tup [])) [(Zi (Zk.mk zl r5.1 z7 zd zh (Zj.mk r5.2.1 r5.2.2)) zn zb), (Zo b1 zB zy), [(.p (.lst z1g (z11.map Zv)))]] er5 ?_
     exact zk (Z1I (x1) (x5) (x8) (zl) (r5.1) (z7) (zd) (zh) (r5.2.1) (r5.2.2) (b1) (z11) zn zb zB zy z1g zu zP zI)
    ·exact zk (Z6O (x1) (x5) (x8) (zp) (zl) (zp) (z7) (zd) (zh) (z2) (z6) (b1) (z11) zn zb zB zy z1g zu zP zI)
noncomputable def Z5W (zp : Int) (z2 : Int) (z6 : Int) : Option (Z3 × Int × Int × Int) :=
 some ((Z3.mk 0 0 0 0 0 ([] : List Z8) ([] : List Z3)), zp, z2, z6)
theorem Z9P (zl : List Int) (zp : Int) (z7 : Int) (zd : Int) (zh : List Zq) (z2 : Int) (z6 : Int) (b1 : Z3) (zn : Own) (zb : Own) (zB : Own) (zy : Own) (zu : okApp zb = true) (zP : okApp zB = true) (zI : okApp zy = true) : Sim (Z1a zl z7 zd zh zn zb) (Z5W zp z2 z6) (Zf4 1 (.ptr 1 0) [(Zi (Zk.mk zl zp z7 zd zh (Zj.mk z2 z6)) zn zb), (Zo b1 zB zy)]) := by
 unfold Z5W
 refine zf (Zhr ..) ?_
 refine ze ?_
 refine zo (.p (.agg (Zz (Z3.mk 0 0 0 0 0 ([] : List Z8) ([] : List Z3)) .nl .nl))) ?_
 refine zt [(Zi (Zk.mk zl zp z7 zd zh (Zj.mk z2 z6)) zn zb), (Zo (Z3.mk 0 0 0 0 0 ([] : List Z8) ([] : List Z3)) .nl .nl)] ?_
 exact zr ((.p (.agg (Zz (Z3.mk 0 0 0 0 0 ([] : List Z8) ([] : List Z3)) .sh .sh))), [(Zi (Zk.mk zl zp z7 zd zh (Zj.mk z2 z6)) zn zb), (Zo (Z3.mk 0 0 0 0 0 ([] : List Z8) ([] : List Z3)) .nl .nl)]) ⟨_, rfl⟩
noncomputable def Z47 (x1 : Int) (x5 : Bool) (x8 : Int) (zl : List Int) (zp : Int) (z7 : Int) (zd : Int) (zh : List Zq) (z2 : Int) (z6 : Int) (z11 : List Z8) : Option (Z3 × Int × Int × Int) :=
 if ((z2 == 0)) = true then
 (Z39 x1 x5 x8 zl zp z7 zd zh z2 z6 z11)
 else
 (Z5W zp z2 z6)
theorem Za0 (x1 : Int) (x5 : Bool) (x8 : Int) (zl : List Int) (zp : Int) (z7 : Int) (zd : Int) (zh : List Zq) (z2 : Int) (z6 : Int) (b1 : Z3) (z11 : List Z8) (zn : Own) (zb : Own) (zB : Own) (zy : Own) (z1g : Own) (zu : okApp zb = true) (zP : okApp zB = true) (zI : okApp zy = true) : Sim (Z1a zl z7 zd zh zn zb) (Z47 x1 x5 x8 zl zp z7 zd zh z2 z6 z11) (Zcd 1 (.ptr 0 0) (iv x1) (.ptr 1 0) (bv x5) (.ptr 2 0) (.clo 58 [] [(.ptr 2 0)]) (iv x8) [(Zi (Zk.mk zl zp z7 zd zh (Zj.mk z2 z6)) zn zb), (Zo b1 zB zy), [(.p (.lst z1g (z11.map Zv)))]]) := by
 unfold Z47
 refine zf (Zjo ..) ?_
 refine ze ?_
 refine zo (.ptr 0 0) ?_
 refine zo (.ptr 0 5) ?_
 refine zo (.ptr 0 5) ?_
 refine zo (iv z2) ?_
 refine zo (bv (z2 == 0)) ?_
 refine za ((z2 == 0)) ?_ ?_
 ·exact zk (Za9 (x1) (x5) (x8) (zl) (zp) (z7) (zd) (zh) (z2) (z6) (b1) (z11) zn zb zB zy z1g zu zP zI)
 ·exact zk (Z9P (zl) (zp) (z7) (zd) (zh) (z2) (z6) (b1) zn zb zB zy zu zP zI)
theorem Z76 (x1 : Int) (x5 : Bool) (x8 : Int) (zl : List Int) (zp : Int) (z7 : Int) (zd : Int) (zh : List Zq) (z2 : Int) (z6 : Int) (z11 : List Z8) {r} (h : Z47 x1 x5 x8 zl zp z7 zd zh z2 z6 z11 = some r) : Z2N x1 x5 x8 zl zp z7 zd zh z2 z6 z11 = some r :=
 pick_of (fun _ _ ha hb => RRun.uniq (Z8t _ _ _ _ _ _) (ha default .ex .ex .ex .ex .ex rfl rfl rfl) (hb default .ex .ex .ex .ex .ex rfl rfl rfl)) (fun b1 zn zb zB zy z1g zu zP zI => Za0 x1 x5 x8 zl zp z7 zd zh z2 z6 b1 z11 zn zb zB zy z1g zu zP zI r h)
noncomputable def Z3t (x2 : Int) (x5 : Int) (zl : List Int) (zp : Int) (z7 : Int) (zd : Int) (zh : List Zq) (z2 : Int) (z6 : Int) : Option (Int × (Own × (List Z8)) × Bool × Int × Int × Int) :=
 (Z4T x2 x5 zl zp z7 zd zh z2 z6).bind fun r1 =>
 some (r1.1, (.nl, ([] : List Z8)), false, r1.2.1, r1.2.2.1, r1.2.2.2)
theorem Z9w (x2 : Int) (x5 : Int) (zl : List Int) (zp : Int) (z7 : Int) (zd : Int) (zh : List Zq) (z2 : Int) (z6 : Int) (zn : Own) (zb : Own) (zu : okApp zb = true) : Sim (Z2D zl z7 zd zh zn zb) (Z3t x2 x5 zl zp z7 zd zh z2 z6) (Zf7 1 (.ptr 0 0) (iv x2) (iv x5) [(Zi (Zk.mk zl zp z7 zd zh (Zj.mk z2 z6)) zn zb)]) := by
 unfold Z3t
 refine zf (Zht ..) ?_
 refine ze ?_
 refine zi fun r1 hr1 => ?_
 obtain ⟨qr1, er1, exr1, rfl⟩ := Z8b (x2) (x5) (zl) (zp) (z7) (zd) (zh) (z2) (z6) zn zb zu r1 hr1
 refine zc [0] (iv r1.1) [(Zi (Zk.mk zl r1.2.1 z7 zd zh (Zj.mk r1.2.2.1 r1.2.2.2)) zn zb)] er1 ?_
 exact zr ((.p (.tup [(.v (.int .i64 r1.1)), (.lst .nl []), (.v (.bool false))])), [(Zi (Zk.mk zl r1.2.1 z7 zd zh (Zj.mk r1.2.2.1 r1.2.2.2)) zn zb)]) ⟨_, rfl⟩
noncomputable def Z4V (x2 : Int) (x5 : Int) (zl : List Int) (zp : Int) (z7 : Int) (zd : Int) (zh : List Zq) (z2 : Int) (z6 : Int) : Option (Int × (Own × (List Z8)) × Bool × Int × Int × Int) :=
 (Z24 zl zp).bind fun r1 =>
 (Z50 x2).bind fun r2 =>
 (nilO (shrO r2.1) r2.2).bind fun a3 =>
 if ((!a3)) = true then
 (some (0, ((shrO r2.1), r2.2), (decide (x2 < 97)), r1.2, z2, z6))
 else
 (Z3t x2 x5 zl r1.2 z7 zd zh z2 z6)
theorem Z9D (x2 : Int) (x5 : Int) (zl : List Int) (zp : Int) (z7 : Int) (zd : Int) (zh : List Zq) (z2 : Int) (z6 : Int) (zn : Own) (zb : Own) (zu : okApp zb = true) : Sim (Z2D zl z7 zd zh zn zb) (Z4V x2 x5 zl zp z7 zd zh z2 z6) (Zfp 1 (.ptr 0 0) (iv x2) (iv x5) [(Zi (Zk.mk zl zp z7 zd zh (Zj.mk z2 z6)) zn zb)]) := by
 unfold Z4V
 refine zf (ZiJ ..) ?_
 refine ze ?_
 refine zi fun r1 hr1 => ?_
 obtain ⟨qr1, er1, exr1, rfl⟩ := Z2p (zl) (zp) (z7) (zd) (zh) (z2) (z6) zn zb zu r1 hr1
 refine zc [0] (iv r1.1) [(Zi (Zk.mk zl r1.2 z7 zd zh (Zj.mk z2 z6)) zn zb)] er1 ?_
 refine ze ?_
 refine zi fun r2 hr2 => ?_
 obtain ⟨qr2, er2, exr2, rfl⟩ := Z72 (x2) r2 hr2
 refine zc [] (.p (.lst r2.1 (r2.2.map Zv))) [(Zi (Zk.mk zl r1.2 z7 zd zh (Zj.mk z2 z6)) zn zb)] er2 ?_
 refine ze ?_
 refine zi fun a3 ha3 => ?_
 refine zo (bv (!a3)) ?_ (Eq.trans (by kernel_rfl) (xnil_neq (P := PP) (t := 23) (c := .slice none 0 0) (e := Zv) (by kernel_rfl) ha3))
 refine za ((!a3)) ?_ ?_
 ·refine ze ?_
  refine zo (bv (decide (x2 < 97))) ?_
  exact zr ((.p (.tup [(.v (.int .i64 0)), (.lst (shrO r2.1) (r2.2.map Zv)), (.v (.bool (decide (x2 < 97))))])), [(Zi (Zk.mk zl r1.2 z7 zd zh (Zj.mk z2 z6)) zn zb)]) ⟨_, rfl⟩
 ·exact zk (Z9w (x2) (x5) (zl) (r1.2) (z7) (zd) (zh) (z2) (z6) zn zb zu)
noncomputable def Z4L (x5 : Int) (zl : List Int) (zp : Int) (z7 : Int) (zd : Int) (zh : List Zq) (z2 : Int) (z6 : Int) : Option (Int × (Own × (List Z8)) × Bool × Int × Int × Int) :=
 (Z1F ((Zk.mk zl zp z7 zd zh (Zj.mk z2 z6)))).bind fun r1 =>
 if ((decide (r1 < 0))) = true then
 ((ZS 21 x5 zl z2 z6).bind fun r2 =>
 some (0, (.nl, ([] : List Z8)), false, r2.1, r2.2.1, r2.2.2))
 else
 (Z4V r1 x5 zl zp z7 zd zh z2 z6)
theorem Z9A (x5 : Int) (zl : List Int) (zp : Int) (z7 : Int) (zd : Int) (zh : List Zq) (z2 : Int) (z6 : Int) (zn : Own) (zb : Own) (zu : okApp zb = true) : Sim (Z2D zl z7 zd zh zn zb) (Z4L x5 zl zp z7 zd zh z2 z6) (Zgn 1 (.ptr 0 0) (iv x5) [(Zi (Zk.mk zl zp z7 zd zh (Zj.mk z2 z6)) zn zb)]) := by
 unfold Z4L
 refine zf (Zjm ..) ?_
 refine ze ?_
 refine zi fun r1 hr1 => ?_
 obtain ⟨qr1, er1, exr1, rfl⟩ := Z1K ((Zk.mk zl zp z7 zd zh (Zj.mk z2 z6))) zn zb zu r1 hr1
 refine zc [0] (iv r1) [(Zi (Zk.mk zl zp z7 zd zh (Zj.mk z2 z6)) zn zb)] er1 ?_
 refine ze ?_
 refine zo (bv (decide (r1 < 0))) ?_
 refine za ((decide (r1 < 0))) ?_ ?_
 ·refine ze ?_
  refine zi fun r2 hr2 => ?_
  obtain ⟨qr2, er2, exr2, rfl⟩ := ZV (21) (x5) (zl) (zp) (z7) (zd) (zh) (z2) (z6) zn zb zu r2 hr2
  refine zc [0] (.p (.tup [])) [(Zi (Zk.mk zl r2.1 z7 zd zh (Zj.mk r2.2.1 r2.2.2)) zn zb)] er2 ?_
  refine ze ?_
  exact zr ((.p (.tup [(.v (.int .i64 0)), (.lst .nl []), (.v (.bool false))])), [(Zi (Zk.mk zl r2.1 z7 zd zh (Zj.mk r2.2.1 r2.2.2)) zn zb)]) ⟨_, rfl⟩
 ·exact zk (Z9D (r1) (x5) (zl) (zp) (z7) (zd) (zh) (z2) (z6) zn zb zu)
noncomputable def Z4s (zl : List Int) (zp : Int) (z7 : Int) (zd : Int) (zh : List Zq) (z2 : Int) (z6 : Int) : Option (Int × (Own × (List Z8)) × Bool × Int × Int × Int) :=
 (Z24 zl zp).bind fun r1 =>
 if ((r1.1 != 92)) = true then
 (some (r1.1, (.nl, ([] : List Z8)), false, r1.2, z2, z6))
 else
 (Z4L zp zl r1.2 z7 zd zh z2 z6)
theorem ZaD (zl : List Int) (zp : Int) (z7 : Int) (zd : Int) (zh : List Zq) (z2 : Int) (z6 : Int) (zn : Own) (zb : Own) (zu : okApp zb = true) : Sim (Z2D zl z7 zd zh zn zb) (Z4s zl zp z7 zd zh z2 z6) (EE 60 [(.ptr 0 0)] [(Zi (Zk.mk zl zp z7 zd zh (Zj.mk z2 z6)) zn zb)]) := by
 unfold Z4s
 refine zf (Zl5 ..) ?_
 refine ze ?_
 refine ze ?_
 refine zo (.ptr 0 0) ?_
 refine zo (.ptr 0 1) ?_
 refine zo (iv zp) ?_
 refine ze ?_
 refine zi fun r1 hr1 => ?_
 obtain ⟨qr1, er1, exr1, rfl⟩ := Z2p (zl) (zp) (z7) (zd) (zh) (z2) (z6) zn zb zu r1 hr1
 refine zc [0] (iv r1.1) [(Zi (Zk.mk zl r1.2 z7 zd zh (Zj.mk z2 z6)) zn zb)] er1 ?_
 refine ze ?_
 refine zo (bv (r1.1 != 92)) ?_
 refine za ((r1.1 != 92)) ?_ ?_
 ·refine ze ?_
  exact zr ((.p (.tup [(.v (.int .i64 r1.1)), (.lst .nl []), (.v (.bool false))])), [(Zi (Zk.mk zl r1.2 z7 zd zh (Zj.mk z2 z6)) zn zb)]) ⟨_, rfl⟩
 ·exact zk (Z9A (zp) (zl) (r1.2) (z7) (zd) (zh) (z2) (z6) zn zb zu)
theorem Z7t (zl : List Int) (zp : Int) (z7 : Int) (zd : Int) (zh : List Zq) (z2 : Int) (z6 : Int) {r} (h : Z4s zl zp z7 zd zh z2 z6 = some r) : Z3w zl zp z7 zd zh z2 z6 = some r :=
 pick_of (fun _ _ ha hb => RRun.uniq (Zbf _ _ _ _ _ _) (ha .ex .ex rfl) (hb .ex .ex rfl)) (fun zn zb zu => ZaD zl zp z7 zd zh z2 z6 zn zb zu r h)
end Go.Proofs.YtadodmjdkphddaaDoor.N2
end
