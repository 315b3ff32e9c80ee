/- The functions' typed texts. No condition. -/
import Derived.Test.YtadodmjdkphddaaDoorTypA

section
set_option linter.unusedSimpArgs false
set_option linter.unusedVariables false
namespace Go.Proofs.YtadodmjdkphddaaDoor.N2
open Go Go.Abs
set_option linter.unusedVariables false
set_option maxRecDepth 100000
noncomputable def Z2W  : Option (Bool) :=
 some (true)
theorem Z5G  : Sim (Z14) (Z2W) (Zdy 0  []) := by
 unfold Z2W
 refine zf (Zhj ..) ?_
 refine ze ?_
 exact zr ((bv true), []) ⟨_, rfl⟩
noncomputable def Z1N  : Option (Bool) :=
 some (true)
theorem Z2u  : Sim (Z14) (Z1N) (ZbC 0  []) := by
 unfold Z1N
 refine zf (Zhi ..) ?_
 refine ze ?_
 exact zr ((bv true), []) ⟨_, rfl⟩
noncomputable def Z3N (x0 : ByteArray) (x1 : ByteArray) (b0 : ZC) (b2 : ZC) : Option (Bool) :=
 Z1Y x0 x1 (([(ByteArray.mk #[]), (ByteArray.mk #[124])] : List ByteArray)) ((([(ByteArray.mk #[]), (ByteArray.mk #[124])] : List ByteArray).length : Int)) 0 b0 b2
theorem Z8b (x0 : ByteArray) (x1 : ByteArray) (b0 : ZC) (b1 : Zi) (b2 : ZC) (zH : Own) (zF : Own) (z17 : Own) (z13 : Own) : Sim (Z14) (Z3N x0 x1 b0 b2) (Zfy 0 (.p (.v (.string x0))) (.p (.v (.string x1))) (.ptr 0 0) (.ptr 2 0) [(Zv b0 zH zF), (ZD b1), (Zv b2 z17 z13)]) := by
 unfold Z3N
 refine zf (Zhg ..) ?_
 refine ze ?_
 refine zo (.p (.lst .ex (([(ByteArray.mk #[]), (ByteArray.mk #[124])] : List ByteArray).map eS))) ?_
 refine zo (iv (([(ByteArray.mk #[]), (ByteArray.mk #[124])] : List ByteArray).length : Int)) ?_ (Eq.trans (by kernel_rfl) (xlen_of (P := PP) (t := 43) (d := 9) (by kernel_rfl) eS .ex ([(ByteArray.mk #[]), (ByteArray.mk #[124])] : List ByteArray)))
 exact zk (Z5F (x0) (x1) (([(ByteArray.mk #[]), (ByteArray.mk #[124])] : List ByteArray)) ((([(ByteArray.mk #[]), (ByteArray.mk #[124])] : List ByteArray).length : Int)) (0) (b0) (b1) (b2) .ex zH zF z17 z13)
noncomputable def Z3U (x0 : ByteArray) (x1 : ByteArray) : Option (Bool) :=
 (Z3F x0).bind fun r1 =>
 (Z3F x1).bind fun r2 =>
 if ((r1.2.Code != 0)) = true then
 (Z1N)
 else
 (if ((r2.2.Code != 0)) = true then
 (Z1N)
 else
 (if (r1.1.Fold) = true then
 (Z1N)
 else
 (if (r2.1.Fold) = true then
 (Z1N)
 else
 (if ((decide (0 < (IntKind.i64.wrap (r1.1.Groups + r2.1.Groups))))) = true then
 (Z1N)
 else
 (Z3N x0 x1 r1.1 r2.1)))))
theorem Z89 (x0 : ByteArray) (x1 : ByteArray) : Sim (Z14) (Z3U x0 x1) (Zfa 0 (.p (.v (.string x0))) (.p (.v (.string x1))) []) := by
 unfold Z3U
 refine zf (Zhk ..) ?_
 refine ze ?_
 refine zi fun r1 hr1 => ?_
 obtain ⟨qr1, er1, exr1, rfl⟩ := Z4a (x0) r1 hr1
 refine zc [] (.p (.tup [(.agg (Z1f r1.1 .sh .sh)), (.agg (Z11 r1.2))])) [] er1 ?_
 refine zo (.p (.agg (Z1f r1.1 .sh .sh))) ?_
 refine zo (.p (.agg (Z11 r1.2))) ?_
 refine zz (.ptr 0 0) [(Zv (ZC.mk (Z3.mk 0 0 0 0 0 ([] : List Z7) ([] : List Z3)) 0 false) .nl .nl)] ?_
 refine zz (.ptr 1 0) [(Zv (ZC.mk (Z3.mk 0 0 0 0 0 ([] : List Z7) ([] : List Z3)) 0 false) .nl .nl), (ZD (Zi.mk 0 0))] ?_
 refine zt [(Zv r1.1 .sh .sh), (ZD (Zi.mk 0 0))] ?_
 refine zt [(Zv r1.1 .sh .sh), (ZD r1.2)] ?_
 refine ze ?_
 refine zi fun r2 hr2 => ?_
 obtain ⟨qr2, er2, exr2, rfl⟩ := Z4a (x1) r2 hr2
 refine zc [] (.p (.tup [(.agg (Z1f r2.1 .sh .sh)), (.agg (Z11 r2.2))])) [(Zv r1.1 .sh .sh), (ZD r1.2)] er2 ?_
 refine zo (.p (.agg (Z1f r2.1 .sh .sh))) ?_
 refine zo (.p (.agg (Z11 r2.2))) ?_
 refine zz (.ptr 2 0) [(Zv r1.1 .sh .sh), (ZD r1.2), (Zv (ZC.mk (Z3.mk 0 0 0 0 0 ([] : List Z7) ([] : List Z3)) 0 false) .nl .nl)] ?_
 refine zz (.ptr 3 0) [(Zv r1.1 .sh .sh), (ZD r1.2), (Zv (ZC.mk (Z3.mk 0 0 0 0 0 ([] : List Z7) ([] : List Z3)) 0 false) .nl .nl), (ZD (Zi.mk 0 0))] ?_
 refine zt [(Zv r1.1 .sh .sh), (ZD r1.2), (Zv r2.1 .sh .sh), (ZD (Zi.mk 0 0))] ?_
 refine zt [(Zv r1.1 .sh .sh), (ZD r1.2), (Zv r2.1 .sh .sh), (ZD r2.2)] ?_
 refine ze ?_
 refine zo (.ptr 1 0) ?_
 refine zo (iv r1.2.Code) ?_
 refine zo (bv (r1.2.Code != 0)) ?_
 refine za ((r1.2.Code != 0)) ?_ ?_
 ·exact zk (Z2u )
 ·refine zo (.ptr 3 0) ?_
  refine zo (iv r2.2.Code) ?_
  refine zo (bv (r2.2.Code != 0)) ?_
  refine za ((r2.2.Code != 0)) ?_ ?_
  ·exact zk (Z2u )
  ·refine zo (.ptr 0 8) ?_
   refine zo (bv r1.1.Fold) ?_
   refine za (r1.1.Fold) ?_ ?_
   ·exact zk (Z2u )
   ·refine zo (.ptr 2 8) ?_
    refine zo (bv r2.1.Fold) ?_
    refine za (r2.1.Fold) ?_ ?_
    ·exact zk (Z2u )
    ·refine zo (.ptr 0 7) ?_
     refine zo (iv r1.1.Groups) ?_
     refine zo (.ptr 2 7) ?_
     refine zo (iv r2.1.Groups) ?_
     refine zo (iv (IntKind.i64.wrap (r1.1.Groups + r2.1.Groups))) ?_
     refine zo (bv (decide (0 < (IntKind.i64.wrap (r1.1.Groups + r2.1.Groups))))) ?_
     refine za ((decide (0 < (IntKind.i64.wrap (r1.1.Groups + r2.1.Groups))))) ?_ ?_
     ·exact zk (Z2u )
     ·exact zk (Z8b (x0) (x1) (r1.1) (r1.2) (r2.1) .sh .sh .sh .sh)
noncomputable def Z3G (x0 : ByteArray) (x1 : ByteArray) : Option (Bool) :=
 if ((decide (100 < (x0.size : Int)))) = true then
 (Z2W)
 else
 (if ((decide (100 < (x1.size : Int)))) = true then
 (Z2W)
 else
 (Z3U x0 x1))
theorem Z86 (x0 : ByteArray) (x1 : ByteArray) : Sim (Z14) (Z3G x0 x1) (Zfx 0 (.p (.v (.string x0))) (.p (.v (.string x1))) []) := by
 unfold Z3G
 refine zf (Zhh ..) ?_
 refine ze ?_
 refine zo (iv (x0.size : Int)) ?_
 refine zo (bv (decide (100 < (x0.size : Int)))) ?_
 refine za ((decide (100 < (x0.size : Int)))) ?_ ?_
 ·exact zk (Z5G )
 ·refine zo (iv (x1.size : Int)) ?_
  refine zo (bv (decide (100 < (x1.size : Int)))) ?_
  refine za ((decide (100 < (x1.size : Int)))) ?_ ?_
  ·exact zk (Z5G )
  ·exact zk (Z89 (x0) (x1))
noncomputable def Z4v (x0 : ByteArray) (x1 : ByteArray) : Option (Bool) :=
 (Z52).bind fun r1 =>
 if ((!r1)) = true then
 (some (false))
 else
 (Z3G x0 x1)
theorem Z8I (x0 : ByteArray) (x1 : ByteArray) : Sim (Z14) (Z4v x0 x1) (EE 6 [(.p (.v (.string x0))), (.p (.v (.string x1)))] []) := by
 unfold Z4v
 refine zf (Zj5 ..) ?_
 refine ze ?_
 refine ze ?_
 refine zi fun r1 hr1 => ?_
 obtain ⟨qr1, er1, exr1, rfl⟩ := Z9T  r1 hr1
 refine zc [] (bv r1) [] er1 ?_
 refine zo (bv (!r1)) ?_
 refine za ((!r1)) ?_ ?_
 ·refine ze ?_
  exact zr ((bv false), []) ⟨_, rfl⟩
 ·exact zk (Z86 (x0) (x1))
theorem Z8T (x0 : ByteArray) (x1 : ByteArray) {r} (h : Z4v x0 x1 = some r) : Z5A x0 x1 = some r :=
 pick_of (fun _ _ ha hb => RRun.uniq (Z6s) (ha ) (hb )) (Z8I x0 x1 r h)
noncomputable def Z2l (x0 : ByteArray) (x1 : ByteArray) (x57 : List ByteArray) (x58 : Int) (x59 : Int) (b0 : ZC) (b2 : ZC) : Option (Bool) :=
 Z1Y x0 x1 x57 x58 ((IntKind.i64.wrap (x59 + 1))) b0 b2
theorem Z5B (x0 : ByteArray) (x1 : ByteArray) (x57 : List ByteArray) (x58 : Int) (x59 : Int) (b0 : ZC) (b1 : Zi) (b2 : ZC) (ox57 : Own) (zH : Own) (zF : Own) (z17 : Own) (z13 : Own) : Sim (Z14) (Z2l x0 x1 x57 x58 x59 b0 b2) (ZcQ 0 (.p (.v (.string x0))) (.p (.v (.string x1))) (.ptr 0 0) (.ptr 2 0) (.p (.lst ox57 (x57.map eS))) (iv x58) (iv x59) [(Zv b0 zH zF), (ZD b1), (Zv b2 z17 z13)]) := by
 unfold Z2l
 refine zf (ZfW ..) ?_
 refine ze ?_
 refine zo (iv (IntKind.i64.wrap (x59 + 1))) ?_
 exact zk (Z5F (x0) (x1) (x57) (x58) ((IntKind.i64.wrap (x59 + 1))) (b0) (b1) (b2) ox57 zH zF z17 z13)
noncomputable def Z2k  : Option (Bool) :=
 some (false)
theorem Z32  : Sim (Z14) (Z2k) (Zbo 0  []) := by
 unfold Z2k
 refine zf (ZgV ..) ?_
 refine ze ?_
 exact zr ((bv false), []) ⟨_, rfl⟩
noncomputable def Z3w (x0 : ByteArray) (x1 : ByteArray) (x9 : Int) (x57 : List ByteArray) (x58 : Int) (x59 : Int) (b0 : ZC) (b2 : ZC) (b3 : ZC) : Option (Bool) :=
 (lget ([2, 3] : List Int) x9).bind fun a1 =>
 if ((b3.Root.Kind != a1)) = true then
 (Z2k)
 else
 (if (((b3.Root.Kids.length : Int) != 2)) = true then
 (Z2k)
 else
 ((lget b3.Root.Kids 0).bind fun a2 =>
 (Z21 a2 b0.Root).bind fun r3 =>
 if ((!r3)) = true then
 (Z2k)
 else
 ((lget b3.Root.Kids 1).bind fun a4 =>
 (Z21 a4 b2.Root).bind fun r5 =>
 if ((!r5)) = true then
 (Z2k)
 else
 (Z2l x0 x1 x57 x58 x59 b0 b2))))
theorem Z7L (x0 : ByteArray) (x1 : ByteArray) (x9 : Int) (x57 : List ByteArray) (x58 : Int) (x59 : Int) (b0 : ZC) (b1 : Zi) (b2 : ZC) (b3 : ZC) (ox57 : Own) (zH : Own) (zF : Own) (z17 : Own) (z13 : Own) (zY : Own) (zU : Own) : Sim (Z14) (Z3w x0 x1 x9 x57 x58 x59 b0 b2 b3) (ZdC 0 (.p (.v (.string x0))) (.p (.v (.string x1))) (.ptr 0 0) (.ptr 2 0) (iv x9) (.ptr 3 0) (.p (.lst ox57 (x57.map eS))) (iv x58) (iv x59) [(Zv b0 zH zF), (ZD b1), (Zv b2 z17 z13), (Zv b3 zY zU)]) := by
 unfold Z3w
 refine zf (ZgX ..) ?_
 refine ze ?_
 refine zo (.ptr 3 0) ?_
 refine zo (.ptr 3 0) ?_
 refine zo (iv b3.Root.Kind) ?_
 refine zo (.p (.lst .ex (([2, 3] : List Int).map (eI .i64)))) ?_
 refine zi fun a1 ha1 => ?_
 refine zo (.cptr [(.v (.int .i64 a1))]) ?_ (Eq.trans (by kernel_rfl) (xidx_of (o := .ex) (k := .i64) (n := 1) (e := (eI .i64)) (cs := (fun a => [(eI .i64) a])) (fun _ => rfl) (fun _ => rfl) (by decide) ha1))
 refine zo (iv a1) ?_
 refine zo (bv (b3.Root.Kind != a1)) ?_
 refine za ((b3.Root.Kind != a1)) ?_ ?_
 ·exact zk (Z32 )
 ·refine zo (.ptr 3 0) ?_
  refine zo (.ptr 3 6) ?_
  refine zo (.p (.lst (shrO zU) (b3.Root.Kids.map ZI))) ?_
  refine zo (iv (b3.Root.Kids.length : Int)) ?_ (Eq.trans (by kernel_rfl) (xlen_of (P := PP) (t := 25) (d := 27) (by kernel_rfl) ZI (shrO zU) b3.Root.Kids))
  refine zo (bv ((b3.Root.Kids.length : Int) != 2)) ?_
  refine za (((b3.Root.Kids.length : Int) != 2)) ?_ ?_
  ·exact zk (Z32 )
  ·refine zo (.ptr 3 0) ?_
   refine zo (.ptr 3 6) ?_
   refine zo (.p (.lst (shrO zU) (b3.Root.Kids.map ZI))) ?_
   refine zi fun a2 ha2 => ?_
   refine zo (.cptr (ZE a2 .sh .sh)) ?_ (Eq.trans (by kernel_rfl) (xidx_of (o := (shrO zU)) (k := .i64) (n := 7) (e := ZI) (cs := Z27) Z4X (fun _ => rfl) (by decide) ha2))
   refine zo (.p (.agg (ZE a2 .sh .sh))) ?_
   refine zo (.ptr 0 0) ?_
   refine zo (.p (.agg (ZE b0.Root (shrO zH) (shrO zF)))) ?_
   refine zi fun r3 hr3 => ?_
   obtain ⟨qr3, er3, exr3, rfl⟩ := Z5n (a2) (b0.Root) .sh .sh .sh .sh r3 hr3
   refine zc [] (bv r3) [(Zv b0 zH zF), (ZD b1), (Zv b2 z17 z13), (Zv b3 zY zU)] er3 ?_
   refine zo (bv (!r3)) ?_
   refine za ((!r3)) ?_ ?_
   ·exact zk (Z32 )
   ·refine zo (.ptr 3 0) ?_
    refine zo (.ptr 3 6) ?_
    refine zo (.p (.lst (shrO zU) (b3.Root.Kids.map ZI))) ?_
    refine zi fun a4 ha4 => ?_
    refine zo (.cptr (ZE a4 .sh .sh)) ?_ (Eq.trans (by kernel_rfl) (xidx_of (o := (shrO zU)) (k := .i64) (n := 7) (e := ZI) (cs := Z27) Z4X (fun _ => rfl) (by decide) ha4))
    refine zo (.p (.agg (ZE a4 .sh .sh))) ?_
    refine zo (.ptr 2 0) ?_
    refine zo (.p (.agg (ZE b2.Root (shrO z17) (shrO z13)))) ?_
    refine zi fun r5 hr5 => ?_
    obtain ⟨qr5, er5, exr5, rfl⟩ := Z5n (a4) (b2.Root) .sh .sh .sh .sh r5 hr5
    refine zc [] (bv r5) [(Zv b0 zH zF), (ZD b1), (Zv b2 z17 z13), (Zv b3 zY zU)] er5 ?_
    refine zo (bv (!r5)) ?_
    refine za ((!r5)) ?_ ?_
    ·exact zk (Z32 )
    ·exact zk (Z5B (x0) (x1) (x57) (x58) (x59) (b0) (b1) (b2) ox57 zH zF z17 z13)
noncomputable def Z2Q (x0 : ByteArray) (x1 : ByteArray) (x57 : List ByteArray) (x58 : Int) (x59 : Int) (b0 : ZC) (b2 : ZC) : Option (Bool) :=
 (lget x57 x59).bind fun a1 =>
 (sadd (ByteArray.mk #[40, 63, 58]) x0).bind fun a2 =>
 (sadd a2 (ByteArray.mk #[41])).bind fun a3 =>
 (sadd a3 a1).bind fun a4 =>
 (sadd a4 (ByteArray.mk #[40, 63, 58])).bind fun a5 =>
 (sadd a5 x1).bind fun a6 =>
 (sadd a6 (ByteArray.mk #[41])).bind fun a7 =>
 (Z3F a7).bind fun r8 =>
 if ((r8.2.Code != 0)) = true then
 (if ((r8.2.Code != 25)) = true then
 (some (false))
 else
 (Z2l x0 x1 x57 x58 x59 b0 b2))
 else
 (Z3w x0 x1 x59 x57 x58 x59 b0 b2 r8.1)
theorem Z7H (x0 : ByteArray) (x1 : ByteArray) (x57 : List ByteArray) (x58 : Int) (x59 : Int) (b0 : ZC) (b1 : Zi) (b2 : ZC) (ox57 : Own) (zH : Own) (zF : Own) (z17 : Own) (z13 : Own) : Sim (Z14) (Z2Q x0 x1 x57 x58 x59 b0 b2) (Ze9 0 (.p (.v (.string x0))) (.p (.v (.string x1))) (.ptr 0 0) (.ptr 2 0) (.p (.lst ox57 (x57.map eS))) (iv x58) (iv x59) [(Zv b0 zH zF), (ZD b1), (Zv b2 z17 z13)]) := by
 unfold Z2Q
 refine zf (ZfT ..) ?_
 refine ze ?_
 refine zi fun a1 ha1 => ?_
 refine zo (.cptr [(.v (.string a1))]) ?_ (Eq.trans (by kernel_rfl) (xidx_of (o := ox57) (k := .i64) (n := 1) (e := eS) (cs := (fun a => [eS a])) (fun _ => rfl) (fun _ => rfl) (by decide) ha1))
 refine zo (.p (.v (.string a1))) ?_
 refine ze ?_
 refine zi fun a2 ha2 => ?_
 refine zo (.p (.v (.string a2))) ?_ (Eq.trans (by kernel_rfl) (xsadd_of (P := PP) (t := 9) ha2))
 refine zi fun a3 ha3 => ?_
 refine zo (.p (.v (.string a3))) ?_ (Eq.trans (by kernel_rfl) (xsadd_of (P := PP) (t := 9) ha3))
 refine zi fun a4 ha4 => ?_
 refine zo (.p (.v (.string a4))) ?_ (Eq.trans (by kernel_rfl) (xsadd_of (P := PP) (t := 9) ha4))
 refine zi fun a5 ha5 => ?_
 refine zo (.p (.v (.string a5))) ?_ (Eq.trans (by kernel_rfl) (xsadd_of (P := PP) (t := 9) ha5))
 refine zi fun a6 ha6 => ?_
 refine zo (.p (.v (.string a6))) ?_ (Eq.trans (by kernel_rfl) (xsadd_of (P := PP) (t := 9) ha6))
 refine zi fun a7 ha7 => ?_
 refine zo (.p (.v (.string a7))) ?_ (Eq.trans (by kernel_rfl) (xsadd_of (P := PP) (t := 9) ha7))
 refine zi fun r8 hr8 => ?_
 obtain ⟨qr8, er8, exr8, rfl⟩ := Z4a (a7) r8 hr8
 refine zc [] (.p (.tup [(.agg (Z1f r8.1 .sh .sh)), (.agg (Z11 r8.2))])) [(Zv b0 zH zF), (ZD b1), (Zv b2 z17 z13)] er8 ?_
 refine zo (.p (.agg (Z1f r8.1 .sh .sh))) ?_
 refine zo (.p (.agg (Z11 r8.2))) ?_
 refine zz (.ptr 3 0) [(Zv b0 zH zF), (ZD b1), (Zv b2 z17 z13), (Zv (ZC.mk (Z3.mk 0 0 0 0 0 ([] : List Z7) ([] : List Z3)) 0 false) .nl .nl)] ?_
 refine zz (.ptr 4 0) [(Zv b0 zH zF), (ZD b1), (Zv b2 z17 z13), (Zv (ZC.mk (Z3.mk 0 0 0 0 0 ([] : List Z7) ([] : List Z3)) 0 false) .nl .nl), (ZD (Zi.mk 0 0))] ?_
 refine zt [(Zv b0 zH zF), (ZD b1), (Zv b2 z17 z13), (Zv r8.1 .sh .sh), (ZD (Zi.mk 0 0))] ?_
 refine zt [(Zv b0 zH zF), (ZD b1), (Zv b2 z17 z13), (Zv r8.1 .sh .sh), (ZD r8.2)] ?_
 refine ze ?_
 refine zo (.ptr 4 0) ?_
 refine zo (iv r8.2.Code) ?_
 refine zo (bv (r8.2.Code != 0)) ?_
 refine za ((r8.2.Code != 0)) ?_ ?_
 ·refine ze ?_
  refine zo (.ptr 4 0) ?_
  refine zo (iv r8.2.Code) ?_
  refine zo (bv (r8.2.Code != 25)) ?_
  refine za ((r8.2.Code != 25)) ?_ ?_
  ·refine ze ?_
   exact zr ((bv false), [(Zv b0 zH zF), (ZD b1), (Zv b2 z17 z13), (Zv r8.1 .sh .sh), (ZD r8.2)]) ⟨_, rfl⟩
  ·exact zk (Z5B (x0) (x1) (x57) (x58) (x59) (b0) (b1) (b2) ox57 zH zF z17 z13)
 ·exact zk (Z7L (x0) (x1) (x59) (x57) (x58) (x59) (b0) (b1) (b2) (r8.1) ox57 zH zF z17 z13 .sh .sh)
noncomputable def Z4M  : Option (Bool) :=
 some (true)
theorem Z7N  : Sim (Z14) (Z4M) (ZdV 0  []) := by
 unfold Z4M
 refine zf (Zgx ..) ?_
 refine ze ?_
 exact zr ((bv true), []) ⟨_, rfl⟩
noncomputable def Z2j (x0 : ByteArray) (x1 : ByteArray) (x57 : List ByteArray) (x58 : Int) (x59 : Int) (b0 : ZC) (b2 : ZC) : Option (Bool) :=
 if ((decide (x59 < x58))) = true then
 (Z2Q x0 x1 x57 x58 x59 b0 b2)
 else
 (Z4M)
theorem Z7O (x0 : ByteArray) (x1 : ByteArray) (x57 : List ByteArray) (x58 : Int) (x59 : Int) (b0 : ZC) (b1 : Zi) (b2 : ZC) (ox57 : Own) (zH : Own) (zF : Own) (z17 : Own) (z13 : Own) : Sim (Z14) (Z2j x0 x1 x57 x58 x59 b0 b2) (Zbs 0 (.p (.v (.string x0))) (.p (.v (.string x1))) (.ptr 0 0) (.ptr 2 0) (.p (.lst ox57 (x57.map eS))) (iv x58) (iv x59) [(Zv b0 zH zF), (ZD b1), (Zv b2 z17 z13)]) := by
 unfold Z2j
 refine zf (Zgn ..) ?_
 refine ze ?_
 refine zo (bv (decide (x59 < x58))) ?_
 refine za ((decide (x59 < x58))) ?_ ?_
 ·exact zk (Z7H (x0) (x1) (x57) (x58) (x59) (b0) (b1) (b2) ox57 zH zF z17 z13)
 ·exact zk (Z7N )
theorem Z47 (x0 : ByteArray) (x1 : ByteArray) (x57 : List ByteArray) (x58 : Int) (x59 : Int) (b0 : ZC) (b2 : ZC) {r} (h : Z2j x0 x1 x57 x58 x59 b0 b2 = some r) : Z1Y x0 x1 x57 x58 x59 b0 b2 = some r :=
 pick_of (fun _ _ ha hb => RRun.uniq (Z6s) (ha default .ex .ex .ex .ex .ex) (hb default .ex .ex .ex .ex .ex)) (fun b1 ox57 zH zF z17 z13 => Z7O x0 x1 x57 x58 x59 b0 b1 b2 ox57 zH zF z17 z13 r h)
noncomputable def Z2n  : Option (Bool) :=
 some (false)
theorem Z2R  : Sim (Z2O) (Z2n) (Za9 0  []) := by
 unfold Z2n
 refine zf (Zh7 ..) ?_
 refine ze ?_
 exact zr ((bv false), []) ⟨_, rfl⟩
noncomputable def Z5w (b3 : Zi) (b5 : Zi) (b7 : Zi) : Option (Bool) :=
 if (((b3.Code == 23) && ((b3.At == 2) && true))) = true then
 (if (((b5.Code == 20) && ((b5.At == 0) && true))) = true then
 (some (((b7.Code == 26) && ((b7.At == 0) && true))))
 else
 (some (false)))
 else
 (some (false))
theorem Z8J (b0 : ZC) (b1 : Zi) (b2 : ZC) (b3 : Zi) (b4 : ZC) (b5 : Zi) (b6 : ZC) (b7 : Zi) (zH : Own) (zF : Own) (z17 : Own) (z13 : Own) (z8w : Own) (z7W : Own) (z8B : Own) (z7X : Own) : Sim (Z2O) (Z5w b3 b5 b7) (Zed 0 (.ptr 3 0) (.ptr 5 0) (.ptr 7 0) [(Zv b0 zH zF), (ZD b1), (Zv b2 z17 z13), (ZD b3), (Zv b4 z8w z7W), (ZD b5), (Zv b6 z8B z7X), (ZD b7)]) := by
 unfold Z5w
 refine zf (Zgv ..) ?_
 refine ze ?_
 refine zo (.p (.agg (Z11 b3))) ?_
 refine zo (.p (.agg (Z11 (Zi.mk 23 2)))) ?_
 refine zo (bv ((b3.Code == 23) && ((b3.At == 2) && true))) ?_ (Eq.trans (b := xbin PP .eql 32 (.p (.agg (Z11 b3))) (.p (.agg (Z11 (Zi.mk 23 2))))) (by kernel_rfl) (xeq_eql (by kernel_rfl) (by kernel_rfl) (by kernel_rfl) (by kernel_rfl) (by kernel_rfl)))
 refine za (((b3.Code == 23) && ((b3.At == 2) && true))) ?_ ?_
 ·refine zo (.p (.agg (Z11 b5))) ?_
  refine zo (.p (.agg (Z11 (Zi.mk 20 0)))) ?_
  refine zo (bv ((b5.Code == 20) && ((b5.At == 0) && true))) ?_ (Eq.trans (b := xbin PP .eql 32 (.p (.agg (Z11 b5))) (.p (.agg (Z11 (Zi.mk 20 0))))) (by kernel_rfl) (xeq_eql (by kernel_rfl) (by kernel_rfl) (by kernel_rfl) (by kernel_rfl) (by kernel_rfl)))
  refine za (((b5.Code == 20) && ((b5.At == 0) && true))) ?_ ?_
  ·refine zo (.p (.agg (Z11 b7))) ?_
   refine zo (.p (.agg (Z11 (Zi.mk 26 0)))) ?_
   refine zo (bv ((b7.Code == 26) && ((b7.At == 0) && true))) ?_ (Eq.trans (b := xbin PP .eql 32 (.p (.agg (Z11 b7))) (.p (.agg (Z11 (Zi.mk 26 0))))) (by kernel_rfl) (xeq_eql (by kernel_rfl) (by kernel_rfl) (by kernel_rfl) (by kernel_rfl) (by kernel_rfl)))
   exact zr ((bv ((b7.Code == 26) && ((b7.At == 0) && true))), [(Zv b0 zH zF), (ZD b1), (Zv b2 z17 z13), (ZD b3), (Zv b4 z8w z7W), (ZD b5), (Zv b6 z8B z7X), (ZD b7)]) ⟨_, rfl⟩
  ·exact zr ((bv false), [(Zv b0 zH zF), (ZD b1), (Zv b2 z17 z13), (ZD b3), (Zv b4 z8w z7W), (ZD b5), (Zv b6 z8B z7X), (ZD b7)]) ⟨_, rfl⟩
 ·exact zr ((bv false), [(Zv b0 zH zF), (ZD b1), (Zv b2 z17 z13), (ZD b3), (Zv b4 z8w z7W), (ZD b5), (Zv b6 z8B z7X), (ZD b7)]) ⟨_, rfl⟩
noncomputable def Z54  : Option (Bool) :=
 (Z3F ((ByteArray.mk #[97, 124, 98, 42, 63]))).bind fun r1 =>
 (Z3F ((ByteArray.mk #[97, 42, 42]))).bind fun r2 =>
 (Z3F ((ByteArray.mk #[40, 97]))).bind fun r3 =>
 (Z3F ((ByteArray.mk #[92, 49]))).bind fun r4 =>
 if ((r1.2.Code != 0)) = true then
 (Z2n)
 else
 (if ((r1.1.Root.Kind != 3)) = true then
 (Z2n)
 else
 (if (((r1.1.Root.Kids.length : Int) != 2)) = true then
 (Z2n)
 else
 ((lget r1.1.Root.Kids 1).bind fun a5 =>
 if ((a5.Kind != 4)) = true then
 (Z2n)
 else
 ((lget r1.1.Root.Kids 1).bind fun a6 =>
 if ((a6.Mode != 1)) = true then
 (Z2n)
 else
 (Z5w r2.2 r3.2 r4.2)))))
theorem Z9s  : Sim (Z2O) (Z54) (EE 15 [] []) := by
 unfold Z54
 refine zf (ZiW ..) ?_
 refine ze ?_
 refine ze ?_
 refine zi fun r1 hr1 => ?_
 obtain ⟨qr1, er1, exr1, rfl⟩ := Z4a ((ByteArray.mk #[97, 124, 98, 42, 63])) r1 hr1
 refine zc [] (.p (.tup [(.agg (Z1f r1.1 .sh .sh)), (.agg (Z11 r1.2))])) [] er1 ?_
 refine zo (.p (.agg (Z1f r1.1 .sh .sh))) ?_
 refine zo (.p (.agg (Z11 r1.2))) ?_
 refine zz (.ptr 0 0) [(Zv (ZC.mk (Z3.mk 0 0 0 0 0 ([] : List Z7) ([] : List Z3)) 0 false) .nl .nl)] ?_
 refine zz (.ptr 1 0) [(Zv (ZC.mk (Z3.mk 0 0 0 0 0 ([] : List Z7) ([] : List Z3)) 0 false) .nl .nl), (ZD (Zi.mk 0 0))] ?_
 refine zt [(Zv r1.1 .sh .sh), (ZD (Zi.mk 0 0))] ?_
 refine zt [(Zv r1.1 .sh .sh), (ZD r1.2)] ?_
 refine ze ?_
 refine zi fun r2 hr2 => ?_
 obtain ⟨qr2, er2, exr2, rfl⟩ := Z4a ((ByteArray.mk #[97, 42, 42])) r2 hr2
 refine zc [] (.p (.tup [(.agg (Z1f r2.1 .sh .sh)), (.agg (Z11 r2.2))])) [(Zv r1.1 .sh .sh), (ZD r1.2)] er2 ?_
 refine zo (.p (.agg (Z1f r2.1 .sh .sh))) ?_
 refine zo (.p (.agg (Z11 r2.2))) ?_
 refine zz (.ptr 2 0) [(Zv r1.1 .sh .sh), (ZD r1.2), (Zv (ZC.mk (Z3.mk 0 0 0 0 0 ([] : List Z7) ([] : List Z3)) 0 false) .nl .nl)] ?_
 refine zz (.ptr 3 0) [(Zv r1.1 .sh .sh), (ZD r1.2), (Zv (ZC.mk (Z3.mk 0 0 0 0 0 ([] : List Z7) ([] : List Z3)) 0 false) .nl .nl), (ZD (Zi.mk 0 0))] ?_
 refine zt [(Zv r1.1 .sh .sh), (ZD r1.2), (Zv r2.1 .sh .sh), (ZD (Zi.mk 0 0))] ?_
 refine zt [(Zv r1.1 .sh .sh), (ZD r1.2), (Zv r2.1 .sh .sh), (ZD r2.2)] ?_
 refine ze ?_
 refine zi fun r3 hr3 => ?_
 obtain ⟨qr3, er3, exr3, rfl⟩ := Z4a ((ByteArray.mk #[40, 97])) r3 hr3
 refine zc [] (.p (.tup [(.agg (Z1f r3.1 .sh .sh)), (.agg (Z11 r3.2))])) [(Zv r1.1 .sh .sh), (ZD r1.2), (Zv r2.1 .sh .sh), (ZD r2.2)] er3 ?_
 refine zo (.p (.agg (Z1f r3.1 .sh .sh))) ?_
 refine zo (.p (.agg (Z11 r3.2))) ?_
 refine zz (.ptr 4 0) [(Zv r1.1 .sh .sh), (ZD r1.2), (Zv r2.1 .sh .sh), (ZD r2.2), (Zv (ZC.mk (Z3.mk 0 0 0 0 0 ([] : List Z7) ([] : List Z3)) 0 false) .nl .nl)] ?_
 refine zz (.ptr 5 0) [(Zv r1.1 .sh .sh), (ZD r1.2), (Zv r2.1 .sh .sh), (ZD r2.2), (Zv (ZC.mk (Z3.mk 0 0 0 0 0 ([] : List Z7) ([] : List Z3)) 0 false) .nl .nl), (ZD (Zi.mk 0 0))] ?_
 refine zt [(Zv r1.1 .sh .sh), (ZD r1.2), (Zv r2.1 .sh .sh), (ZD r2.2), (Zv r3.1 .sh .sh), (ZD (Zi.mk 0 0))] ?_
 refine zt [(Zv r1.1 .sh .sh), (ZD r1.2), (Zv r2.1 .sh .sh), (ZD r2.2), (Zv r3.1 .sh .sh), (ZD r3.2)] ?_
 refine ze ?_
 refine zi fun r4 hr4 => ?_
 obtain ⟨qr4, er4, exr4, rfl⟩ := Z4a ((ByteArray.mk #[92, 49])) r4 hr4
 refine zc [] (.p (.tup [(.agg (Z1f r4.1 .sh .sh)), (.agg (Z11 r4.2))])) [(Zv r1.1 .sh .sh), (ZD r1.2), (Zv r2.1 .sh .sh), (ZD r2.2), (Zv r3.1 .sh .sh), (ZD r3.2)] er4 ?_
 refine zo (.p (.agg (Z1f r4.1 .sh .sh))) ?_
 refine zo (.p (.agg (Z11 r4.2))) ?_
 refine zz (.ptr 6 0) [(Zv r1.1 .sh .sh), (ZD r1.2), (Zv r2.1 .sh .sh), (ZD r2.2), (Zv r3.1 .sh .sh), (ZD r3.2), (Zv (ZC.mk (Z3.mk 0 0 0 0 0 ([] : List Z7) ([] : List Z3)) 0 false) .nl .nl)] ?_
 refine zz (.ptr 7 0) [(Zv r1.1 .sh .sh), (ZD r1.2), (Zv r2.1 .sh .sh), (ZD r2.2), (Zv r3.1 .sh .sh), (ZD r3.2), (Zv (ZC.mk (Z3.mk 0 0 0 0 0 ([] : List Z7) ([] : List Z3)) 0 false) .nl .nl), (ZD (Zi.mk 0 0))] ?_
 refine zt [(Zv r1.1 .sh .sh), (ZD r1.2), (Zv r2.1 .sh .sh), (ZD r2.2), (Zv r3.1 .sh .sh), (ZD r3.2), (Zv r4.1 .sh .sh), (ZD (Zi.mk 0 0))] ?_
 refine zt [(Zv r1.1 .sh .sh), (ZD r1.2), (Zv r2.1 .sh .sh), (ZD r2.2), (Zv r3.1 .sh .sh), (ZD r3.2), (Zv r4.1 .sh .sh), (ZD r4.2)] ?_
 refine ze ?_
 refine zo (.ptr 1 0) ?_
 refine zo (iv r1.2.Code) ?_
 refine zo (bv (r1.2.Code != 0)) ?_
 refine za ((r1.2.Code != 0)) ?_ ?_
 ·exact zk (Z2R )
 ·refine zo (.ptr 0 0) ?_
  refine zo (.ptr 0 0) ?_
  refine zo (iv r1.1.Root.Kind) ?_
  refine zo (bv (r1.1.Root.Kind != 3)) ?_
  refine za ((r1.1.Root.Kind != 3)) ?_ ?_
  ·exact zk (Z2R )
  ·refine zo (.ptr 0 0) ?_
   refine zo (.ptr 0 6) ?_
   refine zo (.p (.lst .sh (r1.1.Root.Kids.map ZI))) ?_
   refine zo (iv (r1.1.Root.Kids.length : Int)) ?_ (Eq.trans (by kernel_rfl) (xlen_of (P := PP) (t := 25) (d := 27) (by kernel_rfl) ZI .sh r1.1.Root.Kids))
   refine zo (bv ((r1.1.Root.Kids.length : Int) != 2)) ?_
   refine za (((r1.1.Root.Kids.length : Int) != 2)) ?_ ?_
   ·exact zk (Z2R )
   ·refine zo (.ptr 0 0) ?_
    refine zo (.ptr 0 6) ?_
    refine zo (.p (.lst .sh (r1.1.Root.Kids.map ZI))) ?_
    refine zi fun a5 ha5 => ?_
    refine zo (.cptr (ZE a5 .sh .sh)) ?_ (Eq.trans (by kernel_rfl) (xidx_of (o := .sh) (k := .i64) (n := 7) (e := ZI) (cs := Z27) Z4X (fun _ => rfl) (by decide) ha5))
    refine zo (.cptr [(.v (.int .i64 a5.Kind)), (.v (.int .i64 a5.Lo)), (.v (.int .i64 a5.Hi)), (.v (.int .i64 a5.Mode)), (.v (.int .i64 a5.Ref)), (.lst .sh (a5.Set.map Zs)), (.lst .sh (a5.Kids.map ZI))]) ?_
    refine zo (iv a5.Kind) ?_
    refine zo (bv (a5.Kind != 4)) ?_
    refine za ((a5.Kind != 4)) ?_ ?_
    ·exact zk (Z2R )
    ·refine zo (.ptr 0 0) ?_
     refine zo (.ptr 0 6) ?_
     refine zo (.p (.lst .sh (r1.1.Root.Kids.map ZI))) ?_
     refine zi fun a6 ha6 => ?_
     refine zo (.cptr (ZE a6 .sh .sh)) ?_ (Eq.trans (by kernel_rfl) (xidx_of (o := .sh) (k := .i64) (n := 7) (e := ZI) (cs := Z27) Z4X (fun _ => rfl) (by decide) ha6))
     refine zo (.cptr [(.v (.int .i64 a6.Mode)), (.v (.int .i64 a6.Ref)), (.lst .sh (a6.Set.map Zs)), (.lst .sh (a6.Kids.map ZI))]) ?_
     refine zo (iv a6.Mode) ?_
     refine zo (bv (a6.Mode != 1)) ?_
     refine za ((a6.Mode != 1)) ?_ ?_
     ·exact zk (Z2R )
     ·exact zk (Z8J (r1.1) (r1.2) (r2.1) (r2.2) (r3.1) (r3.2) (r4.1) (r4.2) .sh .sh .sh .sh .sh .sh .sh .sh)
theorem Z9K  {r} (h : Z54 = some r) : Z52 = some r :=
 pick_of (fun _ _ ha hb => RRun.uniq (Zaf) (ha ) (hb )) (Z9s  r h)
noncomputable def Z34 (z1R : List Int) (zR : Int) (z1e : List Zr) (zJ : Int) (zS : Int) (zM : Int) (zW : Int) (zV : Int) (zN : Int) (zO : Int) (zP : List Z7) (zL : List Z3) (z12 : Bool) : Option (ZC × Zi) :=
 Z4W z1e ((z1e.length : Int)) 0 z1R zR zJ zS zM zW zV zN zO zP zL z12
theorem Z6x (b0 : ZC) (b1 : Zi) (z1R : List Int) (z1K : Int) (zR : Int) (z1z : Int) (z1e : List Zr) (zJ : Int) (zS : Int) (zM : Int) (zW : Int) (zV : Int) (zN : Int) (zO : Int) (zP : List Z7) (zL : List Z3) (z1q : Int) (z12 : Bool) (zH : Own) (zF : Own) (z2e : Own) (z18 : Own) (zY : Own) (zU : Own) (z1v : okApp zH = true) (z1m : okApp zF = true) (z2r : okApp z18 = true) : Sim (Z2f) (Z34 z1R zR z1e zJ zS zM zW zV zN zO zP zL z12) (ZbT 0 (.ptr 0 0) (.ptr 1 0) (.ptr 2 0) (.ptr 3 0) [(Zv b0 zH zF), (ZD b1), (Zj (Zk.mk z1R z1K zR z1z z1e (Zi.mk zJ zS)) z2e z18), (Zv (ZC.mk (Z3.mk zM zW zV zN zO zP zL) z1q z12) zY zU)]) := by
 unfold Z34
 refine zf (Zh1 ..) ?_
 refine ze ?_
 refine zo (.ptr 2 0) ?_
 refine zo (.ptr 2 4) ?_
 refine zo (.p (.lst (shrO z18) (z1e.map Z1A))) ?_
 refine zo (iv (z1e.length : Int)) ?_ (Eq.trans (by kernel_rfl) (xlen_of (P := PP) (t := 56) (d := 62) (by kernel_rfl) Z1A (shrO z18) z1e))
 exact zk (Z8N (z1e) ((z1e.length : Int)) (0) (b0) (b1) (z1R) (z1K) (zR) (z1z) (z1e) (zJ) (zS) (zM) (zW) (zV) (zN) (zO) (zP) (zL) (z1q) (z12) (shrO z18) zH zF z2e z18 zY zU z1v z1m z2r)
noncomputable def Z5J (z1R : List Int) (z1K : Int) (zR : Int) (z1e : List Zr) (zJ : Int) (zS : Int) (zM : Int) (zW : Int) (zV : Int) (zN : Int) (zO : Int) (zP : List Z7) (zL : List Z3) (z12 : Bool) : Option (ZC × Zi) :=
 (ZT 20 z1K z1R zJ zS).bind fun r1 =>
 Z34 z1R zR z1e r1.2.1 r1.2.2 zM zW zV zN zO zP zL z12
theorem ZbI (b0 : ZC) (b1 : Zi) (z1R : List Int) (z1K : Int) (zR : Int) (z1z : Int) (z1e : List Zr) (zJ : Int) (zS : Int) (zM : Int) (zW : Int) (zV : Int) (zN : Int) (zO : Int) (zP : List Z7) (zL : List Z3) (z1q : Int) (z12 : Bool) (zH : Own) (zF : Own) (z2e : Own) (z18 : Own) (zY : Own) (zU : Own) (z1v : okApp zH = true) (z1m : okApp zF = true) (z2r : okApp z18 = true) : Sim (Z2f) (Z5J z1R z1K zR z1e zJ zS zM zW zV zN zO zP zL z12) (ZdL 0 (.ptr 0 0) (.ptr 1 0) (.ptr 2 0) (.ptr 3 0) [(Zv b0 zH zF), (ZD b1), (Zj (Zk.mk z1R z1K zR z1z z1e (Zi.mk zJ zS)) z2e z18), (Zv (ZC.mk (Z3.mk zM zW zV zN zO zP zL) z1q z12) zY zU)]) := by
 unfold Z5J
 refine zf (ZgU ..) ?_
 refine ze ?_
 refine zo (.ptr 2 0) ?_
 refine zo (.ptr 2 1) ?_
 refine zo (iv z1K) ?_
 refine zi fun r1 hr1 => ?_
 obtain ⟨qr1, er1, exr1, rfl⟩ := ZX (20) (z1K) (z1R) (z1K) (zR) (z1z) (z1e) (zJ) (zS) z2e z18 z2r r1 hr1
 refine zc [2] (.p (.tup [])) [(Zv b0 zH zF), (ZD b1), (Zj (Zk.mk z1R r1.1 zR z1z z1e (Zi.mk r1.2.1 r1.2.2)) z2e z18), (Zv (ZC.mk (Z3.mk zM zW zV zN zO zP zL) z1q z12) zY zU)] er1 ?_
 exact zk (Z6x (b0) (b1) (z1R) (r1.1) (zR) (z1z) (z1e) (r1.2.1) (r1.2.2) (zM) (zW) (zV) (zN) (zO) (zP) (zL) (z1q) (z12) zH zF z2e z18 zY zU z1v z1m z2r)
noncomputable def Z6u (x0 : ByteArray) : Option (ZC × Zi) :=
 (Z15 ((ByteArray.mk #[40, 63, 105, 41])) ((bytesI x0)) 0).bind fun r1 =>
 (Z2N ((bytesI x0)) r1.2 0 0 (([] : List Zr)) 0 0).bind fun r2 =>
 if ((r2.2.2.2.2.2.1 == 0)) = true then
 (if ((decide (r2.2.1 < ((bytesI x0).length : Int)))) = true then
 (Z5J ((bytesI x0)) r2.2.1 r2.2.2.1 r2.2.2.2.2.1 r2.2.2.2.2.2.1 r2.2.2.2.2.2.2 r2.1.Kind r2.1.Lo r2.1.Hi r2.1.Mode r2.1.Ref r2.1.Set r2.1.Kids r1.1)
 else
 (Z34 ((bytesI x0)) r2.2.2.1 r2.2.2.2.2.1 r2.2.2.2.2.2.1 r2.2.2.2.2.2.2 r2.1.Kind r2.1.Lo r2.1.Hi r2.1.Mode r2.1.Ref r2.1.Set r2.1.Kids r1.1))
 else
 (Z34 ((bytesI x0)) r2.2.2.1 r2.2.2.2.2.1 r2.2.2.2.2.2.1 r2.2.2.2.2.2.2 r2.1.Kind r2.1.Lo r2.1.Hi r2.1.Mode r2.1.Ref r2.1.Set r2.1.Kids r1.1)
theorem ZbK (x0 : ByteArray) (b0 : ZC) (b1 : Zi) (zH : Own) (zF : Own) (z1v : okApp zH = true) (z1m : okApp zF = true) : Sim (Z2f) (Z6u x0) (Ze2 0 (.p (.v (.string x0))) (.ptr 0 0) (.ptr 1 0) [(Zv b0 zH zF), (ZD b1)]) := by
 unfold Z6u
 refine zf (Zh2 ..) ?_
 refine ze ?_
 refine zo (.p (.lst .sh ((bytesI x0).map (eI .u8)))) ?_ (Eq.trans (by kernel_rfl) (xcnv_byt (P := PP) (s := 9) (d := 40) (by kernel_rfl) (by kernel_rfl) x0))
 refine zo (.p (.agg (ZcL (Zk.mk (bytesI x0) 0 0 0 ([] : List Zr) (Zi.mk 0 0)) .sh .nl))) ?_
 refine zx (.ptr 2 0) [(Zv b0 zH zF), (ZD b1), (Zj (Zk.mk (bytesI x0) 0 0 0 ([] : List Zr) (Zi.mk 0 0)) .sh .nl)] ?_
 refine ze ?_
 refine zi fun r1 hr1 => ?_
 obtain ⟨qr1, er1, exr1, rfl⟩ := Z1b ((ByteArray.mk #[40, 63, 105, 41])) ((bytesI x0)) (0) (0) (0) (([] : List Zr)) (0) (0) .sh .nl rfl r1 hr1
 refine zc [2] (bv r1.1) [(Zv b0 zH zF), (ZD b1), (Zj (Zk.mk (bytesI x0) r1.2 0 0 ([] : List Zr) (Zi.mk 0 0)) .sh .nl)] er1 ?_
 refine zo (.p (.agg (Z1f (ZC.mk (Z3.mk 0 0 0 0 0 ([] : List Z7) ([] : List Z3)) 0 r1.1) .nl .nl))) ?_
 refine zz (.ptr 3 0) [(Zv b0 zH zF), (ZD b1), (Zj (Zk.mk (bytesI x0) r1.2 0 0 ([] : List Zr) (Zi.mk 0 0)) .sh .nl), (Zv (ZC.mk (Z3.mk 0 0 0 0 0 ([] : List Z7) ([] : List Z3)) 0 false) .nl .nl)] ?_
 refine zt [(Zv b0 zH zF), (ZD b1), (Zj (Zk.mk (bytesI x0) r1.2 0 0 ([] : List Zr) (Zi.mk 0 0)) .sh .nl), (Zv (ZC.mk (Z3.mk 0 0 0 0 0 ([] : List Z7) ([] : List Z3)) 0 r1.1) .nl .nl)] ?_
 refine ze ?_
 refine zi fun r2 hr2 => ?_
 obtain ⟨qr2, er2, or2_0_4, exr2, hor2_0_4, rfl⟩ := Z8d ((bytesI x0)) (r1.2) (0) (0) (([] : List Zr)) (0) (0) .sh .nl rfl r2 hr2
 refine zc [2] (.p (.agg (ZE r2.1 .sh .sh))) [(Zv b0 zH zF), (ZD b1), (Zj (Zk.mk (bytesI x0) r2.2.1 r2.2.2.1 r2.2.2.2.1 r2.2.2.2.2.1 (Zi.mk r2.2.2.2.2.2.1 r2.2.2.2.2.2.2)) .sh or2_0_4), (Zv (ZC.mk (Z3.mk 0 0 0 0 0 ([] : List Z7) ([] : List Z3)) 0 r1.1) .nl .nl)] er2 ?_
 refine zo (.ptr 3 0) ?_
 refine zt [(Zv b0 zH zF), (ZD b1), (Zj (Zk.mk (bytesI x0) r2.2.1 r2.2.2.1 r2.2.2.2.1 r2.2.2.2.2.1 (Zi.mk r2.2.2.2.2.2.1 r2.2.2.2.2.2.2)) .sh or2_0_4), (Zv (ZC.mk (Z3.mk r2.1.Kind r2.1.Lo r2.1.Hi r2.1.Mode r2.1.Ref r2.1.Set r2.1.Kids) 0 r1.1) .sh .sh)] ?_
 refine ze ?_
 refine zo (.ptr 2 0) ?_
 refine zo (.ptr 2 5) ?_
 refine zo (.ptr 2 5) ?_
 refine zo (iv r2.2.2.2.2.2.1) ?_
 refine zo (bv (r2.2.2.2.2.2.1 == 0)) ?_
 refine za ((r2.2.2.2.2.2.1 == 0)) ?_ ?_
 ·refine zo (.ptr 2 0) ?_
  refine zo (.ptr 2 1) ?_
  refine zo (iv r2.2.1) ?_
  refine zo (.ptr 2 0) ?_
  refine zo (.ptr 2 0) ?_
  refine zo (.p (.lst .sh ((bytesI x0).map (eI .u8)))) ?_
  refine zo (iv ((bytesI x0).length : Int)) ?_ (Eq.trans (by kernel_rfl) (xlen_of (P := PP) (t := 40) (d := 5) (by kernel_rfl) (eI .u8) .sh (bytesI x0)))
  refine zo (bv (decide (r2.2.1 < ((bytesI x0).length : Int)))) ?_
  refine za ((decide (r2.2.1 < ((bytesI x0).length : Int)))) ?_ ?_
  ·exact zk (ZbI (b0) (b1) ((bytesI x0)) (r2.2.1) (r2.2.2.1) (r2.2.2.2.1) (r2.2.2.2.2.1) (r2.2.2.2.2.2.1) (r2.2.2.2.2.2.2) (r2.1.Kind) (r2.1.Lo) (r2.1.Hi) (r2.1.Mode) (r2.1.Ref) (r2.1.Set) (r2.1.Kids) (0) (r1.1) zH zF .sh or2_0_4 .sh .sh z1v z1m hor2_0_4)
  ·exact zk (Z6x (b0) (b1) ((bytesI x0)) (r2.2.1) (r2.2.2.1) (r2.2.2.2.1) (r2.2.2.2.2.1) (r2.2.2.2.2.2.1) (r2.2.2.2.2.2.2) (r2.1.Kind) (r2.1.Lo) (r2.1.Hi) (r2.1.Mode) (r2.1.Ref) (r2.1.Set) (r2.1.Kids) (0) (r1.1) zH zF .sh or2_0_4 .sh .sh z1v z1m hor2_0_4)
 ·exact zk (Z6x (b0) (b1) ((bytesI x0)) (r2.2.1) (r2.2.2.1) (r2.2.2.2.1) (r2.2.2.2.2.1) (r2.2.2.2.2.2.1) (r2.2.2.2.2.2.2) (r2.1.Kind) (r2.1.Lo) (r2.1.Hi) (r2.1.Mode) (r2.1.Ref) (r2.1.Set) (r2.1.Kids) (0) (r1.1) zH zF .sh or2_0_4 .sh .sh z1v z1m hor2_0_4)
noncomputable def Z7V (x0 : ByteArray) : Option (ZC × Zi) :=
 if ((decide (256 < (x0.size : Int)))) = true then
 (some ((ZC.mk (Z3.mk 0 0 0 0 0 ([] : List Z7) ([] : List Z3)) 0 false), (Zi.mk 12 0)))
 else
 (Z6u x0)
theorem Zcp (x0 : ByteArray) : Sim (Z2f) (Z7V x0) (EE 16 [(.p (.v (.string x0)))] []) := by
 unfold Z7V
 refine zf (ZhO ..) ?_
 refine ze ?_
 refine zz (.ptr 0 0) [(Zv (ZC.mk (Z3.mk 0 0 0 0 0 ([] : List Z7) ([] : List Z3)) 0 false) .nl .nl)] ?_
 refine zz (.ptr 1 0) [(Zv (ZC.mk (Z3.mk 0 0 0 0 0 ([] : List Z7) ([] : List Z3)) 0 false) .nl .nl), (ZD (Zi.mk 0 0))] ?_
 refine ze ?_
 refine zo (iv (x0.size : Int)) ?_
 refine zo (bv (decide (256 < (x0.size : Int)))) ?_
 refine za ((decide (256 < (x0.size : Int)))) ?_ ?_
 ·refine ze ?_
  refine zo (.p (.agg (Z1f (ZC.mk (Z3.mk 0 0 0 0 0 ([] : List Z7) ([] : List Z3)) 0 false) .nl .nl))) ?_
  refine zo (.p (.agg (Z11 (Zi.mk 12 0)))) ?_
  refine zt [(Zv (ZC.mk (Z3.mk 0 0 0 0 0 ([] : List Z7) ([] : List Z3)) 0 false) .nl .nl), (ZD (Zi.mk 0 0))] ?_
  refine zt [(Zv (ZC.mk (Z3.mk 0 0 0 0 0 ([] : List Z7) ([] : List Z3)) 0 false) .nl .nl), (ZD (Zi.mk 12 0))] ?_
  exact zr ((.p (.tup [(.agg (Z1f (ZC.mk (Z3.mk 0 0 0 0 0 ([] : List Z7) ([] : List Z3)) 0 false) .sh .sh)), (.agg (Z11 (Zi.mk 12 0)))])), [(Zv (ZC.mk (Z3.mk 0 0 0 0 0 ([] : List Z7) ([] : List Z3)) 0 false) .nl .nl), (ZD (Zi.mk 12 0))]) ⟨_, rfl⟩
 ·exact zk (ZbK (x0) ((ZC.mk (Z3.mk 0 0 0 0 0 ([] : List Z7) ([] : List Z3)) 0 false)) ((Zi.mk 0 0)) .nl .nl rfl rfl)
theorem Zcu (x0 : ByteArray) {r} (h : Z7V x0 = some r) : Z3F x0 = some r :=
 pick_of (fun _ _ ha hb => RRun.uniq (ZaD) (ha ) (hb )) (Zcp x0 r h)
noncomputable def Z3j (x50 : List Zr) (x51 : Int) (x52 : Int) (z1R : List Int) (zR : Int) (zJ : Int) (zS : Int) (zM : Int) (zW : Int) (zV : Int) (zN : Int) (zO : Int) (zP : List Z7) (zL : List Z3) (z12 : Bool) : Option (ZC × Zi) :=
 Z4W x50 x51 ((IntKind.i64.wrap (x52 + 1))) z1R zR zJ zS zM zW zV zN zO zP zL z12
theorem Z8g (x50 : List Zr) (x51 : Int) (x52 : Int) (b0 : ZC) (b1 : Zi) (z1R : List Int) (z1K : Int) (zR : Int) (z1z : Int) (z1e : List Zr) (zJ : Int) (zS : Int) (zM : Int) (zW : Int) (zV : Int) (zN : Int) (zO : Int) (zP : List Z7) (zL : List Z3) (z1q : Int) (z12 : Bool) (ox50 : Own) (zH : Own) (zF : Own) (z2e : Own) (z18 : Own) (zY : Own) (zU : Own) (z1v : okApp zH = true) (z1m : okApp zF = true) (z2r : okApp z18 = true) : Sim (Z2f) (Z3j x50 x51 x52 z1R zR zJ zS zM zW zV zN zO zP zL z12) (Zcc 0 (.ptr 0 0) (.ptr 1 0) (.ptr 2 0) (.ptr 3 0) (.p (.lst ox50 (x50.map Z1A))) (iv x51) (iv x52) [(Zv b0 zH zF), (ZD b1), (Zj (Zk.mk z1R z1K zR z1z z1e (Zi.mk zJ zS)) z2e z18), (Zv (ZC.mk (Z3.mk zM zW zV zN zO zP zL) z1q z12) zY zU)]) := by
 unfold Z3j
 refine zf (Zfe ..) ?_
 refine ze ?_
 refine zo (iv (IntKind.i64.wrap (x52 + 1))) ?_
 exact zk (Z8N (x50) (x51) ((IntKind.i64.wrap (x52 + 1))) (b0) (b1) (z1R) (z1K) (zR) (z1z) (z1e) (zJ) (zS) (zM) (zW) (zV) (zN) (zO) (zP) (zL) (z1q) (z12) ox50 zH zF z2e z18 zY zU z1v z1m z2r)
noncomputable def Z5t (x50 : List Zr) (x51 : Int) (x52 : Int) (z1R : List Int) (zR : Int) (zJ : Int) (zS : Int) (zM : Int) (zW : Int) (zV : Int) (zN : Int) (zO : Int) (zP : List Z7) (zL : List Z3) (z12 : Bool) : Option (ZC × Zi) :=
 (lget x50 x52).bind fun a1 =>
 if ((decide (zR < a1.group))) = true then
 ((ZT 26 a1.at_ z1R zJ zS).bind fun r2 =>
 Z3j x50 x51 x52 z1R zR r2.2.1 r2.2.2 zM zW zV zN zO zP zL z12)
 else
 (Z3j x50 x51 x52 z1R zR zJ zS zM zW zV zN zO zP zL z12)
theorem Zb0 (x50 : List Zr) (x51 : Int) (x52 : Int) (b0 : ZC) (b1 : Zi) (z1R : List Int) (z1K : Int) (zR : Int) (z1z : Int) (z1e : List Zr) (zJ : Int) (zS : Int) (zM : Int) (zW : Int) (zV : Int) (zN : Int) (zO : Int) (zP : List Z7) (zL : List Z3) (z1q : Int) (z12 : Bool) (ox50 : Own) (zH : Own) (zF : Own) (z2e : Own) (z18 : Own) (zY : Own) (zU : Own) (z1v : okApp zH = true) (z1m : okApp zF = true) (z2r : okApp z18 = true) : Sim (Z2f) (Z5t x50 x51 x52 z1R zR zJ zS zM zW zV zN zO zP zL z12) (Zdj 0 (.ptr 0 0) (.ptr 1 0) (.ptr 2 0) (.ptr 3 0) (.p (.lst ox50 (x50.map Z1A))) (iv x51) (iv x52) [(Zv b0 zH zF), (ZD b1), (Zj (Zk.mk z1R z1K zR z1z z1e (Zi.mk zJ zS)) z2e z18), (Zv (ZC.mk (Z3.mk zM zW zV zN zO zP zL) z1q z12) zY zU)]) := by
 unfold Z5t
 refine zf (Zfo ..) ?_
 refine ze ?_
 refine zi fun a1 ha1 => ?_
 refine zo (.cptr (Z8a a1)) ?_ (Eq.trans (by kernel_rfl) (xidx_of (o := ox50) (k := .i64) (n := 2) (e := Z1A) (cs := Z6w) (fun _ => rfl) (fun _ => rfl) (by decide) ha1))
 refine zo (.p (.agg (Z8a a1))) ?_
 refine zz (.ptr 4 0) [(Zv b0 zH zF), (ZD b1), (Zj (Zk.mk z1R z1K zR z1z z1e (Zi.mk zJ zS)) z2e z18), (Zv (ZC.mk (Z3.mk zM zW zV zN zO zP zL) z1q z12) zY zU), (Z87 (Zr.mk 0 0))] ?_
 refine zt [(Zv b0 zH zF), (ZD b1), (Zj (Zk.mk z1R z1K zR z1z z1e (Zi.mk zJ zS)) z2e z18), (Zv (ZC.mk (Z3.mk zM zW zV zN zO zP zL) z1q z12) zY zU), (Z87 a1)] ?_
 refine ze ?_
 refine zo (.ptr 4 0) ?_
 refine zo (iv a1.group) ?_
 refine zo (.ptr 2 0) ?_
 refine zo (.ptr 2 2) ?_
 refine zo (iv zR) ?_
 refine zo (bv (decide (zR < a1.group))) ?_
 refine za ((decide (zR < a1.group))) ?_ ?_
 ·refine ze ?_
  refine zo (.ptr 4 1) ?_
  refine zo (iv a1.at_) ?_
  refine zi fun r2 hr2 => ?_
  obtain ⟨qr2, er2, exr2, rfl⟩ := ZX (26) (a1.at_) (z1R) (z1K) (zR) (z1z) (z1e) (zJ) (zS) z2e z18 z2r r2 hr2
  refine zc [2] (.p (.tup [])) [(Zv b0 zH zF), (ZD b1), (Zj (Zk.mk z1R r2.1 zR z1z z1e (Zi.mk r2.2.1 r2.2.2)) z2e z18), (Zv (ZC.mk (Z3.mk zM zW zV zN zO zP zL) z1q z12) zY zU), (Z87 a1)] er2 ?_
  exact zk (Z8g (x50) (x51) (x52) (b0) (b1) (z1R) (r2.1) (zR) (z1z) (z1e) (r2.2.1) (r2.2.2) (zM) (zW) (zV) (zN) (zO) (zP) (zL) (z1q) (z12) ox50 zH zF z2e z18 zY zU z1v z1m z2r)
 ·exact zk (Z8g (x50) (x51) (x52) (b0) (b1) (z1R) (z1K) (zR) (z1z) (z1e) (zJ) (zS) (zM) (zW) (zV) (zN) (zO) (zP) (zL) (z1q) (z12) ox50 zH zF z2e z18 zY zU z1v z1m z2r)
noncomputable def Z7C (zR : Int) (zM : Int) (zW : Int) (zV : Int) (zN : Int) (zO : Int) (zP : List Z7) (zL : List Z3) (z12 : Bool) : Option (ZC × Zi) :=
 some ((ZC.mk (Z3.mk zM zW zV zN zO zP zL) zR z12), (Zi.mk 0 0))
theorem Zbt (b0 : ZC) (b1 : Zi) (z1R : List Int) (z1K : Int) (zR : Int) (z1z : Int) (z1e : List Zr) (zJ : Int) (zS : Int) (zM : Int) (zW : Int) (zV : Int) (zN : Int) (zO : Int) (zP : List Z7) (zL : List Z3) (z1q : Int) (z12 : Bool) (zH : Own) (zF : Own) (z2e : Own) (z18 : Own) (zY : Own) (zU : Own) (z1v : okApp zH = true) (z1m : okApp zF = true) (z2r : okApp z18 = true) : Sim (Z2f) (Z7C zR zM zW zV zN zO zP zL z12) (Zdb 0 (.ptr 0 0) (.ptr 1 0) (.ptr 2 0) (.ptr 3 0) [(Zv b0 zH zF), (ZD b1), (Zj (Zk.mk z1R z1K zR z1z z1e (Zi.mk zJ zS)) z2e z18), (Zv (ZC.mk (Z3.mk zM zW zV zN zO zP zL) z1q z12) zY zU)]) := by
 unfold Z7C
 refine zf (ZfG ..) ?_
 refine ze ?_
 refine zo (.ptr 2 0) ?_
 refine zo (.ptr 2 2) ?_
 refine zo (iv zR) ?_
 refine zo (.ptr 3 7) ?_
 refine zt [(Zv b0 zH zF), (ZD b1), (Zj (Zk.mk z1R z1K zR z1z z1e (Zi.mk zJ zS)) z2e z18), (Zv (ZC.mk (Z3.mk zM zW zV zN zO zP zL) zR z12) zY zU)] ?_
 refine ze ?_
 refine zo (.p (.agg (Z1f (ZC.mk (Z3.mk zM zW zV zN zO zP zL) zR z12) (shrO zY) (shrO zU)))) ?_
 refine zo (.p (.agg (Z11 (Zi.mk 0 0)))) ?_
 refine zt [(Zv (ZC.mk (Z3.mk zM zW zV zN zO zP zL) zR z12) (shrO zY) (shrO zU)), (ZD b1), (Zj (Zk.mk z1R z1K zR z1z z1e (Zi.mk zJ zS)) z2e z18), (Zv (ZC.mk (Z3.mk zM zW zV zN zO zP zL) zR z12) zY zU)] ?_
 refine zt [(Zv (ZC.mk (Z3.mk zM zW zV zN zO zP zL) zR z12) (shrO zY) (shrO zU)), (ZD (Zi.mk 0 0)), (Zj (Zk.mk z1R z1K zR z1z z1e (Zi.mk zJ zS)) z2e z18), (Zv (ZC.mk (Z3.mk zM zW zV zN zO zP zL) zR z12) zY zU)] ?_
 exact zr ((.p (.tup [(.agg (Z1f (ZC.mk (Z3.mk zM zW zV zN zO zP zL) zR z12) .sh .sh)), (.agg (Z11 (Zi.mk 0 0)))])), [(Zv (ZC.mk (Z3.mk zM zW zV zN zO zP zL) zR z12) (shrO zY) (shrO zU)), (ZD (Zi.mk 0 0)), (Zj (Zk.mk z1R z1K zR z1z z1e (Zi.mk zJ zS)) z2e z18), (Zv (ZC.mk (Z3.mk zM zW zV zN zO zP zL) zR z12) zY zU)]) ⟨_, rfl⟩
noncomputable def Z5o (zR : Int) (zJ : Int) (zS : Int) (zM : Int) (zW : Int) (zV : Int) (zN : Int) (zO : Int) (zP : List Z7) (zL : List Z3) (z12 : Bool) : Option (ZC × Zi) :=
 if ((zJ != 0)) = true then
 (some ((ZC.mk (Z3.mk 0 0 0 0 0 ([] : List Z7) ([] : List Z3)) 0 false), (Zi.mk zJ zS)))
 else
 (Z7C zR zM zW zV zN zO zP zL z12)
theorem Zbc (b0 : ZC) (b1 : Zi) (z1R : List Int) (z1K : Int) (zR : Int) (z1z : Int) (z1e : List Zr) (zJ : Int) (zS : Int) (zM : Int) (zW : Int) (zV : Int) (zN : Int) (zO : Int) (zP : List Z7) (zL : List Z3) (z1q : Int) (z12 : Bool) (zH : Own) (zF : Own) (z2e : Own) (z18 : Own) (zY : Own) (zU : Own) (z1v : okApp zH = true) (z1m : okApp zF = true) (z2r : okApp z18 = true) : Sim (Z2f) (Z5o zR zJ zS zM zW zV zN zO zP zL z12) (Zd8 0 (.ptr 0 0) (.ptr 1 0) (.ptr 2 0) (.ptr 3 0) [(Zv b0 zH zF), (ZD b1), (Zj (Zk.mk z1R z1K zR z1z z1e (Zi.mk zJ zS)) z2e z18), (Zv (ZC.mk (Z3.mk zM zW zV zN zO zP zL) z1q z12) zY zU)]) := by
 unfold Z5o
 refine zf (Zff ..) ?_
 refine ze ?_
 refine zo (.ptr 2 0) ?_
 refine zo (.ptr 2 5) ?_
 refine zo (.ptr 2 5) ?_
 refine zo (iv zJ) ?_
 refine zo (bv (zJ != 0)) ?_
 refine za ((zJ != 0)) ?_ ?_
 ·refine ze ?_
  refine zo (.p (.agg (Z1f (ZC.mk (Z3.mk 0 0 0 0 0 ([] : List Z7) ([] : List Z3)) 0 false) .nl .nl))) ?_
  refine zo (.ptr 2 0) ?_
  refine zo (.ptr 2 5) ?_
  refine zo (.p (.agg (Z11 (Zi.mk zJ zS)))) ?_
  refine zt [(Zv (ZC.mk (Z3.mk 0 0 0 0 0 ([] : List Z7) ([] : List Z3)) 0 false) .nl .nl), (ZD b1), (Zj (Zk.mk z1R z1K zR z1z z1e (Zi.mk zJ zS)) z2e z18), (Zv (ZC.mk (Z3.mk zM zW zV zN zO zP zL) z1q z12) zY zU)] ?_
  refine zt [(Zv (ZC.mk (Z3.mk 0 0 0 0 0 ([] : List Z7) ([] : List Z3)) 0 false) .nl .nl), (ZD (Zi.mk zJ zS)), (Zj (Zk.mk z1R z1K zR z1z z1e (Zi.mk zJ zS)) z2e z18), (Zv (ZC.mk (Z3.mk zM zW zV zN zO zP zL) z1q z12) zY zU)] ?_
  refine zg ?_
  exact zr ((.p (.tup [(.agg (Z1f (ZC.mk (Z3.mk 0 0 0 0 0 ([] : List Z7) ([] : List Z3)) 0 false) .sh .sh)), (.agg (Z11 (Zi.mk zJ zS)))])), [(Zv (ZC.mk (Z3.mk 0 0 0 0 0 ([] : List Z7) ([] : List Z3)) 0 false) .nl .nl), (ZD (Zi.mk zJ zS)), (Zj (Zk.mk z1R z1K zR z1z z1e (Zi.mk zJ zS)) z2e z18), (Zv (ZC.mk (Z3.mk zM zW zV zN zO zP zL) z1q z12) zY zU)]) ⟨_, rfl⟩
 ·exact zk (Zbt (b0) (b1) (z1R) (z1K) (zR) (z1z) (z1e) (zJ) (zS) (zM) (zW) (zV) (zN) (zO) (zP) (zL) (z1q) (z12) zH zF z2e z18 zY zU z1v z1m z2r)
noncomputable def Z48 (x50 : List Zr) (x51 : Int) (x52 : Int) (z1R : List Int) (zR : Int) (zJ : Int) (zS : Int) (zM : Int) (zW : Int) (zV : Int) (zN : Int) (zO : Int) (zP : List Z7) (zL : List Z3) (z12 : Bool) : Option (ZC × Zi) :=
 if ((decide (x52 < x51))) = true then
 (Z5t x50 x51 x52 z1R zR zJ zS zM zW zV zN zO zP zL z12)
 else
 (Z5o zR zJ zS zM zW zV zN zO zP zL z12)
theorem ZbD (x50 : List Zr) (x51 : Int) (x52 : Int) (b0 : ZC) (b1 : Zi) (z1R : List Int) (z1K : Int) (zR : Int) (z1z : Int) (z1e : List Zr) (zJ : Int) (zS : Int) (zM : Int) (zW : Int) (zV : Int) (zN : Int) (zO : Int) (zP : List Z7) (zL : List Z3) (z1q : Int) (z12 : Bool) (ox50 : Own) (zH : Own) (zF : Own) (z2e : Own) (z18 : Own) (zY : Own) (zU : Own) (z1v : okApp zH = true) (z1m : okApp zF = true) (z2r : okApp z18 = true) : Sim (Z2f) (Z48 x50 x51 x52 z1R zR zJ zS zM zW zV zN zO zP zL z12) (Zbd 0 (.ptr 0 0) (.ptr 1 0) (.ptr 2 0) (.ptr 3 0) (.p (.lst ox50 (x50.map Z1A))) (iv x51) (iv x52) [(Zv b0 zH zF), (ZD b1), (Zj (Zk.mk z1R z1K zR z1z z1e (Zi.mk zJ zS)) z2e z18), (Zv (ZC.mk (Z3.mk zM zW zV zN zO zP zL) z1q z12) zY zU)]) := by
 unfold Z48
 refine zf (ZfS ..) ?_
 refine ze ?_
 refine zo (bv (decide (x52 < x51))) ?_
 refine za ((decide (x52 < x51))) ?_ ?_
 ·exact zk (Zb0 (x50) (x51) (x52) (b0) (b1) (z1R) (z1K) (zR) (z1z) (z1e) (zJ) (zS) (zM) (zW) (zV) (zN) (zO) (zP) (zL) (z1q) (z12) ox50 zH zF z2e z18 zY zU z1v z1m z2r)
 ·exact zk (Zbc (b0) (b1) (z1R) (z1K) (zR) (z1z) (z1e) (zJ) (zS) (zM) (zW) (zV) (zN) (zO) (zP) (zL) (z1q) (z12) zH zF z2e z18 zY zU z1v z1m z2r)
theorem Z5Q (x50 : List Zr) (x51 : Int) (x52 : Int) (z1R : List Int) (zR : Int) (zJ : Int) (zS : Int) (zM : Int) (zW : Int) (zV : Int) (zN : Int) (zO : Int) (zP : List Z7) (zL : List Z3) (z12 : Bool) {r} (h : Z48 x50 x51 x52 z1R zR zJ zS zM zW zV zN zO zP zL z12 = some r) : Z4W x50 x51 x52 z1R zR zJ zS zM zW zV zN zO zP zL z12 = some r :=
 pick_of (fun _ _ ha hb => RRun.uniq (ZaD) (ha default default default default default default .ex .ex .ex .ex .ex .ex .ex rfl rfl rfl) (hb default default default default default default .ex .ex .ex .ex .ex .ex .ex rfl rfl rfl)) (fun b0 b1 z1K z1z z1e z1q ox50 zH zF z2e z18 zY zU z1v z1m z2r => ZbD x50 x51 x52 b0 b1 z1R z1K zR z1z z1e zJ zS zM zW zV zN zO zP zL z1q z12 ox50 zH zF z2e z18 zY zU z1v z1m z2r r h)
noncomputable def Z55 (zp : Int) : Option (Bool × Int) :=
 some (false, zp)
theorem Z6z (zl : List Int) (zp : Int) (z6 : Int) (zd : Int) (zh : List Zr) (z1 : Int) (z2 : Int) (zn : Own) (zb : Own) (zu : okApp zb = true) : Sim (Z3k zl z6 zd zh z1 z2 zn zb) (Z55 zp) (ZcP 1  [(Zj (Zk.mk zl zp z6 zd zh (Zi.mk z1 z2)) zn zb)]) := by
 unfold Z55
 refine zf (ZfM ..) ?_
 refine ze ?_
 exact zr ((bv false), [(Zj (Zk.mk zl zp z6 zd zh (Zi.mk z1 z2)) zn zb)]) ⟨_, rfl⟩
noncomputable def Z51 (x1 : ByteArray) (zp : Int) : Option (Bool × Int) :=
 some (true, (IntKind.i64.wrap (zp + (x1.size : Int))))
theorem Z9x (x1 : ByteArray) (zl : List Int) (zp : Int) (z6 : Int) (zd : Int) (zh : List Zr) (z1 : Int) (z2 : Int) (zn : Own) (zb : Own) (zu : okApp zb = true) : Sim (Z3k zl z6 zd zh z1 z2 zn zb) (Z51 x1 zp) (ZeH 1 (.ptr 0 0) (.p (.v (.string x1))) [(Zj (Zk.mk zl zp z6 zd zh (Zi.mk z1 z2)) zn zb)]) := by
 unfold Z51
 refine zf (Zg3 ..) ?_
 refine ze ?_
 refine zo (.ptr 0 0) ?_
 refine zo (.ptr 0 1) ?_
 refine zo (iv zp) ?_
 refine zo (iv (x1.size : Int)) ?_
 refine zo (iv (IntKind.i64.wrap (zp + (x1.size : Int)))) ?_
 refine zo (.ptr 0 0) ?_
 refine zo (.ptr 0 1) ?_
 refine zt [(Zj (Zk.mk zl (IntKind.i64.wrap (zp + (x1.size : Int))) z6 zd zh (Zi.mk z1 z2)) zn zb)] ?_
 refine ze ?_
 exact zr ((bv true), [(Zj (Zk.mk zl (IntKind.i64.wrap (zp + (x1.size : Int))) z6 zd zh (Zi.mk z1 z2)) zn zb)]) ⟨_, rfl⟩
noncomputable def Z5P (x1 : ByteArray) (zl : List Int) (zp : Int) : Option (Bool × Int) :=
 if ((decide ((IntKind.i64.wrap ((zl.length : Int) - zp)) < (x1.size : Int)))) = true then
 (Z55 zp)
 else
 ((lsl zl zp (IntKind.i64.wrap (zp + (x1.size : Int)))).bind fun a1 =>
 if ((!(seq (strI a1) x1))) = true then
 (Z55 zp)
 else
 (Z51 x1 zp))
theorem Zat (x1 : ByteArray) (zl : List Int) (zp : Int) (z6 : Int) (zd : Int) (zh : List Zr) (z1 : Int) (z2 : Int) (zn : Own) (zb : Own) (zu : okApp zb = true) : Sim (Z3k zl z6 zd zh z1 z2 zn zb) (Z5P x1 zl zp) (EE 27 [(.ptr 0 0), (.p (.v (.string x1)))] [(Zj (Zk.mk zl zp z6 zd zh (Zi.mk z1 z2)) zn zb)]) := by
 unfold Z5P
 refine zf (ZhT ..) ?_
 refine ze ?_
 refine ze ?_
 refine zo (.ptr 0 0) ?_
 refine zo (.ptr 0 0) ?_
 refine zo (.p (.lst (shrO zn) (zl.map (eI .u8)))) ?_
 refine zo (iv (zl.length : Int)) ?_ (Eq.trans (by kernel_rfl) (xlen_of (P := PP) (t := 40) (d := 5) (by kernel_rfl) (eI .u8) (shrO zn) zl))
 refine zo (.ptr 0 0) ?_
 refine zo (.ptr 0 1) ?_
 refine zo (iv zp) ?_
 refine zo (iv (IntKind.i64.wrap ((zl.length : Int) - zp))) ?_
 refine zo (iv (x1.size : Int)) ?_
 refine zo (bv (decide ((IntKind.i64.wrap ((zl.length : Int) - zp)) < (x1.size : Int)))) ?_
 refine za ((decide ((IntKind.i64.wrap ((zl.length : Int) - zp)) < (x1.size : Int)))) ?_ ?_
 ·exact zk (Z6z (zl) (zp) (z6) (zd) (zh) (z1) (z2) zn zb zu)
 ·refine zo (.ptr 0 0) ?_
  refine zo (.ptr 0 0) ?_
  refine zo (.p (.lst (shrO zn) (zl.map (eI .u8)))) ?_
  refine zo (.ptr 0 0) ?_
  refine zo (.ptr 0 1) ?_
  refine zo (iv zp) ?_
  refine zo (.ptr 0 0) ?_
  refine zo (.ptr 0 1) ?_
  refine zo (iv zp) ?_
  refine zo (iv (x1.size : Int)) ?_
  refine zo (iv (IntKind.i64.wrap (zp + (x1.size : Int)))) ?_
  refine zi fun a1 ha1 => ?_
  refine zo (.p (.lst (slO (shrO zn)) (a1.map (eI .u8)))) ?_ (Eq.trans (by kernel_rfl) <| xsl_of (n := 1) (o := (shrO zn)) (lo := (some (iv zp))) (hi := (some (iv (IntKind.i64.wrap (zp + (x1.size : Int)))))) (e := (eI .u8)) (fun _ => rfl) (by decide) (by kernel_rfl) (by kernel_rfl) ha1)
  refine zo (.p (.v (.string (strI a1)))) ?_ (Eq.trans (by kernel_rfl) (xcnv_str (P := PP) (s := 40) (d := 9) (by kernel_rfl) (slO (shrO zn)) a1))
  refine zo (bv (!(seq (strI a1) x1))) ?_
  refine za ((!(seq (strI a1) x1))) ?_ ?_
  ·exact zk (Z6z (zl) (zp) (z6) (zd) (zh) (z1) (z2) zn zb zu)
  ·exact zk (Z9x (x1) (zl) (zp) (z6) (zd) (zh) (z1) (z2) zn zb zu)
theorem ZaS (x1 : ByteArray) (zl : List Int) (zp : Int) {r} (h : Z5P x1 zl zp = some r) : Z15 x1 zl zp = some r :=
 pick_of (fun _ _ ha hb => RRun.uniq (Zbu _ _ _ _ _ _ _ _) (ha default default default default default .ex .ex rfl) (hb default default default default default .ex .ex rfl)) (fun z6 zd zh z1 z2 zn zb zu => Zat x1 zl zp z6 zd zh z1 z2 zn zb zu r h)
noncomputable def Z4n (zl : List Int) (zp : Int) (z6 : Int) (zd : Int) (zh : List Zr) (z1 : Int) (z2 : Int) : Option (Z3 × Int × Int × Int × (List Zr) × Int × Int) :=
 (Z4b zl zp z6 zd zh z1 z2).bind fun r1 =>
 Z3r (([r1.1] : List Z3)) zl r1.2.1 r1.2.2.1 r1.2.2.2.1 r1.2.2.2.2.1 r1.2.2.2.2.2.1 r1.2.2.2.2.2.2
theorem ZaH (zl : List Int) (zp : Int) (z6 : Int) (zd : Int) (zh : List Zr) (z1 : Int) (z2 : Int) (zn : Own) (zb : Own) (zu : okApp zb = true) : Sim (Z2p zl zn) (Z4n zl zp z6 zd zh z1 z2) (EE 28 [(.ptr 0 0)] [(Zj (Zk.mk zl zp z6 zd zh (Zi.mk z1 z2)) zn zb)]) := by
 unfold Z4n
 refine zf (ZhN ..) ?_
 refine ze ?_
 refine zz (.ptr 1 0) [(Zj (Zk.mk zl zp z6 zd zh (Zi.mk z1 z2)) zn zb), (Zq (Z3.mk 0 0 0 0 0 ([] : List Z7) ([] : List Z3)) .nl .nl)] ?_
 refine ze ?_
 refine zi fun r1 hr1 => ?_
 obtain ⟨qr1, er1, or1_0_4, exr1, hor1_0_4, rfl⟩ := Z8e (zl) (zp) (z6) (zd) (zh) (z1) (z2) zn zb zu r1 hr1
 refine zc [0] (.p (.agg (ZE r1.1 .sh .sh))) [(Zj (Zk.mk zl r1.2.1 r1.2.2.1 r1.2.2.2.1 r1.2.2.2.2.1 (Zi.mk r1.2.2.2.2.2.1 r1.2.2.2.2.2.2)) zn or1_0_4), (Zq (Z3.mk 0 0 0 0 0 ([] : List Z7) ([] : List Z3)) .nl .nl)] er1 ?_
 refine zo (.p (.lst .ex (([r1.1] : List Z3).map ZI))) ?_ (Eq.trans (b := some (.p (.lst .ex [.agg (Z27 r1.1)]))) (by kernel_rfl) (by simp only [List.map_cons, List.map_nil, Z36]))
 exact zk (Z76 (([r1.1] : List Z3)) (zl) (r1.2.1) (r1.2.2.1) (r1.2.2.2.1) (r1.2.2.2.2.1) (r1.2.2.2.2.2.1) (r1.2.2.2.2.2.2) ((Z3.mk 0 0 0 0 0 ([] : List Z7) ([] : List Z3))) .ex zn or1_0_4 .nl .nl rfl hor1_0_4 rfl rfl)
theorem Z8c (zl : List Int) (zp : Int) (z6 : Int) (zd : Int) (zh : List Zr) (z1 : Int) (z2 : Int) {r} (h : Z4n zl zp z6 zd zh z1 z2 = some r) : Z2N zl zp z6 zd zh z1 z2 = some r :=
 pick_of (fun _ _ ha hb => RRun.uniq (Z8x _ _) (ha .ex .ex rfl) (hb .ex .ex rfl)) (fun zn zb zu => ZaH zl zp z6 zd zh z1 z2 zn zb zu r h)
noncomputable def Z5k (x3 : List Z3) (zl : List Int) (zp : Int) (z6 : Int) (zd : Int) (zh : List Zr) (z1 : Int) (z2 : Int) : Option (Z3 × Int × Int × Int × (List Zr) × Int × Int) :=
 (Z4b zl zp z6 zd zh z1 z2).bind fun r1 =>
 (lapp x3 ([r1.1] : List Z3)).bind fun a2 =>
 Z3r a2 zl r1.2.1 r1.2.2.1 r1.2.2.2.1 r1.2.2.2.2.1 r1.2.2.2.2.2.1 r1.2.2.2.2.2.2
theorem Z9L (x3 : List Z3) (zl : List Int) (zp : Int) (z6 : Int) (zd : Int) (zh : List Zr) (z1 : Int) (z2 : Int) (b1 : Z3) (ox3 : Own) (zn : Own) (zb : Own) (zB : Own) (zy : Own) (hox3 : okApp ox3 = true) (zu : okApp zb = true) (zQ : okApp zB = true) (zK : okApp zy = true) : Sim (Z2p zl zn) (Z5k x3 zl zp z6 zd zh z1 z2) (Zew 1 (.ptr 0 0) (.ptr 1 0) (.p (.lst ox3 (x3.map ZI))) [(Zj (Zk.mk zl zp z6 zd zh (Zi.mk z1 z2)) zn zb), (Zq b1 zB zy)]) := by
 unfold Z5k
 refine zf (ZgM ..) ?_
 refine ze ?_
 refine zi fun r1 hr1 => ?_
 obtain ⟨qr1, er1, or1_0_4, exr1, hor1_0_4, rfl⟩ := Z8e (zl) (zp) (z6) (zd) (zh) (z1) (z2) zn zb zu r1 hr1
 refine zc [0] (.p (.agg (ZE r1.1 .sh .sh))) [(Zj (Zk.mk zl r1.2.1 r1.2.2.1 r1.2.2.2.1 r1.2.2.2.2.1 (Zi.mk r1.2.2.2.2.2.1 r1.2.2.2.2.2.2)) zn or1_0_4), (Zq b1 zB zy)] er1 ?_
 refine zo (.p (.lst .ex (([r1.1] : List Z3).map ZI))) ?_ (Eq.trans (b := some (.p (.lst .ex [.agg (Z27 r1.1)]))) (by kernel_rfl) (by simp only [List.map_cons, List.map_nil, Z36]))
 refine zi fun a2 ha2 => ?_
 refine zo (.p (.lst .un (a2.map ZI))) ?_ (Eq.trans (by kernel_rfl) <| xapp_of (n := 7) (o := ox3) (o' := .ex) (e := ZI) (ys := ([r1.1] : List Z3)) Zbv (by decide) hox3 ha2)
 exact zk (Z76 (a2) (zl) (r1.2.1) (r1.2.2.1) (r1.2.2.2.1) (r1.2.2.2.2.1) (r1.2.2.2.2.2.1) (r1.2.2.2.2.2.2) (b1) .un zn or1_0_4 zB zy rfl hor1_0_4 zQ zK)
noncomputable def Z4l (x3 : List Z3) (zp : Int) (z6 : Int) (zd : Int) (zh : List Zr) (z1 : Int) (z2 : Int) : Option (Z3 × Int × Int × Int × (List Zr) × Int × Int) :=
 (Z6f 3 x3).bind fun r1 =>
 some (r1, zp, z6, zd, zh, z1, z2)
theorem Z9P (x3 : List Z3) (zl : List Int) (zp : Int) (z6 : Int) (zd : Int) (zh : List Zr) (z1 : Int) (z2 : Int) (b1 : Z3) (ox3 : Own) (zn : Own) (zb : Own) (zB : Own) (zy : Own) (hox3 : okApp ox3 = true) (zu : okApp zb = true) (zQ : okApp zB = true) (zK : okApp zy = true) : Sim (Z2p zl zn) (Z4l x3 zp z6 zd zh z1 z2) (ZdI 1 (.ptr 1 0) (.p (.lst ox3 (x3.map ZI))) [(Zj (Zk.mk zl zp z6 zd zh (Zi.mk z1 z2)) zn zb), (Zq b1 zB zy)]) := by
 unfold Z4l
 refine zf (Zg7 ..) ?_
 refine ze ?_
 refine zi fun r1 hr1 => ?_
 obtain ⟨qr1, er1, exr1, rfl⟩ := Z9z (3) (x3) .sh r1 hr1
 refine zc [] (.p (.agg (ZE r1 .sh .sh))) [(Zj (Zk.mk zl zp z6 zd zh (Zi.mk z1 z2)) zn zb), (Zq b1 zB zy)] er1 ?_
 refine zt [(Zj (Zk.mk zl zp z6 zd zh (Zi.mk z1 z2)) zn zb), (Zq r1 .sh .sh)] ?_
 exact zr ((.p (.agg (ZE r1 .sh .sh))), [(Zj (Zk.mk zl zp z6 zd zh (Zi.mk z1 z2)) zn zb), (Zq r1 .sh .sh)]) ⟨zb, _, zu, rfl⟩
noncomputable def Z3q (x3 : List Z3) (zl : List Int) (zp : Int) (z6 : Int) (zd : Int) (zh : List Zr) (z1 : Int) (z2 : Int) : Option (Z3 × Int × Int × Int × (List Zr) × Int × Int) :=
 (Z15 ((ByteArray.mk #[124])) zl zp).bind fun r1 =>
 if (r1.1) = true then
 (Z5k x3 zl r1.2 z6 zd zh z1 z2)
 else
 (Z4l x3 r1.2 z6 zd zh z1 z2)
theorem Z9I (x3 : List Z3) (zl : List Int) (zp : Int) (z6 : Int) (zd : Int) (zh : List Zr) (z1 : Int) (z2 : Int) (b1 : Z3) (ox3 : Own) (zn : Own) (zb : Own) (zB : Own) (zy : Own) (hox3 : okApp ox3 = true) (zu : okApp zb = true) (zQ : okApp zB = true) (zK : okApp zy = true) : Sim (Z2p zl zn) (Z3q x3 zl zp z6 zd zh z1 z2) (Zb8 1 (.ptr 0 0) (.ptr 1 0) (.p (.lst ox3 (x3.map ZI))) [(Zj (Zk.mk zl zp z6 zd zh (Zi.mk z1 z2)) zn zb), (Zq b1 zB zy)]) := by
 unfold Z3q
 refine zf (ZgG ..) ?_
 refine ze ?_
 refine zi fun r1 hr1 => ?_
 obtain ⟨qr1, er1, exr1, rfl⟩ := Z1b ((ByteArray.mk #[124])) (zl) (zp) (z6) (zd) (zh) (z1) (z2) zn zb zu r1 hr1
 refine zc [0] (bv r1.1) [(Zj (Zk.mk zl r1.2 z6 zd zh (Zi.mk z1 z2)) zn zb), (Zq b1 zB zy)] er1 ?_
 refine za (r1.1) ?_ ?_
 ·exact zk (Z9L (x3) (zl) (r1.2) (z6) (zd) (zh) (z1) (z2) (b1) ox3 zn zb zB zy hox3 zu zQ zK)
 ·exact zk (Z9P (x3) (zl) (r1.2) (z6) (zd) (zh) (z1) (z2) (b1) ox3 zn zb zB zy hox3 zu zQ zK)
theorem Z6X (x3 : List Z3) (zl : List Int) (zp : Int) (z6 : Int) (zd : Int) (zh : List Zr) (z1 : Int) (z2 : Int) {r} (h : Z3q x3 zl zp z6 zd zh z1 z2 = some r) : Z3r x3 zl zp z6 zd zh z1 z2 = some r :=
 pick_of (fun _ _ ha hb => RRun.uniq (Z8x _ _) (ha default .ex .ex .ex .ex .ex rfl rfl rfl rfl) (hb default .ex .ex .ex .ex .ex rfl rfl rfl rfl)) (fun b1 ox3 zn zb zB zy hox3 zu zQ zK => Z9I x3 zl zp z6 zd zh z1 z2 b1 ox3 zn zb zB zy hox3 zu zQ zK r h)
noncomputable def Z5a (zl : List Int) (zp : Int) (z6 : Int) (zd : Int) (zh : List Zr) (z1 : Int) (z2 : Int) : Option (Z3 × Int × Int × Int × (List Zr) × Int × Int) :=
 Z3v (([] : List Z3)) zl zp z6 zd zh z1 z2
theorem ZaP (zl : List Int) (zp : Int) (z6 : Int) (zd : Int) (zh : List Zr) (z1 : Int) (z2 : Int) (zn : Own) (zb : Own) (zu : okApp zb = true) : Sim (Z2b zl zn) (Z5a zl zp z6 zd zh z1 z2) (EE 35 [(.ptr 0 0)] [(Zj (Zk.mk zl zp z6 zd zh (Zi.mk z1 z2)) zn zb)]) := by
 unfold Z5a
 refine zf (Ziu ..) ?_
 refine ze ?_
 refine zz (.ptr 1 0) [(Zj (Zk.mk zl zp z6 zd zh (Zi.mk z1 z2)) zn zb), (Zq (Z3.mk 0 0 0 0 0 ([] : List Z7) ([] : List Z3)) .nl .nl)] ?_
 refine ze ?_
 exact zk (Z73 (([] : List Z3)) (zl) (zp) (z6) (zd) (zh) (z1) (z2) ((Z3.mk 0 0 0 0 0 ([] : List Z7) ([] : List Z3))) .nl zn zb .nl .nl rfl zu rfl rfl)
theorem Z8k (zl : List Int) (zp : Int) (z6 : Int) (zd : Int) (zh : List Zr) (z1 : Int) (z2 : Int) {r} (h : Z5a zl zp z6 zd zh z1 z2 = some r) : Z4b zl zp z6 zd zh z1 z2 = some r :=
 pick_of (fun _ _ ha hb => RRun.uniq (Z8r _ _) (ha .ex .ex rfl) (hb .ex .ex rfl)) (fun zn zb zu => ZaP zl zp z6 zd zh z1 z2 zn zb zu r h)
noncomputable def Z2c (x3 : List Z3) (zp : Int) (z6 : Int) (zd : Int) (zh : List Zr) (z1 : Int) (z2 : Int) : Option (Z3 × Int × Int × Int × (List Zr) × Int × Int) :=
 (Z6f 2 x3).bind fun r1 =>
 some (r1, zp, z6, zd, zh, z1, z2)
theorem Z4p (x3 : List Z3) (zl : List Int) (zp : Int) (z6 : Int) (zd : Int) (zh : List Zr) (z1 : Int) (z2 : Int) (b1 : Z3) (ox3 : Own) (zn : Own) (zb : Own) (zB : Own) (zy : Own) (hox3 : okApp ox3 = true) (zu : okApp zb = true) (zQ : okApp zB = true) (zK : okApp zy = true) : Sim (Z2b zl zn) (Z2c x3 zp z6 zd zh z1 z2) (Zbi 1 (.ptr 1 0) (.p (.lst ox3 (x3.map ZI))) [(Zj (Zk.mk zl zp z6 zd zh (Zi.mk z1 z2)) zn zb), (Zq b1 zB zy)]) := by
 unfold Z2c
 refine zf (Zh4 ..) ?_
 refine ze ?_
 refine zi fun r1 hr1 => ?_
 obtain ⟨qr1, er1, exr1, rfl⟩ := Z9z (2) (x3) .sh r1 hr1
 refine zc [] (.p (.agg (ZE r1 .sh .sh))) [(Zj (Zk.mk zl zp z6 zd zh (Zi.mk z1 z2)) zn zb), (Zq b1 zB zy)] er1 ?_
 refine zt [(Zj (Zk.mk zl zp z6 zd zh (Zi.mk z1 z2)) zn zb), (Zq r1 .sh .sh)] ?_
 exact zr ((.p (.agg (ZE r1 .sh .sh))), [(Zj (Zk.mk zl zp z6 zd zh (Zi.mk z1 z2)) zn zb), (Zq r1 .sh .sh)]) ⟨zb, _, zu, rfl⟩
noncomputable def Z30 (x3 : List Z3) (zl : List Int) (zp : Int) (z6 : Int) (zd : Int) (zh : List Zr) (z1 : Int) (z2 : Int) : Option (Z3 × Int × Int × Int × (List Zr) × Int × Int) :=
 (Z5R zl zp z6 zd zh z1 z2).bind fun r1 =>
 (Z4d r1.1 r1.2.1 zl r1.2.2.1 r1.2.2.2.1 r1.2.2.2.2.1 r1.2.2.2.2.2.1 r1.2.2.2.2.2.2.1 r1.2.2.2.2.2.2.2).bind fun r2 =>
 (lapp x3 ([r2.1] : List Z3)).bind fun a3 =>
 Z3v a3 zl r2.2.1 r1.2.2.2.1 r1.2.2.2.2.1 r1.2.2.2.2.2.1 r2.2.2.1 r2.2.2.2
theorem Z5v (x3 : List Z3) (zl : List Int) (zp : Int) (z6 : Int) (zd : Int) (zh : List Zr) (z1 : Int) (z2 : Int) (b1 : Z3) (ox3 : Own) (zn : Own) (zb : Own) (zB : Own) (zy : Own) (hox3 : okApp ox3 = true) (zu : okApp zb = true) (zQ : okApp zB = true) (zK : okApp zy = true) : Sim (Z2b zl zn) (Z30 x3 zl zp z6 zd zh z1 z2) (ZbU 1 (.ptr 0 0) (.ptr 1 0) (.p (.lst ox3 (x3.map ZI))) [(Zj (Zk.mk zl zp z6 zd zh (Zi.mk z1 z2)) zn zb), (Zq b1 zB zy)]) := by
 unfold Z30
 refine zf (ZfX ..) ?_
 refine ze ?_
 refine zi fun r1 hr1 => ?_
 obtain ⟨qr1, er1, or1_0_4, exr1, hor1_0_4, rfl⟩ := ZaF (zl) (zp) (z6) (zd) (zh) (z1) (z2) zn zb zu r1 hr1
 refine zc [0] (.p (.tup [(.agg (ZE r1.1 .sh .sh)), (.v (.bool r1.2.1))])) [(Zj (Zk.mk zl r1.2.2.1 r1.2.2.2.1 r1.2.2.2.2.1 r1.2.2.2.2.2.1 (Zi.mk r1.2.2.2.2.2.2.1 r1.2.2.2.2.2.2.2)) zn or1_0_4), (Zq b1 zB zy)] er1 ?_
 refine zo (.p (.agg (ZE r1.1 .sh .sh))) ?_
 refine zo (bv r1.2.1) ?_
 refine zz (.ptr 2 0) [(Zj (Zk.mk zl r1.2.2.1 r1.2.2.2.1 r1.2.2.2.2.1 r1.2.2.2.2.2.1 (Zi.mk r1.2.2.2.2.2.2.1 r1.2.2.2.2.2.2.2)) zn or1_0_4), (Zq b1 zB zy), (Zq (Z3.mk 0 0 0 0 0 ([] : List Z7) ([] : List Z3)) .nl .nl)] ?_
 refine zt [(Zj (Zk.mk zl r1.2.2.1 r1.2.2.2.1 r1.2.2.2.2.1 r1.2.2.2.2.2.1 (Zi.mk r1.2.2.2.2.2.2.1 r1.2.2.2.2.2.2.2)) zn or1_0_4), (Zq b1 zB zy), (Zq r1.1 .sh .sh)] ?_
 refine ze ?_
 refine zo (.p (.agg (ZE r1.1 .sh .sh))) ?_
 refine zi fun r2 hr2 => ?_
 obtain ⟨qr2, er2, exr2, rfl⟩ := Zah (r1.1) (r1.2.1) (zl) (r1.2.2.1) (r1.2.2.2.1) (r1.2.2.2.2.1) (r1.2.2.2.2.2.1) (r1.2.2.2.2.2.2.1) (r1.2.2.2.2.2.2.2) .sh .sh zn or1_0_4 hor1_0_4 r2 hr2
 refine zc [0] (.p (.agg (ZE r2.1 .sh .sh))) [(Zj (Zk.mk zl r2.2.1 r1.2.2.2.1 r1.2.2.2.2.1 r1.2.2.2.2.2.1 (Zi.mk r2.2.2.1 r2.2.2.2)) zn or1_0_4), (Zq b1 zB zy), (Zq r1.1 .sh .sh)] er2 ?_
 refine zo (.p (.lst .ex (([r2.1] : List Z3).map ZI))) ?_ (Eq.trans (b := some (.p (.lst .ex [.agg (Z27 r2.1)]))) (by kernel_rfl) (by simp only [List.map_cons, List.map_nil, Z36]))
 refine zi fun a3 ha3 => ?_
 refine zo (.p (.lst .un (a3.map ZI))) ?_ (Eq.trans (by kernel_rfl) <| xapp_of (n := 7) (o := ox3) (o' := .ex) (e := ZI) (ys := ([r2.1] : List Z3)) Zbv (by decide) hox3 ha3)
 exact zk (Z73 (a3) (zl) (r2.2.1) (r1.2.2.2.1) (r1.2.2.2.2.1) (r1.2.2.2.2.2.1) (r2.2.2.1) (r2.2.2.2) (b1) .un zn or1_0_4 zB zy rfl hor1_0_4 zQ zK)
noncomputable def Z4f (x3 : List Z3) (zl : List Int) (zp : Int) (z6 : Int) (zd : Int) (zh : List Zr) (z1 : Int) (z2 : Int) : Option (Z3 × Int × Int × Int × (List Zr) × Int × Int) :=
 (Z1F ((Zk.mk zl zp z6 zd zh (Zi.mk z1 z2)))).bind fun r1 =>
 if ((r1 == (-1))) = true then
 (if ((r1 == (-1))) = true then
 (Z2c x3 zp z6 zd zh z1 z2)
 else
 (Z30 x3 zl zp z6 zd zh z1 z2))
 else
 (if ((r1 == 124)) = true then
 (if ((r1 == 124)) = true then
 (Z2c x3 zp z6 zd zh z1 z2)
 else
 (Z30 x3 zl zp z6 zd zh z1 z2))
 else
 (if ((r1 == 41)) = true then
 (Z2c x3 zp z6 zd zh z1 z2)
 else
 (Z30 x3 zl zp z6 zd zh z1 z2)))
theorem Z9E (x3 : List Z3) (zl : List Int) (zp : Int) (z6 : Int) (zd : Int) (zh : List Zr) (z1 : Int) (z2 : Int) (b1 : Z3) (ox3 : Own) (zn : Own) (zb : Own) (zB : Own) (zy : Own) (hox3 : okApp ox3 = true) (zu : okApp zb = true) (zQ : okApp zB = true) (zK : okApp zy = true) : Sim (Z2b zl zn) (Z4f x3 zl zp z6 zd zh z1 z2) (ZeL 1 (.ptr 0 0) (.ptr 1 0) (.p (.lst ox3 (x3.map ZI))) [(Zj (Zk.mk zl zp z6 zd zh (Zi.mk z1 z2)) zn zb), (Zq b1 zB zy)]) := by
 unfold Z4f
 refine zf (Zgb ..) ?_
 refine ze ?_
 refine zi fun r1 hr1 => ?_
 obtain ⟨qr1, er1, exr1, rfl⟩ := Z1I ((Zk.mk zl zp z6 zd zh (Zi.mk z1 z2))) zn zb zu r1 hr1
 refine zc [0] (iv r1) [(Zj (Zk.mk zl zp z6 zd zh (Zi.mk z1 z2)) zn zb), (Zq b1 zB zy)] er1 ?_
 refine ze ?_
 refine zo (bv (r1 == (-1))) ?_
 refine za ((r1 == (-1))) ?_ ?_
 ·refine za ((r1 == (-1))) ?_ ?_
  ·exact zk (Z4p (x3) (zl) (zp) (z6) (zd) (zh) (z1) (z2) (b1) ox3 zn zb zB zy hox3 zu zQ zK)
  ·exact zk (Z5v (x3) (zl) (zp) (z6) (zd) (zh) (z1) (z2) (b1) ox3 zn zb zB zy hox3 zu zQ zK)
 ·refine ze ?_
  refine zo (bv (r1 == 124)) ?_
  refine za ((r1 == 124)) ?_ ?_
  ·refine za ((r1 == 124)) ?_ ?_
   ·exact zk (Z4p (x3) (zl) (zp) (z6) (zd) (zh) (z1) (z2) (b1) ox3 zn zb zB zy hox3 zu zQ zK)
   ·exact zk (Z5v (x3) (zl) (zp) (z6) (zd) (zh) (z1) (z2) (b1) ox3 zn zb zB zy hox3 zu zQ zK)
  ·refine ze ?_
   refine zo (bv (r1 == 41)) ?_
   refine za ((r1 == 41)) ?_ ?_
   ·exact zk (Z4p (x3) (zl) (zp) (z6) (zd) (zh) (z1) (z2) (b1) ox3 zn zb zB zy hox3 zu zQ zK)
   ·exact zk (Z5v (x3) (zl) (zp) (z6) (zd) (zh) (z1) (z2) (b1) ox3 zn zb zB zy hox3 zu zQ zK)
noncomputable def Z4c (x3 : List Z3) (zl : List Int) (zp : Int) (z6 : Int) (zd : Int) (zh : List Zr) (z1 : Int) (z2 : Int) : Option (Z3 × Int × Int × Int × (List Zr) × Int × Int) :=
 if ((z1 == 0)) = true then
 (Z4f x3 zl zp z6 zd zh z1 z2)
 else
 (Z2c x3 zp z6 zd zh z1 z2)
theorem Z9F (x3 : List Z3) (zl : List Int) (zp : Int) (z6 : Int) (zd : Int) (zh : List Zr) (z1 : Int) (z2 : Int) (b1 : Z3) (ox3 : Own) (zn : Own) (zb : Own) (zB : Own) (zy : Own) (hox3 : okApp ox3 = true) (zu : okApp zb = true) (zQ : okApp zB = true) (zK : okApp zy = true) : Sim (Z2b zl zn) (Z4c x3 zl zp z6 zd zh z1 z2) (Zbx 1 (.ptr 0 0) (.ptr 1 0) (.p (.lst ox3 (x3.map ZI))) [(Zj (Zk.mk zl zp z6 zd zh (Zi.mk z1 z2)) zn zb), (Zq b1 zB zy)]) := by
 unfold Z4c
 refine zf (Zh8 ..) ?_
 refine ze ?_
 refine zo (.ptr 0 0) ?_
 refine zo (.ptr 0 5) ?_
 refine zo (.ptr 0 5) ?_
 refine zo (iv z1) ?_
 refine zo (bv (z1 == 0)) ?_
 refine za ((z1 == 0)) ?_ ?_
 ·exact zk (Z9E (x3) (zl) (zp) (z6) (zd) (zh) (z1) (z2) (b1) ox3 zn zb zB zy hox3 zu zQ zK)
 ·exact zk (Z4p (x3) (zl) (zp) (z6) (zd) (zh) (z1) (z2) (b1) ox3 zn zb zB zy hox3 zu zQ zK)
theorem Z71 (x3 : List Z3) (zl : List Int) (zp : Int) (z6 : Int) (zd : Int) (zh : List Zr) (z1 : Int) (z2 : Int) {r} (h : Z4c x3 zl zp z6 zd zh z1 z2 = some r) : Z3v x3 zl zp z6 zd zh z1 z2 = some r :=
 pick_of (fun _ _ ha hb => RRun.uniq (Z8r _ _) (ha default .ex .ex .ex .ex .ex rfl rfl rfl rfl) (hb default .ex .ex .ex .ex .ex rfl rfl rfl rfl)) (fun b1 ox3 zn zb zB zy hox3 zu zQ zK => Z9F x3 zl zp z6 zd zh z1 z2 b1 ox3 zn zb zB zy hox3 zu zQ zK r h)
end Go.Proofs.YtadodmjdkphddaaDoor.N2
end
section
set_option linter.unusedSimpArgs false
set_option linter.unusedVariables false
namespace Go.Proofs.YtadodmjdkphddaaDoor.N2
open Go Go.Abs
set_option linter.unusedVariables false
set_option maxRecDepth 100000
noncomputable def Z58 (b0 : Zk) : Option (Int) :=
 (Z7J b0.b b0.at_).bind fun r1 =>
 some (r1.1)
theorem Z9t (b0 : Zk) (zn : Own) (zb : Own) (zu : okApp zb = true) : Sim (Z3Y b0 zn zb) (Z58 b0) (ZeS 1 (.ptr 0 0) [(Zj b0 zn zb)]) := by
 unfold Z58
 refine zf (Zgk ..) ?_
 refine ze ?_
 refine zo (.ptr 0 0) ?_
 refine zo (.ptr 0 0) ?_
 refine zo (.p (.lst (shrO zn) (b0.b.map (eI .u8)))) ?_
 refine zo (.ptr 0 0) ?_
 refine zo (.ptr 0 1) ?_
 refine zo (iv b0.at_) ?_
 refine zi fun r1 hr1 => ?_
 obtain ⟨qr1, er1, exr1, rfl⟩ := Zb6 (b0.b) (b0.at_) .sh r1 hr1
 refine zc [] (.p (.tup [(.v (.int .i64 r1.1)), (.v (.int .i64 r1.2))])) [(Zj b0 zn zb)] er1 ?_
 refine zo (iv r1.1) ?_
 refine zo (iv r1.2) ?_
 refine ze ?_
 exact zr ((iv r1.1), [(Zj b0 zn zb)]) ⟨_, rfl⟩
noncomputable def Z5O (b0 : Zk) : Option (Int) :=
 if ((decide ((b0.b.length : Int) ≤ b0.at_))) = true then
 (some ((-1)))
 else
 (Z58 b0)
theorem Zar (b0 : Zk) (zn : Own) (zb : Own) (zu : okApp zb = true) : Sim (Z3Y b0 zn zb) (Z5O b0) (EE 41 [(.ptr 0 0)] [(Zj b0 zn zb)]) := by
 unfold Z5O
 refine zf (Ziv ..) ?_
 refine ze ?_
 refine ze ?_
 refine zo (.ptr 0 0) ?_
 refine zo (.ptr 0 1) ?_
 refine zo (iv b0.at_) ?_
 refine zo (.ptr 0 0) ?_
 refine zo (.ptr 0 0) ?_
 refine zo (.p (.lst (shrO zn) (b0.b.map (eI .u8)))) ?_
 refine zo (iv (b0.b.length : Int)) ?_ (Eq.trans (by kernel_rfl) (xlen_of (P := PP) (t := 40) (d := 5) (by kernel_rfl) (eI .u8) (shrO zn) b0.b))
 refine zo (bv (decide ((b0.b.length : Int) ≤ b0.at_))) ?_
 refine za ((decide ((b0.b.length : Int) ≤ b0.at_))) ?_ ?_
 ·refine ze ?_
  exact zr ((iv (-1)), [(Zj b0 zn zb)]) ⟨_, rfl⟩
 ·exact zk (Z9t (b0) zn zb zu)
theorem ZaT (b0 : Zk) {r} (h : Z5O b0 = some r) : Z1F b0 = some r :=
 pick_of (fun _ _ ha hb => RRun.uniq (ZaW _ _ _) (ha .ex .ex rfl) (hb .ex .ex rfl)) (fun zn zb zu => Zar b0 zn zb zu r h)
noncomputable def Z7t  : Option (Int × Int) :=
 some (0, 0)
theorem Z9f  : Sim (Z57) (Z7t) (ZcS 0  []) := by
 unfold Z7t
 refine zf (ZgI ..) ?_
 refine ze ?_
 exact zr ((.p (.tup [(.v (.int .i64 0)), (.v (.int .i64 0))])), []) ⟨_, rfl⟩
noncomputable def Z7a (x0 : List Int) (x1 : Int) : Option (Int × Int) :=
 (lget x0 x1).bind fun a1 =>
 some ((IntKind.i64.wrap (1114112 + (IntKind.i64.wrap a1))), 1)
theorem Zc3 (x0 : List Int) (x1 : Int) (ox0 : Own) : Sim (Z57) (Z7a x0 x1) (Zek 0 (.p (.lst ox0 (x0.map (eI .u8)))) (iv x1) []) := by
 unfold Z7a
 refine zf (ZfO ..) ?_
 refine ze ?_
 refine zi fun a1 ha1 => ?_
 refine zo (.cptr [(.v (.int .u8 a1))]) ?_ (Eq.trans (by kernel_rfl) (xidx_of (o := (shrO ox0)) (k := .i64) (n := 1) (e := (eI .u8)) (cs := (fun a => [(eI .u8) a])) (fun _ => rfl) (fun _ => rfl) (by decide) ha1))
 refine zo (.p (.v (.int .u8 a1))) ?_
 refine zo (iv (IntKind.i64.wrap a1)) ?_
 refine zo (iv (IntKind.i64.wrap (1114112 + (IntKind.i64.wrap a1)))) ?_
 exact zr ((.p (.tup [(.v (.int .i64 (IntKind.i64.wrap (1114112 + (IntKind.i64.wrap a1))))), (.v (.int .i64 1))])), []) ⟨_, rfl⟩
noncomputable def Z5E (x6 : Int) (x7 : Int) : Option (Int × Int) :=
 some ((IntKind.i64.wrap x6), x7)
theorem Z9m (x6 : Int) (x7 : Int) : Sim (Z57) (Z5E x6 x7) (ZcK 0 (.p (.v (.int .i32 x6))) (iv x7) []) := by
 unfold Z5E
 refine zf (ZgR ..) ?_
 refine ze ?_
 refine zo (iv (IntKind.i64.wrap x6)) ?_
 exact zr ((.p (.tup [(.v (.int .i64 (IntKind.i64.wrap x6))), (.v (.int .i64 x7))])), []) ⟨_, rfl⟩
noncomputable def Z7s (x0 : List Int) (x1 : Int) : Option (Int × Int) :=
 (lsl x0 x1 (x0.length : Int)).bind fun a1 =>
 (Z5x a1).bind fun r2 =>
 if ((r2.1 == 65533)) = true then
 (if ((r2.2 == 1)) = true then
 (Z7a x0 x1)
 else
 (Z5E r2.1 r2.2))
 else
 (Z5E r2.1 r2.2)
theorem ZbZ (x0 : List Int) (x1 : Int) (ox0 : Own) : Sim (Z57) (Z7s x0 x1) (ZdH 0 (.p (.lst ox0 (x0.map (eI .u8)))) (iv x1) []) := by
 unfold Z7s
 refine zf (Zh6 ..) ?_
 refine ze ?_
 refine zi fun a1 ha1 => ?_
 refine zo (.p (.lst (slO (shrO ox0)) (a1.map (eI .u8)))) ?_ (Eq.trans (by kernel_rfl) <| xsl_of (n := 1) (o := (shrO ox0)) (lo := (some (iv x1))) (hi := none) (e := (eI .u8)) (fun _ => rfl) (by decide) (by kernel_rfl) (by kernel_rfl) ha1)
 refine zi fun r2 hr2 => ?_
 obtain ⟨qr2, er2, exr2, rfl⟩ := Z8O (a1) .sh r2 hr2
 refine zc [] (.p (.tup [(.v (.int .i32 r2.1)), (.v (.int .i64 r2.2))])) [] er2 ?_
 refine zo (.p (.v (.int .i32 r2.1))) ?_
 refine zo (iv r2.2) ?_
 refine ze ?_
 refine zo (bv (r2.1 == 65533)) ?_
 refine za ((r2.1 == 65533)) ?_ ?_
 ·refine zo (bv (r2.2 == 1)) ?_
  refine za ((r2.2 == 1)) ?_ ?_
  ·exact zk (Zc3 (x0) (x1) ox0)
  ·exact zk (Z9m (r2.1) (r2.2))
 ·exact zk (Z9m (r2.1) (r2.2))
noncomputable def Z9b (x0 : List Int) (x1 : Int) : Option (Int × Int) :=
 if ((decide (x1 < 0))) = true then
 (Z7t)
 else
 (if ((decide ((x0.length : Int) ≤ x1))) = true then
 (Z7t)
 else
 (Z7s x0 x1))
theorem ZcN (x0 : List Int) (x1 : Int) (ox0 : Own) : Sim (Z57) (Z9b x0 x1) (EE 45 [(.p (.lst ox0 (x0.map (eI .u8)))), (iv x1)] []) := by
 unfold Z9b
 refine zf (Zie ..) ?_
 refine ze ?_
 refine ze ?_
 refine zo (bv (decide (x1 < 0))) ?_
 refine za ((decide (x1 < 0))) ?_ ?_
 ·exact zk (Z9f )
 ·refine zo (iv (x0.length : Int)) ?_ (Eq.trans (by kernel_rfl) (xlen_of (P := PP) (t := 40) (d := 5) (by kernel_rfl) (eI .u8) (shrO ox0) x0))
  refine zo (bv (decide ((x0.length : Int) ≤ x1))) ?_
  refine za ((decide ((x0.length : Int) ≤ x1))) ?_ ?_
  ·exact zk (Z9f )
  ·exact zk (ZbZ (x0) (x1) ox0)
theorem Zdq (x0 : List Int) (x1 : Int) {r} (h : Z9b x0 x1 = some r) : Z7J x0 x1 = some r :=
 pick_of (fun _ _ ha hb => RRun.uniq (Zdt) (ha .ex) (hb .ex)) (fun ox0 => ZcN x0 x1 ox0 r h)
noncomputable def Z7z (x0 : Int) (x1 : List Z3) : Option (Z3) :=
 some ((Z3.mk x0 0 0 0 0 ([] : List Z7) x1))
theorem Zba (x0 : Int) (x1 : List Z3) (b0 : Z3) (ox1 : Own) (z2i : Own) (z1L : Own) (zhf : okApp z2i = true) (zgz : okApp z1L = true) : Sim (Z5D) (Z7z x0 x1) (Zeb 0 (iv x0) (.p (.lst ox1 (x1.map ZI))) (.ptr 0 0) [(Zq b0 z2i z1L)]) := by
 unfold Z7z
 refine zf (ZgF ..) ?_
 refine ze ?_
 refine zo (.p (.agg (ZE (Z3.mk x0 0 0 0 0 ([] : List Z7) x1) .nl (shrO (shrO ox1))))) ?_
 refine zt [(Zq (Z3.mk x0 0 0 0 0 ([] : List Z7) x1) .nl (shrO (shrO ox1)))] ?_
 exact zr ((.p (.agg (ZE (Z3.mk x0 0 0 0 0 ([] : List Z7) x1) .sh .sh))), [(Zq (Z3.mk x0 0 0 0 0 ([] : List Z7) x1) .nl (shrO (shrO ox1)))]) ⟨_, rfl⟩
noncomputable def Z7j (x0 : Int) (x1 : List Z3) : Option (Z3) :=
 if (((x1.length : Int) == 0)) = true then
 (some ((Z3.mk 0 0 0 0 0 ([] : List Z7) ([] : List Z3))))
 else
 (if (((x1.length : Int) == 1)) = true then
 ((lget x1 0).bind fun a1 =>
 some (a1))
 else
 (Z7z x0 x1))
theorem Zc5 (x0 : Int) (x1 : List Z3) (ox1 : Own) : Sim (Z5D) (Z7j x0 x1) (EE 36 [(iv x0), (.p (.lst ox1 (x1.map ZI)))] []) := by
 unfold Z7j
 refine zf (ZhV ..) ?_
 refine ze ?_
 refine zz (.ptr 0 0) [(Zq (Z3.mk 0 0 0 0 0 ([] : List Z7) ([] : List Z3)) .nl .nl)] ?_
 refine ze ?_
 refine zo (iv (x1.length : Int)) ?_ (Eq.trans (by kernel_rfl) (xlen_of (P := PP) (t := 25) (d := 27) (by kernel_rfl) ZI (shrO ox1) x1))
 refine ze ?_
 refine zo (bv ((x1.length : Int) == 0)) ?_
 refine za (((x1.length : Int) == 0)) ?_ ?_
 ·refine ze ?_
  refine zo (.p (.agg (ZE (Z3.mk 0 0 0 0 0 ([] : List Z7) ([] : List Z3)) .nl .nl))) ?_
  refine zt [(Zq (Z3.mk 0 0 0 0 0 ([] : List Z7) ([] : List Z3)) .nl .nl)] ?_
  exact zr ((.p (.agg (ZE (Z3.mk 0 0 0 0 0 ([] : List Z7) ([] : List Z3)) .sh .sh))), [(Zq (Z3.mk 0 0 0 0 0 ([] : List Z7) ([] : List Z3)) .nl .nl)]) ⟨_, rfl⟩
 ·refine ze ?_
  refine zo (bv ((x1.length : Int) == 1)) ?_
  refine za (((x1.length : Int) == 1)) ?_ ?_
  ·refine ze ?_
   refine zi fun a1 ha1 => ?_
   refine zo (.cptr (ZE a1 .sh .sh)) ?_ (Eq.trans (by kernel_rfl) (xidx_of (o := (shrO ox1)) (k := .i64) (n := 7) (e := ZI) (cs := Z27) Z4X (fun _ => rfl) (by decide) ha1))
   refine zo (.p (.agg (ZE a1 .sh .sh))) ?_
   refine zt [(Zq a1 .sh .sh)] ?_
   exact zr ((.p (.agg (ZE a1 .sh .sh))), [(Zq a1 .sh .sh)]) ⟨_, rfl⟩
  ·exact zk (Zba (x0) (x1) ((Z3.mk 0 0 0 0 0 ([] : List Z7) ([] : List Z3))) ox1 .nl .nl rfl rfl)
theorem Zco (x0 : Int) (x1 : List Z3) {r} (h : Z7j x0 x1 = some r) : Z6f x0 x1 = some r :=
 pick_of (fun _ _ ha hb => RRun.uniq (Zcy) (ha .ex) (hb .ex)) (fun ox1 => Zc5 x0 x1 ox1 r h)
noncomputable def Z1h (zp : Int) (z6 : Int) (zd : Int) (zh : List Zr) (z1 : Int) (z2 : Int) : Option (Z3 × Bool × Int × Int × Int × (List Zr) × Int × Int) :=
 some ((Z3.mk 0 0 0 0 0 ([] : List Z7) ([] : List Z3)), true, zp, z6, zd, zh, z1, z2)
theorem Z1i (zl : List Int) (zp : Int) (z6 : Int) (zd : Int) (zh : List Zr) (z1 : Int) (z2 : Int) (b1 : Z3) (zn : Own) (zb : Own) (zB : Own) (zy : Own) (zu : okApp zb = true) (zQ : okApp zB = true) (zK : okApp zy = true) : Sim (Z40 zl zn) (Z1h zp z6 zd zh z1 z2) (Z5h 1 (.ptr 1 0) [(Zj (Zk.mk zl zp z6 zd zh (Zi.mk z1 z2)) zn zb), (Zq b1 zB zy)]) := by
 unfold Z1h
 refine zf (Zfk ..) ?_
 refine ze ?_
 refine zo (.p (.agg (ZE (Z3.mk 0 0 0 0 0 ([] : List Z7) ([] : List Z3)) .nl .nl))) ?_
 refine zt [(Zj (Zk.mk zl zp z6 zd zh (Zi.mk z1 z2)) zn zb), (Zq (Z3.mk 0 0 0 0 0 ([] : List Z7) ([] : List Z3)) .nl .nl)] ?_
 exact zr ((.p (.tup [(.agg (ZE (Z3.mk 0 0 0 0 0 ([] : List Z7) ([] : List Z3)) .sh .sh)), (.v (.bool true))])), [(Zj (Zk.mk zl zp z6 zd zh (Zi.mk z1 z2)) zn zb), (Zq (Z3.mk 0 0 0 0 0 ([] : List Z7) ([] : List Z3)) .nl .nl)]) ⟨zb, _, zu, rfl⟩
noncomputable def Z4Q (zl : List Int) (zp : Int) (z6 : Int) (zd : Int) (zh : List Zr) (z1 : Int) (z2 : Int) : Option (Z3 × Bool × Int × Int × Int × (List Zr) × Int × Int) :=
 (Z22 zl zp).bind fun r1 =>
 if ((r1.1 == 46)) = true then
 ((Z1y 10).bind fun r2 =>
 (Z2E true (([r2] : List Z7))).bind fun r3 =>
 some (r3, true, r1.2, z6, zd, zh, z1, z2))
 else
 (if ((r1.1 == 94)) = true then
 (some ((Z3.mk 9 0 0 0 0 ([] : List Z7) ([] : List Z3)), false, r1.2, z6, zd, zh, z1, z2))
 else
 (if ((r1.1 == 36)) = true then
 (some ((Z3.mk 9 0 0 0 1 ([] : List Z7) ([] : List Z3)), false, r1.2, z6, zd, zh, z1, z2))
 else
 (if ((r1.1 == 92)) = true then
 ((Z2Y zp zl r1.2 z6 zd zh z1 z2).bind fun r4 =>
 some (r4.1, (r4.1.Kind != 9), r4.2.1, z6, zd, r4.2.2.1, r4.2.2.2.1, r4.2.2.2.2))
 else
 (if ((r1.1 == 91)) = true then
 ((Z5u zp zl r1.2 z6 zd zh z1 z2).bind fun r5 =>
 some (r5.1, true, r5.2.1, z6, zd, zh, r5.2.2.1, r5.2.2.2))
 else
 (if ((r1.1 == 40)) = true then
 ((Z37 zp zl r1.2 z6 zd zh z1 z2).bind fun r6 =>
 some (r6.1, r6.2.1, r6.2.2.1, r6.2.2.2.1, r6.2.2.2.2.1, r6.2.2.2.2.2.1, r6.2.2.2.2.2.2.1, r6.2.2.2.2.2.2.2))
 else
 (if ((r1.1 == 42)) = true then
 (if ((r1.1 == 42)) = true then
 ((ZT 23 zp zl z1 z2).bind fun r7 =>
 Z1h r7.1 z6 zd zh r7.2.1 r7.2.2)
 else
 (if ((r1.1 == 93)) = true then
 (if ((r1.1 == 93)) = true then
 ((ZT 20 zp zl z1 z2).bind fun r8 =>
 Z1h r8.1 z6 zd zh r8.2.1 r8.2.2)
 else
 ((Z1y r1.1).bind fun r9 =>
 (Z2E false (([r9] : List Z7))).bind fun r10 =>
 some (r10, true, r1.2, z6, zd, zh, z1, z2)))
 else
 (if ((r1.1 == 125)) = true then
 ((ZT 20 zp zl z1 z2).bind fun r11 =>
 Z1h r11.1 z6 zd zh r11.2.1 r11.2.2)
 else
 ((Z1y r1.1).bind fun r12 =>
 (Z2E false (([r12] : List Z7))).bind fun r13 =>
 some (r13, true, r1.2, z6, zd, zh, z1, z2)))))
 else
 (if ((r1.1 == 43)) = true then
 (if ((r1.1 == 43)) = true then
 ((ZT 23 zp zl z1 z2).bind fun r14 =>
 Z1h r14.1 z6 zd zh r14.2.1 r14.2.2)
 else
 (if ((r1.1 == 93)) = true then
 (if ((r1.1 == 93)) = true then
 ((ZT 20 zp zl z1 z2).bind fun r15 =>
 Z1h r15.1 z6 zd zh r15.2.1 r15.2.2)
 else
 ((Z1y r1.1).bind fun r16 =>
 (Z2E false (([r16] : List Z7))).bind fun r17 =>
 some (r17, true, r1.2, z6, zd, zh, z1, z2)))
 else
 (if ((r1.1 == 125)) = true then
 ((ZT 20 zp zl z1 z2).bind fun r18 =>
 Z1h r18.1 z6 zd zh r18.2.1 r18.2.2)
 else
 ((Z1y r1.1).bind fun r19 =>
 (Z2E false (([r19] : List Z7))).bind fun r20 =>
 some (r20, true, r1.2, z6, zd, zh, z1, z2)))))
 else
 (if ((r1.1 == 63)) = true then
 (if ((r1.1 == 63)) = true then
 ((ZT 23 zp zl z1 z2).bind fun r21 =>
 Z1h r21.1 z6 zd zh r21.2.1 r21.2.2)
 else
 (if ((r1.1 == 93)) = true then
 (if ((r1.1 == 93)) = true then
 ((ZT 20 zp zl z1 z2).bind fun r22 =>
 Z1h r22.1 z6 zd zh r22.2.1 r22.2.2)
 else
 ((Z1y r1.1).bind fun r23 =>
 (Z2E false (([r23] : List Z7))).bind fun r24 =>
 some (r24, true, r1.2, z6, zd, zh, z1, z2)))
 else
 (if ((r1.1 == 125)) = true then
 ((ZT 20 zp zl z1 z2).bind fun r25 =>
 Z1h r25.1 z6 zd zh r25.2.1 r25.2.2)
 else
 ((Z1y r1.1).bind fun r26 =>
 (Z2E false (([r26] : List Z7))).bind fun r27 =>
 some (r27, true, r1.2, z6, zd, zh, z1, z2)))))
 else
 (if ((r1.1 == 123)) = true then
 ((ZT 23 zp zl z1 z2).bind fun r28 =>
 Z1h r28.1 z6 zd zh r28.2.1 r28.2.2)
 else
 (if ((r1.1 == 93)) = true then
 (if ((r1.1 == 93)) = true then
 ((ZT 20 zp zl z1 z2).bind fun r29 =>
 Z1h r29.1 z6 zd zh r29.2.1 r29.2.2)
 else
 ((Z1y r1.1).bind fun r30 =>
 (Z2E false (([r30] : List Z7))).bind fun r31 =>
 some (r31, true, r1.2, z6, zd, zh, z1, z2)))
 else
 (if ((r1.1 == 125)) = true then
 ((ZT 20 zp zl z1 z2).bind fun r32 =>
 Z1h r32.1 z6 zd zh r32.2.1 r32.2.2)
 else
 ((Z1y r1.1).bind fun r33 =>
 (Z2E false (([r33] : List Z7))).bind fun r34 =>
 some (r34, true, r1.2, z6, zd, zh, z1, z2)))))))))))))
theorem Zal (zl : List Int) (zp : Int) (z6 : Int) (zd : Int) (zh : List Zr) (z1 : Int) (z2 : Int) (zn : Own) (zb : Own) (zu : okApp zb = true) : Sim (Z40 zl zn) (Z4Q zl zp z6 zd zh z1 z2) (EE 42 [(.ptr 0 0)] [(Zj (Zk.mk zl zp z6 zd zh (Zi.mk z1 z2)) zn zb)]) := by
 unfold Z4Q
 refine zf (Zij ..) ?_
 refine ze ?_
 refine zz (.ptr 1 0) [(Zj (Zk.mk zl zp z6 zd zh (Zi.mk z1 z2)) zn zb), (Zq (Z3.mk 0 0 0 0 0 ([] : List Z7) ([] : List Z3)) .nl .nl)] ?_
 refine ze ?_
 refine zo (.ptr 0 0) ?_
 refine zo (.ptr 0 1) ?_
 refine zo (iv zp) ?_
 refine ze ?_
 refine zi fun r1 hr1 => ?_
 obtain ⟨qr1, er1, exr1, rfl⟩ := Z2o (zl) (zp) (z6) (zd) (zh) (z1) (z2) zn zb zu r1 hr1
 refine zc [0] (iv r1.1) [(Zj (Zk.mk zl r1.2 z6 zd zh (Zi.mk z1 z2)) zn zb), (Zq (Z3.mk 0 0 0 0 0 ([] : List Z7) ([] : List Z3)) .nl .nl)] er1 ?_
 refine ze ?_
 refine ze ?_
 refine zo (bv (r1.1 == 46)) ?_
 refine za ((r1.1 == 46)) ?_ ?_
 ·refine ze ?_
  refine zi fun r2 hr2 => ?_
  obtain ⟨qr2, er2, exr2, rfl⟩ := Z1s (10) r2 hr2
  refine zc [] (.p (.agg (ZG r2))) [(Zj (Zk.mk zl r1.2 z6 zd zh (Zi.mk z1 z2)) zn zb), (Zq (Z3.mk 0 0 0 0 0 ([] : List Z7) ([] : List Z3)) .nl .nl)] er2 ?_
  refine zo (.p (.lst .ex (([r2] : List Z7).map Zs))) ?_
  refine zi fun r3 hr3 => ?_
  obtain ⟨qr3, er3, exr3, rfl⟩ := Z2M (true) (([r2] : List Z7)) .sh r3 hr3
  refine zc [] (.p (.agg (ZE r3 .sh .sh))) [(Zj (Zk.mk zl r1.2 z6 zd zh (Zi.mk z1 z2)) zn zb), (Zq (Z3.mk 0 0 0 0 0 ([] : List Z7) ([] : List Z3)) .nl .nl)] er3 ?_
  refine zt [(Zj (Zk.mk zl r1.2 z6 zd zh (Zi.mk z1 z2)) zn zb), (Zq r3 .sh .sh)] ?_
  exact zr ((.p (.tup [(.agg (ZE r3 .sh .sh)), (.v (.bool true))])), [(Zj (Zk.mk zl r1.2 z6 zd zh (Zi.mk z1 z2)) zn zb), (Zq r3 .sh .sh)]) ⟨zb, _, zu, rfl⟩
 ·refine ze ?_
  refine zo (bv (r1.1 == 94)) ?_
  refine za ((r1.1 == 94)) ?_ ?_
  ·refine ze ?_
   refine zo (.p (.agg (ZE (Z3.mk 9 0 0 0 0 ([] : List Z7) ([] : List Z3)) .nl .nl))) ?_
   refine zt [(Zj (Zk.mk zl r1.2 z6 zd zh (Zi.mk z1 z2)) zn zb), (Zq (Z3.mk 9 0 0 0 0 ([] : List Z7) ([] : List Z3)) .nl .nl)] ?_
   exact zr ((.p (.tup [(.agg (ZE (Z3.mk 9 0 0 0 0 ([] : List Z7) ([] : List Z3)) .sh .sh)), (.v (.bool false))])), [(Zj (Zk.mk zl r1.2 z6 zd zh (Zi.mk z1 z2)) zn zb), (Zq (Z3.mk 9 0 0 0 0 ([] : List Z7) ([] : List Z3)) .nl .nl)]) ⟨zb, _, zu, rfl⟩
  ·refine ze ?_
   refine zo (bv (r1.1 == 36)) ?_
   refine za ((r1.1 == 36)) ?_ ?_
   ·refine ze ?_
    refine zo (.p (.agg (ZE (Z3.mk 9 0 0 0 1 ([] : List Z7) ([] : List Z3)) .nl .nl))) ?_
    refine zt [(Zj (Zk.mk zl r1.2 z6 zd zh (Zi.mk z1 z2)) zn zb), (Zq (Z3.mk 9 0 0 0 1 ([] : List Z7) ([] : List Z3)) .nl .nl)] ?_
    exact zr ((.p (.tup [(.agg (ZE (Z3.mk 9 0 0 0 1 ([] : List Z7) ([] : List Z3)) .sh .sh)), (.v (.bool false))])), [(Zj (Zk.mk zl r1.2 z6 zd zh (Zi.mk z1 z2)) zn zb), (Zq (Z3.mk 9 0 0 0 1 ([] : List Z7) ([] : List Z3)) .nl .nl)]) ⟨zb, _, zu, rfl⟩
   ·refine ze ?_
    refine zo (bv (r1.1 == 92)) ?_
    refine za ((r1.1 == 92)) ?_ ?_
    ·refine ze ?_
     refine zi fun r4 hr4 => ?_
     obtain ⟨qr4, er4, or4_0_4, exr4, hor4_0_4, rfl⟩ := Zaa (zp) (zl) (r1.2) (z6) (zd) (zh) (z1) (z2) zn zb zu r4 hr4
     refine zc [0] (.p (.agg (ZE r4.1 .sh .sh))) [(Zj (Zk.mk zl r4.2.1 z6 zd r4.2.2.1 (Zi.mk r4.2.2.2.1 r4.2.2.2.2)) zn or4_0_4), (Zq (Z3.mk 0 0 0 0 0 ([] : List Z7) ([] : List Z3)) .nl .nl)] er4 ?_
     refine zz (.ptr 2 0) [(Zj (Zk.mk zl r4.2.1 z6 zd r4.2.2.1 (Zi.mk r4.2.2.2.1 r4.2.2.2.2)) zn or4_0_4), (Zq (Z3.mk 0 0 0 0 0 ([] : List Z7) ([] : List Z3)) .nl .nl), (Zq (Z3.mk 0 0 0 0 0 ([] : List Z7) ([] : List Z3)) .nl .nl)] ?_
     refine zt [(Zj (Zk.mk zl r4.2.1 z6 zd r4.2.2.1 (Zi.mk r4.2.2.2.1 r4.2.2.2.2)) zn or4_0_4), (Zq (Z3.mk 0 0 0 0 0 ([] : List Z7) ([] : List Z3)) .nl .nl), (Zq r4.1 .sh .sh)] ?_
     refine ze ?_
     refine zo (.p (.agg (ZE r4.1 .sh .sh))) ?_
     refine zo (.ptr 2 0) ?_
     refine zo (iv r4.1.Kind) ?_
     refine zo (bv (r4.1.Kind != 9)) ?_
     refine zt [(Zj (Zk.mk zl r4.2.1 z6 zd r4.2.2.1 (Zi.mk r4.2.2.2.1 r4.2.2.2.2)) zn or4_0_4), (Zq r4.1 .sh .sh), (Zq r4.1 .sh .sh)] ?_
     refine zg ?_
     exact zr ((.p (.tup [(.agg (ZE r4.1 .sh .sh)), (.v (.bool (r4.1.Kind != 9)))])), [(Zj (Zk.mk zl r4.2.1 z6 zd r4.2.2.1 (Zi.mk r4.2.2.2.1 r4.2.2.2.2)) zn or4_0_4), (Zq r4.1 .sh .sh), (Zq r4.1 .sh .sh)]) ⟨or4_0_4, _, hor4_0_4, rfl⟩
    ·refine ze ?_
     refine zo (bv (r1.1 == 91)) ?_
     refine za ((r1.1 == 91)) ?_ ?_
     ·refine ze ?_
      refine zi fun r5 hr5 => ?_
      obtain ⟨qr5, er5, exr5, rfl⟩ := Zas (zp) (zl) (r1.2) (z6) (zd) (zh) (z1) (z2) zn zb zu r5 hr5
      refine zc [0] (.p (.agg (ZE r5.1 .sh .sh))) [(Zj (Zk.mk zl r5.2.1 z6 zd zh (Zi.mk r5.2.2.1 r5.2.2.2)) zn zb), (Zq (Z3.mk 0 0 0 0 0 ([] : List Z7) ([] : List Z3)) .nl .nl)] er5 ?_
      refine zt [(Zj (Zk.mk zl r5.2.1 z6 zd zh (Zi.mk r5.2.2.1 r5.2.2.2)) zn zb), (Zq r5.1 .sh .sh)] ?_
      exact zr ((.p (.tup [(.agg (ZE r5.1 .sh .sh)), (.v (.bool true))])), [(Zj (Zk.mk zl r5.2.1 z6 zd zh (Zi.mk r5.2.2.1 r5.2.2.2)) zn zb), (Zq r5.1 .sh .sh)]) ⟨zb, _, zu, rfl⟩
     ·refine ze ?_
      refine zo (bv (r1.1 == 40)) ?_
      refine za ((r1.1 == 40)) ?_ ?_
      ·refine ze ?_
       refine zi fun r6 hr6 => ?_
       obtain ⟨qr6, er6, or6_0_4, exr6, hor6_0_4, rfl⟩ := Zax (zp) (zl) (r1.2) (z6) (zd) (zh) (z1) (z2) zn zb zu r6 hr6
       refine zc [0] (.p (.tup [(.agg (ZE r6.1 .sh .sh)), (.v (.bool r6.2.1))])) [(Zj (Zk.mk zl r6.2.2.1 r6.2.2.2.1 r6.2.2.2.2.1 r6.2.2.2.2.2.1 (Zi.mk r6.2.2.2.2.2.2.1 r6.2.2.2.2.2.2.2)) zn or6_0_4), (Zq (Z3.mk 0 0 0 0 0 ([] : List Z7) ([] : List Z3)) .nl .nl)] er6 ?_
       refine zo (.p (.agg (ZE r6.1 .sh .sh))) ?_
       refine zo (bv r6.2.1) ?_
       refine zt [(Zj (Zk.mk zl r6.2.2.1 r6.2.2.2.1 r6.2.2.2.2.1 r6.2.2.2.2.2.1 (Zi.mk r6.2.2.2.2.2.2.1 r6.2.2.2.2.2.2.2)) zn or6_0_4), (Zq r6.1 .sh .sh)] ?_
       exact zr ((.p (.tup [(.agg (ZE r6.1 .sh .sh)), (.v (.bool r6.2.1))])), [(Zj (Zk.mk zl r6.2.2.1 r6.2.2.2.1 r6.2.2.2.2.1 r6.2.2.2.2.2.1 (Zi.mk r6.2.2.2.2.2.2.1 r6.2.2.2.2.2.2.2)) zn or6_0_4), (Zq r6.1 .sh .sh)]) ⟨or6_0_4, _, hor6_0_4, rfl⟩
      ·refine ze ?_
       refine zo (bv (r1.1 == 42)) ?_
       refine za ((r1.1 == 42)) ?_ ?_
       ·refine za ((r1.1 == 42)) ?_ ?_
        ·refine ze ?_
         refine zi fun r7 hr7 => ?_
         obtain ⟨qr7, er7, exr7, rfl⟩ := ZX (23) (zp) (zl) (r1.2) (z6) (zd) (zh) (z1) (z2) zn zb zu r7 hr7
         refine zc [0] (.p (.tup [])) [(Zj (Zk.mk zl r7.1 z6 zd zh (Zi.mk r7.2.1 r7.2.2)) zn zb), (Zq (Z3.mk 0 0 0 0 0 ([] : List Z7) ([] : List Z3)) .nl .nl)] er7 ?_
         exact zk (Z1i (zl) (r7.1) (z6) (zd) (zh) (r7.2.1) (r7.2.2) ((Z3.mk 0 0 0 0 0 ([] : List Z7) ([] : List Z3))) zn zb .nl .nl zu rfl rfl)
        ·refine ze ?_
         refine zo (bv (r1.1 == 93)) ?_
         refine za ((r1.1 == 93)) ?_ ?_
         ·refine za ((r1.1 == 93)) ?_ ?_
          ·refine ze ?_
           refine zi fun r8 hr8 => ?_
           obtain ⟨qr8, er8, exr8, rfl⟩ := ZX (20) (zp) (zl) (r1.2) (z6) (zd) (zh) (z1) (z2) zn zb zu r8 hr8
           refine zc [0] (.p (.tup [])) [(Zj (Zk.mk zl r8.1 z6 zd zh (Zi.mk r8.2.1 r8.2.2)) zn zb), (Zq (Z3.mk 0 0 0 0 0 ([] : List Z7) ([] : List Z3)) .nl .nl)] er8 ?_
           exact zk (Z1i (zl) (r8.1) (z6) (zd) (zh) (r8.2.1) (r8.2.2) ((Z3.mk 0 0 0 0 0 ([] : List Z7) ([] : List Z3))) zn zb .nl .nl zu rfl rfl)
          ·refine ze ?_
           refine zi fun r9 hr9 => ?_
           obtain ⟨qr9, er9, exr9, rfl⟩ := Z1s (r1.1) r9 hr9
           refine zc [] (.p (.agg (ZG r9))) [(Zj (Zk.mk zl r1.2 z6 zd zh (Zi.mk z1 z2)) zn zb), (Zq (Z3.mk 0 0 0 0 0 ([] : List Z7) ([] : List Z3)) .nl .nl)] er9 ?_
           refine zo (.p (.lst .ex (([r9] : List Z7).map Zs))) ?_
           refine zi fun r10 hr10 => ?_
           obtain ⟨qr10, er10, exr10, rfl⟩ := Z2M (false) (([r9] : List Z7)) .sh r10 hr10
           refine zc [] (.p (.agg (ZE r10 .sh .sh))) [(Zj (Zk.mk zl r1.2 z6 zd zh (Zi.mk z1 z2)) zn zb), (Zq (Z3.mk 0 0 0 0 0 ([] : List Z7) ([] : List Z3)) .nl .nl)] er10 ?_
           refine zt [(Zj (Zk.mk zl r1.2 z6 zd zh (Zi.mk z1 z2)) zn zb), (Zq r10 .sh .sh)] ?_
           exact zr ((.p (.tup [(.agg (ZE r10 .sh .sh)), (.v (.bool true))])), [(Zj (Zk.mk zl r1.2 z6 zd zh (Zi.mk z1 z2)) zn zb), (Zq r10 .sh .sh)]) ⟨zb, _, zu, rfl⟩
         ·refine ze ?_
          refine zo (bv (r1.1 == 125)) ?_
          refine za ((r1.1 == 125)) ?_ ?_
          ·refine ze ?_
           refine zi fun r11 hr11 => ?_
           obtain ⟨qr11, er11, exr11, rfl⟩ := ZX (20) (zp) (zl) (r1.2) (z6) (zd) (zh) (z1) (z2) zn zb zu r11 hr11
           refine zc [0] (.p (.tup [])) [(Zj (Zk.mk zl r11.1 z6 zd zh (Zi.mk r11.2.1 r11.2.2)) zn zb), (Zq (Z3.mk 0 0 0 0 0 ([] : List Z7) ([] : List Z3)) .nl .nl)] er11 ?_
           exact zk (Z1i (zl) (r11.1) (z6) (zd) (zh) (r11.2.1) (r11.2.2) ((Z3.mk 0 0 0 0 0 ([] : List Z7) ([] : List Z3))) zn zb .nl .nl zu rfl rfl)
          ·refine ze ?_
           refine zi fun r12 hr12 => ?_
           obtain ⟨qr12, er12, exr12, rfl⟩ := Z1s (r1.1) r12 hr12
           refine zc [] (.p (.agg (ZG r12))) [(Zj (Zk.mk zl r1.2 z6 zd zh (Zi.mk z1 z2)) zn zb), (Zq (Z3.mk 0 0 0 0 0 ([] : List Z7) ([] : List Z3)) .nl .nl)] er12 ?_
           refine zo (.p (.lst .ex (([r12] : List Z7).map Zs))) ?_
           refine zi fun r13 hr13 => ?_
           obtain ⟨qr13, er13, exr13, rfl⟩ := Z2M (false) (([r12] : List Z7)) .sh r13 hr13
           refine zc [] (.p (.agg (ZE r13 .sh .sh))) [(Zj (Zk.mk zl r1.2 z6 zd zh (Zi.mk z1 z2)) zn zb), (Zq (Z3.mk 0 0 0 0 0 ([] : List Z7) ([] : List Z3)) .nl .nl)] er13 ?_
           refine zt [(Zj (Zk.mk zl r1.2 z6 zd zh (Zi.mk z1 z2)) zn zb), (Zq r13 .sh .sh)] ?_
           exact zr ((.p (.tup [(.agg (ZE r13 .sh .sh)), (.v (.bool true))])), [(Zj (Zk.mk zl r1.2 z6 zd zh (Zi.mk z1 z2)) zn zb), (Zq r13 .sh .sh)]) ⟨zb, _, zu, rfl⟩
       ·refine ze ?_
        refine zo (bv (r1.1 == 43)) ?_
        refine za ((r1.1 == 43)) ?_ ?_
        ·refine za ((r1.1 == 43)) ?_ ?_
         ·refine ze ?_
          refine zi fun r14 hr14 => ?_
          obtain ⟨qr14, er14, exr14, rfl⟩ := ZX (23) (zp) (zl) (r1.2) (z6) (zd) (zh) (z1) (z2) zn zb zu r14 hr14
          refine zc [0] (.p (.tup [])) [(Zj (Zk.mk zl r14.1 z6 zd zh (Zi.mk r14.2.1 r14.2.2)) zn zb), (Zq (Z3.mk 0 0 0 0 0 ([] : List Z7) ([] : List Z3)) .nl .nl)] er14 ?_
          exact zk (Z1i (zl) (r14.1) (z6) (zd) (zh) (r14.2.1) (r14.2.2) ((Z3.mk 0 0 0 0 0 ([] : List Z7) ([] : List Z3))) zn zb .nl .nl zu rfl rfl)
         ·refine ze ?_
          refine zo (bv (r1.1 == 93)) ?_
          refine za ((r1.1 == 93)) ?_ ?_
          ·refine za ((r1.1 == 93)) ?_ ?_
           ·refine ze ?_
            refine zi fun r15 hr15 => ?_
            obtain ⟨qr15, er15, exr15, rfl⟩ := ZX (20) (zp) (zl) (r1.2) (z6) (zd) (zh) (z1) (z2) zn zb zu r15 hr15
            refine zc [0] (.p (.tup [])) [(Zj (Zk.mk zl r15.1 z6 zd zh (Zi.mk r15.2.1 r15.2.2)) zn zb), (Zq (Z3.mk 0 0 0 0 0 ([] : List Z7) ([] : List Z3)) .nl .nl)] er15 ?_
            exact zk (Z1i (zl) (r15.1) (z6) (zd) (zh) (r15.2.1) (r15.2.2) ((Z3.mk 0 0 0 0 0 ([] : List Z7) ([] : List Z3))) zn zb .nl .nl zu rfl rfl)
           ·refine ze ?_
            refine zi fun r16 hr16 => ?_
            obtain ⟨qr16, er16, exr16, rfl⟩ := Z1s (r1.1) r16 hr16
            refine zc [] (.p (.agg (ZG r16))) [(Zj (Zk.mk zl r1.2 z6 zd zh (Zi.mk z1 z2)) zn zb), (Zq (Z3.mk 0 0 0 0 0 ([] : List Z7) ([] : List Z3)) .nl .nl)] er16 ?_
            refine zo (.p (.lst .ex (([r16] : List Z7).map Zs))) ?_
            refine zi fun r17 hr17 => ?_
            obtain ⟨qr17, er17, exr17, rfl⟩ := Z2M (false) (([r16] : List Z7)) .sh r17 hr17
            refine zc [] (.p (.agg (ZE r17 .sh .sh))) [(Zj (Zk.mk zl r1.2 z6 zd zh (Zi.mk z1 z2)) zn zb), (Zq (Z3.mk 0 0 0 0 0 ([] : List Z7) ([] : List Z3)) .nl .nl)] er17 ?_
            refine zt [(Zj (Zk.mk zl r1.2 z6 zd zh (Zi.mk z1 z2)) zn zb), (Zq r17 .sh .sh)] ?_
            exact zr ((.p (.tup [(.agg (ZE r17 .sh .sh)), (.v (.bool true))])), [(Zj (Zk.mk zl r1.2 z6 zd zh (Zi.mk z1 z2)) zn zb), (Zq r17 .sh .sh)]) ⟨zb, _, zu, rfl⟩
          ·refine ze ?_
           refine zo (bv (r1.1 == 125)) ?_
           refine za ((r1.1 == 125)) ?_ ?_
           ·refine ze ?_
            refine zi fun r18 hr18 => ?_
            obtain ⟨qr18, er18, exr18, rfl⟩ := ZX (20) (zp) (zl) (r1.2) (z6) (zd) (zh) (z1) (z2) zn zb zu r18 hr18
            refine zc [0] (.p (.tup [])) [(Zj (Zk.mk zl r18.1 z6 zd zh (Zi.mk r18.2.1 r18.2.2)) zn zb), (Zq (Z3.mk 0 0 0 0 0 ([] : List Z7) ([] : List Z3)) .nl .nl)] er18 ?_
            exact zk (Z1i (zl) (r18.1) (z6) (zd) (zh) (r18.2.1) (r18.2.2) ((Z3.mk 0 0 0 0 0 ([] : List Z7) ([] : List Z3))) zn zb .nl .nl zu rfl rfl)
           ·refine ze ?_
            refine zi fun r19 hr19 => ?_
            obtain ⟨qr19, er19, exr19, rfl⟩ := Z1s (r1.1) r19 hr19
            refine zc [] (.p (.agg (ZG r19))) [(Zj (Zk.mk zl r1.2 z6 zd zh (Zi.mk z1 z2)) zn zb), (Zq (Z3.mk 0 0 0 0 0 ([] : List Z7) ([] : List Z3)) .nl .nl)] er19 ?_
            refine zo (.p (.lst .ex (([r19] : List Z7).map Zs))) ?_
            refine zi fun r20 hr20 => ?_
            obtain ⟨qr20, er20, exr20, rfl⟩ := Z2M (false) (([r19] : List Z7)) .sh r20 hr20
            refine zc [] (.p (.agg (ZE r20 .sh .sh))) [(Zj (Zk.mk zl r1.2 z6 zd zh (Zi.mk z1 z2)) zn zb), (Zq (Z3.mk 0 0 0 0 0 ([] : List Z7) ([] : List Z3)) .nl .nl)] er20 ?_
            refine zt [(Zj (Zk.mk zl r1.2 z6 zd zh (Zi.mk z1 z2)) zn zb), (Zq r20 .sh .sh)] ?_
            exact zr ((.p (.tup [(.agg (ZE r20 .sh .sh)), (.v (.bool true))])), [(Zj (Zk.mk zl r1.2 z6 zd zh (Zi.mk z1 z2)) zn zb), (Zq r20 .sh .sh)]) ⟨zb, _, zu, rfl⟩
        ·refine ze ?_
         refine zo (bv (r1.1 == 63)) ?_
         refine za ((r1.1 == 63)) ?_ ?_
         ·refine za ((r1.1 == 63)) ?_ ?_
          ·refine ze ?_
           refine zi fun r21 hr21 => ?_
           obtain ⟨qr21, er21, exr21, rfl⟩ := ZX (23) (zp) (zl) (r1.2) (z6) (zd) (zh) (z1) (z2) zn zb zu r21 hr21
           refine zc [0] (.p (.tup [])) [(Zj (Zk.mk zl r21.1 z6 zd zh (Zi.mk r21.2.1 r21.2.2)) zn zb), (Zq (Z3.mk 0 0 0 0 0 ([] : List Z7) ([] : List Z3)) .nl .nl)] er21 ?_
           exact zk (Z1i (zl) (r21.1) (z6) (zd) (zh) (r21.2.1) (r21.2.2) ((Z3.mk 0 0 0 0 0 ([] : List Z7) ([] : List Z3))) zn zb .nl .nl zu rfl rfl)
          ·refine ze ?_
           refine zo (bv (r1.1 == 93)) ?_
           refine za ((r1.1 == 93)) ?_ ?_
           ·refine za ((r1.1 == 93)) ?_ ?_
            ·refine ze ?_
             refine zi fun r22 hr22 => ?_
             obtain ⟨qr22, er22, exr22, rfl⟩ := ZX (20) (zp) (zl) (r1.2) (z6) (zd) (zh) (z1) (z2) zn zb zu r22 hr22
             refine zc [0] (.p (.tup [])) [(Zj (Zk.mk zl r22.1 z6 zd zh (Zi.mk r22.2.1 r22.2.2)) zn zb), (Zq (Z3.mk 0 0 0 0 0 ([] : List Z7) ([] : List Z3)) .nl .nl)] er22 ?_
             exact zk (Z1i (zl) (r22.1) (z6) (zd) (zh) (r22.2.1) (r22.2.2) ((Z3.mk 0 0 0 0 0 ([] : List Z7) ([] : List Z3))) zn zb .nl .nl zu rfl rfl)
            ·refine ze ?_
             refine zi fun r23 hr23 => ?_
             obtain ⟨qr23, er23, exr23, rfl⟩ := Z1s (r1.1) r23 hr23
             refine zc [] (.p (.agg (ZG r23))) [(Zj (Zk.mk zl r1.2 z6 zd zh (Zi.mk z1 z2)) zn zb), (Zq (Z3.mk 0 0 0 0 0 ([] : List Z7) ([] : List Z3)) .nl .nl)] er23 ?_
             refine zo (.p (.lst .ex (([r23] : List Z7).map Zs))) ?_
             refine zi fun r24 hr24 => ?_
             obtain ⟨qr24, er24, exr24, rfl⟩ := Z2M (false) (([r23] : List Z7)) .sh r24 hr24
             refine zc [] (.p (.agg (ZE r24 .sh .sh))) [(Zj (Zk.mk zl r1.2 z6 zd zh (Zi.mk z1 z2)) zn zb), (Zq (Z3.mk 0 0 0 0 0 ([] : List Z7) ([] : List Z3)) .nl .nl)] er24 ?_
             refine zt [(Zj (Zk.mk zl r1.2 z6 zd zh (Zi.mk z1 z2)) zn zb), (Zq r24 .sh .sh)] ?_
             exact zr ((.p (.tup [(.agg (ZE r24 .sh .sh)), (.v (.bool true))])), [(Zj (Zk.mk zl r1.2 z6 zd zh (Zi.mk z1 z2)) zn zb), (Zq r24 .sh .sh)]) ⟨zb, _, zu, rfl⟩
           ·refine ze ?_
            refine zo (bv (r1.1 == 125)) ?_
            refine za ((r1.1 == 125)) ?_ ?_
            ·refine ze ?_
             refine zi fun r25 hr25 => ?_
             obtain ⟨qr25, er25, exr25, rfl⟩ := ZX (20) (zp) (zl) (r1.2) (z6) (zd) (zh) (z1) (z2) zn zb zu r25 hr25
             refine zc [0] (.p (.tup [])) [(Zj (Zk.mk zl r25.1 z6 zd zh (Zi.mk r25.2.1 r25.2.2)) zn zb), (Zq (Z3.mk 0 0 0 0 0 ([] : List Z7) ([] : List Z3)) .nl .nl)] er25 ?_
             exact zk (Z1i (zl) (r25.1) (z6) (zd) (zh) (r25.2.1) (r25.2.2) ((Z3.mk 0 0 0 0 0 ([] : List Z7) ([] : List Z3))) zn zb .nl .nl zu rfl rfl)
            ·refine ze ?_
             refine zi fun r26 hr26 => ?_
             obtain ⟨qr26, er26, exr26, rfl⟩ := Z1s (r1.1) r26 hr26
             refine zc [] (.p (.agg (ZG r26))) [(Zj (Zk.mk zl r1.2 z6 zd zh (Zi.mk z1 z2)) zn zb), (Zq (Z3.mk 0 0 0 0 0 ([] : List Z7) ([] : List Z3)) .nl .nl)] er26 ?_
             refine zo (.p (.lst .ex (([r26] : List Z7).map Zs))) ?_
             refine zi fun r27 hr27 => ?_
             obtain ⟨qr27, er27, exr27, rfl⟩ := Z2M (false) (([r26] : List Z7)) .sh r27 hr27
             refine zc [] (.p (.agg (ZE r27 .sh .sh))) [(Zj (Zk.mk zl r1.2 z6 zd zh (Zi.mk z1 z2)) zn zb), (Zq (Z3.mk 0 0 0 0 0 ([] : List Z7) ([] : List Z3)) .nl .nl)] er27 ?_
             refine zt [(Zj (Zk.mk zl r1.2 z6 zd zh (Zi.mk z1 z2)) zn zb), (Zq r27 .sh .sh)] ?_
             exact zr ((.p (.tup [(.agg (ZE r27 .sh .sh)), (.v (.bool true))])), [(Zj (Zk.mk zl r1.2 z6 zd zh (Zi.mk z1 z2)) zn zb), (Zq r27 .sh .sh)]) ⟨zb, _, zu, rfl⟩
         ·refine ze ?_
          refine zo (bv (r1.1 == 123)) ?_
          refine za ((r1.1 == 123)) ?_ ?_
          ·refine ze ?_
           refine zi fun r28 hr28 => ?_
           obtain ⟨qr28, er28, exr28, rfl⟩ := ZX (23) (zp) (zl) (r1.2) (z6) (zd) (zh) (z1) (z2) zn zb zu r28 hr28
           refine zc [0] (.p (.tup [])) [(Zj (Zk.mk zl r28.1 z6 zd zh (Zi.mk r28.2.1 r28.2.2)) zn zb), (Zq (Z3.mk 0 0 0 0 0 ([] : List Z7) ([] : List Z3)) .nl .nl)] er28 ?_
           exact zk (Z1i (zl) (r28.1) (z6) (zd) (zh) (r28.2.1) (r28.2.2) ((Z3.mk 0 0 0 0 0 ([] : List Z7) ([] : List Z3))) zn zb .nl .nl zu rfl rfl)
          ·refine ze ?_
           refine zo (bv (r1.1 == 93)) ?_
           refine za ((r1.1 == 93)) ?_ ?_
           ·refine za ((r1.1 == 93)) ?_ ?_
            ·refine ze ?_
             refine zi fun r29 hr29 => ?_
             obtain ⟨qr29, er29, exr29, rfl⟩ := ZX (20) (zp) (zl) (r1.2) (z6) (zd) (zh) (z1) (z2) zn zb zu r29 hr29
             refine zc [0] (.p (.tup [])) [(Zj (Zk.mk zl r29.1 z6 zd zh (Zi.mk r29.2.1 r29.2.2)) zn zb), (Zq (Z3.mk 0 0 0 0 0 ([] : List Z7) ([] : List Z3)) .nl .nl)] er29 ?_
             exact zk (Z1i (zl) (r29.1) (z6) (zd) (zh) (r29.2.1) (r29.2.2) ((Z3.mk 0 0 0 0 0 ([] : List Z7) ([] : List Z3))) zn zb .nl .nl zu rfl rfl)
            ·refine ze ?_
             refine zi fun r30 hr30 => ?_
             obtain ⟨qr30, er30, exr30, rfl⟩ := Z1s (r1.1) r30 hr30
             refine zc [] (.p (.agg (ZG r30))) [(Zj (Zk.mk zl r1.2 z6 zd zh (Zi.mk z1 z2)) zn zb), (Zq (Z3.mk 0 0 0 0 0 ([] : List Z7) ([] : List Z3)) .nl .nl)] er30 ?_
             refine zo (.p (.lst .ex (([r30] : List Z7).map Zs))) ?_
             refine zi fun r31 hr31 => ?_
             obtain ⟨qr31, er31, exr31, rfl⟩ := Z2M (false) (([r30] : List Z7)) .sh r31 hr31
             refine zc [] (.p (.agg (ZE r31 .sh .sh))) [(Zj (Zk.mk zl r1.2 z6 zd zh (Zi.mk z1 z2)) zn zb), (Zq (Z3.mk 0 0 0 0 0 ([] : List Z7) ([] : List Z3)) .nl .nl)] er31 ?_
             refine zt [(Zj (Zk.mk zl r1.2 z6 zd zh (Zi.mk z1 z2)) zn zb), (Zq r31 .sh .sh)] ?_
             exact zr ((.p (.tup [(.agg (ZE r31 .sh .sh)), (.v (.bool true))])), [(Zj (Zk.mk zl r1.2 z6 zd zh (Zi.mk z1 z2)) zn zb), (Zq r31 .sh .sh)]) ⟨zb, _, zu, rfl⟩
           ·refine ze ?_
            refine zo (bv (r1.1 == 125)) ?_
            refine za ((r1.1 == 125)) ?_ ?_
            ·refine ze ?_
             refine zi fun r32 hr32 => ?_
             obtain ⟨qr32, er32, exr32, rfl⟩ := ZX (20) (zp) (zl) (r1.2) (z6) (zd) (zh) (z1) (z2) zn zb zu r32 hr32
             refine zc [0] (.p (.tup [])) [(Zj (Zk.mk zl r32.1 z6 zd zh (Zi.mk r32.2.1 r32.2.2)) zn zb), (Zq (Z3.mk 0 0 0 0 0 ([] : List Z7) ([] : List Z3)) .nl .nl)] er32 ?_
             exact zk (Z1i (zl) (r32.1) (z6) (zd) (zh) (r32.2.1) (r32.2.2) ((Z3.mk 0 0 0 0 0 ([] : List Z7) ([] : List Z3))) zn zb .nl .nl zu rfl rfl)
            ·refine ze ?_
             refine zi fun r33 hr33 => ?_
             obtain ⟨qr33, er33, exr33, rfl⟩ := Z1s (r1.1) r33 hr33
             refine zc [] (.p (.agg (ZG r33))) [(Zj (Zk.mk zl r1.2 z6 zd zh (Zi.mk z1 z2)) zn zb), (Zq (Z3.mk 0 0 0 0 0 ([] : List Z7) ([] : List Z3)) .nl .nl)] er33 ?_
             refine zo (.p (.lst .ex (([r33] : List Z7).map Zs))) ?_
             refine zi fun r34 hr34 => ?_
             obtain ⟨qr34, er34, exr34, rfl⟩ := Z2M (false) (([r33] : List Z7)) .sh r34 hr34
             refine zc [] (.p (.agg (ZE r34 .sh .sh))) [(Zj (Zk.mk zl r1.2 z6 zd zh (Zi.mk z1 z2)) zn zb), (Zq (Z3.mk 0 0 0 0 0 ([] : List Z7) ([] : List Z3)) .nl .nl)] er34 ?_
             refine zt [(Zj (Zk.mk zl r1.2 z6 zd zh (Zi.mk z1 z2)) zn zb), (Zq r34 .sh .sh)] ?_
             exact zr ((.p (.tup [(.agg (ZE r34 .sh .sh)), (.v (.bool true))])), [(Zj (Zk.mk zl r1.2 z6 zd zh (Zi.mk z1 z2)) zn zb), (Zq r34 .sh .sh)]) ⟨zb, _, zu, rfl⟩
theorem ZaJ (zl : List Int) (zp : Int) (z6 : Int) (zd : Int) (zh : List Zr) (z1 : Int) (z2 : Int) {r} (h : Z4Q zl zp z6 zd zh z1 z2 = some r) : Z5R zl zp z6 zd zh z1 z2 = some r :=
 pick_of (fun _ _ ha hb => RRun.uniq (ZaV _ _) (ha .ex .ex rfl) (hb .ex .ex rfl)) (fun zn zb zu => Zal zl zp z6 zd zh z1 z2 zn zb zu r h)
noncomputable def Z5N (zl : List Int) (zp : Int) : Option (Int × Int) :=
 (Z7J zl zp).bind fun r1 =>
 some (r1.1, (IntKind.i64.wrap (zp + r1.2)))
theorem Zaj (zl : List Int) (zp : Int) (z6 : Int) (zd : Int) (zh : List Zr) (z1 : Int) (z2 : Int) (zn : Own) (zb : Own) (zu : okApp zb = true) : Sim (Z4P zl z6 zd zh z1 z2 zn zb) (Z5N zl zp) (EE 46 [(.ptr 0 0)] [(Zj (Zk.mk zl zp z6 zd zh (Zi.mk z1 z2)) zn zb)]) := by
 unfold Z5N
 refine zf (Zix ..) ?_
 refine ze ?_
 refine ze ?_
 refine zo (.ptr 0 0) ?_
 refine zo (.ptr 0 0) ?_
 refine zo (.p (.lst (shrO zn) (zl.map (eI .u8)))) ?_
 refine zo (.ptr 0 0) ?_
 refine zo (.ptr 0 1) ?_
 refine zo (iv zp) ?_
 refine zi fun r1 hr1 => ?_
 obtain ⟨qr1, er1, exr1, rfl⟩ := Zb6 (zl) (zp) .sh r1 hr1
 refine zc [] (.p (.tup [(.v (.int .i64 r1.1)), (.v (.int .i64 r1.2))])) [(Zj (Zk.mk zl zp z6 zd zh (Zi.mk z1 z2)) zn zb)] er1 ?_
 refine zo (iv r1.1) ?_
 refine zo (iv r1.2) ?_
 refine ze ?_
 refine zo (.ptr 0 0) ?_
 refine zo (.ptr 0 1) ?_
 refine zo (iv zp) ?_
 refine zo (iv (IntKind.i64.wrap (zp + r1.2))) ?_
 refine zo (.ptr 0 0) ?_
 refine zo (.ptr 0 1) ?_
 refine zt [(Zj (Zk.mk zl (IntKind.i64.wrap (zp + r1.2)) z6 zd zh (Zi.mk z1 z2)) zn zb)] ?_
 refine ze ?_
 exact zr ((iv r1.1), [(Zj (Zk.mk zl (IntKind.i64.wrap (zp + r1.2)) z6 zd zh (Zi.mk z1 z2)) zn zb)]) ⟨_, rfl⟩
theorem ZaL (zl : List Int) (zp : Int) {r} (h : Z5N zl zp = some r) : Z22 zl zp = some r :=
 pick_of (fun _ _ ha hb => RRun.uniq (Zb4 _ _ _ _ _ _ _ _) (ha default default default default default .ex .ex rfl) (hb default default default default default .ex .ex rfl)) (fun z6 zd zh z1 z2 zn zb zu => Zaj zl zp z6 zd zh z1 z2 zn zb zu r h)
noncomputable def ZaI (x0 : Int) : Option (Z7) :=
 some ((Z7.mk x0 x0))
theorem ZcZ (x0 : Int) : Sim (Z7K) (ZaI x0) (EE 48 [(iv x0)] []) := by
 unfold ZaI
 refine zf (Ziz ..) ?_
 refine ze ?_
 refine zz (.ptr 0 0) [(Z1n (Z7.mk 0 0))] ?_
 refine ze ?_
 refine zo (.p (.agg (ZG (Z7.mk x0 x0)))) ?_
 refine zt [(Z1n (Z7.mk x0 x0))] ?_
 exact zr ((.p (.agg (ZG (Z7.mk x0 x0)))), [(Z1n (Z7.mk x0 x0))]) ⟨_, rfl⟩
theorem Zda (x0 : Int) {r} (h : ZaI x0 = some r) : Z1y x0 = some r :=
 pick_of (fun _ _ ha hb => RRun.uniq (Zds) (ha ) (hb )) (ZcZ x0 r h)
noncomputable def Z79 (x5 : List Z7) : Option (Z3) :=
 some ((Z3.mk 1 0 0 0 0 x5 ([] : List Z3)))
theorem Z9k (x5 : List Z7) (b0 : Z3) (ox5 : Own) (z2i : Own) (z1L : Own) (zhf : okApp z2i = true) (zgz : okApp z1L = true) : Sim (Z6D) (Z79 x5) (ZcU 0 (.ptr 0 0) (.p (.lst ox5 (x5.map Zs))) [(Zq b0 z2i z1L)]) := by
 unfold Z79
 refine zf (ZgZ ..) ?_
 refine ze ?_
 refine zo (.p (.agg (ZE (Z3.mk 1 0 0 0 0 x5 ([] : List Z3)) (shrO (shrO ox5)) .nl))) ?_
 refine zt [(Zq (Z3.mk 1 0 0 0 0 x5 ([] : List Z3)) (shrO (shrO ox5)) .nl)] ?_
 exact zr ((.p (.agg (ZE (Z3.mk 1 0 0 0 0 x5 ([] : List Z3)) .sh .sh))), [(Zq (Z3.mk 1 0 0 0 0 x5 ([] : List Z3)) (shrO (shrO ox5)) .nl)]) ⟨_, rfl⟩
noncomputable def Z99 (x0 : Bool) (x1 : List Z7) : Option (Z3) :=
 (Z8C x1).bind fun r1 =>
 if (x0) = true then
 ((Z5W r1.1).bind fun r2 =>
 Z79 r2.1)
 else
 (Z79 r1.1)
theorem ZcX (x0 : Bool) (x1 : List Z7) (ox1 : Own) : Sim (Z6D) (Z99 x0 x1) (EE 47 [(bv x0), (.p (.lst ox1 (x1.map Zs)))] []) := by
 unfold Z99
 refine zf (ZhR ..) ?_
 refine ze ?_
 refine zz (.ptr 0 0) [(Zq (Z3.mk 0 0 0 0 0 ([] : List Z7) ([] : List Z3)) .nl .nl)] ?_
 refine ze ?_
 refine zi fun r1 hr1 => ?_
 obtain ⟨qr1, er1, exr1, rfl⟩ := ZcF (x1) .sh r1 hr1
 refine zc [] (.p (.tup [(.lst .sh (r1.1.map Zs)), (.v (.int .i64 r1.2))])) [(Zq (Z3.mk 0 0 0 0 0 ([] : List Z7) ([] : List Z3)) .nl .nl)] er1 ?_
 refine zo (.p (.lst .sh (r1.1.map Zs))) ?_
 refine zo (iv r1.2) ?_
 refine ze ?_
 refine za (x0) ?_ ?_
 ·refine ze ?_
  refine zi fun r2 hr2 => ?_
  obtain ⟨qr2, er2, exr2, rfl⟩ := Z9d (r1.1) .sh r2 hr2
  refine zc [] (.p (.tup [(.lst .sh (r2.1.map Zs)), (.v (.int .i64 r2.2))])) [(Zq (Z3.mk 0 0 0 0 0 ([] : List Z7) ([] : List Z3)) .nl .nl)] er2 ?_
  refine zo (.p (.lst .sh (r2.1.map Zs))) ?_
  refine zo (iv r2.2) ?_
  exact zk (Z9k (r2.1) ((Z3.mk 0 0 0 0 0 ([] : List Z7) ([] : List Z3))) .sh .nl .nl rfl rfl)
 ·exact zk (Z9k (r1.1) ((Z3.mk 0 0 0 0 0 ([] : List Z7) ([] : List Z3))) .sh .nl .nl rfl rfl)
theorem Zdh (x0 : Bool) (x1 : List Z7) {r} (h : Z99 x0 x1 = some r) : Z2E x0 x1 = some r :=
 pick_of (fun _ _ ha hb => RRun.uniq (Zdu) (ha .ex) (hb .ex)) (fun ox1 => ZcX x0 x1 ox1 r h)
noncomputable def Z6H (x0 : List Z7) : Option ((List Z7) × Int) :=
 (Z7v x0).bind fun r1 =>
 some (r1, 0)
theorem ZbQ (x0 : List Z7) (ox0 : Own) : Sim (Z6n) (Z6H x0) (ZeK 0 (.p (.lst ox0 (x0.map Zs))) []) := by
 unfold Z6H
 refine zf (Zgq ..) ?_
 refine ze ?_
 refine zi fun r1 hr1 => ?_
 obtain ⟨qr1, er1, exr1, rfl⟩ := Z9A (x0) .sh r1 hr1
 refine zc [] (.p (.lst .sh (r1.map Zs))) [] er1 ?_
 exact zr ((.p (.tup [(.lst .sh (r1.map Zs)), (.v (.int .i64 0))])), []) ⟨_, rfl⟩
noncomputable def Z8z (x0 : List Z7) : Option ((List Z7) × Int) :=
 (Z3e x0).bind fun r1 =>
 if (r1) = true then
 (some (([] : List Z7), 13))
 else
 (Z6H x0)
theorem Zcw (x0 : List Z7) (ox0 : Own) : Sim (Z6n) (Z8z x0) (EE 54 [(.p (.lst ox0 (x0.map Zs)))] []) := by
 unfold Z8z
 refine zf (ZhU ..) ?_
 refine ze ?_
 refine ze ?_
 refine zi fun r1 hr1 => ?_
 obtain ⟨qr1, er1, exr1, rfl⟩ := Z7B (x0) .sh r1 hr1
 refine zc [] (bv r1) [] er1 ?_
 refine za (r1) ?_ ?_
 ·refine ze ?_
  exact zr ((.p (.tup [(.lst .sh []), (.v (.int .i64 13))])), []) ⟨_, rfl⟩
 ·exact zk (ZbQ (x0) ox0)
theorem ZcY (x0 : List Z7) {r} (h : Z8z x0 = some r) : Z8C x0 = some r :=
 pick_of (fun _ _ ha hb => RRun.uniq (Zde) (ha .ex) (hb .ex)) (fun ox0 => Zcw x0 ox0 r h)
noncomputable def Z3b (x0 : List Z7) : Option (Bool) :=
 (Z3K x0).bind fun r1 =>
 some ((decide (0 ≤ r1)))
theorem Z7l (x0 : List Z7) (ox0 : Own) : Sim (Z2I) (Z3b x0) (EE 65 [(.p (.lst ox0 (x0.map Zs))), (.clo 66 [] [])] []) := by
 unfold Z3b
 refine zf (ZiJ ..) ?_
 refine ze ?_
 refine ze ?_
 refine zi fun r1 hr1 => ?_
 obtain ⟨qr1, er1, exr1, rfl⟩ := Z8o (x0) .sh r1 hr1
 refine zc [] (iv r1) [] er1 ?_
 refine zo (bv (decide (0 ≤ r1))) ?_
 exact zr ((bv (decide (0 ≤ r1))), []) ⟨_, rfl⟩
theorem Z7E (x0 : List Z7) {r} (h : Z3b x0 = some r) : Z3e x0 = some r :=
 pick_of (fun _ _ ha hb => RRun.uniq (Z7Q) (ha .ex) (hb .ex)) (fun ox0 => Z7l x0 ox0 r h)
noncomputable def Z3P (x0 : List Z7) : Option (Int) :=
 Z2F x0 ((x0.length : Int)) 0
theorem Z82 (x0 : List Z7) (ox0 : Own) : Sim (Z1o) (Z3P x0) (EE 73 [(.p (.lst ox0 (x0.map Zs))), (.clo 66 [] [])] []) := by
 unfold Z3P
 refine zf (ZiQ ..) ?_
 refine ze ?_
 refine ze ?_
 refine zo (iv (x0.length : Int)) ?_ (Eq.trans (by kernel_rfl) (xlen_of (P := PP) (t := 23) (d := 39) (by kernel_rfl) Zs (shrO ox0) x0))
 exact zk (Z5r (x0) ((x0.length : Int)) (0) ox0)
theorem Z8m (x0 : List Z7) {r} (h : Z3P x0 = some r) : Z3K x0 = some r :=
 pick_of (fun _ _ ha hb => RRun.uniq (Z5U) (ha .ex) (hb .ex)) (fun ox0 => Z82 x0 ox0 r h)
noncomputable def Z3f (x0 : List Z7) (x7 : Int) (x8 : Int) : Option (Int) :=
 Z2F x0 x7 ((IntKind.i64.wrap (x8 + 1)))
theorem Z7m (x0 : List Z7) (x7 : Int) (x8 : Int) (ox0 : Own) : Sim (Z1o) (Z3f x0 x7 x8) (ZeB 0 (.p (.lst ox0 (x0.map Zs))) (.clo 66 [] []) (iv x7) (iv x8) []) := by
 unfold Z3f
 refine zf (ZgS ..) ?_
 refine ze ?_
 refine zo (iv (IntKind.i64.wrap (x8 + 1))) ?_
 exact zk (Z5r (x0) (x7) ((IntKind.i64.wrap (x8 + 1))) ox0)
noncomputable def Z3c (x0 : List Z7) (x7 : Int) (x8 : Int) : Option (Int) :=
 (lget x0 x8).bind fun a1 =>
 (Z7q a1).bind fun r2 =>
 if (r2) = true then
 (some (x8))
 else
 (Z3f x0 x7 x8)
theorem Z7i (x0 : List Z7) (x7 : Int) (x8 : Int) (ox0 : Own) : Sim (Z1o) (Z3c x0 x7 x8) (Ze8 0 (.p (.lst ox0 (x0.map Zs))) (.clo 66 [] []) (iv x7) (iv x8) []) := by
 unfold Z3c
 refine zf (ZgB ..) ?_
 refine ze ?_
 refine ze ?_
 refine zi fun a1 ha1 => ?_
 refine zo (.cptr (ZG a1)) ?_ (Eq.trans (by kernel_rfl) (xidx_of (o := (shrO ox0)) (k := .i64) (n := 2) (e := Zs) (cs := Z3H) (fun _ => rfl) (fun _ => rfl) (by decide) ha1))
 refine zo (.p (.agg (ZG a1))) ?_
 refine zi fun r2 hr2 => ?_
 obtain ⟨qr2, er2, exr2, rfl⟩ := Zcq (a1) r2 hr2
 refine zv [] (bv r2) [] er2 ?_
 refine za (r2) ?_ ?_
 ·refine ze ?_
  exact zr ((iv x8), []) ⟨_, rfl⟩
 ·exact zk (Z7m (x0) (x7) (x8) ox0)
noncomputable def Z4w  : Option (Int) :=
 some ((-1))
theorem Z7g  : Sim (Z1o) (Z4w) (ZeA 0  []) := by
 unfold Z4w
 refine zf (ZgA ..) ?_
 refine ze ?_
 exact zr ((iv (-1)), []) ⟨_, rfl⟩
noncomputable def Z2G (x0 : List Z7) (x7 : Int) (x8 : Int) : Option (Int) :=
 if ((decide (x8 < x7))) = true then
 (Z3c x0 x7 x8)
 else
 (Z4w)
theorem Z7p (x0 : List Z7) (x7 : Int) (x8 : Int) (ox0 : Own) : Sim (Z1o) (Z2G x0 x7 x8) (Zb7 0 (.p (.lst ox0 (x0.map Zs))) (.clo 66 [] []) (iv x7) (iv x8) []) := by
 unfold Z2G
 refine zf (Zgc ..) ?_
 refine ze ?_
 refine zo (bv (decide (x8 < x7))) ?_
 refine za ((decide (x8 < x7))) ?_ ?_
 ·exact zk (Z7i (x0) (x7) (x8) ox0)
 ·exact zk (Z7g )
theorem Z5p (x0 : List Z7) (x7 : Int) (x8 : Int) {r} (h : Z2G x0 x7 x8 = some r) : Z2F x0 x7 x8 = some r :=
 pick_of (fun _ _ ha hb => RRun.uniq (Z5U) (ha .ex) (hb .ex)) (fun ox0 => Z7p x0 x7 x8 ox0 r h)
noncomputable def Z7e (x0 : Z7) : Option (Bool) :=
 (Z4S x0).bind fun r1 =>
 some ((!r1))
theorem Zc1 (x0 : Z7) : Sim (Z6m) (Z7e x0) (EE 66 [(.p (.agg (ZG x0)))] []) := by
 unfold Z7e
 refine zf (ZhL ..) ?_
 refine ze ?_
 refine zx (.ptr 0 0) [(Z1n x0)] ?_
 refine ze ?_
 refine zo (.p (.agg (ZG x0))) ?_
 refine zi fun r1 hr1 => ?_
 obtain ⟨qr1, er1, exr1, rfl⟩ := Z7P (x0) r1 hr1
 refine zc [] (bv r1) [(Z1n x0)] er1 ?_
 refine zo (bv (!r1)) ?_
 exact zr ((bv (!r1)), [(Z1n x0)]) ⟨_, rfl⟩
theorem Zck (x0 : Z7) {r} (h : Z7e x0 = some r) : Z7q x0 = some r :=
 pick_of (fun _ _ ha hb => RRun.uniq (Zcv) (ha ) (hb )) (Zc1 x0 r h)
noncomputable def Z5M (x0 : Z7) : Option (Bool) :=
 if ((decide (0 ≤ x0.Lo))) = true then
 (if ((decide (x0.Lo ≤ x0.Hi))) = true then
 (some ((decide (x0.Hi ≤ 1114367))))
 else
 (some (false)))
 else
 (some (false))
theorem Zaw (x0 : Z7) : Sim (Z4O) (Z5M x0) (EE 67 [(.p (.agg (ZG x0)))] []) := by
 unfold Z5M
 refine zf (ZhM ..) ?_
 refine ze ?_
 refine zx (.ptr 0 0) [(Z1n x0)] ?_
 refine ze ?_
 refine zo (.ptr 0 0) ?_
 refine zo (iv x0.Lo) ?_
 refine zo (bv (decide (0 ≤ x0.Lo))) ?_
 refine za ((decide (0 ≤ x0.Lo))) ?_ ?_
 ·refine zo (.ptr 0 0) ?_
  refine zo (iv x0.Lo) ?_
  refine zo (.ptr 0 1) ?_
  refine zo (iv x0.Hi) ?_
  refine zo (bv (decide (x0.Lo ≤ x0.Hi))) ?_
  refine za ((decide (x0.Lo ≤ x0.Hi))) ?_ ?_
  ·refine zo (.ptr 0 1) ?_
   refine zo (iv x0.Hi) ?_
   refine zo (bv (decide (x0.Hi ≤ 1114367))) ?_
   exact zr ((bv (decide (x0.Hi ≤ 1114367))), [(Z1n x0)]) ⟨_, rfl⟩
  ·exact zr ((bv false), [(Z1n x0)]) ⟨_, rfl⟩
 ·exact zr ((bv false), [(Z1n x0)]) ⟨_, rfl⟩
theorem ZaQ (x0 : Z7) {r} (h : Z5M x0 = some r) : Z4S x0 = some r :=
 pick_of (fun _ _ ha hb => RRun.uniq (Zbm) (ha ) (hb )) (Zaw x0 r h)
noncomputable def Z60 (x0 : List Z7) : Option ((List Z7) × Int) :=
 (Z6F x0).bind fun r1 =>
 some (r1, 0)
theorem ZaU (x0 : List Z7) (ox0 : Own) : Sim (Z5f) (Z60 x0) (ZeP 0 (.p (.lst ox0 (x0.map Zs))) []) := by
 unfold Z60
 refine zf (ZfU ..) ?_
 refine ze ?_
 refine zi fun r1 hr1 => ?_
 obtain ⟨qr1, er1, exr1, rfl⟩ := ZbY (x0) .sh r1 hr1
 refine zc [] (.p (.lst .sh (r1.map Zs))) [] er1 ?_
 exact zr ((.p (.tup [(.lst .sh (r1.map Zs)), (.v (.int .i64 0))])), []) ⟨_, rfl⟩
noncomputable def Z6G (x0 : List Z7) : Option ((List Z7) × Int) :=
 (Z4i x0).bind fun r1 =>
 if ((!r1)) = true then
 (some (([] : List Z7), 10))
 else
 (Z60 x0)
theorem ZbL (x0 : List Z7) (ox0 : Own) : Sim (Z5f) (Z6G x0) (EE 55 [(.p (.lst ox0 (x0.map Zs)))] []) := by
 unfold Z6G
 refine zf (ZiB ..) ?_
 refine ze ?_
 refine ze ?_
 refine zi fun r1 hr1 => ?_
 obtain ⟨qr1, er1, exr1, rfl⟩ := Z6p (x0) .sh r1 hr1
 refine zc [] (bv r1) [] er1 ?_
 refine zo (bv (!r1)) ?_
 refine za ((!r1)) ?_ ?_
 ·refine ze ?_
  exact zr ((.p (.tup [(.lst .sh []), (.v (.int .i64 10))])), []) ⟨_, rfl⟩
 ·exact zk (ZaU (x0) ox0)
theorem Zc0 (x0 : List Z7) {r} (h : Z6G x0 = some r) : Z5W x0 = some r :=
 pick_of (fun _ _ ha hb => RRun.uniq (Zcl) (ha .ex) (hb .ex)) (fun ox0 => ZbL x0 ox0 r h)
noncomputable def Z5X (x0 : List Z7) : Option (Bool) :=
 Z4j ((-2)) x0 ((x0.length : Int)) 0
theorem ZaN (x0 : List Z7) (ox0 : Own) : Sim (Z1M) (Z5X x0) (EE 69 [(.p (.lst ox0 (x0.map Zs)))] []) := by
 unfold Z5X
 refine zf (Ziw ..) ?_
 refine ze ?_
 refine ze ?_
 refine ze ?_
 refine zo (iv (x0.length : Int)) ?_ (Eq.trans (by kernel_rfl) (xlen_of (P := PP) (t := 24) (d := 39) (by kernel_rfl) Zs (shrO ox0) x0))
 exact zk (Z6R ((-2)) (x0) ((x0.length : Int)) (0) (shrO ox0))
theorem Zbg (x0 : List Z7) {r} (h : Z5X x0 = some r) : Z4i x0 = some r :=
 pick_of (fun _ _ ha hb => RRun.uniq (Z8v) (ha .ex) (hb .ex)) (fun ox0 => ZaN x0 ox0 r h)
noncomputable def Z5e  : Option (Bool) :=
 some (false)
theorem Z6M  : Sim (Z1M) (Z5e) (ZcG 0  []) := by
 unfold Z5e
 refine zf (Zgy ..) ?_
 refine ze ?_
 exact zr ((bv false), []) ⟨_, rfl⟩
noncomputable def Z5i (x3 : Int) (x6 : List Z7) (x7 : Int) (x8 : Int) : Option (Bool) :=
 Z4j x3 x6 x7 ((IntKind.i64.wrap (x8 + 1)))
theorem Z9M (x3 : Int) (x6 : List Z7) (x7 : Int) (x8 : Int) (ox6 : Own) : Sim (Z1M) (Z5i x3 x6 x7 x8) (ZdK 0 (iv x3) (.p (.lst ox6 (x6.map Zs))) (iv x7) (iv x8) []) := by
 unfold Z5i
 refine zf (ZfJ ..) ?_
 refine ze ?_
 refine zo (iv (IntKind.i64.wrap (x8 + 1))) ?_
 exact zk (Z6R (x3) (x6) (x7) ((IntKind.i64.wrap (x8 + 1))) ox6)
noncomputable def Z5l (x6 : List Z7) (x7 : Int) (x8 : Int) (b0 : Z7) : Option (Bool) :=
 Z5i b0.Hi x6 x7 x8
theorem Z9O (x6 : List Z7) (x7 : Int) (x8 : Int) (b0 : Z7) (ox6 : Own) : Sim (Z1M) (Z5l x6 x7 x8 b0) (Zeu 0 (.ptr 0 0) (.p (.lst ox6 (x6.map Zs))) (iv x7) (iv x8) [(Z1n b0)]) := by
 unfold Z5l
 refine zf (Zh3 ..) ?_
 refine ze ?_
 refine zo (.ptr 0 1) ?_
 refine zo (iv b0.Hi) ?_
 exact zk (Z9M (b0.Hi) (x6) (x7) (x8) ox6)
noncomputable def Z5j (x3 : Int) (x6 : List Z7) (x7 : Int) (x8 : Int) : Option (Bool) :=
 (lget x6 x8).bind fun a1 =>
 (Z4S a1).bind fun r2 =>
 if ((!r2)) = true then
 (Z5e)
 else
 (if ((decide (a1.Lo < (IntKind.i64.wrap (x3 + 2))))) = true then
 (Z5e)
 else
 (Z5l x6 x7 x8 a1))
theorem Z9Q (x3 : Int) (x6 : List Z7) (x7 : Int) (x8 : Int) (ox6 : Own) : Sim (Z1M) (Z5j x3 x6 x7 x8) (ZeO 0 (iv x3) (.p (.lst ox6 (x6.map Zs))) (iv x7) (iv x8) []) := by
 unfold Z5j
 refine zf (Zg8 ..) ?_
 refine ze ?_
 refine zi fun a1 ha1 => ?_
 refine zo (.cptr (ZG a1)) ?_ (Eq.trans (by kernel_rfl) (xidx_of (o := ox6) (k := .i64) (n := 2) (e := Zs) (cs := Z3H) (fun _ => rfl) (fun _ => rfl) (by decide) ha1))
 refine zo (.p (.agg (ZG a1))) ?_
 refine zz (.ptr 0 0) [(Z1n (Z7.mk 0 0))] ?_
 refine zt [(Z1n a1)] ?_
 refine ze ?_
 refine zo (.p (.agg (ZG a1))) ?_
 refine zi fun r2 hr2 => ?_
 obtain ⟨qr2, er2, exr2, rfl⟩ := Z7P (a1) r2 hr2
 refine zc [] (bv r2) [(Z1n a1)] er2 ?_
 refine zo (bv (!r2)) ?_
 refine za ((!r2)) ?_ ?_
 ·exact zk (Z6M )
 ·refine zo (.ptr 0 0) ?_
  refine zo (iv a1.Lo) ?_
  refine zo (iv (IntKind.i64.wrap (x3 + 2))) ?_
  refine zo (bv (decide (a1.Lo < (IntKind.i64.wrap (x3 + 2))))) ?_
  refine za ((decide (a1.Lo < (IntKind.i64.wrap (x3 + 2))))) ?_ ?_
  ·exact zk (Z6M )
  ·exact zk (Z9O (x6) (x7) (x8) (a1) ox6)
noncomputable def Z6g  : Option (Bool) :=
 some (true)
theorem Z9H  : Sim (Z1M) (Z6g) (Zee 0  []) := by
 unfold Z6g
 refine zf (ZfQ ..) ?_
 refine ze ?_
 exact zr ((bv true), []) ⟨_, rfl⟩
noncomputable def Z4m (x3 : Int) (x6 : List Z7) (x7 : Int) (x8 : Int) : Option (Bool) :=
 if ((decide (x8 < x7))) = true then
 (Z5j x3 x6 x7 x8)
 else
 (Z6g)
theorem Z9D (x3 : Int) (x6 : List Z7) (x7 : Int) (x8 : Int) (ox6 : Own) : Sim (Z1M) (Z4m x3 x6 x7 x8) (Zbk 0 (iv x3) (.p (.lst ox6 (x6.map Zs))) (iv x7) (iv x8) []) := by
 unfold Z4m
 refine zf (Zga ..) ?_
 refine ze ?_
 refine zo (bv (decide (x8 < x7))) ?_
 refine za ((decide (x8 < x7))) ?_ ?_
 ·exact zk (Z9Q (x3) (x6) (x7) (x8) ox6)
 ·exact zk (Z9H )
theorem Z75 (x3 : Int) (x6 : List Z7) (x7 : Int) (x8 : Int) {r} (h : Z4m x3 x6 x7 x8 = some r) : Z4j x3 x6 x7 x8 = some r :=
 pick_of (fun _ _ ha hb => RRun.uniq (Z8v) (ha .ex) (hb .ex)) (fun ox6 => Z9D x3 x6 x7 x8 ox6 r h)
noncomputable def Z6O (x0 : List Z7) : Option ((List Z7)) :=
 Z5c (([] : List Z7)) 0 x0 ((x0.length : Int)) 0
theorem ZbO (x0 : List Z7) (ox0 : Own) : Sim (Z2d) (Z6O x0) (EE 70 [(.p (.lst ox0 (x0.map Zs)))] []) := by
 unfold Z6O
 refine zf (ZhC ..) ?_
 refine ze ?_
 refine ze ?_
 refine ze ?_
 refine ze ?_
 refine zo (iv (x0.length : Int)) ?_ (Eq.trans (by kernel_rfl) (xlen_of (P := PP) (t := 24) (d := 39) (by kernel_rfl) Zs (shrO ox0) x0))
 exact zk (Z8f (([] : List Z7)) (0) (x0) ((x0.length : Int)) (0) .nl (shrO ox0) rfl)
theorem Zc6 (x0 : List Z7) {r} (h : Z6O x0 = some r) : Z6F x0 = some r :=
 pick_of (fun _ _ ha hb => RRun.uniq (Z9y) (ha .ex) (hb .ex)) (fun ox0 => ZbO x0 ox0 r h)
noncomputable def Z5Y (x3 : List Z7) (x4 : Int) (x7 : List Z7) (x8 : Int) (x9 : Int) : Option ((List Z7)) :=
 Z5c x3 x4 x7 x8 ((IntKind.i64.wrap (x9 + 1)))
theorem ZaK (x3 : List Z7) (x4 : Int) (x7 : List Z7) (x8 : Int) (x9 : Int) (ox3 : Own) (ox7 : Own) (hox3 : okApp ox3 = true) : Sim (Z2d) (Z5Y x3 x4 x7 x8 x9) (ZeI 0 (.p (.lst ox3 (x3.map Zs))) (iv x4) (.p (.lst ox7 (x7.map Zs))) (iv x8) (iv x9) []) := by
 unfold Z5Y
 refine zf (Zh9 ..) ?_
 refine ze ?_
 refine zo (iv (IntKind.i64.wrap (x9 + 1))) ?_
 exact zk (Z8f (x3) (x4) (x7) (x8) ((IntKind.i64.wrap (x9 + 1))) ox3 ox7 hox3)
noncomputable def Z4e (x3 : List Z7) (x7 : List Z7) (x8 : Int) (x9 : Int) (b0 : Z7) : Option ((List Z7)) :=
 Z5Y x3 ((IntKind.i64.wrap (b0.Hi + 1))) x7 x8 x9
theorem Z7I (x3 : List Z7) (x7 : List Z7) (x8 : Int) (x9 : Int) (b0 : Z7) (ox3 : Own) (ox7 : Own) (hox3 : okApp ox3 = true) : Sim (Z2d) (Z4e x3 x7 x8 x9 b0) (ZcJ 0 (.p (.lst ox3 (x3.map Zs))) (.ptr 0 0) (.p (.lst ox7 (x7.map Zs))) (iv x8) (iv x9) [(Z1n b0)]) := by
 unfold Z4e
 refine zf (ZfN ..) ?_
 refine ze ?_
 refine zo (.ptr 0 1) ?_
 refine zo (iv b0.Hi) ?_
 refine zo (iv (IntKind.i64.wrap (b0.Hi + 1))) ?_
 exact zk (ZaK (x3) ((IntKind.i64.wrap (b0.Hi + 1))) (x7) (x8) (x9) ox3 ox7 hox3)
noncomputable def Z5V (x3 : List Z7) (x4 : Int) (x7 : List Z7) (x8 : Int) (x9 : Int) : Option ((List Z7)) :=
 (lget x7 x9).bind fun a1 =>
 if ((decide (x4 < a1.Lo))) = true then
 ((lapp x3 ([(Z7.mk x4 (IntKind.i64.wrap (a1.Lo - 1)))] : List Z7)).bind fun a2 =>
 Z4e a2 x7 x8 x9 a1)
 else
 (Z4e x3 x7 x8 x9 a1)
theorem ZaO (x3 : List Z7) (x4 : Int) (x7 : List Z7) (x8 : Int) (x9 : Int) (ox3 : Own) (ox7 : Own) (hox3 : okApp ox3 = true) : Sim (Z2d) (Z5V x3 x4 x7 x8 x9) (ZeM 0 (.p (.lst ox3 (x3.map Zs))) (iv x4) (.p (.lst ox7 (x7.map Zs))) (iv x8) (iv x9) []) := by
 unfold Z5V
 refine zf (Zgu ..) ?_
 refine ze ?_
 refine zi fun a1 ha1 => ?_
 refine zo (.cptr (ZG a1)) ?_ (Eq.trans (by kernel_rfl) (xidx_of (o := ox7) (k := .i64) (n := 2) (e := Zs) (cs := Z3H) (fun _ => rfl) (fun _ => rfl) (by decide) ha1))
 refine zo (.p (.agg (ZG a1))) ?_
 refine zz (.ptr 0 0) [(Z1n (Z7.mk 0 0))] ?_
 refine zt [(Z1n a1)] ?_
 refine ze ?_
 refine zo (.ptr 0 0) ?_
 refine zo (iv a1.Lo) ?_
 refine zo (bv (decide (x4 < a1.Lo))) ?_
 refine za ((decide (x4 < a1.Lo))) ?_ ?_
 ·refine ze ?_
  refine zo (.ptr 0 0) ?_
  refine zo (iv a1.Lo) ?_
  refine zo (iv (IntKind.i64.wrap (a1.Lo - 1))) ?_
  refine zo (.p (.agg (ZG (Z7.mk x4 (IntKind.i64.wrap (a1.Lo - 1)))))) ?_
  refine zo (.p (.lst .ex (([(Z7.mk x4 (IntKind.i64.wrap (a1.Lo - 1)))] : List Z7).map Zs))) ?_
  refine zi fun a2 ha2 => ?_
  refine zo (.p (.lst .un (a2.map Zs))) ?_ (Eq.trans (by kernel_rfl) <| xapp_of (n := 2) (o := ox3) (o' := .ex) (e := Zs) (ys := ([(Z7.mk x4 (IntKind.i64.wrap (a1.Lo - 1)))] : List Z7)) (fun _ => rfl) (by decide) hox3 ha2)
  exact zk (Z7I (a2) (x7) (x8) (x9) (a1) .un ox7 rfl)
 ·exact zk (Z7I (x3) (x7) (x8) (x9) (a1) ox3 ox7 hox3)
noncomputable def Z41 (x3 : List Z7) : Option ((List Z7)) :=
 some (x3)
theorem Z7x (x3 : List Z7) (ox3 : Own) (hox3 : okApp ox3 = true) : Sim (Z2d) (Z41 x3) (Zcg 0 (.p (.lst ox3 (x3.map Zs))) []) := by
 unfold Z41
 refine zf (Zfi ..) ?_
 refine ze ?_
 exact zr ((.p (.lst .sh (x3.map Zs))), []) ⟨_, rfl⟩
noncomputable def Z5L (x3 : List Z7) (x4 : Int) : Option ((List Z7)) :=
 if ((decide (x4 ≤ 1114367))) = true then
 ((lapp x3 ([(Z7.mk x4 1114367)] : List Z7)).bind fun a1 =>
 Z41 a1)
 else
 (Z41 x3)
theorem Zau (x3 : List Z7) (x4 : Int) (ox3 : Own) (hox3 : okApp ox3 = true) : Sim (Z2d) (Z5L x3 x4) (Zdg 0 (.p (.lst ox3 (x3.map Zs))) (iv x4) []) := by
 unfold Z5L
 refine zf (ZfC ..) ?_
 refine ze ?_
 refine zo (bv (decide (x4 ≤ 1114367))) ?_
 refine za ((decide (x4 ≤ 1114367))) ?_ ?_
 ·refine ze ?_
  refine zo (.p (.agg (ZG (Z7.mk x4 1114367)))) ?_
  refine zo (.p (.lst .ex (([(Z7.mk x4 1114367)] : List Z7).map Zs))) ?_
  refine zi fun a1 ha1 => ?_
  refine zo (.p (.lst .un (a1.map Zs))) ?_ (Eq.trans (by kernel_rfl) <| xapp_of (n := 2) (o := ox3) (o' := .ex) (e := Zs) (ys := ([(Z7.mk x4 1114367)] : List Z7)) (fun _ => rfl) (by decide) hox3 ha1)
  exact zk (Z7x (a1) .un rfl)
 ·exact zk (Z7x (x3) ox3 hox3)
noncomputable def Z5b (x3 : List Z7) (x4 : Int) (x7 : List Z7) (x8 : Int) (x9 : Int) : Option ((List Z7)) :=
 if ((decide (x9 < x8))) = true then
 (Z5V x3 x4 x7 x8 x9)
 else
 (Z5L x3 x4)
theorem ZaG (x3 : List Z7) (x4 : Int) (x7 : List Z7) (x8 : Int) (x9 : Int) (ox3 : Own) (ox7 : Own) (hox3 : okApp ox3 = true) : Sim (Z2d) (Z5b x3 x4 x7 x8 x9) (ZaY 0 (.p (.lst ox3 (x3.map Zs))) (iv x4) (.p (.lst ox7 (x7.map Zs))) (iv x8) (iv x9) []) := by
 unfold Z5b
 refine zf (Zg0 ..) ?_
 refine ze ?_
 refine zo (bv (decide (x9 < x8))) ?_
 refine za ((decide (x9 < x8))) ?_ ?_
 ·exact zk (ZaO (x3) (x4) (x7) (x8) (x9) ox3 ox7 hox3)
 ·exact zk (Zau (x3) (x4) ox3 hox3)
theorem Z8h (x3 : List Z7) (x4 : Int) (x7 : List Z7) (x8 : Int) (x9 : Int) {r} (h : Z5b x3 x4 x7 x8 x9 = some r) : Z5c x3 x4 x7 x8 x9 = some r :=
 pick_of (fun _ _ ha hb => RRun.uniq (Z9y) (ha .ex .ex rfl) (hb .ex .ex rfl)) (fun ox3 ox7 hox3 => ZaG x3 x4 x7 x8 x9 ox3 ox7 hox3 r h)
noncomputable def Z3l (x1 : Int) (x5 : Int) (zp : Int) (zh : List Zr) (z1 : Int) (z2 : Int) : Option (Z3 × Int × (List Zr) × Int × Int) :=
 (lapp zh ([(Zr.mk (IntKind.i64.wrap (x5 - 48)) x1)] : List Zr)).bind fun a1 =>
 some ((Z3.mk 6 0 0 0 (IntKind.i64.wrap (x5 - 48)) ([] : List Z7) ([] : List Z3)), zp, a1, z1, z2)
theorem Z8K (x1 : Int) (x5 : Int) (zl : List Int) (zp : Int) (z6 : Int) (zd : Int) (zh : List Zr) (z1 : Int) (z2 : Int) (b1 : Z3) (zn : Own) (zb : Own) (zB : Own) (zy : Own) (zu : okApp zb = true) (zQ : okApp zB = true) (zK : okApp zy = true) : Sim (Z2A zl z6 zd zn) (Z3l x1 x5 zp zh z1 z2) (Zd3 1 (.ptr 0 0) (iv x1) (.ptr 1 0) (iv x5) [(Zj (Zk.mk zl zp z6 zd zh (Zi.mk z1 z2)) zn zb), (Zq b1 zB zy)]) := by
 unfold Z3l
 refine zf (Zfs ..) ?_
 refine ze ?_
 refine zo (.ptr 0 0) ?_
 refine zo (.ptr 0 4) ?_
 refine zw (.p (.lst zb (zh.map Z1A))) [(Zj (Zk.mk zl zp z6 zd zh (Zi.mk z1 z2)) zn (shrO zb)), (Zq b1 zB zy)] ?_
 refine zo (iv (IntKind.i64.wrap (x5 - 48))) ?_
 refine zo (.p (.agg (Z8a (Zr.mk (IntKind.i64.wrap (x5 - 48)) x1)))) ?_
 refine zo (.p (.lst .ex (([(Zr.mk (IntKind.i64.wrap (x5 - 48)) x1)] : List Zr).map Z1A))) ?_
 refine zi fun a1 ha1 => ?_
 refine zo (.p (.lst .un (a1.map Z1A))) ?_ (Eq.trans (by kernel_rfl) <| xapp_of (n := 2) (o := zb) (o' := .ex) (e := Z1A) (ys := ([(Zr.mk (IntKind.i64.wrap (x5 - 48)) x1)] : List Zr)) (fun _ => rfl) (by decide) zu ha1)
 refine zo (.ptr 0 0) ?_
 refine zo (.ptr 0 4) ?_
 refine zt [(Zj (Zk.mk zl zp z6 zd a1 (Zi.mk z1 z2)) zn .un), (Zq b1 zB zy)] ?_
 refine ze ?_
 refine zo (iv (IntKind.i64.wrap (x5 - 48))) ?_
 refine zo (.p (.agg (ZE (Z3.mk 6 0 0 0 (IntKind.i64.wrap (x5 - 48)) ([] : List Z7) ([] : List Z3)) .nl .nl))) ?_
 refine zt [(Zj (Zk.mk zl zp z6 zd a1 (Zi.mk z1 z2)) zn .un), (Zq (Z3.mk 6 0 0 0 (IntKind.i64.wrap (x5 - 48)) ([] : List Z7) ([] : List Z3)) .nl .nl)] ?_
 exact zr ((.p (.agg (ZE (Z3.mk 6 0 0 0 (IntKind.i64.wrap (x5 - 48)) ([] : List Z7) ([] : List Z3)) .sh .sh))), [(Zj (Zk.mk zl zp z6 zd a1 (Zi.mk z1 z2)) zn .un), (Zq (Z3.mk 6 0 0 0 (IntKind.i64.wrap (x5 - 48)) ([] : List Z7) ([] : List Z3)) .nl .nl)]) ⟨.un, _, rfl, rfl⟩
noncomputable def Z25 (x1 : Int) (x5 : Int) (zl : List Int) (zp : Int) (z6 : Int) (zd : Int) (zh : List Zr) (z1 : Int) (z2 : Int) : Option (Z3 × Int × (List Zr) × Int × Int) :=
 (Z4B x5 x1 zl zp z6 zd zh z1 z2).bind fun r1 =>
 (Z1y r1.1).bind fun r2 =>
 (Z2E false (([r2] : List Z7))).bind fun r3 =>
 some (r3, r1.2.1, zh, r1.2.2.1, r1.2.2.2)
theorem Z64 (x1 : Int) (x5 : Int) (zl : List Int) (zp : Int) (z6 : Int) (zd : Int) (zh : List Zr) (z1 : Int) (z2 : Int) (b1 : Z3) (zn : Own) (zb : Own) (zB : Own) (zy : Own) (zu : okApp zb = true) (zQ : okApp zB = true) (zK : okApp zy = true) : Sim (Z2A zl z6 zd zn) (Z25 x1 x5 zl zp z6 zd zh z1 z2) (Zcd 1 (.ptr 0 0) (iv x1) (.ptr 1 0) (iv x5) [(Zj (Zk.mk zl zp z6 zd zh (Zi.mk z1 z2)) zn zb), (Zq b1 zB zy)]) := by
 unfold Z25
 refine zf (Zfz ..) ?_
 refine ze ?_
 refine zi fun r1 hr1 => ?_
 obtain ⟨qr1, er1, exr1, rfl⟩ := Z7y (x5) (x1) (zl) (zp) (z6) (zd) (zh) (z1) (z2) zn zb zu r1 hr1
 refine zc [0] (iv r1.1) [(Zj (Zk.mk zl r1.2.1 z6 zd zh (Zi.mk r1.2.2.1 r1.2.2.2)) zn zb), (Zq b1 zB zy)] er1 ?_
 refine zi fun r2 hr2 => ?_
 obtain ⟨qr2, er2, exr2, rfl⟩ := Z1s (r1.1) r2 hr2
 refine zc [] (.p (.agg (ZG r2))) [(Zj (Zk.mk zl r1.2.1 z6 zd zh (Zi.mk r1.2.2.1 r1.2.2.2)) zn zb), (Zq b1 zB zy)] er2 ?_
 refine zo (.p (.lst .ex (([r2] : List Z7).map Zs))) ?_
 refine zi fun r3 hr3 => ?_
 obtain ⟨qr3, er3, exr3, rfl⟩ := Z2M (false) (([r2] : List Z7)) .sh r3 hr3
 refine zc [] (.p (.agg (ZE r3 .sh .sh))) [(Zj (Zk.mk zl r1.2.1 z6 zd zh (Zi.mk r1.2.2.1 r1.2.2.2)) zn zb), (Zq b1 zB zy)] er3 ?_
 refine zt [(Zj (Zk.mk zl r1.2.1 z6 zd zh (Zi.mk r1.2.2.1 r1.2.2.2)) zn zb), (Zq r3 .sh .sh)] ?_
 exact zr ((.p (.agg (ZE r3 .sh .sh))), [(Zj (Zk.mk zl r1.2.1 z6 zd zh (Zi.mk r1.2.2.1 r1.2.2.2)) zn zb), (Zq r3 .sh .sh)]) ⟨zb, _, zu, rfl⟩
noncomputable def Z2a (x1 : Int) (x5 : Int) (zl : List Int) (zp : Int) (z6 : Int) (zd : Int) (zh : List Zr) (z1 : Int) (z2 : Int) : Option (Z3 × Int × (List Zr) × Int × Int) :=
 (Z22 zl zp).bind fun r1 =>
 (Z4J x5).bind fun r2 =>
 (nilO r2.1 r2.2).bind fun a3 =>
 if ((!a3)) = true then
 ((Z4J x5).bind fun r4 =>
 (Z2E ((decide (x5 < 97))) r4.2).bind fun r5 =>
 some (r5, r1.2, zh, z1, z2))
 else
 (if ((x5 == 98)) = true then
 (some ((Z3.mk 9 0 0 0 2 ([] : List Z7) ([] : List Z3)), r1.2, zh, z1, z2))
 else
 (if ((x5 == 66)) = true then
 (some ((Z3.mk 9 0 0 0 3 ([] : List Z7) ([] : List Z3)), r1.2, zh, z1, z2))
 else
 (if ((decide (49 ≤ x5))) = true then
 (if ((decide (x5 ≤ 57))) = true then
 (Z3l x1 x5 r1.2 zh z1 z2)
 else
 (Z25 x1 x5 zl r1.2 z6 zd zh z1 z2))
 else
 (Z25 x1 x5 zl r1.2 z6 zd zh z1 z2))))
theorem Z8W (x1 : Int) (x5 : Int) (zl : List Int) (zp : Int) (z6 : Int) (zd : Int) (zh : List Zr) (z1 : Int) (z2 : Int) (b1 : Z3) (zn : Own) (zb : Own) (zB : Own) (zy : Own) (zu : okApp zb = true) (zQ : okApp zB = true) (zK : okApp zy = true) : Sim (Z2A zl z6 zd zn) (Z2a x1 x5 zl zp z6 zd zh z1 z2) (Zeq 1 (.ptr 0 0) (iv x1) (.ptr 1 0) (iv x5) [(Zj (Zk.mk zl zp z6 zd zh (Zi.mk z1 z2)) zn zb), (Zq b1 zB zy)]) := by
 unfold Z2a
 refine zf (ZgE ..) ?_
 refine ze ?_
 refine zi fun r1 hr1 => ?_
 obtain ⟨qr1, er1, exr1, rfl⟩ := Z2o (zl) (zp) (z6) (zd) (zh) (z1) (z2) zn zb zu r1 hr1
 refine zc [0] (iv r1.1) [(Zj (Zk.mk zl r1.2 z6 zd zh (Zi.mk z1 z2)) zn zb), (Zq b1 zB zy)] er1 ?_
 refine ze ?_
 refine zi fun r2 hr2 => ?_
 obtain ⟨qr2, er2, exr2, rfl⟩ := Z6v (x5) r2 hr2
 refine zc [] (.p (.lst r2.1 (r2.2.map Zs))) [(Zj (Zk.mk zl r1.2 z6 zd zh (Zi.mk z1 z2)) zn zb), (Zq b1 zB zy)] er2 ?_
 refine zi fun a3 ha3 => ?_
 refine zo (bv (!a3)) ?_ (Eq.trans (by kernel_rfl) (xnil_neq (P := PP) (t := 23) (c := .slice none 0 0) (e := Zs) (by kernel_rfl) ha3))
 refine za ((!a3)) ?_ ?_
 ·refine ze ?_
  refine zo (bv (decide (x5 < 97))) ?_
  refine zi fun r4 hr4 => ?_
  obtain ⟨qr4, er4, exr4, rfl⟩ := Z6v (x5) r4 hr4
  refine zc [] (.p (.lst r4.1 (r4.2.map Zs))) [(Zj (Zk.mk zl r1.2 z6 zd zh (Zi.mk z1 z2)) zn zb), (Zq b1 zB zy)] er4 ?_
  refine zi fun r5 hr5 => ?_
  obtain ⟨qr5, er5, exr5, rfl⟩ := Z2M ((decide (x5 < 97))) (r4.2) .sh r5 hr5
  refine zc [] (.p (.agg (ZE r5 .sh .sh))) [(Zj (Zk.mk zl r1.2 z6 zd zh (Zi.mk z1 z2)) zn zb), (Zq b1 zB zy)] er5 ?_
  refine zt [(Zj (Zk.mk zl r1.2 z6 zd zh (Zi.mk z1 z2)) zn zb), (Zq r5 .sh .sh)] ?_
  exact zr ((.p (.agg (ZE r5 .sh .sh))), [(Zj (Zk.mk zl r1.2 z6 zd zh (Zi.mk z1 z2)) zn zb), (Zq r5 .sh .sh)]) ⟨zb, _, zu, rfl⟩
 ·refine ze ?_
  refine zo (bv (x5 == 98)) ?_
  refine za ((x5 == 98)) ?_ ?_
  ·refine ze ?_
   refine zo (.p (.agg (ZE (Z3.mk 9 0 0 0 2 ([] : List Z7) ([] : List Z3)) .nl .nl))) ?_
   refine zt [(Zj (Zk.mk zl r1.2 z6 zd zh (Zi.mk z1 z2)) zn zb), (Zq (Z3.mk 9 0 0 0 2 ([] : List Z7) ([] : List Z3)) .nl .nl)] ?_
   exact zr ((.p (.agg (ZE (Z3.mk 9 0 0 0 2 ([] : List Z7) ([] : List Z3)) .sh .sh))), [(Zj (Zk.mk zl r1.2 z6 zd zh (Zi.mk z1 z2)) zn zb), (Zq (Z3.mk 9 0 0 0 2 ([] : List Z7) ([] : List Z3)) .nl .nl)]) ⟨zb, _, zu, rfl⟩
  ·refine ze ?_
   refine zo (bv (x5 == 66)) ?_
   refine za ((x5 == 66)) ?_ ?_
   ·refine ze ?_
    refine zo (.p (.agg (ZE (Z3.mk 9 0 0 0 3 ([] : List Z7) ([] : List Z3)) .nl .nl))) ?_
    refine zt [(Zj (Zk.mk zl r1.2 z6 zd zh (Zi.mk z1 z2)) zn zb), (Zq (Z3.mk 9 0 0 0 3 ([] : List Z7) ([] : List Z3)) .nl .nl)] ?_
    exact zr ((.p (.agg (ZE (Z3.mk 9 0 0 0 3 ([] : List Z7) ([] : List Z3)) .sh .sh))), [(Zj (Zk.mk zl r1.2 z6 zd zh (Zi.mk z1 z2)) zn zb), (Zq (Z3.mk 9 0 0 0 3 ([] : List Z7) ([] : List Z3)) .nl .nl)]) ⟨zb, _, zu, rfl⟩
   ·refine ze ?_
    refine zo (bv (decide (49 ≤ x5))) ?_
    refine za ((decide (49 ≤ x5))) ?_ ?_
    ·refine zo (bv (decide (x5 ≤ 57))) ?_
     refine za ((decide (x5 ≤ 57))) ?_ ?_
     ·exact zk (Z8K (x1) (x5) (zl) (r1.2) (z6) (zd) (zh) (z1) (z2) (b1) zn zb zB zy zu zQ zK)
     ·exact zk (Z64 (x1) (x5) (zl) (r1.2) (z6) (zd) (zh) (z1) (z2) (b1) zn zb zB zy zu zQ zK)
    ·exact zk (Z64 (x1) (x5) (zl) (r1.2) (z6) (zd) (zh) (z1) (z2) (b1) zn zb zB zy zu zQ zK)
noncomputable def Z3u (x1 : Int) (zl : List Int) (zp : Int) (z6 : Int) (zd : Int) (zh : List Zr) (z1 : Int) (z2 : Int) : Option (Z3 × Int × (List Zr) × Int × Int) :=
 (Z1F ((Zk.mk zl zp z6 zd zh (Zi.mk z1 z2)))).bind fun r1 =>
 if ((decide (r1 < 0))) = true then
 ((ZT 21 x1 zl z1 z2).bind fun r2 =>
 some ((Z3.mk 0 0 0 0 0 ([] : List Z7) ([] : List Z3)), r2.1, zh, r2.2.1, r2.2.2))
 else
 (Z2a x1 r1 zl zp z6 zd zh z1 z2)
theorem Z9X (x1 : Int) (zl : List Int) (zp : Int) (z6 : Int) (zd : Int) (zh : List Zr) (z1 : Int) (z2 : Int) (zn : Own) (zb : Own) (zu : okApp zb = true) : Sim (Z2A zl z6 zd zn) (Z3u x1 zl zp z6 zd zh z1 z2) (EE 49 [(.ptr 0 0), (iv x1)] [(Zj (Zk.mk zl zp z6 zd zh (Zi.mk z1 z2)) zn zb)]) := by
 unfold Z3u
 refine zf (Ziy ..) ?_
 refine ze ?_
 refine zz (.ptr 1 0) [(Zj (Zk.mk zl zp z6 zd zh (Zi.mk z1 z2)) zn zb), (Zq (Z3.mk 0 0 0 0 0 ([] : List Z7) ([] : List Z3)) .nl .nl)] ?_
 refine ze ?_
 refine zi fun r1 hr1 => ?_
 obtain ⟨qr1, er1, exr1, rfl⟩ := Z1I ((Zk.mk zl zp z6 zd zh (Zi.mk z1 z2))) zn zb zu r1 hr1
 refine zc [0] (iv r1) [(Zj (Zk.mk zl zp z6 zd zh (Zi.mk z1 z2)) zn zb), (Zq (Z3.mk 0 0 0 0 0 ([] : List Z7) ([] : List Z3)) .nl .nl)] er1 ?_
 refine ze ?_
 refine zo (bv (decide (r1 < 0))) ?_
 refine za ((decide (r1 < 0))) ?_ ?_
 ·refine ze ?_
  refine zi fun r2 hr2 => ?_
  obtain ⟨qr2, er2, exr2, rfl⟩ := ZX (21) (x1) (zl) (zp) (z6) (zd) (zh) (z1) (z2) zn zb zu r2 hr2
  refine zc [0] (.p (.tup [])) [(Zj (Zk.mk zl r2.1 z6 zd zh (Zi.mk r2.2.1 r2.2.2)) zn zb), (Zq (Z3.mk 0 0 0 0 0 ([] : List Z7) ([] : List Z3)) .nl .nl)] er2 ?_
  refine ze ?_
  refine zo (.p (.agg (ZE (Z3.mk 0 0 0 0 0 ([] : List Z7) ([] : List Z3)) .nl .nl))) ?_
  refine zt [(Zj (Zk.mk zl r2.1 z6 zd zh (Zi.mk r2.2.1 r2.2.2)) zn zb), (Zq (Z3.mk 0 0 0 0 0 ([] : List Z7) ([] : List Z3)) .nl .nl)] ?_
  exact zr ((.p (.agg (ZE (Z3.mk 0 0 0 0 0 ([] : List Z7) ([] : List Z3)) .sh .sh))), [(Zj (Zk.mk zl r2.1 z6 zd zh (Zi.mk r2.2.1 r2.2.2)) zn zb), (Zq (Z3.mk 0 0 0 0 0 ([] : List Z7) ([] : List Z3)) .nl .nl)]) ⟨zb, _, zu, rfl⟩
 ·exact zk (Z8W (x1) (r1) (zl) (zp) (z6) (zd) (zh) (z1) (z2) ((Z3.mk 0 0 0 0 0 ([] : List Z7) ([] : List Z3))) zn zb .nl .nl zu rfl rfl)
theorem Za5 (x1 : Int) (zl : List Int) (zp : Int) (z6 : Int) (zd : Int) (zh : List Zr) (z1 : Int) (z2 : Int) {r} (h : Z3u x1 zl zp z6 zd zh z1 z2 = some r) : Z2Y x1 zl zp z6 zd zh z1 z2 = some r :=
 pick_of (fun _ _ ha hb => RRun.uniq (Zak _ _ _ _) (ha .ex .ex rfl) (hb .ex .ex rfl)) (fun zn zb zu => Z9X x1 zl zp z6 zd zh z1 z2 zn zb zu r h)
end Go.Proofs.YtadodmjdkphddaaDoor.N2
end
section
set_option linter.unusedSimpArgs false
set_option linter.unusedVariables false
namespace Go.Proofs.YtadodmjdkphddaaDoor.N2
open Go Go.Abs
set_option linter.unusedVariables false
set_option maxRecDepth 100000
noncomputable def Z3i (zl : List Int) (z1 : Int) (z2 : Int) : Option (Int × Int × Int) :=
 some ((zl.length : Int), z1, z2)
theorem Z6y (zl : List Int) (zp : Int) (z6 : Int) (zd : Int) (zh : List Zr) (z1 : Int) (z2 : Int) (zn : Own) (zb : Own) (zu : okApp zb = true) : Sim (Z3Z zl z6 zd zh zn zb) (Z3i zl z1 z2) (ZcC 1 (.ptr 0 0) [(Zj (Zk.mk zl zp z6 zd zh (Zi.mk z1 z2)) zn zb)]) := by
 unfold Z3i
 refine zf (Zg4 ..) ?_
 refine ze ?_
 refine zo (.ptr 0 0) ?_
 refine zo (.ptr 0 0) ?_
 refine zo (.p (.lst (shrO zn) (zl.map (eI .u8)))) ?_
 refine zo (iv (zl.length : Int)) ?_ (Eq.trans (by kernel_rfl) (xlen_of (P := PP) (t := 40) (d := 5) (by kernel_rfl) (eI .u8) (shrO zn) zl))
 refine zo (.ptr 0 0) ?_
 refine zo (.ptr 0 1) ?_
 refine zt [(Zj (Zk.mk zl (zl.length : Int) z6 zd zh (Zi.mk z1 z2)) zn zb)] ?_
 exact zr ((.p (.tup [])), [(Zj (Zk.mk zl (zl.length : Int) z6 zd zh (Zi.mk z1 z2)) zn zb)]) ⟨_, rfl⟩
noncomputable def Z4R (x1 : Int) (x2 : Int) (zl : List Int) (z1 : Int) (z2 : Int) : Option (Int × Int × Int) :=
 if ((z1 == 0)) = true then
 (Z3i zl x1 x2)
 else
 (Z3i zl z1 z2)
theorem Zan (x1 : Int) (x2 : Int) (zl : List Int) (zp : Int) (z6 : Int) (zd : Int) (zh : List Zr) (z1 : Int) (z2 : Int) (zn : Own) (zb : Own) (zu : okApp zb = true) : Sim (Z3Z zl z6 zd zh zn zb) (Z4R x1 x2 zl z1 z2) (EE 29 [(.ptr 0 0), (iv x1), (iv x2)] [(Zj (Zk.mk zl zp z6 zd zh (Zi.mk z1 z2)) zn zb)]) := by
 unfold Z4R
 refine zf (Zir ..) ?_
 refine ze ?_
 refine zo (.ptr 0 0) ?_
 refine zo (.ptr 0 5) ?_
 refine zo (.ptr 0 5) ?_
 refine zo (iv z1) ?_
 refine zo (bv (z1 == 0)) ?_
 refine za ((z1 == 0)) ?_ ?_
 ·refine ze ?_
  refine zo (.p (.agg (Z11 (Zi.mk x1 x2)))) ?_
  refine zo (.ptr 0 0) ?_
  refine zo (.ptr 0 5) ?_
  refine zt [(Zj (Zk.mk zl zp z6 zd zh (Zi.mk x1 x2)) zn zb)] ?_
  exact zk (Z6y (zl) (zp) (z6) (zd) (zh) (x1) (x2) zn zb zu)
 ·exact zk (Z6y (zl) (zp) (z6) (zd) (zh) (z1) (z2) zn zb zu)
theorem Z7G (x1 : Int) (x2 : Int) (zl : List Int) (z1 : Int) (z2 : Int) {r} (h : Z4R x1 x2 zl z1 z2 = some r) : ZT x1 x2 zl z1 z2 = some r :=
 pick_of (fun _ _ ha hb => RRun.uniq (Zbh _ _ _ _ _ _) (ha default default default default .ex .ex rfl) (hb default default default default .ex .ex rfl)) (fun zp z6 zd zh zn zb zu => Zan x1 x2 zl zp z6 zd zh z1 z2 zn zb zu r h)
noncomputable def Z1P  : Option ((Own × (List Z7))) :=
 some ((.nl, ([] : List Z7)))
theorem Z24  : Sim (Z4K) (Z1P) (Z6E 0  []) := by
 unfold Z1P
 refine zf (Zfn ..) ?_
 refine ze ?_
 exact zr ((.p (.lst .nl [])), []) ⟨_, rfl⟩
noncomputable def Z2D (x0 : Int) : Option ((Own × (List Z7))) :=
 if ((x0 == 100)) = true then
 (if ((x0 == 100)) = true then
 (some ((.ex, ([(Z7.mk 48 57)] : List Z7))))
 else
 (if ((x0 == 119)) = true then
 (if ((x0 == 119)) = true then
 ((Z1y 95).bind fun r1 =>
 some ((.ex, ([(Z7.mk 48 57), (Z7.mk 65 90), r1, (Z7.mk 97 122)] : List Z7))))
 else
 (if ((x0 == 115)) = true then
 (if ((x0 == 115)) = true then
 ((Z1y 32).bind fun r2 =>
 some ((.ex, ([(Z7.mk 9 13), r2] : List Z7))))
 else
 (Z1P))
 else
 (if ((x0 == 83)) = true then
 ((Z1y 32).bind fun r3 =>
 some ((.ex, ([(Z7.mk 9 13), r3] : List Z7))))
 else
 (Z1P))))
 else
 (if ((x0 == 87)) = true then
 ((Z1y 95).bind fun r4 =>
 some ((.ex, ([(Z7.mk 48 57), (Z7.mk 65 90), r4, (Z7.mk 97 122)] : List Z7))))
 else
 (if ((x0 == 115)) = true then
 (if ((x0 == 115)) = true then
 ((Z1y 32).bind fun r5 =>
 some ((.ex, ([(Z7.mk 9 13), r5] : List Z7))))
 else
 (Z1P))
 else
 (if ((x0 == 83)) = true then
 ((Z1y 32).bind fun r6 =>
 some ((.ex, ([(Z7.mk 9 13), r6] : List Z7))))
 else
 (Z1P))))))
 else
 (if ((x0 == 68)) = true then
 (some ((.ex, ([(Z7.mk 48 57)] : List Z7))))
 else
 (if ((x0 == 119)) = true then
 (if ((x0 == 119)) = true then
 ((Z1y 95).bind fun r7 =>
 some ((.ex, ([(Z7.mk 48 57), (Z7.mk 65 90), r7, (Z7.mk 97 122)] : List Z7))))
 else
 (if ((x0 == 115)) = true then
 (if ((x0 == 115)) = true then
 ((Z1y 32).bind fun r8 =>
 some ((.ex, ([(Z7.mk 9 13), r8] : List Z7))))
 else
 (Z1P))
 else
 (if ((x0 == 83)) = true then
 ((Z1y 32).bind fun r9 =>
 some ((.ex, ([(Z7.mk 9 13), r9] : List Z7))))
 else
 (Z1P))))
 else
 (if ((x0 == 87)) = true then
 ((Z1y 95).bind fun r10 =>
 some ((.ex, ([(Z7.mk 48 57), (Z7.mk 65 90), r10, (Z7.mk 97 122)] : List Z7))))
 else
 (if ((x0 == 115)) = true then
 (if ((x0 == 115)) = true then
 ((Z1y 32).bind fun r11 =>
 some ((.ex, ([(Z7.mk 9 13), r11] : List Z7))))
 else
 (Z1P))
 else
 (if ((x0 == 83)) = true then
 ((Z1y 32).bind fun r12 =>
 some ((.ex, ([(Z7.mk 9 13), r12] : List Z7))))
 else
 (Z1P))))))
theorem Zbz (x0 : Int) : Sim (Z4K) (Z2D x0) (EE 56 [(iv x0)] []) := by
 unfold Z2D
 refine zf (ZiO ..) ?_
 refine ze ?_
 refine ze ?_
 refine ze ?_
 refine zo (bv (x0 == 100)) ?_
 refine za ((x0 == 100)) ?_ ?_
 ·refine za ((x0 == 100)) ?_ ?_
  ·refine ze ?_
   refine zo (.p (.agg (ZG (Z7.mk 48 57)))) ?_
   refine zo (.p (.lst .ex (([(Z7.mk 48 57)] : List Z7).map Zs))) ?_
   exact zr ((.p (.lst .ex (([(Z7.mk 48 57)] : List Z7).map Zs))), []) ⟨_, rfl⟩
  ·refine ze ?_
   refine zo (bv (x0 == 119)) ?_
   refine za ((x0 == 119)) ?_ ?_
   ·refine za ((x0 == 119)) ?_ ?_
    ·refine ze ?_
     refine zo (.p (.agg (ZG (Z7.mk 48 57)))) ?_
     refine zo (.p (.agg (ZG (Z7.mk 65 90)))) ?_
     refine zi fun r1 hr1 => ?_
     obtain ⟨qr1, er1, exr1, rfl⟩ := Z1s (95) r1 hr1
     refine zc [] (.p (.agg (ZG r1))) [] er1 ?_
     refine zo (.p (.agg (ZG (Z7.mk 97 122)))) ?_
     refine zo (.p (.lst .ex (([(Z7.mk 48 57), (Z7.mk 65 90), r1, (Z7.mk 97 122)] : List Z7).map Zs))) ?_
     exact zr ((.p (.lst .ex (([(Z7.mk 48 57), (Z7.mk 65 90), r1, (Z7.mk 97 122)] : List Z7).map Zs))), []) ⟨_, rfl⟩
    ·refine ze ?_
     refine zo (bv (x0 == 115)) ?_
     refine za ((x0 == 115)) ?_ ?_
     ·refine za ((x0 == 115)) ?_ ?_
      ·refine ze ?_
       refine zo (.p (.agg (ZG (Z7.mk 9 13)))) ?_
       refine zi fun r2 hr2 => ?_
       obtain ⟨qr2, er2, exr2, rfl⟩ := Z1s (32) r2 hr2
       refine zc [] (.p (.agg (ZG r2))) [] er2 ?_
       refine zo (.p (.lst .ex (([(Z7.mk 9 13), r2] : List Z7).map Zs))) ?_
       exact zr ((.p (.lst .ex (([(Z7.mk 9 13), r2] : List Z7).map Zs))), []) ⟨_, rfl⟩
      ·exact zk (Z24 )
     ·refine ze ?_
      refine zo (bv (x0 == 83)) ?_
      refine za ((x0 == 83)) ?_ ?_
      ·refine ze ?_
       refine zo (.p (.agg (ZG (Z7.mk 9 13)))) ?_
       refine zi fun r3 hr3 => ?_
       obtain ⟨qr3, er3, exr3, rfl⟩ := Z1s (32) r3 hr3
       refine zc [] (.p (.agg (ZG r3))) [] er3 ?_
       refine zo (.p (.lst .ex (([(Z7.mk 9 13), r3] : List Z7).map Zs))) ?_
       exact zr ((.p (.lst .ex (([(Z7.mk 9 13), r3] : List Z7).map Zs))), []) ⟨_, rfl⟩
      ·exact zk (Z24 )
   ·refine ze ?_
    refine zo (bv (x0 == 87)) ?_
    refine za ((x0 == 87)) ?_ ?_
    ·refine ze ?_
     refine zo (.p (.agg (ZG (Z7.mk 48 57)))) ?_
     refine zo (.p (.agg (ZG (Z7.mk 65 90)))) ?_
     refine zi fun r4 hr4 => ?_
     obtain ⟨qr4, er4, exr4, rfl⟩ := Z1s (95) r4 hr4
     refine zc [] (.p (.agg (ZG r4))) [] er4 ?_
     refine zo (.p (.agg (ZG (Z7.mk 97 122)))) ?_
     refine zo (.p (.lst .ex (([(Z7.mk 48 57), (Z7.mk 65 90), r4, (Z7.mk 97 122)] : List Z7).map Zs))) ?_
     exact zr ((.p (.lst .ex (([(Z7.mk 48 57), (Z7.mk 65 90), r4, (Z7.mk 97 122)] : List Z7).map Zs))), []) ⟨_, rfl⟩
    ·refine ze ?_
     refine zo (bv (x0 == 115)) ?_
     refine za ((x0 == 115)) ?_ ?_
     ·refine za ((x0 == 115)) ?_ ?_
      ·refine ze ?_
       refine zo (.p (.agg (ZG (Z7.mk 9 13)))) ?_
       refine zi fun r5 hr5 => ?_
       obtain ⟨qr5, er5, exr5, rfl⟩ := Z1s (32) r5 hr5
       refine zc [] (.p (.agg (ZG r5))) [] er5 ?_
       refine zo (.p (.lst .ex (([(Z7.mk 9 13), r5] : List Z7).map Zs))) ?_
       exact zr ((.p (.lst .ex (([(Z7.mk 9 13), r5] : List Z7).map Zs))), []) ⟨_, rfl⟩
      ·exact zk (Z24 )
     ·refine ze ?_
      refine zo (bv (x0 == 83)) ?_
      refine za ((x0 == 83)) ?_ ?_
      ·refine ze ?_
       refine zo (.p (.agg (ZG (Z7.mk 9 13)))) ?_
       refine zi fun r6 hr6 => ?_
       obtain ⟨qr6, er6, exr6, rfl⟩ := Z1s (32) r6 hr6
       refine zc [] (.p (.agg (ZG r6))) [] er6 ?_
       refine zo (.p (.lst .ex (([(Z7.mk 9 13), r6] : List Z7).map Zs))) ?_
       exact zr ((.p (.lst .ex (([(Z7.mk 9 13), r6] : List Z7).map Zs))), []) ⟨_, rfl⟩
      ·exact zk (Z24 )
 ·refine ze ?_
  refine zo (bv (x0 == 68)) ?_
  refine za ((x0 == 68)) ?_ ?_
  ·refine ze ?_
   refine zo (.p (.agg (ZG (Z7.mk 48 57)))) ?_
   refine zo (.p (.lst .ex (([(Z7.mk 48 57)] : List Z7).map Zs))) ?_
   exact zr ((.p (.lst .ex (([(Z7.mk 48 57)] : List Z7).map Zs))), []) ⟨_, rfl⟩
  ·refine ze ?_
   refine zo (bv (x0 == 119)) ?_
   refine za ((x0 == 119)) ?_ ?_
   ·refine za ((x0 == 119)) ?_ ?_
    ·refine ze ?_
     refine zo (.p (.agg (ZG (Z7.mk 48 57)))) ?_
     refine zo (.p (.agg (ZG (Z7.mk 65 90)))) ?_
     refine zi fun r7 hr7 => ?_
     obtain ⟨qr7, er7, exr7, rfl⟩ := Z1s (95) r7 hr7
     refine zc [] (.p (.agg (ZG r7))) [] er7 ?_
     refine zo (.p (.agg (ZG (Z7.mk 97 122)))) ?_
     refine zo (.p (.lst .ex (([(Z7.mk 48 57), (Z7.mk 65 90), r7, (Z7.mk 97 122)] : List Z7).map Zs))) ?_
     exact zr ((.p (.lst .ex (([(Z7.mk 48 57), (Z7.mk 65 90), r7, (Z7.mk 97 122)] : List Z7).map Zs))), []) ⟨_, rfl⟩
    ·refine ze ?_
     refine zo (bv (x0 == 115)) ?_
     refine za ((x0 == 115)) ?_ ?_
     ·refine za ((x0 == 115)) ?_ ?_
      ·refine ze ?_
       refine zo (.p (.agg (ZG (Z7.mk 9 13)))) ?_
       refine zi fun r8 hr8 => ?_
       obtain ⟨qr8, er8, exr8, rfl⟩ := Z1s (32) r8 hr8
       refine zc [] (.p (.agg (ZG r8))) [] er8 ?_
       refine zo (.p (.lst .ex (([(Z7.mk 9 13), r8] : List Z7).map Zs))) ?_
       exact zr ((.p (.lst .ex (([(Z7.mk 9 13), r8] : List Z7).map Zs))), []) ⟨_, rfl⟩
      ·exact zk (Z24 )
     ·refine ze ?_
      refine zo (bv (x0 == 83)) ?_
      refine za ((x0 == 83)) ?_ ?_
      ·refine ze ?_
       refine zo (.p (.agg (ZG (Z7.mk 9 13)))) ?_
       refine zi fun r9 hr9 => ?_
       obtain ⟨qr9, er9, exr9, rfl⟩ := Z1s (32) r9 hr9
       refine zc [] (.p (.agg (ZG r9))) [] er9 ?_
       refine zo (.p (.lst .ex (([(Z7.mk 9 13), r9] : List Z7).map Zs))) ?_
       exact zr ((.p (.lst .ex (([(Z7.mk 9 13), r9] : List Z7).map Zs))), []) ⟨_, rfl⟩
      ·exact zk (Z24 )
   ·refine ze ?_
    refine zo (bv (x0 == 87)) ?_
    refine za ((x0 == 87)) ?_ ?_
    ·refine ze ?_
     refine zo (.p (.agg (ZG (Z7.mk 48 57)))) ?_
     refine zo (.p (.agg (ZG (Z7.mk 65 90)))) ?_
     refine zi fun r10 hr10 => ?_
     obtain ⟨qr10, er10, exr10, rfl⟩ := Z1s (95) r10 hr10
     refine zc [] (.p (.agg (ZG r10))) [] er10 ?_
     refine zo (.p (.agg (ZG (Z7.mk 97 122)))) ?_
     refine zo (.p (.lst .ex (([(Z7.mk 48 57), (Z7.mk 65 90), r10, (Z7.mk 97 122)] : List Z7).map Zs))) ?_
     exact zr ((.p (.lst .ex (([(Z7.mk 48 57), (Z7.mk 65 90), r10, (Z7.mk 97 122)] : List Z7).map Zs))), []) ⟨_, rfl⟩
    ·refine ze ?_
     refine zo (bv (x0 == 115)) ?_
     refine za ((x0 == 115)) ?_ ?_
     ·refine za ((x0 == 115)) ?_ ?_
      ·refine ze ?_
       refine zo (.p (.agg (ZG (Z7.mk 9 13)))) ?_
       refine zi fun r11 hr11 => ?_
       obtain ⟨qr11, er11, exr11, rfl⟩ := Z1s (32) r11 hr11
       refine zc [] (.p (.agg (ZG r11))) [] er11 ?_
       refine zo (.p (.lst .ex (([(Z7.mk 9 13), r11] : List Z7).map Zs))) ?_
       exact zr ((.p (.lst .ex (([(Z7.mk 9 13), r11] : List Z7).map Zs))), []) ⟨_, rfl⟩
      ·exact zk (Z24 )
     ·refine ze ?_
      refine zo (bv (x0 == 83)) ?_
      refine za ((x0 == 83)) ?_ ?_
      ·refine ze ?_
       refine zo (.p (.agg (ZG (Z7.mk 9 13)))) ?_
       refine zi fun r12 hr12 => ?_
       obtain ⟨qr12, er12, exr12, rfl⟩ := Z1s (32) r12 hr12
       refine zc [] (.p (.agg (ZG r12))) [] er12 ?_
       refine zo (.p (.lst .ex (([(Z7.mk 9 13), r12] : List Z7).map Zs))) ?_
       exact zr ((.p (.lst .ex (([(Z7.mk 9 13), r12] : List Z7).map Zs))), []) ⟨_, rfl⟩
      ·exact zk (Z24 )
theorem ZbE (x0 : Int) {r} (h : Z2D x0 = some r) : Z4J x0 = some r :=
 pick_of (fun _ _ ha hb => RRun.uniq (ZbM) (ha ) (hb )) (Zbz x0 r h)
noncomputable def Z1U (x2 : Int) (zl : List Int) (z1 : Int) (z2 : Int) : Option (Int × Int × Int × Int) :=
 (ZT 21 x2 zl z1 z2).bind fun r1 =>
 some (0, r1.1, r1.2.1, r1.2.2)
theorem Z2Z (x2 : Int) (zl : List Int) (zp : Int) (z6 : Int) (zd : Int) (zh : List Zr) (z1 : Int) (z2 : Int) (zn : Own) (zb : Own) (zu : okApp zb = true) : Sim (Z35 zl z6 zd zh zn zb) (Z1U x2 zl z1 z2) (Z8Y 1 (.ptr 0 0) (iv x2) [(Zj (Zk.mk zl zp z6 zd zh (Zi.mk z1 z2)) zn zb)]) := by
 unfold Z1U
 refine zf (ZfF ..) ?_
 refine ze ?_
 refine zi fun r1 hr1 => ?_
 obtain ⟨qr1, er1, exr1, rfl⟩ := ZX (21) (x2) (zl) (zp) (z6) (zd) (zh) (z1) (z2) zn zb zu r1 hr1
 refine zc [0] (.p (.tup [])) [(Zj (Zk.mk zl r1.1 z6 zd zh (Zi.mk r1.2.1 r1.2.2)) zn zb)] er1 ?_
 refine ze ?_
 exact zr ((iv 0), [(Zj (Zk.mk zl r1.1 z6 zd zh (Zi.mk r1.2.1 r1.2.2)) zn zb)]) ⟨_, rfl⟩
noncomputable def Z5H (x1 : Int) (zp : Int) (z1 : Int) (z2 : Int) : Option (Int × Int × Int × Int) :=
 some (x1, zp, z1, z2)
theorem Z8X (x1 : Int) (zl : List Int) (zp : Int) (z6 : Int) (zd : Int) (zh : List Zr) (z1 : Int) (z2 : Int) (zn : Own) (zb : Own) (zu : okApp zb = true) : Sim (Z35 zl z6 zd zh zn zb) (Z5H x1 zp z1 z2) (Zdf 1 (iv x1) [(Zj (Zk.mk zl zp z6 zd zh (Zi.mk z1 z2)) zn zb)]) := by
 unfold Z5H
 refine zf (ZfD ..) ?_
 refine ze ?_
 exact zr ((iv x1), [(Zj (Zk.mk zl zp z6 zd zh (Zi.mk z1 z2)) zn zb)]) ⟨_, rfl⟩
noncomputable def Z5z (x1 : Int) (x2 : Int) (zl : List Int) (zp : Int) (z6 : Int) (zd : Int) (zh : List Zr) (z1 : Int) (z2 : Int) : Option (Int × Int × Int × Int) :=
 if ((x1 == 110)) = true then
 (some (10, zp, z1, z2))
 else
 (if ((x1 == 116)) = true then
 (some (9, zp, z1, z2))
 else
 (if ((x1 == 114)) = true then
 (some (13, zp, z1, z2))
 else
 (if ((x1 == 120)) = true then
 ((Z1F ((Zk.mk zl zp z6 zd zh (Zi.mk z1 z2)))).bind fun r1 =>
 (Z7S r1).bind fun r2 =>
 if ((decide (0 ≤ r2))) = true then
 ((Z22 zl zp).bind fun r3 =>
 (Z1F ((Zk.mk zl r3.2 z6 zd zh (Zi.mk z1 z2)))).bind fun r4 =>
 (Z7S r4).bind fun r5 =>
 if ((decide (0 ≤ r5))) = true then
 ((Z22 zl r3.2).bind fun r6 =>
 some ((IntKind.i64.wrap ((IntKind.i64.wrap (16 * r2)) + r5)), r6.2, z1, z2))
 else
 (Z1U x2 zl z1 z2))
 else
 (Z1U x2 zl z1 z2))
 else
 (if ((decide (32 < x1))) = true then
 (if ((decide (x1 < 127))) = true then
 ((Z61 (([(Z7.mk 48 57), (Z7.mk 65 90), (Z7.mk 97 122)] : List Z7)) x1).bind fun r7 =>
 if ((!r7)) = true then
 (Z5H x1 zp z1 z2)
 else
 (Z1U x2 zl z1 z2))
 else
 (Z1U x2 zl z1 z2))
 else
 (Z1U x2 zl z1 z2)))))
theorem Zad (x1 : Int) (x2 : Int) (zl : List Int) (zp : Int) (z6 : Int) (zd : Int) (zh : List Zr) (z1 : Int) (z2 : Int) (zn : Own) (zb : Own) (zu : okApp zb = true) : Sim (Z35 zl z6 zd zh zn zb) (Z5z x1 x2 zl zp z6 zd zh z1 z2) (EE 57 [(.ptr 0 0), (iv x1), (iv x2)] [(Zj (Zk.mk zl zp z6 zd zh (Zi.mk z1 z2)) zn zb)]) := by
 unfold Z5z
 refine zf (Zih ..) ?_
 refine ze ?_
 refine ze ?_
 refine zo (bv (x1 == 110)) ?_
 refine za ((x1 == 110)) ?_ ?_
 ·refine ze ?_
  exact zr ((iv 10), [(Zj (Zk.mk zl zp z6 zd zh (Zi.mk z1 z2)) zn zb)]) ⟨_, rfl⟩
 ·refine ze ?_
  refine zo (bv (x1 == 116)) ?_
  refine za ((x1 == 116)) ?_ ?_
  ·refine ze ?_
   exact zr ((iv 9), [(Zj (Zk.mk zl zp z6 zd zh (Zi.mk z1 z2)) zn zb)]) ⟨_, rfl⟩
  ·refine ze ?_
   refine zo (bv (x1 == 114)) ?_
   refine za ((x1 == 114)) ?_ ?_
   ·refine ze ?_
    exact zr ((iv 13), [(Zj (Zk.mk zl zp z6 zd zh (Zi.mk z1 z2)) zn zb)]) ⟨_, rfl⟩
   ·refine ze ?_
    refine zo (bv (x1 == 120)) ?_
    refine za ((x1 == 120)) ?_ ?_
    ·refine ze ?_
     refine zi fun r1 hr1 => ?_
     obtain ⟨qr1, er1, exr1, rfl⟩ := Z1I ((Zk.mk zl zp z6 zd zh (Zi.mk z1 z2))) zn zb zu r1 hr1
     refine zc [0] (iv r1) [(Zj (Zk.mk zl zp z6 zd zh (Zi.mk z1 z2)) zn zb)] er1 ?_
     refine zi fun r2 hr2 => ?_
     obtain ⟨qr2, er2, exr2, rfl⟩ := Zbe (r1) r2 hr2
     refine zc [] (iv r2) [(Zj (Zk.mk zl zp z6 zd zh (Zi.mk z1 z2)) zn zb)] er2 ?_
     refine ze ?_
     refine zo (bv (decide (0 ≤ r2))) ?_
     refine za ((decide (0 ≤ r2))) ?_ ?_
     ·refine ze ?_
      refine zi fun r3 hr3 => ?_
      obtain ⟨qr3, er3, exr3, rfl⟩ := Z2o (zl) (zp) (z6) (zd) (zh) (z1) (z2) zn zb zu r3 hr3
      refine zc [0] (iv r3.1) [(Zj (Zk.mk zl r3.2 z6 zd zh (Zi.mk z1 z2)) zn zb)] er3 ?_
      refine ze ?_
      refine zi fun r4 hr4 => ?_
      obtain ⟨qr4, er4, exr4, rfl⟩ := Z1I ((Zk.mk zl r3.2 z6 zd zh (Zi.mk z1 z2))) zn zb zu r4 hr4
      refine zc [0] (iv r4) [(Zj (Zk.mk zl r3.2 z6 zd zh (Zi.mk z1 z2)) zn zb)] er4 ?_
      refine zi fun r5 hr5 => ?_
      obtain ⟨qr5, er5, exr5, rfl⟩ := Zbe (r4) r5 hr5
      refine zc [] (iv r5) [(Zj (Zk.mk zl r3.2 z6 zd zh (Zi.mk z1 z2)) zn zb)] er5 ?_
      refine ze ?_
      refine zo (bv (decide (0 ≤ r5))) ?_
      refine za ((decide (0 ≤ r5))) ?_ ?_
      ·refine ze ?_
       refine zi fun r6 hr6 => ?_
       obtain ⟨qr6, er6, exr6, rfl⟩ := Z2o (zl) (r3.2) (z6) (zd) (zh) (z1) (z2) zn zb zu r6 hr6
       refine zc [0] (iv r6.1) [(Zj (Zk.mk zl r6.2 z6 zd zh (Zi.mk z1 z2)) zn zb)] er6 ?_
       refine ze ?_
       refine zo (iv (IntKind.i64.wrap (16 * r2))) ?_
       refine zo (iv (IntKind.i64.wrap ((IntKind.i64.wrap (16 * r2)) + r5))) ?_
       exact zr ((iv (IntKind.i64.wrap ((IntKind.i64.wrap (16 * r2)) + r5))), [(Zj (Zk.mk zl r6.2 z6 zd zh (Zi.mk z1 z2)) zn zb)]) ⟨_, rfl⟩
      ·exact zk (Z2Z (x2) (zl) (r3.2) (z6) (zd) (zh) (z1) (z2) zn zb zu)
     ·exact zk (Z2Z (x2) (zl) (zp) (z6) (zd) (zh) (z1) (z2) zn zb zu)
    ·refine ze ?_
     refine zo (bv (decide (32 < x1))) ?_
     refine za ((decide (32 < x1))) ?_ ?_
     ·refine zo (bv (decide (x1 < 127))) ?_
      refine za ((decide (x1 < 127))) ?_ ?_
      ·refine zo (.p (.agg (ZG (Z7.mk 48 57)))) ?_
       refine zo (.p (.agg (ZG (Z7.mk 65 90)))) ?_
       refine zo (.p (.agg (ZG (Z7.mk 97 122)))) ?_
       refine zo (.p (.lst .ex (([(Z7.mk 48 57), (Z7.mk 65 90), (Z7.mk 97 122)] : List Z7).map Zs))) ?_
       refine zi fun r7 hr7 => ?_
       obtain ⟨qr7, er7, exr7, rfl⟩ := Zc2 (([(Z7.mk 48 57), (Z7.mk 65 90), (Z7.mk 97 122)] : List Z7)) (x1) .sh r7 hr7
       refine zc [] (bv r7) [(Zj (Zk.mk zl zp z6 zd zh (Zi.mk z1 z2)) zn zb)] er7 ?_
       refine zo (bv (!r7)) ?_
       refine za ((!r7)) ?_ ?_
       ·exact zk (Z8X (x1) (zl) (zp) (z6) (zd) (zh) (z1) (z2) zn zb zu)
       ·exact zk (Z2Z (x2) (zl) (zp) (z6) (zd) (zh) (z1) (z2) zn zb zu)
      ·exact zk (Z2Z (x2) (zl) (zp) (z6) (zd) (zh) (z1) (z2) zn zb zu)
     ·exact zk (Z2Z (x2) (zl) (zp) (z6) (zd) (zh) (z1) (z2) zn zb zu)
theorem Zai (x1 : Int) (x2 : Int) (zl : List Int) (zp : Int) (z6 : Int) (zd : Int) (zh : List Zr) (z1 : Int) (z2 : Int) {r} (h : Z5z x1 x2 zl zp z6 zd zh z1 z2 = some r) : Z4B x1 x2 zl zp z6 zd zh z1 z2 = some r :=
 pick_of (fun _ _ ha hb => RRun.uniq (ZaM _ _ _ _ _ _) (ha .ex .ex rfl) (hb .ex .ex rfl)) (fun zn zb zu => Zad x1 x2 zl zp z6 zd zh z1 z2 zn zb zu r h)
noncomputable def Z7d (x0 : Int) : Option (Int) :=
 some ((IntKind.i64.wrap (x0 - 48)))
theorem ZbS (x0 : Int) : Sim (Z50) (Z7d x0) (Ze3 0 (iv x0) []) := by
 unfold Z7d
 refine zf (Zg9 ..) ?_
 refine ze ?_
 refine zo (iv (IntKind.i64.wrap (x0 - 48))) ?_
 exact zr ((iv (IntKind.i64.wrap (x0 - 48))), []) ⟨_, rfl⟩
noncomputable def Z7b (x0 : Int) : Option (Int) :=
 some ((IntKind.i64.wrap ((IntKind.i64.wrap (x0 - 97)) + 10)))
theorem ZbX (x0 : Int) : Sim (Z50) (Z7b x0) (Zej 0 (iv x0) []) := by
 unfold Z7b
 refine zf (Zgg ..) ?_
 refine ze ?_
 refine zo (iv (IntKind.i64.wrap (x0 - 97))) ?_
 refine zo (iv (IntKind.i64.wrap ((IntKind.i64.wrap (x0 - 97)) + 10))) ?_
 exact zr ((iv (IntKind.i64.wrap ((IntKind.i64.wrap (x0 - 97)) + 10))), []) ⟨_, rfl⟩
noncomputable def Z6l  : Option (Int) :=
 some ((-1))
theorem Z9j  : Sim (Z50) (Z6l) (Zd0 0  []) := by
 unfold Z6l
 refine zf (ZfZ ..) ?_
 refine ze ?_
 exact zr ((iv (-1)), []) ⟨_, rfl⟩
noncomputable def Z6d (x0 : Int) : Option (Int) :=
 if ((decide (97 ≤ x0))) = true then
 (if ((decide (x0 ≤ 102))) = true then
 (Z7b x0)
 else
 (Z6l))
 else
 (Z6l)
theorem Z9g (x0 : Int) : Sim (Z50) (Z6d x0) (ZcH 0 (iv x0) []) := by
 unfold Z6d
 refine zf (Zgs ..) ?_
 refine ze ?_
 refine zo (bv (decide (97 ≤ x0))) ?_
 refine za ((decide (97 ≤ x0))) ?_ ?_
 ·refine zo (bv (decide (x0 ≤ 102))) ?_
  refine za ((decide (x0 ≤ 102))) ?_ ?_
  ·exact zk (ZbX (x0))
  ·exact zk (Z9j )
 ·exact zk (Z9j )
noncomputable def Z98 (x0 : Int) : Option (Int) :=
 if ((decide (48 ≤ x0))) = true then
 (if ((decide (x0 ≤ 57))) = true then
 (Z7d x0)
 else
 (Z6d x0))
 else
 (Z6d x0)
theorem ZcM (x0 : Int) : Sim (Z50) (Z98 x0) (EE 71 [(iv x0)] []) := by
 unfold Z98
 refine zf (ZhF ..) ?_
 refine ze ?_
 refine ze ?_
 refine zo (bv (decide (48 ≤ x0))) ?_
 refine za ((decide (48 ≤ x0))) ?_ ?_
 ·refine zo (bv (decide (x0 ≤ 57))) ?_
  refine za ((decide (x0 ≤ 57))) ?_ ?_
  ·exact zk (ZbS (x0))
  ·exact zk (Z9g (x0))
 ·exact zk (Z9g (x0))
theorem Zdk (x0 : Int) {r} (h : Z98 x0 = some r) : Z7S x0 = some r :=
 pick_of (fun _ _ ha hb => RRun.uniq (Zdv) (ha ) (hb )) (ZcM x0 r h)
noncomputable def Z6J (x0 : List Z7) (x1 : Int) : Option (Bool) :=
 (Z3d x0 x1).bind fun r1 =>
 some (r1)
theorem ZbP (x0 : List Z7) (x1 : Int) (ox0 : Own) : Sim (Z5Z) (Z6J x0 x1) (EE 19 [(.p (.lst ox0 (x0.map Zs))), (iv x1)] []) := by
 unfold Z6J
 refine zf (ZhI ..) ?_
 refine ze ?_
 refine zx (.ptr 0 0) [[(iv x1)]] ?_
 refine ze ?_
 refine zi fun r1 hr1 => ?_
 obtain ⟨qr1, er1, exr1, rfl⟩ := Z7D (x0) (x1) .sh r1 hr1
 refine zc [0] (bv r1) [[(iv x1)]] er1 ?_
 exact zr ((bv r1), [[(iv x1)]]) ⟨_, rfl⟩
theorem ZbW (x0 : List Z7) (x1 : Int) {r} (h : Z6J x0 x1 = some r) : Z61 x0 x1 = some r :=
 pick_of (fun _ _ ha hb => RRun.uniq (Zcj) (ha .ex) (hb .ex)) (fun ox0 => ZbP x0 x1 ox0 r h)
noncomputable def Z3g (x0 : List Z7) (zZ : Int) : Option (Bool) :=
 (Z3T x0 zZ).bind fun r1 =>
 some ((decide (0 ≤ r1)))
theorem Z7h (x0 : List Z7) (zZ : Int) (ox0 : Own) : Sim (Z2J zZ) (Z3g x0 zZ) (EE 30 [(.p (.lst ox0 (x0.map Zs))), (.clo 31 [] [(.ptr 0 0)])] [[(iv zZ)]]) := by
 unfold Z3g
 refine zf (Zib ..) ?_
 refine ze ?_
 refine ze ?_
 refine zi fun r1 hr1 => ?_
 obtain ⟨qr1, er1, exr1, rfl⟩ := Z8n (x0) (zZ) .sh r1 hr1
 refine zc [0] (iv r1) [[(iv zZ)]] er1 ?_
 refine zo (bv (decide (0 ≤ r1))) ?_
 exact zr ((bv (decide (0 ≤ r1))), [[(iv zZ)]]) ⟨_, rfl⟩
theorem Z7A (x0 : List Z7) (zZ : Int) {r} (h : Z3g x0 zZ = some r) : Z3d x0 zZ = some r :=
 pick_of (fun _ _ ha hb => RRun.uniq (Z7R _) (ha .ex) (hb .ex)) (fun ox0 => Z7h x0 zZ ox0 r h)
noncomputable def Z3Q (x0 : List Z7) (zZ : Int) : Option (Int) :=
 Z2K x0 ((x0.length : Int)) 0 zZ
theorem Z83 (x0 : List Z7) (zZ : Int) (ox0 : Own) : Sim (Z1p zZ) (Z3Q x0 zZ) (EE 37 [(.p (.lst ox0 (x0.map Zs))), (.clo 31 [] [(.ptr 0 0)])] [[(iv zZ)]]) := by
 unfold Z3Q
 refine zf (ZiP ..) ?_
 refine ze ?_
 refine ze ?_
 refine zo (iv (x0.length : Int)) ?_ (Eq.trans (by kernel_rfl) (xlen_of (P := PP) (t := 24) (d := 39) (by kernel_rfl) Zs (shrO ox0) x0))
 exact zk (Z5s (x0) ((x0.length : Int)) (0) (zZ) ox0)
theorem Z8l (x0 : List Z7) (zZ : Int) {r} (h : Z3Q x0 zZ = some r) : Z3T x0 zZ = some r :=
 pick_of (fun _ _ ha hb => RRun.uniq (Z62 _) (ha .ex) (hb .ex)) (fun ox0 => Z83 x0 zZ ox0 r h)
noncomputable def Z3h (x0 : List Z7) (x7 : Int) (x8 : Int) (zZ : Int) : Option (Int) :=
 Z2K x0 x7 ((IntKind.i64.wrap (x8 + 1))) zZ
theorem Z7f (x0 : List Z7) (x7 : Int) (x8 : Int) (zZ : Int) (ox0 : Own) : Sim (Z1p zZ) (Z3h x0 x7 x8 zZ) (ZdZ 1 (.p (.lst ox0 (x0.map Zs))) (.clo 31 [] [(.ptr 0 0)]) (iv x7) (iv x8) [[(iv zZ)]]) := by
 unfold Z3h
 refine zf (Zg6 ..) ?_
 refine ze ?_
 refine zo (iv (IntKind.i64.wrap (x8 + 1))) ?_
 exact zk (Z5s (x0) (x7) ((IntKind.i64.wrap (x8 + 1))) (zZ) ox0)
noncomputable def Z2H (x0 : List Z7) (x7 : Int) (x8 : Int) (zZ : Int) : Option (Int) :=
 (lget x0 x8).bind fun a1 =>
 (Z6b a1 zZ).bind fun r2 =>
 if (r2) = true then
 (some (x8))
 else
 (Z3h x0 x7 x8 zZ)
theorem Z7c (x0 : List Z7) (x7 : Int) (x8 : Int) (zZ : Int) (ox0 : Own) : Sim (Z1p zZ) (Z2H x0 x7 x8 zZ) (ZdE 1 (.p (.lst ox0 (x0.map Zs))) (.clo 31 [] [(.ptr 0 0)]) (iv x7) (iv x8) [[(iv zZ)]]) := by
 unfold Z2H
 refine zf (ZfR ..) ?_
 refine ze ?_
 refine ze ?_
 refine zi fun a1 ha1 => ?_
 refine zo (.cptr (ZG a1)) ?_ (Eq.trans (by kernel_rfl) (xidx_of (o := (shrO ox0)) (k := .i64) (n := 2) (e := Zs) (cs := Z3H) (fun _ => rfl) (fun _ => rfl) (by decide) ha1))
 refine zo (.p (.agg (ZG a1))) ?_
 refine zi fun r2 hr2 => ?_
 obtain ⟨qr2, er2, exr2, rfl⟩ := ZbG (a1) (zZ) r2 hr2
 refine zv [0] (bv r2) [[(iv zZ)]] er2 ?_
 refine za (r2) ?_ ?_
 ·refine ze ?_
  exact zr ((iv x8), [[(iv zZ)]]) ⟨_, rfl⟩
 ·exact zk (Z7f (x0) (x7) (x8) (zZ) ox0)
noncomputable def Z4x  : Option (Int) :=
 some ((-1))
theorem Z7n (zZ : Int) : Sim (Z1p zZ) (Z4x) (ZdY 1  [[(iv zZ)]]) := by
 unfold Z4x
 refine zf (ZfV ..) ?_
 refine ze ?_
 exact zr ((iv (-1)), [[(iv zZ)]]) ⟨_, rfl⟩
noncomputable def Z29 (x0 : List Z7) (x7 : Int) (x8 : Int) (zZ : Int) : Option (Int) :=
 if ((decide (x8 < x7))) = true then
 (Z2H x0 x7 x8 zZ)
 else
 (Z4x)
theorem Z7o (x0 : List Z7) (x7 : Int) (x8 : Int) (zZ : Int) (ox0 : Own) : Sim (Z1p zZ) (Z29 x0 x7 x8 zZ) (Zbr 1 (.p (.lst ox0 (x0.map Zs))) (.clo 31 [] [(.ptr 0 0)]) (iv x7) (iv x8) [[(iv zZ)]]) := by
 unfold Z29
 refine zf (Zg1 ..) ?_
 refine ze ?_
 refine zo (bv (decide (x8 < x7))) ?_
 refine za ((decide (x8 < x7))) ?_ ?_
 ·exact zk (Z7c (x0) (x7) (x8) (zZ) ox0)
 ·exact zk (Z7n (zZ))
theorem Z3X (x0 : List Z7) (x7 : Int) (x8 : Int) (zZ : Int) {r} (h : Z29 x0 x7 x8 zZ = some r) : Z2K x0 x7 x8 zZ = some r :=
 pick_of (fun _ _ ha hb => RRun.uniq (Z62 _) (ha .ex) (hb .ex)) (fun ox0 => Z7o x0 x7 x8 zZ ox0 r h)
noncomputable def Z6a (x0 : Z7) (zZ : Int) : Option (Bool) :=
 if ((decide (x0.Lo ≤ zZ))) = true then
 (some ((decide (zZ ≤ x0.Hi))))
 else
 (some (false))
theorem Zb3 (x0 : Z7) (zZ : Int) : Sim (Z5q zZ) (Z6a x0 zZ) (EE 31 [(.p (.agg (ZG x0))), (.ptr 0 0)] [[(iv zZ)]]) := by
 unfold Z6a
 refine zf (Zii ..) ?_
 refine ze ?_
 refine zx (.ptr 1 0) [[(iv zZ)], (Z1n x0)] ?_
 refine ze ?_
 refine zo (.ptr 1 0) ?_
 refine zo (iv x0.Lo) ?_
 refine zo (iv zZ) ?_
 refine zo (bv (decide (x0.Lo ≤ zZ))) ?_
 refine za ((decide (x0.Lo ≤ zZ))) ?_ ?_
 ·refine zo (iv zZ) ?_
  refine zo (.ptr 1 1) ?_
  refine zo (iv x0.Hi) ?_
  refine zo (bv (decide (zZ ≤ x0.Hi))) ?_
  exact zr ((bv (decide (zZ ≤ x0.Hi))), [[(iv zZ)], (Z1n x0)]) ⟨_, rfl⟩
 ·exact zr ((bv false), [[(iv zZ)], (Z1n x0)]) ⟨_, rfl⟩
theorem ZbB (x0 : Z7) (zZ : Int) {r} (h : Z6a x0 zZ = some r) : Z6b x0 zZ = some r :=
 pick_of (fun _ _ ha hb => RRun.uniq (ZbR _) (ha ) (hb )) (Zb3 x0 zZ r h)
noncomputable def Z4A (x1 : Int) (zl : List Int) (zp : Int) (z6 : Int) (zd : Int) (zh : List Zr) (z1 : Int) (z2 : Int) : Option (Z3 × Int × Int × Int) :=
 (Z15 ((ByteArray.mk #[94])) zl zp).bind fun r1 =>
 Z2L x1 r1.1 0 zl r1.2 z6 zd zh z1 z2 (([] : List Z7))
theorem Za7 (x1 : Int) (zl : List Int) (zp : Int) (z6 : Int) (zd : Int) (zh : List Zr) (z1 : Int) (z2 : Int) (zn : Own) (zb : Own) (zu : okApp zb = true) : Sim (Z19 zl z6 zd zh zn zb) (Z4A x1 zl zp z6 zd zh z1 z2) (EE 50 [(.ptr 0 0), (iv x1)] [(Zj (Zk.mk zl zp z6 zd zh (Zi.mk z1 z2)) zn zb)]) := by
 unfold Z4A
 refine zf (Zig ..) ?_
 refine ze ?_
 refine zz (.ptr 1 0) [(Zj (Zk.mk zl zp z6 zd zh (Zi.mk z1 z2)) zn zb), (Zq (Z3.mk 0 0 0 0 0 ([] : List Z7) ([] : List Z3)) .nl .nl)] ?_
 refine ze ?_
 refine zi fun r1 hr1 => ?_
 obtain ⟨qr1, er1, exr1, rfl⟩ := Z1b ((ByteArray.mk #[94])) (zl) (zp) (z6) (zd) (zh) (z1) (z2) zn zb zu r1 hr1
 refine zc [0] (bv r1.1) [(Zj (Zk.mk zl r1.2 z6 zd zh (Zi.mk z1 z2)) zn zb), (Zq (Z3.mk 0 0 0 0 0 ([] : List Z7) ([] : List Z3)) .nl .nl)] er1 ?_
 refine ze ?_
 refine zz (.ptr 2 0) [(Zj (Zk.mk zl r1.2 z6 zd zh (Zi.mk z1 z2)) zn zb), (Zq (Z3.mk 0 0 0 0 0 ([] : List Z7) ([] : List Z3)) .nl .nl), [(.p (.lst .nl []))]] ?_
 refine ze ?_
 refine ze ?_
 exact zk (Z6C (x1) (r1.1) (0) (zl) (r1.2) (z6) (zd) (zh) (z1) (z2) ((Z3.mk 0 0 0 0 0 ([] : List Z7) ([] : List Z3))) (([] : List Z7)) zn zb .nl .nl .nl zu rfl rfl)
theorem Zap (x1 : Int) (zl : List Int) (zp : Int) (z6 : Int) (zd : Int) (zh : List Zr) (z1 : Int) (z2 : Int) {r} (h : Z4A x1 zl zp z6 zd zh z1 z2 = some r) : Z5u x1 zl zp z6 zd zh z1 z2 = some r :=
 pick_of (fun _ _ ha hb => RRun.uniq (Z7M _ _ _ _ _ _) (ha .ex .ex rfl) (hb .ex .ex rfl)) (fun zn zb zu => Za7 x1 zl zp z6 zd zh z1 z2 zn zb zu r h)
noncomputable def Z1c (x1 : Int) (x5 : Bool) (x8 : Int) (zl : List Int) (zp : Int) (z6 : Int) (zd : Int) (zh : List Zr) (z1 : Int) (z2 : Int) (z10 : List Z7) : Option (Z3 × Int × Int × Int) :=
 Z2L x1 x5 ((IntKind.i64.wrap (x8 + 1))) zl zp z6 zd zh z1 z2 z10
theorem Z1G (x1 : Int) (x5 : Bool) (x8 : Int) (zl : List Int) (zp : Int) (z6 : Int) (zd : Int) (zh : List Zr) (z1 : Int) (z2 : Int) (b1 : Z3) (z10 : List Z7) (zn : Own) (zb : Own) (zB : Own) (zy : Own) (z1d : Own) (zu : okApp zb = true) (zQ : okApp zB = true) (zK : okApp zy = true) : Sim (Z19 zl z6 zd zh zn zb) (Z1c x1 x5 x8 zl zp z6 zd zh z1 z2 z10) (Z6S 1 (.ptr 0 0) (iv x1) (.ptr 1 0) (bv x5) (.ptr 2 0) (.clo 58 [] [(.ptr 2 0)]) (iv x8) [(Zj (Zk.mk zl zp z6 zd zh (Zi.mk z1 z2)) zn zb), (Zq b1 zB zy), [(.p (.lst z1d (z10.map Zs)))]]) := by
 unfold Z1c
 refine zf (Zha ..) ?_
 refine ze ?_
 refine zo (iv (IntKind.i64.wrap (x8 + 1))) ?_
 exact zk (Z6C (x1) (x5) ((IntKind.i64.wrap (x8 + 1))) (zl) (zp) (z6) (zd) (zh) (z1) (z2) (b1) (z10) zn zb zB zy z1d zu zQ zK)
noncomputable def Z3C (zp : Int) (z1 : Int) (z2 : Int) (z10 : List Z7) : Option (Z3 × Int × Int × Int) :=
 some ((Z3.mk 1 0 0 0 0 z10 ([] : List Z3)), zp, z1, z2)
theorem Z6h (zl : List Int) (zp : Int) (z6 : Int) (zd : Int) (zh : List Zr) (z1 : Int) (z2 : Int) (b1 : Z3) (z10 : List Z7) (zn : Own) (zb : Own) (zB : Own) (zy : Own) (z1d : Own) (zu : okApp zb = true) (zQ : okApp zB = true) (zK : okApp zy = true) : Sim (Z19 zl z6 zd zh zn zb) (Z3C zp z1 z2 z10) (Zc7 1 (.ptr 1 0) (.ptr 2 0) [(Zj (Zk.mk zl zp z6 zd zh (Zi.mk z1 z2)) zn zb), (Zq b1 zB zy), [(.p (.lst z1d (z10.map Zs)))]]) := by
 unfold Z3C
 refine zf (Zfp ..) ?_
 refine ze ?_
 refine zo (.p (.lst (shrO z1d) (z10.map Zs))) ?_
 refine zo (.p (.agg (ZE (Z3.mk 1 0 0 0 0 z10 ([] : List Z3)) (shrO (shrO z1d)) .nl))) ?_
 refine zt [(Zj (Zk.mk zl zp z6 zd zh (Zi.mk z1 z2)) zn zb), (Zq (Z3.mk 1 0 0 0 0 z10 ([] : List Z3)) (shrO (shrO z1d)) .nl), [(.p (.lst z1d (z10.map Zs)))]] ?_
 exact zr ((.p (.agg (ZE (Z3.mk 1 0 0 0 0 z10 ([] : List Z3)) .sh .sh))), [(Zj (Zk.mk zl zp z6 zd zh (Zi.mk z1 z2)) zn zb), (Zq (Z3.mk 1 0 0 0 0 z10 ([] : List Z3)) (shrO (shrO z1d)) .nl), [(.p (.lst z1d (z10.map Zs)))]]) ⟨_, rfl⟩
noncomputable def Z4E (x5 : Bool) (zl : List Int) (zp : Int) (z1 : Int) (z2 : Int) (z10 : List Z7) : Option (Z3 × Int × Int × Int) :=
 (Z22 zl zp).bind fun r1 =>
 if (x5) = true then
 ((Z5W z10).bind fun r2 =>
 Z3C r1.2 z1 z2 r2.1)
 else
 (Z3C r1.2 z1 z2 z10)
theorem Z92 (x5 : Bool) (zl : List Int) (zp : Int) (z6 : Int) (zd : Int) (zh : List Zr) (z1 : Int) (z2 : Int) (b1 : Z3) (z10 : List Z7) (zn : Own) (zb : Own) (zB : Own) (zy : Own) (z1d : Own) (zu : okApp zb = true) (zQ : okApp zB = true) (zK : okApp zy = true) : Sim (Z19 zl z6 zd zh zn zb) (Z4E x5 zl zp z1 z2 z10) (Zdn 1 (.ptr 0 0) (.ptr 1 0) (bv x5) (.ptr 2 0) [(Zj (Zk.mk zl zp z6 zd zh (Zi.mk z1 z2)) zn zb), (Zq b1 zB zy), [(.p (.lst z1d (z10.map Zs)))]]) := by
 unfold Z4E
 refine zf (ZfB ..) ?_
 refine ze ?_
 refine zi fun r1 hr1 => ?_
 obtain ⟨qr1, er1, exr1, rfl⟩ := Z2o (zl) (zp) (z6) (zd) (zh) (z1) (z2) zn zb zu r1 hr1
 refine zc [0] (iv r1.1) [(Zj (Zk.mk zl r1.2 z6 zd zh (Zi.mk z1 z2)) zn zb), (Zq b1 zB zy), [(.p (.lst z1d (z10.map Zs)))]] er1 ?_
 refine ze ?_
 refine za (x5) ?_ ?_
 ·refine ze ?_
  refine zo (.p (.lst (shrO z1d) (z10.map Zs))) ?_
  refine zi fun r2 hr2 => ?_
  obtain ⟨qr2, er2, exr2, rfl⟩ := Z9d (z10) .sh r2 hr2
  refine zc [] (.p (.tup [(.lst .sh (r2.1.map Zs)), (.v (.int .i64 r2.2))])) [(Zj (Zk.mk zl r1.2 z6 zd zh (Zi.mk z1 z2)) zn zb), (Zq b1 zB zy), [(.p (.lst z1d (z10.map Zs)))]] er2 ?_
  refine zo (.p (.lst .sh (r2.1.map Zs))) ?_
  refine zo (iv r2.2) ?_
  refine zt [(Zj (Zk.mk zl r1.2 z6 zd zh (Zi.mk z1 z2)) zn zb), (Zq b1 zB zy), [(.p (.lst .sh (r2.1.map Zs)))]] ?_
  exact zk (Z6h (zl) (r1.2) (z6) (zd) (zh) (z1) (z2) (b1) (r2.1) zn zb zB zy .sh zu zQ zK)
 ·exact zk (Z6h (zl) (r1.2) (z6) (zd) (zh) (z1) (z2) (b1) (z10) zn zb zB zy z1d zu zQ zK)
noncomputable def Z2v (x1 : Int) (x5 : Bool) (x8 : Int) (x9 : Int) (zl : List Int) (z6 : Int) (zd : Int) (zh : List Zr) (z1 : Int) (z2 : Int) (z10 : List Z7) : Option (Z3 × Int × Int × Int) :=
 (ZT 22 x9 zl z1 z2).bind fun r1 =>
 Z1c x1 x5 x8 zl r1.1 z6 zd zh r1.2.1 r1.2.2 z10
theorem Z3I (x1 : Int) (x5 : Bool) (x8 : Int) (x9 : Int) (zl : List Int) (zp : Int) (z6 : Int) (zd : Int) (zh : List Zr) (z1 : Int) (z2 : Int) (b1 : Z3) (z10 : List Z7) (zn : Own) (zb : Own) (zB : Own) (zy : Own) (z1d : Own) (zu : okApp zb = true) (zQ : okApp zB = true) (zK : okApp zy = true) : Sim (Z19 zl z6 zd zh zn zb) (Z2v x1 x5 x8 x9 zl z6 zd zh z1 z2 z10) (Za3 1 (.ptr 0 0) (iv x1) (.ptr 1 0) (bv x5) (.ptr 2 0) (.clo 58 [] [(.ptr 2 0)]) (iv x8) (iv x9) [(Zj (Zk.mk zl zp z6 zd zh (Zi.mk z1 z2)) zn zb), (Zq b1 zB zy), [(.p (.lst z1d (z10.map Zs)))]]) := by
 unfold Z2v
 refine zf (Zf6 ..) ?_
 refine ze ?_
 refine zi fun r1 hr1 => ?_
 obtain ⟨qr1, er1, exr1, rfl⟩ := ZX (22) (x9) (zl) (zp) (z6) (zd) (zh) (z1) (z2) zn zb zu r1 hr1
 refine zc [0] (.p (.tup [])) [(Zj (Zk.mk zl r1.1 z6 zd zh (Zi.mk r1.2.1 r1.2.2)) zn zb), (Zq b1 zB zy), [(.p (.lst z1d (z10.map Zs)))]] er1 ?_
 exact zk (Z1G (x1) (x5) (x8) (zl) (r1.1) (z6) (zd) (zh) (r1.2.1) (r1.2.2) (b1) (z10) zn zb zB zy z1d zu zQ zK)
noncomputable def Z1B (x1 : Int) (x5 : Bool) (x8 : Int) (x11 : Int) (x15 : Int) (zl : List Int) (zp : Int) (z6 : Int) (zd : Int) (zh : List Zr) (z1 : Int) (z2 : Int) (z10 : List Z7) : Option (Z3 × Int × Int × Int) :=
 if ((z1 == 0)) = true then
 ((Z43 (([(Z7.mk x11 x15)] : List Z7)) z10).bind fun r1 =>
 Z1c x1 x5 x8 zl zp z6 zd zh z1 z2 r1)
 else
 (Z1c x1 x5 x8 zl zp z6 zd zh z1 z2 z10)
theorem Z3L (x1 : Int) (x5 : Bool) (x8 : Int) (x11 : Int) (x15 : Int) (zl : List Int) (zp : Int) (z6 : Int) (zd : Int) (zh : List Zr) (z1 : Int) (z2 : Int) (b1 : Z3) (z10 : List Z7) (zn : Own) (zb : Own) (zB : Own) (zy : Own) (z1d : Own) (zu : okApp zb = true) (zQ : okApp zB = true) (zK : okApp zy = true) : Sim (Z19 zl z6 zd zh zn zb) (Z1B x1 x5 x8 x11 x15 zl zp z6 zd zh z1 z2 z10) (Z9Z 1 (.ptr 0 0) (iv x1) (.ptr 1 0) (bv x5) (.ptr 2 0) (.clo 58 [] [(.ptr 2 0)]) (iv x8) (iv x11) (iv x15) [(Zj (Zk.mk zl zp z6 zd zh (Zi.mk z1 z2)) zn zb), (Zq b1 zB zy), [(.p (.lst z1d (z10.map Zs)))]]) := by
 unfold Z1B
 refine zf (Zfh ..) ?_
 refine ze ?_
 refine zo (.ptr 0 0) ?_
 refine zo (.ptr 0 5) ?_
 refine zo (.ptr 0 5) ?_
 refine zo (iv z1) ?_
 refine zo (bv (z1 == 0)) ?_
 refine za ((z1 == 0)) ?_ ?_
 ·refine ze ?_
  refine zo (.p (.agg (ZG (Z7.mk x11 x15)))) ?_
  refine zo (.p (.lst .ex (([(Z7.mk x11 x15)] : List Z7).map Zs))) ?_
  refine zi fun r1 hr1 => ?_
  obtain ⟨qr1, er1, or1_0_0, exr1, rfl⟩ := Z6N (([(Z7.mk x11 x15)] : List Z7)) (z10) .sh z1d r1 hr1
  refine zv [2] (.p (.tup [])) [(Zj (Zk.mk zl zp z6 zd zh (Zi.mk z1 z2)) zn zb), (Zq b1 zB zy), [(.p (.lst or1_0_0 (r1.map Zs)))]] er1 ?_
  exact zk (Z1G (x1) (x5) (x8) (zl) (zp) (z6) (zd) (zh) (z1) (z2) (b1) (r1) zn zb zB zy or1_0_0 zu zQ zK)
 ·exact zk (Z1G (x1) (x5) (x8) (zl) (zp) (z6) (zd) (zh) (z1) (z2) (b1) (z10) zn zb zB zy z1d zu zQ zK)
noncomputable def Z2V (x1 : Int) (x5 : Bool) (x8 : Int) (x9 : Int) (x11 : Int) (x15 : Int) (zl : List Int) (z6 : Int) (zd : Int) (zh : List Zr) (z1 : Int) (z2 : Int) (z10 : List Z7) : Option (Z3 × Int × Int × Int) :=
 (ZT 22 x9 zl z1 z2).bind fun r1 =>
 Z1B x1 x5 x8 x11 x15 zl r1.1 z6 zd zh r1.2.1 r1.2.2 z10
theorem Z6e (x1 : Int) (x5 : Bool) (x8 : Int) (x9 : Int) (x11 : Int) (x15 : Int) (zl : List Int) (zp : Int) (z6 : Int) (zd : Int) (zh : List Zr) (z1 : Int) (z2 : Int) (b1 : Z3) (z10 : List Z7) (zn : Own) (zb : Own) (zB : Own) (zy : Own) (z1d : Own) (zu : okApp zb = true) (zQ : okApp zB = true) (zK : okApp zy = true) : Sim (Z19 zl z6 zd zh zn zb) (Z2V x1 x5 x8 x9 x11 x15 zl z6 zd zh z1 z2 z10) (Zca 1 (.ptr 0 0) (iv x1) (.ptr 1 0) (bv x5) (.ptr 2 0) (.clo 58 [] [(.ptr 2 0)]) (iv x8) (iv x9) (iv x11) (iv x15) [(Zj (Zk.mk zl zp z6 zd zh (Zi.mk z1 z2)) zn zb), (Zq b1 zB zy), [(.p (.lst z1d (z10.map Zs)))]]) := by
 unfold Z2V
 refine zf (Zfm ..) ?_
 refine ze ?_
 refine zi fun r1 hr1 => ?_
 obtain ⟨qr1, er1, exr1, rfl⟩ := ZX (22) (x9) (zl) (zp) (z6) (zd) (zh) (z1) (z2) zn zb zu r1 hr1
 refine zc [0] (.p (.tup [])) [(Zj (Zk.mk zl r1.1 z6 zd zh (Zi.mk r1.2.1 r1.2.2)) zn zb), (Zq b1 zB zy), [(.p (.lst z1d (z10.map Zs)))]] er1 ?_
 exact zk (Z3L (x1) (x5) (x8) (x11) (x15) (zl) (r1.1) (z6) (zd) (zh) (r1.2.1) (r1.2.2) (b1) (z10) zn zb zB zy z1d zu zQ zK)
noncomputable def Z4C (x1 : Int) (x5 : Bool) (x8 : Int) (x9 : Int) (x11 : Int) (zl : List Int) (zp : Int) (z6 : Int) (zd : Int) (zh : List Zr) (z1 : Int) (z2 : Int) (z10 : List Z7) : Option (Z3 × Int × Int × Int) :=
 (Z3p zl zp z6 zd zh z1 z2).bind fun r1 =>
 if ((r1.2.2.2.2.1 == 0)) = true then
 ((nilO (shrO (shrO (shrO (shrO r1.2.1.1)))) r1.2.1.2).bind fun a2 =>
 if ((!a2)) = true then
 (Z2V x1 x5 x8 x9 x11 r1.1 zl z6 zd zh r1.2.2.2.2.1 r1.2.2.2.2.2 z10)
 else
 (if ((decide (r1.1 < x11))) = true then
 (Z2V x1 x5 x8 x9 x11 r1.1 zl z6 zd zh r1.2.2.2.2.1 r1.2.2.2.2.2 z10)
 else
 (Z1B x1 x5 x8 x11 r1.1 zl r1.2.2.2.1 z6 zd zh r1.2.2.2.2.1 r1.2.2.2.2.2 z10)))
 else
 (Z1B x1 x5 x8 x11 r1.1 zl r1.2.2.2.1 z6 zd zh r1.2.2.2.2.1 r1.2.2.2.2.2 z10)
theorem Z96 (x1 : Int) (x5 : Bool) (x8 : Int) (x9 : Int) (x11 : Int) (zl : List Int) (zp : Int) (z6 : Int) (zd : Int) (zh : List Zr) (z1 : Int) (z2 : Int) (b1 : Z3) (z10 : List Z7) (zn : Own) (zb : Own) (zB : Own) (zy : Own) (z1d : Own) (zu : okApp zb = true) (zQ : okApp zB = true) (zK : okApp zy = true) : Sim (Z19 zl z6 zd zh zn zb) (Z4C x1 x5 x8 x9 x11 zl zp z6 zd zh z1 z2 z10) (Zd5 1 (.ptr 0 0) (iv x1) (.ptr 1 0) (bv x5) (.ptr 2 0) (.clo 58 [] [(.ptr 2 0)]) (iv x8) (iv x9) (iv x11) [(Zj (Zk.mk zl zp z6 zd zh (Zi.mk z1 z2)) zn zb), (Zq b1 zB zy), [(.p (.lst z1d (z10.map Zs)))]]) := by
 unfold Z4C
 refine zf (ZfH ..) ?_
 refine ze ?_
 refine zi fun r1 hr1 => ?_
 obtain ⟨qr1, er1, exr1, rfl⟩ := Z6T (zl) (zp) (z6) (zd) (zh) (z1) (z2) zn zb zu r1 hr1
 refine zc [0] (.p (.tup [(.v (.int .i64 r1.1)), (.lst r1.2.1.1 (r1.2.1.2.map Zs)), (.v (.bool r1.2.2.1))])) [(Zj (Zk.mk zl r1.2.2.2.1 z6 zd zh (Zi.mk r1.2.2.2.2.1 r1.2.2.2.2.2)) zn zb), (Zq b1 zB zy), [(.p (.lst z1d (z10.map Zs)))]] er1 ?_
 refine zo (iv r1.1) ?_
 refine zo (.p (.lst (shrO r1.2.1.1) (r1.2.1.2.map Zs))) ?_
 refine zo (bv r1.2.2.1) ?_
 refine ze ?_
 refine zo (.ptr 0 0) ?_
 refine zo (.ptr 0 5) ?_
 refine zo (.ptr 0 5) ?_
 refine zo (iv r1.2.2.2.2.1) ?_
 refine zo (bv (r1.2.2.2.2.1 == 0)) ?_
 refine za ((r1.2.2.2.2.1 == 0)) ?_ ?_
 ·refine zi fun a2 ha2 => ?_
  refine zo (bv (!a2)) ?_ (Eq.trans (by kernel_rfl) (xnil_neq (P := PP) (t := 23) (c := .slice none 0 0) (e := Zs) (by kernel_rfl) ha2))
  refine za ((!a2)) ?_ ?_
  ·exact zk (Z6e (x1) (x5) (x8) (x9) (x11) (r1.1) (zl) (r1.2.2.2.1) (z6) (zd) (zh) (r1.2.2.2.2.1) (r1.2.2.2.2.2) (b1) (z10) zn zb zB zy z1d zu zQ zK)
  ·refine zo (bv (decide (r1.1 < x11))) ?_
   refine za ((decide (r1.1 < x11))) ?_ ?_
   ·exact zk (Z6e (x1) (x5) (x8) (x9) (x11) (r1.1) (zl) (r1.2.2.2.1) (z6) (zd) (zh) (r1.2.2.2.2.1) (r1.2.2.2.2.2) (b1) (z10) zn zb zB zy z1d zu zQ zK)
   ·exact zk (Z3L (x1) (x5) (x8) (x11) (r1.1) (zl) (r1.2.2.2.1) (z6) (zd) (zh) (r1.2.2.2.2.1) (r1.2.2.2.2.2) (b1) (z10) zn zb zB zy z1d zu zQ zK)
 ·exact zk (Z3L (x1) (x5) (x8) (x11) (r1.1) (zl) (r1.2.2.2.1) (z6) (zd) (zh) (r1.2.2.2.2.1) (r1.2.2.2.2.2) (b1) (z10) zn zb zB zy z1d zu zQ zK)
noncomputable def Z3B (x1 : Int) (x5 : Bool) (x8 : Int) (x9 : Int) (x11 : Int) (zl : List Int) (zp : Int) (z6 : Int) (zd : Int) (zh : List Zr) (z1 : Int) (z2 : Int) (z10 : List Z7) : Option (Z3 × Int × Int × Int) :=
 (Z15 ((ByteArray.mk #[45])) zl zp).bind fun r1 =>
 if (r1.1) = true then
 ((Z1F ((Zk.mk zl r1.2 z6 zd zh (Zi.mk z1 z2)))).bind fun r2 =>
 if ((r2 == 93)) = true then
 (Z2v x1 x5 x8 x9 zl z6 zd zh z1 z2 z10)
 else
 (if ((r2 == 91)) = true then
 (Z2v x1 x5 x8 x9 zl z6 zd zh z1 z2 z10)
 else
 (if ((r2 == 45)) = true then
 (Z2v x1 x5 x8 x9 zl z6 zd zh z1 z2 z10)
 else
 (if ((decide (r2 < 0))) = true then
 (Z2v x1 x5 x8 x9 zl z6 zd zh z1 z2 z10)
 else
 (Z4C x1 x5 x8 x9 x11 zl r1.2 z6 zd zh z1 z2 z10)))))
 else
 (Z1B x1 x5 x8 x11 x11 zl r1.2 z6 zd zh z1 z2 z10)
theorem Z94 (x1 : Int) (x5 : Bool) (x8 : Int) (x9 : Int) (x11 : Int) (zl : List Int) (zp : Int) (z6 : Int) (zd : Int) (zh : List Zr) (z1 : Int) (z2 : Int) (b1 : Z3) (z10 : List Z7) (zn : Own) (zb : Own) (zB : Own) (zy : Own) (z1d : Own) (zu : okApp zb = true) (zQ : okApp zB = true) (zK : okApp zy = true) : Sim (Z19 zl z6 zd zh zn zb) (Z3B x1 x5 x8 x9 x11 zl zp z6 zd zh z1 z2 z10) (Zdc 1 (.ptr 0 0) (iv x1) (.ptr 1 0) (bv x5) (.ptr 2 0) (.clo 58 [] [(.ptr 2 0)]) (iv x8) (iv x9) (iv x11) [(Zj (Zk.mk zl zp z6 zd zh (Zi.mk z1 z2)) zn zb), (Zq b1 zB zy), [(.p (.lst z1d (z10.map Zs)))]]) := by
 unfold Z3B
 refine zf (Zfq ..) ?_
 refine ze ?_
 refine ze ?_
 refine zi fun r1 hr1 => ?_
 obtain ⟨qr1, er1, exr1, rfl⟩ := Z1b ((ByteArray.mk #[45])) (zl) (zp) (z6) (zd) (zh) (z1) (z2) zn zb zu r1 hr1
 refine zc [0] (bv r1.1) [(Zj (Zk.mk zl r1.2 z6 zd zh (Zi.mk z1 z2)) zn zb), (Zq b1 zB zy), [(.p (.lst z1d (z10.map Zs)))]] er1 ?_
 refine za (r1.1) ?_ ?_
 ·refine ze ?_
  refine zi fun r2 hr2 => ?_
  obtain ⟨qr2, er2, exr2, rfl⟩ := Z1I ((Zk.mk zl r1.2 z6 zd zh (Zi.mk z1 z2))) zn zb zu r2 hr2
  refine zc [0] (iv r2) [(Zj (Zk.mk zl r1.2 z6 zd zh (Zi.mk z1 z2)) zn zb), (Zq b1 zB zy), [(.p (.lst z1d (z10.map Zs)))]] er2 ?_
  refine ze ?_
  refine zo (bv (r2 == 93)) ?_
  refine za ((r2 == 93)) ?_ ?_
  ·exact zk (Z3I (x1) (x5) (x8) (x9) (zl) (r1.2) (z6) (zd) (zh) (z1) (z2) (b1) (z10) zn zb zB zy z1d zu zQ zK)
  ·refine zo (bv (r2 == 91)) ?_
   refine za ((r2 == 91)) ?_ ?_
   ·exact zk (Z3I (x1) (x5) (x8) (x9) (zl) (r1.2) (z6) (zd) (zh) (z1) (z2) (b1) (z10) zn zb zB zy z1d zu zQ zK)
   ·refine zo (bv (r2 == 45)) ?_
    refine za ((r2 == 45)) ?_ ?_
    ·exact zk (Z3I (x1) (x5) (x8) (x9) (zl) (r1.2) (z6) (zd) (zh) (z1) (z2) (b1) (z10) zn zb zB zy z1d zu zQ zK)
    ·refine zo (bv (decide (r2 < 0))) ?_
     refine za ((decide (r2 < 0))) ?_ ?_
     ·exact zk (Z3I (x1) (x5) (x8) (x9) (zl) (r1.2) (z6) (zd) (zh) (z1) (z2) (b1) (z10) zn zb zB zy z1d zu zQ zK)
     ·exact zk (Z96 (x1) (x5) (x8) (x9) (x11) (zl) (r1.2) (z6) (zd) (zh) (z1) (z2) (b1) (z10) zn zb zB zy z1d zu zQ zK)
 ·exact zk (Z3L (x1) (x5) (x8) (x11) (x11) (zl) (r1.2) (z6) (zd) (zh) (z1) (z2) (b1) (z10) zn zb zB zy z1d zu zQ zK)
noncomputable def Z3D (x1 : Int) (x5 : Bool) (x8 : Int) (x9 : Int) (zl : List Int) (zp : Int) (z6 : Int) (zd : Int) (zh : List Zr) (z1 : Int) (z2 : Int) (z10 : List Z7) : Option (Z3 × Int × Int × Int) :=
 (Z3p zl zp z6 zd zh z1 z2).bind fun r1 =>
 (nilO (shrO (shrO (shrO (shrO r1.2.1.1)))) r1.2.1.2).bind fun a2 =>
 if ((!a2)) = true then
 ((Z2E r1.2.2.1 r1.2.1.2).bind fun r3 =>
 (Z43 r3.Set z10).bind fun r4 =>
 (Z1F ((Zk.mk zl r1.2.2.2.1 z6 zd zh (Zi.mk r1.2.2.2.2.1 r1.2.2.2.2.2)))).bind fun r5 =>
 if ((r5 == 45)) = true then
 ((ZT 22 r1.2.2.2.1 zl r1.2.2.2.2.1 r1.2.2.2.2.2).bind fun r6 =>
 Z1c x1 x5 x8 zl r6.1 z6 zd zh r6.2.1 r6.2.2 r4)
 else
 (Z1c x1 x5 x8 zl r1.2.2.2.1 z6 zd zh r1.2.2.2.2.1 r1.2.2.2.2.2 r4))
 else
 (Z3B x1 x5 x8 x9 r1.1 zl r1.2.2.2.1 z6 zd zh r1.2.2.2.2.1 r1.2.2.2.2.2 z10)
theorem Z6j (x1 : Int) (x5 : Bool) (x8 : Int) (x9 : Int) (zl : List Int) (zp : Int) (z6 : Int) (zd : Int) (zh : List Zr) (z1 : Int) (z2 : Int) (b1 : Z3) (z10 : List Z7) (zn : Own) (zb : Own) (zB : Own) (zy : Own) (z1d : Own) (zu : okApp zb = true) (zQ : okApp zB = true) (zK : okApp zy = true) : Sim (Z19 zl z6 zd zh zn zb) (Z3D x1 x5 x8 x9 zl zp z6 zd zh z1 z2 z10) (Zcf 1 (.ptr 0 0) (iv x1) (.ptr 1 0) (bv x5) (.ptr 2 0) (.clo 58 [] [(.ptr 2 0)]) (iv x8) (iv x9) [(Zj (Zk.mk zl zp z6 zd zh (Zi.mk z1 z2)) zn zb), (Zq b1 zB zy), [(.p (.lst z1d (z10.map Zs)))]]) := by
 unfold Z3D
 refine zf (ZfA ..) ?_
 refine ze ?_
 refine zi fun r1 hr1 => ?_
 obtain ⟨qr1, er1, exr1, rfl⟩ := Z6T (zl) (zp) (z6) (zd) (zh) (z1) (z2) zn zb zu r1 hr1
 refine zc [0] (.p (.tup [(.v (.int .i64 r1.1)), (.lst r1.2.1.1 (r1.2.1.2.map Zs)), (.v (.bool r1.2.2.1))])) [(Zj (Zk.mk zl r1.2.2.2.1 z6 zd zh (Zi.mk r1.2.2.2.2.1 r1.2.2.2.2.2)) zn zb), (Zq b1 zB zy), [(.p (.lst z1d (z10.map Zs)))]] er1 ?_
 refine zo (iv r1.1) ?_
 refine zo (.p (.lst (shrO r1.2.1.1) (r1.2.1.2.map Zs))) ?_
 refine zo (bv r1.2.2.1) ?_
 refine ze ?_
 refine zi fun a2 ha2 => ?_
 refine zo (bv (!a2)) ?_ (Eq.trans (by kernel_rfl) (xnil_neq (P := PP) (t := 23) (c := .slice none 0 0) (e := Zs) (by kernel_rfl) ha2))
 refine za ((!a2)) ?_ ?_
 ·refine ze ?_
  refine zi fun r3 hr3 => ?_
  obtain ⟨qr3, er3, exr3, rfl⟩ := Z2M (r1.2.2.1) (r1.2.1.2) .sh r3 hr3
  refine zc [] (.p (.agg (ZE r3 .sh .sh))) [(Zj (Zk.mk zl r1.2.2.2.1 z6 zd zh (Zi.mk r1.2.2.2.2.1 r1.2.2.2.2.2)) zn zb), (Zq b1 zB zy), [(.p (.lst z1d (z10.map Zs)))]] er3 ?_
  refine zz (.ptr 3 0) [(Zj (Zk.mk zl r1.2.2.2.1 z6 zd zh (Zi.mk r1.2.2.2.2.1 r1.2.2.2.2.2)) zn zb), (Zq b1 zB zy), [(.p (.lst z1d (z10.map Zs)))], (Zq (Z3.mk 0 0 0 0 0 ([] : List Z7) ([] : List Z3)) .nl .nl)] ?_
  refine zt [(Zj (Zk.mk zl r1.2.2.2.1 z6 zd zh (Zi.mk r1.2.2.2.2.1 r1.2.2.2.2.2)) zn zb), (Zq b1 zB zy), [(.p (.lst z1d (z10.map Zs)))], (Zq r3 .sh .sh)] ?_
  refine ze ?_
  refine zo (.ptr 3 5) ?_
  refine zo (.p (.lst .sh (r3.Set.map Zs))) ?_
  refine zi fun r4 hr4 => ?_
  obtain ⟨qr4, er4, or4_0_0, exr4, rfl⟩ := Z6N (r3.Set) (z10) .sh z1d r4 hr4
  refine zv [2] (.p (.tup [])) [(Zj (Zk.mk zl r1.2.2.2.1 z6 zd zh (Zi.mk r1.2.2.2.2.1 r1.2.2.2.2.2)) zn zb), (Zq b1 zB zy), [(.p (.lst or4_0_0 (r4.map Zs)))], (Zq r3 .sh .sh)] er4 ?_
  refine ze ?_
  refine zi fun r5 hr5 => ?_
  obtain ⟨qr5, er5, exr5, rfl⟩ := Z1I ((Zk.mk zl r1.2.2.2.1 z6 zd zh (Zi.mk r1.2.2.2.2.1 r1.2.2.2.2.2))) zn zb zu r5 hr5
  refine zc [0] (iv r5) [(Zj (Zk.mk zl r1.2.2.2.1 z6 zd zh (Zi.mk r1.2.2.2.2.1 r1.2.2.2.2.2)) zn zb), (Zq b1 zB zy), [(.p (.lst or4_0_0 (r4.map Zs)))], (Zq r3 .sh .sh)] er5 ?_
  refine zo (bv (r5 == 45)) ?_
  refine za ((r5 == 45)) ?_ ?_
  ·refine ze ?_
   refine zo (.ptr 0 0) ?_
   refine zo (.ptr 0 1) ?_
   refine zo (iv r1.2.2.2.1) ?_
   refine zi fun r6 hr6 => ?_
   obtain ⟨qr6, er6, exr6, rfl⟩ := ZX (22) (r1.2.2.2.1) (zl) (r1.2.2.2.1) (z6) (zd) (zh) (r1.2.2.2.2.1) (r1.2.2.2.2.2) zn zb zu r6 hr6
   refine zc [0] (.p (.tup [])) [(Zj (Zk.mk zl r6.1 z6 zd zh (Zi.mk r6.2.1 r6.2.2)) zn zb), (Zq b1 zB zy), [(.p (.lst or4_0_0 (r4.map Zs)))], (Zq r3 .sh .sh)] er6 ?_
   exact zk (Z1G (x1) (x5) (x8) (zl) (r6.1) (z6) (zd) (zh) (r6.2.1) (r6.2.2) (b1) (r4) zn zb zB zy or4_0_0 zu zQ zK)
  ·exact zk (Z1G (x1) (x5) (x8) (zl) (r1.2.2.2.1) (z6) (zd) (zh) (r1.2.2.2.2.1) (r1.2.2.2.2.2) (b1) (r4) zn zb zB zy or4_0_0 zu zQ zK)
 ·exact zk (Z94 (x1) (x5) (x8) (x9) (r1.1) (zl) (r1.2.2.2.1) (z6) (zd) (zh) (r1.2.2.2.2.1) (r1.2.2.2.2.2) (b1) (z10) zn zb zB zy z1d zu zQ zK)
noncomputable def Z33 (x1 : Int) (x5 : Bool) (x8 : Int) (zl : List Int) (zp : Int) (z6 : Int) (zd : Int) (zh : List Zr) (z1 : Int) (z2 : Int) (z10 : List Z7) : Option (Z3 × Int × Int × Int) :=
 (Z1F ((Zk.mk zl zp z6 zd zh (Zi.mk z1 z2)))).bind fun r1 =>
 if ((r1 == (-1))) = true then
 ((ZT 22 x1 zl z1 z2).bind fun r2 =>
 Z1c x1 x5 x8 zl r2.1 z6 zd zh r2.2.1 r2.2.2 z10)
 else
 (if ((r1 == 93)) = true then
 (if ((x8 == 0)) = true then
 ((ZT 22 x1 zl z1 z2).bind fun r3 =>
 Z1c x1 x5 x8 zl r3.1 z6 zd zh r3.2.1 r3.2.2 z10)
 else
 (Z4E x5 zl zp z1 z2 z10))
 else
 (if ((r1 == 91)) = true then
 (if ((r1 == 91)) = true then
 ((ZT 22 zp zl z1 z2).bind fun r4 =>
 Z1c x1 x5 x8 zl r4.1 z6 zd zh r4.2.1 r4.2.2 z10)
 else
 (Z3D x1 x5 x8 zp zl zp z6 zd zh z1 z2 z10))
 else
 (if ((r1 == 45)) = true then
 ((ZT 22 zp zl z1 z2).bind fun r5 =>
 Z1c x1 x5 x8 zl r5.1 z6 zd zh r5.2.1 r5.2.2 z10)
 else
 (Z3D x1 x5 x8 zp zl zp z6 zd zh z1 z2 z10))))
theorem Z9e (x1 : Int) (x5 : Bool) (x8 : Int) (zl : List Int) (zp : Int) (z6 : Int) (zd : Int) (zh : List Zr) (z1 : Int) (z2 : Int) (b1 : Z3) (z10 : List Z7) (zn : Own) (zb : Own) (zB : Own) (zy : Own) (z1d : Own) (zu : okApp zb = true) (zQ : okApp zB = true) (zK : okApp zy = true) : Sim (Z19 zl z6 zd zh zn zb) (Z33 x1 x5 x8 zl zp z6 zd zh z1 z2 z10) (Ze0 1 (.ptr 0 0) (iv x1) (.ptr 1 0) (bv x5) (.ptr 2 0) (.clo 58 [] [(.ptr 2 0)]) (iv x8) [(Zj (Zk.mk zl zp z6 zd zh (Zi.mk z1 z2)) zn zb), (Zq b1 zB zy), [(.p (.lst z1d (z10.map Zs)))]]) := by
 unfold Z33
 refine zf (Zgt ..) ?_
 refine ze ?_
 refine zo (.ptr 0 0) ?_
 refine zo (.ptr 0 1) ?_
 refine zo (iv zp) ?_
 refine ze ?_
 refine zi fun r1 hr1 => ?_
 obtain ⟨qr1, er1, exr1, rfl⟩ := Z1I ((Zk.mk zl zp z6 zd zh (Zi.mk z1 z2))) zn zb zu r1 hr1
 refine zc [0] (iv r1) [(Zj (Zk.mk zl zp z6 zd zh (Zi.mk z1 z2)) zn zb), (Zq b1 zB zy), [(.p (.lst z1d (z10.map Zs)))]] er1 ?_
 refine ze ?_
 refine ze ?_
 refine zo (bv (r1 == (-1))) ?_
 refine za ((r1 == (-1))) ?_ ?_
 ·refine ze ?_
  refine zi fun r2 hr2 => ?_
  obtain ⟨qr2, er2, exr2, rfl⟩ := ZX (22) (x1) (zl) (zp) (z6) (zd) (zh) (z1) (z2) zn zb zu r2 hr2
  refine zc [0] (.p (.tup [])) [(Zj (Zk.mk zl r2.1 z6 zd zh (Zi.mk r2.2.1 r2.2.2)) zn zb), (Zq b1 zB zy), [(.p (.lst z1d (z10.map Zs)))]] er2 ?_
  exact zk (Z1G (x1) (x5) (x8) (zl) (r2.1) (z6) (zd) (zh) (r2.2.1) (r2.2.2) (b1) (z10) zn zb zB zy z1d zu zQ zK)
 ·refine ze ?_
  refine zo (bv (r1 == 93)) ?_
  refine za ((r1 == 93)) ?_ ?_
  ·refine ze ?_
   refine zo (bv (x8 == 0)) ?_
   refine za ((x8 == 0)) ?_ ?_
   ·refine ze ?_
    refine zi fun r3 hr3 => ?_
    obtain ⟨qr3, er3, exr3, rfl⟩ := ZX (22) (x1) (zl) (zp) (z6) (zd) (zh) (z1) (z2) zn zb zu r3 hr3
    refine zc [0] (.p (.tup [])) [(Zj (Zk.mk zl r3.1 z6 zd zh (Zi.mk r3.2.1 r3.2.2)) zn zb), (Zq b1 zB zy), [(.p (.lst z1d (z10.map Zs)))]] er3 ?_
    exact zk (Z1G (x1) (x5) (x8) (zl) (r3.1) (z6) (zd) (zh) (r3.2.1) (r3.2.2) (b1) (z10) zn zb zB zy z1d zu zQ zK)
   ·exact zk (Z92 (x5) (zl) (zp) (z6) (zd) (zh) (z1) (z2) (b1) (z10) zn zb zB zy z1d zu zQ zK)
  ·refine ze ?_
   refine zo (bv (r1 == 91)) ?_
   refine za ((r1 == 91)) ?_ ?_
   ·refine za ((r1 == 91)) ?_ ?_
    ·refine ze ?_
     refine zi fun r4 hr4 => ?_
     obtain ⟨qr4, er4, exr4, rfl⟩ := ZX (22) (zp) (zl) (zp) (z6) (zd) (zh) (z1) (z2) zn zb zu r4 hr4
     refine zc [0] (.p (.tup [])) [(Zj (Zk.mk zl r4.1 z6 zd zh (Zi.mk r4.2.1 r4.2.2)) zn zb), (Zq b1 zB zy), [(.p (.lst z1d (z10.map Zs)))]] er4 ?_
     exact zk (Z1G (x1) (x5) (x8) (zl) (r4.1) (z6) (zd) (zh) (r4.2.1) (r4.2.2) (b1) (z10) zn zb zB zy z1d zu zQ zK)
    ·exact zk (Z6j (x1) (x5) (x8) (zp) (zl) (zp) (z6) (zd) (zh) (z1) (z2) (b1) (z10) zn zb zB zy z1d zu zQ zK)
   ·refine ze ?_
    refine zo (bv (r1 == 45)) ?_
    refine za ((r1 == 45)) ?_ ?_
    ·refine ze ?_
     refine zi fun r5 hr5 => ?_
     obtain ⟨qr5, er5, exr5, rfl⟩ := ZX (22) (zp) (zl) (zp) (z6) (zd) (zh) (z1) (z2) zn zb zu r5 hr5
     refine zc [0] (.p (.tup [])) [(Zj (Zk.mk zl r5.1 z6 zd zh (Zi.mk r5.2.1 r5.2.2)) zn zb), (Zq b1 zB zy), [(.p (.lst z1d (z10.map Zs)))]] er5 ?_
     exact zk (Z1G (x1) (x5) (x8) (zl) (r5.1) (z6) (zd) (zh) (r5.2.1) (r5.2.2) (b1) (z10) zn zb zB zy z1d zu zQ zK)
    ·exact zk (Z6j (x1) (x5) (x8) (zp) (zl) (zp) (z6) (zd) (zh) (z1) (z2) (b1) (z10) zn zb zB zy z1d zu zQ zK)
noncomputable def Z5K (zp : Int) (z1 : Int) (z2 : Int) : Option (Z3 × Int × Int × Int) :=
 some ((Z3.mk 0 0 0 0 0 ([] : List Z7) ([] : List Z3)), zp, z1, z2)
theorem Z93 (zl : List Int) (zp : Int) (z6 : Int) (zd : Int) (zh : List Zr) (z1 : Int) (z2 : Int) (b1 : Z3) (zn : Own) (zb : Own) (zB : Own) (zy : Own) (zu : okApp zb = true) (zQ : okApp zB = true) (zK : okApp zy = true) : Sim (Z19 zl z6 zd zh zn zb) (Z5K zp z1 z2) (Zdp 1 (.ptr 1 0) [(Zj (Zk.mk zl zp z6 zd zh (Zi.mk z1 z2)) zn zb), (Zq b1 zB zy)]) := by
 unfold Z5K
 refine zf (Zf8 ..) ?_
 refine ze ?_
 refine zo (.p (.agg (ZE (Z3.mk 0 0 0 0 0 ([] : List Z7) ([] : List Z3)) .nl .nl))) ?_
 refine zt [(Zj (Zk.mk zl zp z6 zd zh (Zi.mk z1 z2)) zn zb), (Zq (Z3.mk 0 0 0 0 0 ([] : List Z7) ([] : List Z3)) .nl .nl)] ?_
 exact zr ((.p (.agg (ZE (Z3.mk 0 0 0 0 0 ([] : List Z7) ([] : List Z3)) .sh .sh))), [(Zj (Zk.mk zl zp z6 zd zh (Zi.mk z1 z2)) zn zb), (Zq (Z3.mk 0 0 0 0 0 ([] : List Z7) ([] : List Z3)) .nl .nl)]) ⟨_, rfl⟩
noncomputable def Z3W (x1 : Int) (x5 : Bool) (x8 : Int) (zl : List Int) (zp : Int) (z6 : Int) (zd : Int) (zh : List Zr) (z1 : Int) (z2 : Int) (z10 : List Z7) : Option (Z3 × Int × Int × Int) :=
 if ((z1 == 0)) = true then
 (Z33 x1 x5 x8 zl zp z6 zd zh z1 z2 z10)
 else
 (Z5K zp z1 z2)
theorem Z9h (x1 : Int) (x5 : Bool) (x8 : Int) (zl : List Int) (zp : Int) (z6 : Int) (zd : Int) (zh : List Zr) (z1 : Int) (z2 : Int) (b1 : Z3) (z10 : List Z7) (zn : Own) (zb : Own) (zB : Own) (zy : Own) (z1d : Own) (zu : okApp zb = true) (zQ : okApp zB = true) (zK : okApp zy = true) : Sim (Z19 zl z6 zd zh zn zb) (Z3W x1 x5 x8 zl zp z6 zd zh z1 z2 z10) (Zbl 1 (.ptr 0 0) (iv x1) (.ptr 1 0) (bv x5) (.ptr 2 0) (.clo 58 [] [(.ptr 2 0)]) (iv x8) [(Zj (Zk.mk zl zp z6 zd zh (Zi.mk z1 z2)) zn zb), (Zq b1 zB zy), [(.p (.lst z1d (z10.map Zs)))]]) := by
 unfold Z3W
 refine zf (Zh5 ..) ?_
 refine ze ?_
 refine zo (.ptr 0 0) ?_
 refine zo (.ptr 0 5) ?_
 refine zo (.ptr 0 5) ?_
 refine zo (iv z1) ?_
 refine zo (bv (z1 == 0)) ?_
 refine za ((z1 == 0)) ?_ ?_
 ·exact zk (Z9e (x1) (x5) (x8) (zl) (zp) (z6) (zd) (zh) (z1) (z2) (b1) (z10) zn zb zB zy z1d zu zQ zK)
 ·exact zk (Z93 (zl) (zp) (z6) (zd) (zh) (z1) (z2) (b1) zn zb zB zy zu zQ zK)
theorem Z6B (x1 : Int) (x5 : Bool) (x8 : Int) (zl : List Int) (zp : Int) (z6 : Int) (zd : Int) (zh : List Zr) (z1 : Int) (z2 : Int) (z10 : List Z7) {r} (h : Z3W x1 x5 x8 zl zp z6 zd zh z1 z2 z10 = some r) : Z2L x1 x5 x8 zl zp z6 zd zh z1 z2 z10 = some r :=
 pick_of (fun _ _ ha hb => RRun.uniq (Z7M _ _ _ _ _ _) (ha default .ex .ex .ex .ex .ex rfl rfl rfl) (hb default .ex .ex .ex .ex .ex rfl rfl rfl)) (fun b1 zn zb zB zy z1d zu zQ zK => Z9h x1 x5 x8 zl zp z6 zd zh z1 z2 b1 z10 zn zb zB zy z1d zu zQ zK r h)
noncomputable def Z3o (x2 : Int) (x5 : Int) (zl : List Int) (zp : Int) (z6 : Int) (zd : Int) (zh : List Zr) (z1 : Int) (z2 : Int) : Option (Int × (Own × (List Z7)) × Bool × Int × Int × Int) :=
 (Z4B x2 x5 zl zp z6 zd zh z1 z2).bind fun r1 =>
 some (r1.1, (.nl, ([] : List Z7)), false, r1.2.1, r1.2.2.1, r1.2.2.2)
theorem Z8H (x2 : Int) (x5 : Int) (zl : List Int) (zp : Int) (z6 : Int) (zd : Int) (zh : List Zr) (z1 : Int) (z2 : Int) (zn : Own) (zb : Own) (zu : okApp zb = true) : Sim (Z2z zl z6 zd zh zn zb) (Z3o x2 x5 zl zp z6 zd zh z1 z2) (Zd7 1 (.ptr 0 0) (iv x2) (iv x5) [(Zj (Zk.mk zl zp z6 zd zh (Zi.mk z1 z2)) zn zb)]) := by
 unfold Z3o
 refine zf (Zfv ..) ?_
 refine ze ?_
 refine zi fun r1 hr1 => ?_
 obtain ⟨qr1, er1, exr1, rfl⟩ := Z7y (x2) (x5) (zl) (zp) (z6) (zd) (zh) (z1) (z2) zn zb zu r1 hr1
 refine zc [0] (iv r1.1) [(Zj (Zk.mk zl r1.2.1 z6 zd zh (Zi.mk r1.2.2.1 r1.2.2.2)) zn zb)] er1 ?_
 exact zr ((.p (.tup [(.v (.int .i64 r1.1)), (.lst .nl []), (.v (.bool false))])), [(Zj (Zk.mk zl r1.2.1 z6 zd zh (Zi.mk r1.2.2.1 r1.2.2.2)) zn zb)]) ⟨_, rfl⟩
noncomputable def Z4D (x2 : Int) (x5 : Int) (zl : List Int) (zp : Int) (z6 : Int) (zd : Int) (zh : List Zr) (z1 : Int) (z2 : Int) : Option (Int × (Own × (List Z7)) × Bool × Int × Int × Int) :=
 (Z22 zl zp).bind fun r1 =>
 (Z4J x2).bind fun r2 =>
 (nilO (shrO r2.1) r2.2).bind fun a3 =>
 if ((!a3)) = true then
 (some (0, ((shrO r2.1), r2.2), (decide (x2 < 97)), r1.2, z1, z2))
 else
 (Z3o x2 x5 zl r1.2 z6 zd zh z1 z2)
theorem Z90 (x2 : Int) (x5 : Int) (zl : List Int) (zp : Int) (z6 : Int) (zd : Int) (zh : List Zr) (z1 : Int) (z2 : Int) (zn : Own) (zb : Own) (zu : okApp zb = true) : Sim (Z2z zl z6 zd zh zn zb) (Z4D x2 x5 zl zp z6 zd zh z1 z2) (Zei 1 (.ptr 0 0) (iv x2) (iv x5) [(Zj (Zk.mk zl zp z6 zd zh (Zi.mk z1 z2)) zn zb)]) := by
 unfold Z4D
 refine zf (ZgQ ..) ?_
 refine ze ?_
 refine zi fun r1 hr1 => ?_
 obtain ⟨qr1, er1, exr1, rfl⟩ := Z2o (zl) (zp) (z6) (zd) (zh) (z1) (z2) zn zb zu r1 hr1
 refine zc [0] (iv r1.1) [(Zj (Zk.mk zl r1.2 z6 zd zh (Zi.mk z1 z2)) zn zb)] er1 ?_
 refine ze ?_
 refine zi fun r2 hr2 => ?_
 obtain ⟨qr2, er2, exr2, rfl⟩ := Z6v (x2) r2 hr2
 refine zc [] (.p (.lst r2.1 (r2.2.map Zs))) [(Zj (Zk.mk zl r1.2 z6 zd zh (Zi.mk z1 z2)) zn zb)] er2 ?_
 refine ze ?_
 refine zi fun a3 ha3 => ?_
 refine zo (bv (!a3)) ?_ (Eq.trans (by kernel_rfl) (xnil_neq (P := PP) (t := 23) (c := .slice none 0 0) (e := Zs) (by kernel_rfl) ha3))
 refine za ((!a3)) ?_ ?_
 ·refine ze ?_
  refine zo (bv (decide (x2 < 97))) ?_
  exact zr ((.p (.tup [(.v (.int .i64 0)), (.lst (shrO r2.1) (r2.2.map Zs)), (.v (.bool (decide (x2 < 97))))])), [(Zj (Zk.mk zl r1.2 z6 zd zh (Zi.mk z1 z2)) zn zb)]) ⟨_, rfl⟩
 ·exact zk (Z8H (x2) (x5) (zl) (r1.2) (z6) (zd) (zh) (z1) (z2) zn zb zu)
noncomputable def Z4y (x5 : Int) (zl : List Int) (zp : Int) (z6 : Int) (zd : Int) (zh : List Zr) (z1 : Int) (z2 : Int) : Option (Int × (Own × (List Z7)) × Bool × Int × Int × Int) :=
 (Z1F ((Zk.mk zl zp z6 zd zh (Zi.mk z1 z2)))).bind fun r1 =>
 if ((decide (r1 < 0))) = true then
 ((ZT 21 x5 zl z1 z2).bind fun r2 =>
 some (0, (.nl, ([] : List Z7)), false, r2.1, r2.2.1, r2.2.2))
 else
 (Z4D r1 x5 zl zp z6 zd zh z1 z2)
theorem Z8Q (x5 : Int) (zl : List Int) (zp : Int) (z6 : Int) (zd : Int) (zh : List Zr) (z1 : Int) (z2 : Int) (zn : Own) (zb : Own) (zu : okApp zb = true) : Sim (Z2z zl z6 zd zh zn zb) (Z4y x5 zl zp z6 zd zh z1 z2) (ZdU 1 (.ptr 0 0) (iv x5) [(Zj (Zk.mk zl zp z6 zd zh (Zi.mk z1 z2)) zn zb)]) := by
 unfold Z4y
 refine zf (ZgJ ..) ?_
 refine ze ?_
 refine zi fun r1 hr1 => ?_
 obtain ⟨qr1, er1, exr1, rfl⟩ := Z1I ((Zk.mk zl zp z6 zd zh (Zi.mk z1 z2))) zn zb zu r1 hr1
 refine zc [0] (iv r1) [(Zj (Zk.mk zl zp z6 zd zh (Zi.mk z1 z2)) zn zb)] er1 ?_
 refine ze ?_
 refine zo (bv (decide (r1 < 0))) ?_
 refine za ((decide (r1 < 0))) ?_ ?_
 ·refine ze ?_
  refine zi fun r2 hr2 => ?_
  obtain ⟨qr2, er2, exr2, rfl⟩ := ZX (21) (x5) (zl) (zp) (z6) (zd) (zh) (z1) (z2) zn zb zu r2 hr2
  refine zc [0] (.p (.tup [])) [(Zj (Zk.mk zl r2.1 z6 zd zh (Zi.mk r2.2.1 r2.2.2)) zn zb)] er2 ?_
  refine ze ?_
  exact zr ((.p (.tup [(.v (.int .i64 0)), (.lst .nl []), (.v (.bool false))])), [(Zj (Zk.mk zl r2.1 z6 zd zh (Zi.mk r2.2.1 r2.2.2)) zn zb)]) ⟨_, rfl⟩
 ·exact zk (Z90 (r1) (x5) (zl) (zp) (z6) (zd) (zh) (z1) (z2) zn zb zu)
noncomputable def Z4g (zl : List Int) (zp : Int) (z6 : Int) (zd : Int) (zh : List Zr) (z1 : Int) (z2 : Int) : Option (Int × (Own × (List Z7)) × Bool × Int × Int × Int) :=
 (Z22 zl zp).bind fun r1 =>
 if ((r1.1 != 92)) = true then
 (some (r1.1, (.nl, ([] : List Z7)), false, r1.2, z1, z2))
 else
 (Z4y zp zl r1.2 z6 zd zh z1 z2)
theorem Z9N (zl : List Int) (zp : Int) (z6 : Int) (zd : Int) (zh : List Zr) (z1 : Int) (z2 : Int) (zn : Own) (zb : Own) (zu : okApp zb = true) : Sim (Z2z zl z6 zd zh zn zb) (Z4g zl zp z6 zd zh z1 z2) (EE 60 [(.ptr 0 0)] [(Zj (Zk.mk zl zp z6 zd zh (Zi.mk z1 z2)) zn zb)]) := by
 unfold Z4g
 refine zf (ZhP ..) ?_
 refine ze ?_
 refine ze ?_
 refine zo (.ptr 0 0) ?_
 refine zo (.ptr 0 1) ?_
 refine zo (iv zp) ?_
 refine ze ?_
 refine zi fun r1 hr1 => ?_
 obtain ⟨qr1, er1, exr1, rfl⟩ := Z2o (zl) (zp) (z6) (zd) (zh) (z1) (z2) zn zb zu r1 hr1
 refine zc [0] (iv r1.1) [(Zj (Zk.mk zl r1.2 z6 zd zh (Zi.mk z1 z2)) zn zb)] er1 ?_
 refine ze ?_
 refine zo (bv (r1.1 != 92)) ?_
 refine za ((r1.1 != 92)) ?_ ?_
 ·refine ze ?_
  exact zr ((.p (.tup [(.v (.int .i64 r1.1)), (.lst .nl []), (.v (.bool false))])), [(Zj (Zk.mk zl r1.2 z6 zd zh (Zi.mk z1 z2)) zn zb)]) ⟨_, rfl⟩
 ·exact zk (Z8Q (zp) (zl) (r1.2) (z6) (zd) (zh) (z1) (z2) zn zb zu)
theorem Z74 (zl : List Int) (zp : Int) (z6 : Int) (zd : Int) (zh : List Zr) (z1 : Int) (z2 : Int) {r} (h : Z4g zl zp z6 zd zh z1 z2 = some r) : Z3p zl zp z6 zd zh z1 z2 = some r :=
 pick_of (fun _ _ ha hb => RRun.uniq (Zao _ _ _ _ _ _) (ha .ex .ex rfl) (hb .ex .ex rfl)) (fun zn zb zu => Z9N zl zp z6 zd zh z1 z2 zn zb zu r h)
end Go.Proofs.YtadodmjdkphddaaDoor.N2
end
