/- The functions' typed texts. No condition. -/
import Derived.Test.YtadodmjdkphddaaDoorTypA

noncomputable section
set_option linter.unusedSimpArgs false
set_option linter.unusedVariables false
namespace Go.Proofs.YtadodmjdkphddaaDoor.N2
open Go Go.Abs
set_option linter.unusedVariables false
set_option maxRecDepth 100000
def Z1J  : Option (Bool) :=
 some (false)
theorem Z2G  : Sim (Z1h) (Z1J) (Zet 0  []) := by
 unfold Z1J
 refine zf (ZpG ..)<|ze ?_
 exact zr ((bv false), []) ⟨_, rfl⟩
def Z2t  : Option (Bool) :=
 some (true)
theorem Z4m  : Sim (Z1h) (Z2t) (Zfk 0  []) := by
 unfold Z2t
 refine zf (ZoL ..)<|ze ?_
 exact zr ((bv true), []) ⟨_, rfl⟩
def Z3O (x0 : Int) (x4 : ByteArray) : Option (Bool) :=
 (sadd (ByteArray.mk #[92]) x4).bind fun a1 =>
 (Z4y a1).bind fun r2 =>
 if (r2.2.Code == 0) = true then
 (if (r2.1.Root.Kind == 1) = true then
 (if ((r2.1.Root.Set.length : Int) == 1) = true then
 ((lget r2.1.Root.Set 0).bind fun a3 =>
 some (a3.Lo == x0))
 else
 (some (false)))
 else
 (some (false)))
 else
 (some (false))
theorem Z8P x0 x4 : Sim (Z1h) (Z3O x0 x4) (Zkv 0 (iv x0) (.p (.v (.string x4))) []) := by
 unfold Z3O
 refine zf (ZoM ..)<|ze<|zi fun a1 ha1 => ?_
 refine zo (.p (.v (.string a1))) ?_ (Eq.trans (by kernel_rfl) (Zqi (P := PP) (t := 9) ha1))
 refine zi fun r2 hr2 => ?_
 obtain ⟨qr2, er2, exr2, rfl⟩ := Z5n a1 r2 hr2
 refine zc [] (.p (.tup [(.agg (Z1x r2.1 .sh .sh)), (.agg (Z16 r2.2))])) [] er2<|zq<|zq<|zz (.ptr 0 0) [(Zw (ZD.mk (Z8.mk 0 0 0 0 0 ([] : List Z7) ([] : List Z8)) 0 false) .nl .nl)]<|zz (.ptr 1 0) [(Zw (ZD.mk (Z8.mk 0 0 0 0 0 ([] : List Z7) ([] : List Z8)) 0 false) .nl .nl), (ZC (Zj.mk 0 0))]<|zt [(Zw r2.1 .sh .sh), (ZC (Zj.mk 0 0))]<|zt [(Zw r2.1 .sh .sh), (ZC r2.2)]<|ze<|zq<|zq<|zq ?_
 refine za (r2.2.Code == 0) ?_ ?_
 ·refine zq<|zq<|zq<|zq ?_
  refine za (r2.1.Root.Kind == 1) ?_ ?_
  ·refine zq<|zq<|zq ?_
   refine zo (iv (r2.1.Root.Set.length : Int)) ?_ (Eq.trans (by kernel_rfl) (Z5r (P := PP) (t := 24) (d := 39) (by kernel_rfl) Zv .sh r2.1.Root.Set))
   refine zq ?_
   refine za ((r2.1.Root.Set.length : Int) == 1) ?_ ?_
   ·refine zq<|zq<|zq<|zi fun a3 ha3 => ?_
    refine zo (.cptr (ZG a3)) ?_ (Eq.trans (by kernel_rfl) (Z6d (o := .sh) (k := .i64) (n := 2) (e := Zv) (cs := Z3I) (fun _ => rfl) (fun _ => rfl) (by decide) ha3))
    refine zq<|zq<|zq ?_
    exact zr ((bv (a3.Lo == x0)), [(Zw r2.1 .sh .sh), (ZC r2.2)]) ⟨_, rfl⟩
   ·exact zr ((bv false), [(Zw r2.1 .sh .sh), (ZC r2.2)]) ⟨_, rfl⟩
  ·exact zr ((bv false), [(Zw r2.1 .sh .sh), (ZC r2.2)]) ⟨_, rfl⟩
 ·exact zr ((bv false), [(Zw r2.1 .sh .sh), (ZC r2.2)]) ⟨_, rfl⟩
def Z11 (x0 : Int) (x4 : ByteArray) (x7 : Bool) : Option (Bool) :=
 if (decide (x0 ≤ 32)) = true then
 (Z2t)
 else
 (if (decide (127 ≤ x0)) = true then
 (Z2t)
 else
 (if (x7) = true then
 (Z2t)
 else
 (Z3O x0 x4)))
theorem Z1a x0 x4 x7 : Sim (Z1h) (Z11 x0 x4 x7) (Z73 0 (iv x0) (.p (.v (.string x4))) (bv x7) []) := by
 unfold Z11
 refine zf (ZoK ..)<|ze<|zq ?_
 refine za (decide (x0 ≤ 32)) ?_ ?_
 ·exact zk (Z4m )
 ·refine zq ?_
  refine za (decide (127 ≤ x0)) ?_ ?_
  ·exact zk (Z4m )
  ·refine za x7 ?_ ?_
   ·exact zk (Z4m )
   ·exact zk (Z8P x0 x4)
def Z2s (x0 : Int) (x4 : ByteArray) : Option (Bool) :=
 if (decide (48 ≤ x0)) = true then
 (if (decide (x0 ≤ 57)) = true then
 (Z11 x0 x4 true)
 else
 (if (decide (97 ≤ x0)) = true then
 (if (decide (x0 ≤ 122)) = true then
 (Z11 x0 x4 true)
 else
 (if (decide (65 ≤ x0)) = true then
 (Z11 x0 x4 (decide (x0 ≤ 90)))
 else
 (Z11 x0 x4 false)))
 else
 (if (decide (65 ≤ x0)) = true then
 (Z11 x0 x4 (decide (x0 ≤ 90)))
 else
 (Z11 x0 x4 false))))
 else
 (if (decide (97 ≤ x0)) = true then
 (if (decide (x0 ≤ 122)) = true then
 (Z11 x0 x4 true)
 else
 (if (decide (65 ≤ x0)) = true then
 (Z11 x0 x4 (decide (x0 ≤ 90)))
 else
 (Z11 x0 x4 false)))
 else
 (if (decide (65 ≤ x0)) = true then
 (Z11 x0 x4 (decide (x0 ≤ 90)))
 else
 (Z11 x0 x4 false)))
theorem Z60 x0 x4 : Sim (Z1h) (Z2s x0 x4) (ZhE 0 (iv x0) (.p (.v (.string x4))) []) := by
 unfold Z2s
 refine zf (ZoJ ..)<|ze<|zq ?_
 refine za (decide (48 ≤ x0)) ?_ ?_
 ·refine zq ?_
  refine za (decide (x0 ≤ 57)) ?_ ?_
  ·exact zk (Z1a x0 x4 true)
  ·refine zq ?_
   refine za (decide (97 ≤ x0)) ?_ ?_
   ·refine zq ?_
    refine za (decide (x0 ≤ 122)) ?_ ?_
    ·exact zk (Z1a x0 x4 true)
    ·refine zq ?_
     refine za (decide (65 ≤ x0)) ?_ ?_
     ·refine zq ?_
      exact zk (Z1a x0 x4 (decide (x0 ≤ 90)))
     ·exact zk (Z1a x0 x4 false)
   ·refine zq ?_
    refine za (decide (65 ≤ x0)) ?_ ?_
    ·refine zq ?_
     exact zk (Z1a x0 x4 (decide (x0 ≤ 90)))
    ·exact zk (Z1a x0 x4 false)
 ·refine zq ?_
  refine za (decide (97 ≤ x0)) ?_ ?_
  ·refine zq ?_
   refine za (decide (x0 ≤ 122)) ?_ ?_
   ·exact zk (Z1a x0 x4 true)
   ·refine zq ?_
    refine za (decide (65 ≤ x0)) ?_ ?_
    ·refine zq ?_
     exact zk (Z1a x0 x4 (decide (x0 ≤ 90)))
    ·exact zk (Z1a x0 x4 false)
  ·refine zq ?_
   refine za (decide (65 ≤ x0)) ?_ ?_
   ·refine zq ?_
    exact zk (Z1a x0 x4 (decide (x0 ≤ 90)))
   ·exact zk (Z1a x0 x4 false)
def Z40 (x0 : Int) (x4 : ByteArray) (zZ : List (Int × Bool)) (b1 : ZD) (b2 : Zj) : Option (Bool) :=
 if (!((getM zZ x0).getD false)) = true then
 (if (b2.Code != 0) = true then
 (Z1J)
 else
 (if (b1.Root.Kind != 1) = true then
 (Z1J)
 else
 (if ((b1.Root.Set.length : Int) != 1) = true then
 (Z1J)
 else
 ((lget b1.Root.Set 0).bind fun a1 =>
 if (a1.Lo != x0) = true then
 (Z1J)
 else
 ((lget b1.Root.Set 0).bind fun a2 =>
 if (a2.Hi != x0) = true then
 (Z1J)
 else
 (Z2s x0 x4))))))
 else
 (Z2s x0 x4)
theorem Z96 x0 x4 zZ b1 b2 z5G zf3 : Sim (Z1h) (Z40 x0 x4 zZ b1 b2) (ZmY 0 (iv x0) (.mp 0) (.p (.v (.string x4))) (.ptr 1 0) (.ptr 2 0) [[(.md ((zZ).map (encM eB)))], (Zw b1 z5G zf3), (ZC b2)]) := by
 unfold Z40
 refine zf (ZpF ..)<|ze ?_
 refine zo (bv ((getM zZ x0).getD false)) ?_ (Eq.trans (b := Zf1 PP 48 false (.mp 0) (iv x0) [[(.md ((zZ).map (encM eB)))], (Zw b1 z5G zf3), (ZC b2)]) (by kernel_rfl) <| (Zqh (e := eB) (z := false) (es := zZ) (te := 4) (by kernel_rfl) (by kernel_rfl) (by kernel_rfl) false).trans (by kernel_rfl))
 refine zq ?_
 refine za (!((getM zZ x0).getD false)) ?_ ?_
 ·refine zq<|zq<|zq ?_
  refine za (b2.Code != 0) ?_ ?_
  ·exact zk (Z2G )
  ·refine zq<|zq<|zq<|zq ?_
   refine za (b1.Root.Kind != 1) ?_ ?_
   ·exact zk (Z2G )
   ·refine zq<|zq<|zq ?_
    refine zo (iv (b1.Root.Set.length : Int)) ?_ (Eq.trans (by kernel_rfl) (Z5r (P := PP) (t := 24) (d := 39) (by kernel_rfl) Zv (shrO z5G) b1.Root.Set))
    refine zq ?_
    refine za ((b1.Root.Set.length : Int) != 1) ?_ ?_
    ·exact zk (Z2G )
    ·refine zq<|zq<|zq<|zi fun a1 ha1 => ?_
     refine zo (.cptr (ZG a1)) ?_ (Eq.trans (by kernel_rfl) (Z6d (o := (shrO z5G)) (k := .i64) (n := 2) (e := Zv) (cs := Z3I) (fun _ => rfl) (fun _ => rfl) (by decide) ha1))
     refine zq<|zq<|zq ?_
     refine za (a1.Lo != x0) ?_ ?_
     ·exact zk (Z2G )
     ·refine zq<|zq<|zq<|zi fun a2 ha2 => ?_
      refine zo (.cptr (ZG a2)) ?_ (Eq.trans (by kernel_rfl) (Z6d (o := (shrO z5G)) (k := .i64) (n := 2) (e := Zv) (cs := Z3I) (fun _ => rfl) (fun _ => rfl) (by decide) ha2))
      refine zq<|zq<|zq ?_
      refine za (a2.Hi != x0) ?_ ?_
      ·exact zk (Z2G )
      ·exact zk (Z60 x0 x4)
 ·exact zk (Z60 x0 x4)
def Z3Z (x0 : Int) (zZ : List (Int × Bool)) : Option (Bool) :=
 (Z9j x0).bind fun r1 =>
 (Z4y (strI r1)).bind fun r2 =>
 Z40 x0 (strI r1) zZ r2.1 r2.2
theorem Z95 x0 zZ : Sim (Z1h) (Z3Z x0 zZ) (ZmX 0 (iv x0) (.mp 0) [[(.md ((zZ).map (encM eB)))]]) := by
 unfold Z3Z
 refine zf (ZpE ..)<|ze<|zi fun r1 hr1 => ?_
 obtain ⟨qr1, er1, exr1, rfl⟩ := ZgX x0 r1 hr1
 refine zc [] (.p (.lst .sh (r1.map (eI .u8)))) [[(.md ((zZ).map (encM eB)))]] er1 ?_
 refine zo (.p (.v (.string (strI r1)))) ?_ (Eq.trans (by kernel_rfl) (Zl5 (P := PP) (s := 40) (d := 9) (by kernel_rfl) .sh r1))
 refine ze<|zi fun r2 hr2 => ?_
 obtain ⟨qr2, er2, exr2, rfl⟩ := Z5n (strI r1) r2 hr2
 refine zc [] (.p (.tup [(.agg (Z1x r2.1 .sh .sh)), (.agg (Z16 r2.2))])) [[(.md ((zZ).map (encM eB)))]] er2<|zq<|zq<|zz (.ptr 1 0) [[(.md ((zZ).map (encM eB)))], (Zw (ZD.mk (Z8.mk 0 0 0 0 0 ([] : List Z7) ([] : List Z8)) 0 false) .nl .nl)]<|zz (.ptr 2 0) [[(.md ((zZ).map (encM eB)))], (Zw (ZD.mk (Z8.mk 0 0 0 0 0 ([] : List Z7) ([] : List Z8)) 0 false) .nl .nl), (ZC (Zj.mk 0 0))]<|zt [[(.md ((zZ).map (encM eB)))], (Zw r2.1 .sh .sh), (ZC (Zj.mk 0 0))]<|zt [[(.md ((zZ).map (encM eB)))], (Zw r2.1 .sh .sh), (ZC r2.2)] ?_
 exact zk (Z96 x0 (strI r1) zZ r2.1 r2.2 .sh .sh)
def Z3c (x0 : Int) : Option (Bool) :=
 Z3Z x0 ((putM (putM (putM (putM (putM (putM (putM (putM (putM (putM (putM (putM (putM (putM ([] : List (Int × Bool)) 46 true) 94 true) 36 true) 92 true) 91 true) 93 true) 40 true) 41 true) 124 true) 42 true) 43 true) 63 true) 123 true) 125 true))
theorem Z94 x0 : Sim (Z1h) (Z3c x0) (ZmW 0 (iv x0) []) := by
 unfold Z3c
 refine zf (ZpD ..)<|ze<|zm (.mp 0) [[(.md (([] : List (Int × Bool)).map (encM eB)))]] ?_
 refine Sim.xupd (B2 := [[(.md ((putM ([] : List (Int × Bool)) 46 true).map (encM eB)))]]) (fun K => Eq.trans (b := xupd PP 48 (.mp 0) (iv 46) (bv true) [[(.md (([] : List (Int × Bool)).map (encM eB)))]] K) (by kernel_rfl) <| Z5T (P := PP) (t := 48) (K := K) (B2 := [[(.md ((putM ([] : List (Int × Bool)) 46 true).map (encM eB)))]]) (e := eB) (a := true) (es := ([] : List (Int × Bool))) (te := 4) (by kernel_rfl) (by kernel_rfl) (by kernel_rfl) (by kernel_rfl) (by kernel_rfl)) ?_
 refine Sim.xupd (B2 := [[(.md ((putM (putM ([] : List (Int × Bool)) 46 true) 94 true).map (encM eB)))]]) (fun K => Eq.trans (b := xupd PP 48 (.mp 0) (iv 94) (bv true) [[(.md ((putM ([] : List (Int × Bool)) 46 true).map (encM eB)))]] K) (by kernel_rfl) <| Z5T (P := PP) (t := 48) (K := K) (B2 := [[(.md ((putM (putM ([] : List (Int × Bool)) 46 true) 94 true).map (encM eB)))]]) (e := eB) (a := true) (es := (putM ([] : List (Int × Bool)) 46 true)) (te := 4) (by kernel_rfl) (by kernel_rfl) (by kernel_rfl) (by kernel_rfl) (by kernel_rfl)) ?_
 refine Sim.xupd (B2 := [[(.md (((putM (putM (putM ([] : List (Int × Bool)) 46 true) 94 true) 36 true)).map (encM eB)))]]) (fun K => Eq.trans (b := xupd PP 48 (.mp 0) (iv 36) (bv true) [[(.md ((putM (putM ([] : List (Int × Bool)) 46 true) 94 true).map (encM eB)))]] K) (by kernel_rfl) <| Z5T (P := PP) (t := 48) (K := K) (B2 := [[(.md (((putM (putM (putM ([] : List (Int × Bool)) 46 true) 94 true) 36 true)).map (encM eB)))]]) (e := eB) (a := true) (es := (putM (putM ([] : List (Int × Bool)) 46 true) 94 true)) (te := 4) (by kernel_rfl) (by kernel_rfl) (by kernel_rfl) (by kernel_rfl) (by kernel_rfl)) ?_
 refine Sim.xupd (B2 := [[(.md (((putM (putM (putM (putM ([] : List (Int × Bool)) 46 true) 94 true) 36 true) 92 true)).map (encM eB)))]]) (fun K => Eq.trans (b := xupd PP 48 (.mp 0) (iv 92) (bv true) [[(.md (((putM (putM (putM ([] : List (Int × Bool)) 46 true) 94 true) 36 true)).map (encM eB)))]] K) (by kernel_rfl) <| Z5T (P := PP) (t := 48) (K := K) (B2 := [[(.md (((putM (putM (putM (putM ([] : List (Int × Bool)) 46 true) 94 true) 36 true) 92 true)).map (encM eB)))]]) (e := eB) (a := true) (es := (putM (putM (putM ([] : List (Int × Bool)) 46 true) 94 true) 36 true)) (te := 4) (by kernel_rfl) (by kernel_rfl) (by kernel_rfl) (by kernel_rfl) (by kernel_rfl)) ?_
 refine Sim.xupd (B2 := [[(.md (((putM (putM (putM (putM (putM ([] : List (Int × Bool)) 46 true) 94 true) 36 true) 92 true) 91 true)).map (encM eB)))]]) (fun K => Eq.trans (b := xupd PP 48 (.mp 0) (iv 91) (bv true) [[(.md (((putM (putM (putM (putM ([] : List (Int × Bool)) 46 true) 94 true) 36 true) 92 true)).map (encM eB)))]] K) (by kernel_rfl) <| Z5T (P := PP) (t := 48) (K := K) (B2 := [[(.md (((putM (putM (putM (putM (putM ([] : List (Int × Bool)) 46 true) 94 true) 36 true) 92 true) 91 true)).map (encM eB)))]]) (e := eB) (a := true) (es := (putM (putM (putM (putM ([] : List (Int × Bool)) 46 true) 94 true) 36 true) 92 true)) (te := 4) (by kernel_rfl) (by kernel_rfl) (by kernel_rfl) (by kernel_rfl) (by kernel_rfl)) ?_
 refine Sim.xupd (B2 := [[(.md (((putM (putM (putM (putM (putM (putM ([] : List (Int × Bool)) 46 true) 94 true) 36 true) 92 true) 91 true) 93 true)).map (encM eB)))]]) (fun K => Eq.trans (b := xupd PP 48 (.mp 0) (iv 93) (bv true) [[(.md (((putM (putM (putM (putM (putM ([] : List (Int × Bool)) 46 true) 94 true) 36 true) 92 true) 91 true)).map (encM eB)))]] K) (by kernel_rfl) <| Z5T (P := PP) (t := 48) (K := K) (B2 := [[(.md (((putM (putM (putM (putM (putM (putM ([] : List (Int × Bool)) 46 true) 94 true) 36 true) 92 true) 91 true) 93 true)).map (encM eB)))]]) (e := eB) (a := true) (es := (putM (putM (putM (putM (putM ([] : List (Int × Bool)) 46 true) 94 true) 36 true) 92 true) 91 true)) (te := 4) (by kernel_rfl) (by kernel_rfl) (by kernel_rfl) (by kernel_rfl) (by kernel_rfl)) ?_
 refine Sim.xupd (B2 := [[(.md (((putM (putM (putM (putM (putM (putM (putM ([] : List (Int × Bool)) 46 true) 94 true) 36 true) 92 true) 91 true) 93 true) 40 true)).map (encM eB)))]]) (fun K => Eq.trans (b := xupd PP 48 (.mp 0) (iv 40) (bv true) [[(.md (((putM (putM (putM (putM (putM (putM ([] : List (Int × Bool)) 46 true) 94 true) 36 true) 92 true) 91 true) 93 true)).map (encM eB)))]] K) (by kernel_rfl) <| Z5T (P := PP) (t := 48) (K := K) (B2 := [[(.md (((putM (putM (putM (putM (putM (putM (putM ([] : List (Int × Bool)) 46 true) 94 true) 36 true) 92 true) 91 true) 93 true) 40 true)).map (encM eB)))]]) (e := eB) (a := true) (es := (putM (putM (putM (putM (putM (putM ([] : List (Int × Bool)) 46 true) 94 true) 36 true) 92 true) 91 true) 93 true)) (te := 4) (by kernel_rfl) (by kernel_rfl) (by kernel_rfl) (by kernel_rfl) (by kernel_rfl)) ?_
 refine Sim.xupd (B2 := [[(.md (((putM (putM (putM (putM (putM (putM (putM (putM ([] : List (Int × Bool)) 46 true) 94 true) 36 true) 92 true) 91 true) 93 true) 40 true) 41 true)).map (encM eB)))]]) (fun K => Eq.trans (b := xupd PP 48 (.mp 0) (iv 41) (bv true) [[(.md (((putM (putM (putM (putM (putM (putM (putM ([] : List (Int × Bool)) 46 true) 94 true) 36 true) 92 true) 91 true) 93 true) 40 true)).map (encM eB)))]] K) (by kernel_rfl) <| Z5T (P := PP) (t := 48) (K := K) (B2 := [[(.md (((putM (putM (putM (putM (putM (putM (putM (putM ([] : List (Int × Bool)) 46 true) 94 true) 36 true) 92 true) 91 true) 93 true) 40 true) 41 true)).map (encM eB)))]]) (e := eB) (a := true) (es := (putM (putM (putM (putM (putM (putM (putM ([] : List (Int × Bool)) 46 true) 94 true) 36 true) 92 true) 91 true) 93 true) 40 true)) (te := 4) (by kernel_rfl) (by kernel_rfl) (by kernel_rfl) (by kernel_rfl) (by kernel_rfl)) ?_
 refine Sim.xupd (B2 := [[(.md (((putM (putM (putM (putM (putM (putM (putM (putM (putM ([] : List (Int × Bool)) 46 true) 94 true) 36 true) 92 true) 91 true) 93 true) 40 true) 41 true) 124 true)).map (encM eB)))]]) (fun K => Eq.trans (b := xupd PP 48 (.mp 0) (iv 124) (bv true) [[(.md (((putM (putM (putM (putM (putM (putM (putM (putM ([] : List (Int × Bool)) 46 true) 94 true) 36 true) 92 true) 91 true) 93 true) 40 true) 41 true)).map (encM eB)))]] K) (by kernel_rfl) <| Z5T (P := PP) (t := 48) (K := K) (B2 := [[(.md (((putM (putM (putM (putM (putM (putM (putM (putM (putM ([] : List (Int × Bool)) 46 true) 94 true) 36 true) 92 true) 91 true) 93 true) 40 true) 41 true) 124 true)).map (encM eB)))]]) (e := eB) (a := true) (es := (putM (putM (putM (putM (putM (putM (putM (putM ([] : List (Int × Bool)) 46 true) 94 true) 36 true) 92 true) 91 true) 93 true) 40 true) 41 true)) (te := 4) (by kernel_rfl) (by kernel_rfl) (by kernel_rfl) (by kernel_rfl) (by kernel_rfl)) ?_
 refine Sim.xupd (B2 := [[(.md (((putM (putM (putM (putM (putM (putM (putM (putM (putM (putM ([] : List (Int × Bool)) 46 true) 94 true) 36 true) 92 true) 91 true) 93 true) 40 true) 41 true) 124 true) 42 true)).map (encM eB)))]]) (fun K => Eq.trans (b := xupd PP 48 (.mp 0) (iv 42) (bv true) [[(.md (((putM (putM (putM (putM (putM (putM (putM (putM (putM ([] : List (Int × Bool)) 46 true) 94 true) 36 true) 92 true) 91 true) 93 true) 40 true) 41 true) 124 true)).map (encM eB)))]] K) (by kernel_rfl) <| Z5T (P := PP) (t := 48) (K := K) (B2 := [[(.md (((putM (putM (putM (putM (putM (putM (putM (putM (putM (putM ([] : List (Int × Bool)) 46 true) 94 true) 36 true) 92 true) 91 true) 93 true) 40 true) 41 true) 124 true) 42 true)).map (encM eB)))]]) (e := eB) (a := true) (es := (putM (putM (putM (putM (putM (putM (putM (putM (putM ([] : List (Int × Bool)) 46 true) 94 true) 36 true) 92 true) 91 true) 93 true) 40 true) 41 true) 124 true)) (te := 4) (by kernel_rfl) (by kernel_rfl) (by kernel_rfl) (by kernel_rfl) (by kernel_rfl)) ?_
 refine Sim.xupd (B2 := [[(.md (((putM (putM (putM (putM (putM (putM (putM (putM (putM (putM (putM ([] : List (Int × Bool)) 46 true) 94 true) 36 true) 92 true) 91 true) 93 true) 40 true) 41 true) 124 true) 42 true) 43 true)).map (encM eB)))]]) (fun K => Eq.trans (b := xupd PP 48 (.mp 0) (iv 43) (bv true) [[(.md (((putM (putM (putM (putM (putM (putM (putM (putM (putM (putM ([] : List (Int × Bool)) 46 true) 94 true) 36 true) 92 true) 91 true) 93 true) 40 true) 41 true) 124 true) 42 true)).map (encM eB)))]] K) (by kernel_rfl) <| Z5T (P := PP) (t := 48) (K := K) (B2 := [[(.md (((putM (putM (putM (putM (putM (putM (putM (putM (putM (putM (putM ([] : List (Int × Bool)) 46 true) 94 true) 36 true) 92 true) 91 true) 93 true) 40 true) 41 true) 124 true) 42 true) 43 true)).map (encM eB)))]]) (e := eB) (a := true) (es := (putM (putM (putM (putM (putM (putM (putM (putM (putM (putM ([] : List (Int × Bool)) 46 true) 94 true) 36 true) 92 true) 91 true) 93 true) 40 true) 41 true) 124 true) 42 true)) (te := 4) (by kernel_rfl) (by kernel_rfl) (by kernel_rfl) (by kernel_rfl) (by kernel_rfl)) ?_
 refine Sim.xupd (B2 := [[(.md (((putM (putM (putM (putM (putM (putM (putM (putM (putM (putM (putM (putM ([] : List (Int × Bool)) 46 true) 94 true) 36 true) 92 true) 91 true) 93 true) 40 true) 41 true) 124 true) 42 true) 43 true) 63 true)).map (encM eB)))]]) (fun K => Eq.trans (b := xupd PP 48 (.mp 0) (iv 63) (bv true) [[(.md (((putM (putM (putM (putM (putM (putM (putM (putM (putM (putM (putM ([] : List (Int × Bool)) 46 true) 94 true) 36 true) 92 true) 91 true) 93 true) 40 true) 41 true) 124 true) 42 true) 43 true)).map (encM eB)))]] K) (by kernel_rfl) <| Z5T (P := PP) (t := 48) (K := K) (B2 := [[(.md (((putM (putM (putM (putM (putM (putM (putM (putM (putM (putM (putM (putM ([] : List (Int × Bool)) 46 true) 94 true) 36 true) 92 true) 91 true) 93 true) 40 true) 41 true) 124 true) 42 true) 43 true) 63 true)).map (encM eB)))]]) (e := eB) (a := true) (es := (putM (putM (putM (putM (putM (putM (putM (putM (putM (putM (putM ([] : List (Int × Bool)) 46 true) 94 true) 36 true) 92 true) 91 true) 93 true) 40 true) 41 true) 124 true) 42 true) 43 true)) (te := 4) (by kernel_rfl) (by kernel_rfl) (by kernel_rfl) (by kernel_rfl) (by kernel_rfl)) ?_
 refine Sim.xupd (B2 := [[(.md (((putM (putM (putM (putM (putM (putM (putM (putM (putM (putM (putM (putM (putM ([] : List (Int × Bool)) 46 true) 94 true) 36 true) 92 true) 91 true) 93 true) 40 true) 41 true) 124 true) 42 true) 43 true) 63 true) 123 true)).map (encM eB)))]]) (fun K => Eq.trans (b := xupd PP 48 (.mp 0) (iv 123) (bv true) [[(.md (((putM (putM (putM (putM (putM (putM (putM (putM (putM (putM (putM (putM ([] : List (Int × Bool)) 46 true) 94 true) 36 true) 92 true) 91 true) 93 true) 40 true) 41 true) 124 true) 42 true) 43 true) 63 true)).map (encM eB)))]] K) (by kernel_rfl) <| Z5T (P := PP) (t := 48) (K := K) (B2 := [[(.md (((putM (putM (putM (putM (putM (putM (putM (putM (putM (putM (putM (putM (putM ([] : List (Int × Bool)) 46 true) 94 true) 36 true) 92 true) 91 true) 93 true) 40 true) 41 true) 124 true) 42 true) 43 true) 63 true) 123 true)).map (encM eB)))]]) (e := eB) (a := true) (es := (putM (putM (putM (putM (putM (putM (putM (putM (putM (putM (putM (putM ([] : List (Int × Bool)) 46 true) 94 true) 36 true) 92 true) 91 true) 93 true) 40 true) 41 true) 124 true) 42 true) 43 true) 63 true)) (te := 4) (by kernel_rfl) (by kernel_rfl) (by kernel_rfl) (by kernel_rfl) (by kernel_rfl)) ?_
 refine Sim.xupd (B2 := [[(.md (((putM (putM (putM (putM (putM (putM (putM (putM (putM (putM (putM (putM (putM (putM ([] : List (Int × Bool)) 46 true) 94 true) 36 true) 92 true) 91 true) 93 true) 40 true) 41 true) 124 true) 42 true) 43 true) 63 true) 123 true) 125 true)).map (encM eB)))]]) (fun K => Eq.trans (b := xupd PP 48 (.mp 0) (iv 125) (bv true) [[(.md (((putM (putM (putM (putM (putM (putM (putM (putM (putM (putM (putM (putM (putM ([] : List (Int × Bool)) 46 true) 94 true) 36 true) 92 true) 91 true) 93 true) 40 true) 41 true) 124 true) 42 true) 43 true) 63 true) 123 true)).map (encM eB)))]] K) (by kernel_rfl) <| Z5T (P := PP) (t := 48) (K := K) (B2 := [[(.md (((putM (putM (putM (putM (putM (putM (putM (putM (putM (putM (putM (putM (putM (putM ([] : List (Int × Bool)) 46 true) 94 true) 36 true) 92 true) 91 true) 93 true) 40 true) 41 true) 124 true) 42 true) 43 true) 63 true) 123 true) 125 true)).map (encM eB)))]]) (e := eB) (a := true) (es := (putM (putM (putM (putM (putM (putM (putM (putM (putM (putM (putM (putM (putM ([] : List (Int × Bool)) 46 true) 94 true) 36 true) 92 true) 91 true) 93 true) 40 true) 41 true) 124 true) 42 true) 43 true) 63 true) 123 true)) (te := 4) (by kernel_rfl) (by kernel_rfl) (by kernel_rfl) (by kernel_rfl) (by kernel_rfl)) ?_
 exact zk (Z95 x0 ((putM (putM (putM (putM (putM (putM (putM (putM (putM (putM (putM (putM (putM (putM ([] : List (Int × Bool)) 46 true) 94 true) 36 true) 92 true) 91 true) 93 true) 40 true) 41 true) 124 true) 42 true) 43 true) 63 true) 123 true) 125 true)))
def Z3Y (x0 : Int) : Option (Bool) :=
 (Z6V x0).bind fun r1 =>
 if (!r1) = true then
 (some (true))
 else
 (Z3c x0)
theorem Z93 x0 : Sim (Z1h) (Z3Y x0) (ZmV 0 (iv x0) []) := by
 unfold Z3Y
 refine zf (ZpC ..)<|ze<|zi fun r1 hr1 => ?_
 obtain ⟨qr1, er1, exr1, rfl⟩ := ZeH x0 r1 hr1
 refine zc [] (bv r1) [] er1<|zq ?_
 refine za (!r1) ?_ ?_
 ·refine ze ?_
  exact zr ((bv true), []) ⟨_, rfl⟩
 ·exact zk (Z94 x0)
def Z4x (x0 : Int) : Option (Bool) :=
 (Z5z).bind fun r1 =>
 if (!r1) = true then
 (some (false))
 else
 (Z3Y x0)
theorem Za0 x0 : Sim (Z1h) (Z4x x0) (EE 7 [(iv x0)] []) := by
 unfold Z4x
 refine zf (ZsX ..)<|ze<|ze<|zi fun r1 hr1 => ?_
 obtain ⟨qr1, er1, exr1, rfl⟩ := ZbL  r1 hr1
 refine zc [] (bv r1) [] er1<|zq ?_
 refine za (!r1) ?_ ?_
 ·refine ze ?_
  exact zr ((bv false), []) ⟨_, rfl⟩
 ·exact zk (Z93 x0)
theorem Zaf (x0 : Int) {r} (h : Z4x x0 = some r) : Z5U x0 = some r :=
 Z1e (fun _ _ ha hb => RRun.uniq Zam (ha ) (hb )) (Za0 x0 r h)
def Z2C  : Option (Bool) :=
 some (false)
theorem Z3d  : Sim (Z39) (Z2C) (Zch 0  []) := by
 unfold Z2C
 refine zf (Znv ..)<|ze ?_
 exact zr ((bv false), []) ⟨_, rfl⟩
def Z64 (b3 b5 b7 : Zj) : Option (Bool) :=
 if ((b3.Code == 23) && ((b3.At == 2) && true)) = true then
 (if ((b5.Code == 20) && ((b5.At == 0) && true)) = true then
 (some ((b7.Code == 26) && ((b7.At == 0) && true)))
 else
 (some (false)))
 else
 (some (false))
theorem Zah b0 b1 b2 b3 b4 b5 b6 b7 zR zM za6 z9k za7 z9l za8 z9m : Sim (Z39) (Z64 b3 b5 b7) (Zjo 0 (.ptr 3 0) (.ptr 5 0) (.ptr 7 0) [(Zw b0 zR zM), (ZC b1), (Zw b2 za6 z9k), (ZC b3), (Zw b4 za7 z9l), (ZC b5), (Zw b6 za8 z9m), (ZC b7)]) := by
 unfold Z64
 refine zf (Znw ..)<|ze<|zq<|zq ?_
 refine zo (bv ((b3.Code == 23) && ((b3.At == 2) && true))) ?_ (Eq.trans (b := xbin PP .eql 32 (.p (.agg (Z16 b3))) (.p (.agg (Z16 (Zj.mk 23 2))))) (by kernel_rfl) (ZiH (by kernel_rfl) (by kernel_rfl) (by kernel_rfl) (by kernel_rfl) (by kernel_rfl)))
 refine za ((b3.Code == 23) && ((b3.At == 2) && true)) ?_ ?_
 ·refine zq<|zq ?_
  refine zo (bv ((b5.Code == 20) && ((b5.At == 0) && true))) ?_ (Eq.trans (b := xbin PP .eql 32 (.p (.agg (Z16 b5))) (.p (.agg (Z16 (Zj.mk 20 0))))) (by kernel_rfl) (ZiH (by kernel_rfl) (by kernel_rfl) (by kernel_rfl) (by kernel_rfl) (by kernel_rfl)))
  refine za ((b5.Code == 20) && ((b5.At == 0) && true)) ?_ ?_
  ·refine zq<|zq ?_
   refine zo (bv ((b7.Code == 26) && ((b7.At == 0) && true))) ?_ (Eq.trans (b := xbin PP .eql 32 (.p (.agg (Z16 b7))) (.p (.agg (Z16 (Zj.mk 26 0))))) (by kernel_rfl) (ZiH (by kernel_rfl) (by kernel_rfl) (by kernel_rfl) (by kernel_rfl) (by kernel_rfl)))
   exact zr ((bv ((b7.Code == 26) && ((b7.At == 0) && true))), [(Zw b0 zR zM), (ZC b1), (Zw b2 za6 z9k), (ZC b3), (Zw b4 za7 z9l), (ZC b5), (Zw b6 za8 z9m), (ZC b7)]) ⟨_, rfl⟩
  ·exact zr ((bv false), [(Zw b0 zR zM), (ZC b1), (Zw b2 za6 z9k), (ZC b3), (Zw b4 za7 z9l), (ZC b5), (Zw b6 za8 z9m), (ZC b7)]) ⟨_, rfl⟩
 ·exact zr ((bv false), [(Zw b0 zR zM), (ZC b1), (Zw b2 za6 z9k), (ZC b3), (Zw b4 za7 z9l), (ZC b5), (Zw b6 za8 z9m), (ZC b7)]) ⟨_, rfl⟩
def Z5u  : Option (Bool) :=
 (Z4y (ByteArray.mk #[97, 124, 98, 42, 63])).bind fun r1 =>
 (Z4y (ByteArray.mk #[97, 42, 42])).bind fun r2 =>
 (Z4y (ByteArray.mk #[40, 97])).bind fun r3 =>
 (Z4y (ByteArray.mk #[92, 49])).bind fun r4 =>
 if (r1.2.Code != 0) = true then
 (Z2C)
 else
 (if (r1.1.Root.Kind != 3) = true then
 (Z2C)
 else
 (if ((r1.1.Root.Kids.length : Int) != 2) = true then
 (Z2C)
 else
 ((lget r1.1.Root.Kids 1).bind fun a5 =>
 if (a5.Kind != 4) = true then
 (Z2C)
 else
 ((lget r1.1.Root.Kids 1).bind fun a6 =>
 if (a6.Mode != 1) = true then
 (Z2C)
 else
 (Z64 r2.2 r3.2 r4.2)))))
theorem Zbq  : Sim (Z39) (Z5u) (EE 15 [] []) := by
 unfold Z5u
 refine zf (Zrk ..)<|ze<|ze<|zi fun r1 hr1 => ?_
 obtain ⟨qr1, er1, exr1, rfl⟩ := Z5n (ByteArray.mk #[97, 124, 98, 42, 63]) r1 hr1
 refine zc [] (.p (.tup [(.agg (Z1x r1.1 .sh .sh)), (.agg (Z16 r1.2))])) [] er1<|zq<|zq<|zz (.ptr 0 0) [(Zw (ZD.mk (Z8.mk 0 0 0 0 0 ([] : List Z7) ([] : List Z8)) 0 false) .nl .nl)]<|zz (.ptr 1 0) [(Zw (ZD.mk (Z8.mk 0 0 0 0 0 ([] : List Z7) ([] : List Z8)) 0 false) .nl .nl), (ZC (Zj.mk 0 0))]<|zt [(Zw r1.1 .sh .sh), (ZC (Zj.mk 0 0))]<|zt [(Zw r1.1 .sh .sh), (ZC r1.2)]<|ze<|zi fun r2 hr2 => ?_
 obtain ⟨qr2, er2, exr2, rfl⟩ := Z5n (ByteArray.mk #[97, 42, 42]) r2 hr2
 refine zc [] (.p (.tup [(.agg (Z1x r2.1 .sh .sh)), (.agg (Z16 r2.2))])) [(Zw r1.1 .sh .sh), (ZC r1.2)] er2<|zq<|zq<|zz (.ptr 2 0) [(Zw r1.1 .sh .sh), (ZC r1.2), (Zw (ZD.mk (Z8.mk 0 0 0 0 0 ([] : List Z7) ([] : List Z8)) 0 false) .nl .nl)]<|zz (.ptr 3 0) [(Zw r1.1 .sh .sh), (ZC r1.2), (Zw (ZD.mk (Z8.mk 0 0 0 0 0 ([] : List Z7) ([] : List Z8)) 0 false) .nl .nl), (ZC (Zj.mk 0 0))]<|zt [(Zw r1.1 .sh .sh), (ZC r1.2), (Zw r2.1 .sh .sh), (ZC (Zj.mk 0 0))]<|zt [(Zw r1.1 .sh .sh), (ZC r1.2), (Zw r2.1 .sh .sh), (ZC r2.2)]<|ze<|zi fun r3 hr3 => ?_
 obtain ⟨qr3, er3, exr3, rfl⟩ := Z5n (ByteArray.mk #[40, 97]) r3 hr3
 refine zc [] (.p (.tup [(.agg (Z1x r3.1 .sh .sh)), (.agg (Z16 r3.2))])) [(Zw r1.1 .sh .sh), (ZC r1.2), (Zw r2.1 .sh .sh), (ZC r2.2)] er3<|zq<|zq<|zz (.ptr 4 0) [(Zw r1.1 .sh .sh), (ZC r1.2), (Zw r2.1 .sh .sh), (ZC r2.2), (Zw (ZD.mk (Z8.mk 0 0 0 0 0 ([] : List Z7) ([] : List Z8)) 0 false) .nl .nl)]<|zz (.ptr 5 0) [(Zw r1.1 .sh .sh), (ZC r1.2), (Zw r2.1 .sh .sh), (ZC r2.2), (Zw (ZD.mk (Z8.mk 0 0 0 0 0 ([] : List Z7) ([] : List Z8)) 0 false) .nl .nl), (ZC (Zj.mk 0 0))]<|zt [(Zw r1.1 .sh .sh), (ZC r1.2), (Zw r2.1 .sh .sh), (ZC r2.2), (Zw r3.1 .sh .sh), (ZC (Zj.mk 0 0))]<|zt [(Zw r1.1 .sh .sh), (ZC r1.2), (Zw r2.1 .sh .sh), (ZC r2.2), (Zw r3.1 .sh .sh), (ZC r3.2)]<|ze<|zi fun r4 hr4 => ?_
 obtain ⟨qr4, er4, exr4, rfl⟩ := Z5n (ByteArray.mk #[92, 49]) r4 hr4
 refine zc [] (.p (.tup [(.agg (Z1x r4.1 .sh .sh)), (.agg (Z16 r4.2))])) [(Zw r1.1 .sh .sh), (ZC r1.2), (Zw r2.1 .sh .sh), (ZC r2.2), (Zw r3.1 .sh .sh), (ZC r3.2)] er4<|zq<|zq<|zz (.ptr 6 0) [(Zw r1.1 .sh .sh), (ZC r1.2), (Zw r2.1 .sh .sh), (ZC r2.2), (Zw r3.1 .sh .sh), (ZC r3.2), (Zw (ZD.mk (Z8.mk 0 0 0 0 0 ([] : List Z7) ([] : List Z8)) 0 false) .nl .nl)]<|zz (.ptr 7 0) [(Zw r1.1 .sh .sh), (ZC r1.2), (Zw r2.1 .sh .sh), (ZC r2.2), (Zw r3.1 .sh .sh), (ZC r3.2), (Zw (ZD.mk (Z8.mk 0 0 0 0 0 ([] : List Z7) ([] : List Z8)) 0 false) .nl .nl), (ZC (Zj.mk 0 0))]<|zt [(Zw r1.1 .sh .sh), (ZC r1.2), (Zw r2.1 .sh .sh), (ZC r2.2), (Zw r3.1 .sh .sh), (ZC r3.2), (Zw r4.1 .sh .sh), (ZC (Zj.mk 0 0))]<|zt [(Zw r1.1 .sh .sh), (ZC r1.2), (Zw r2.1 .sh .sh), (ZC r2.2), (Zw r3.1 .sh .sh), (ZC r3.2), (Zw r4.1 .sh .sh), (ZC r4.2)]<|ze<|zq<|zq<|zq ?_
 refine za (r1.2.Code != 0) ?_ ?_
 ·exact zk (Z3d )
 ·refine zq<|zq<|zq<|zq ?_
  refine za (r1.1.Root.Kind != 3) ?_ ?_
  ·exact zk (Z3d )
  ·refine zq<|zq<|zq ?_
   refine zo (iv (r1.1.Root.Kids.length : Int)) ?_ (Eq.trans (by kernel_rfl) (Z5r (P := PP) (t := 25) (d := 27) (by kernel_rfl) ZX .sh r1.1.Root.Kids))
   refine zq ?_
   refine za ((r1.1.Root.Kids.length : Int) != 2) ?_ ?_
   ·exact zk (Z3d )
   ·refine zq<|zq<|zq<|zi fun a5 ha5 => ?_
    refine zo (.cptr (ZE a5 .sh .sh)) ?_ (Eq.trans (by kernel_rfl) (Z6d (o := .sh) (k := .i64) (n := 7) (e := ZX) (cs := Z3i) ZaK (fun _ => rfl) (by decide) ha5))
    refine zq<|zq<|zq ?_
    refine za (a5.Kind != 4) ?_ ?_
    ·exact zk (Z3d )
    ·refine zq<|zq<|zq<|zi fun a6 ha6 => ?_
     refine zo (.cptr (ZE a6 .sh .sh)) ?_ (Eq.trans (by kernel_rfl) (Z6d (o := .sh) (k := .i64) (n := 7) (e := ZX) (cs := Z3i) ZaK (fun _ => rfl) (by decide) ha6))
     refine zq<|zq<|zq ?_
     refine za (a6.Mode != 1) ?_ ?_
     ·exact zk (Z3d )
     ·exact zk (Zah r1.1 r1.2 r2.1 r2.2 r3.1 r3.2 r4.1 r4.2 .sh .sh .sh .sh .sh .sh .sh .sh)
theorem ZbK  {r} (h : Z5u = some r) : Z5z = some r :=
 Z1e (fun _ _ ha hb => RRun.uniq Zcd (ha ) (hb )) (Zbq  r h)
def Z3w (z24 : List Int) (zQ : Int) (z1k : List Zq) (zH zS zK zV zU zL zN : Int) (zO : List Z7) (zJ : List Z8) (z15 : Bool) : Option (ZD × Zj) :=
 Z5m z1k (z1k.length : Int) 0 z24 zQ zH zS zK zV zU zL zN zO zJ z15
theorem Z7k b0 b1 z24 z1Y zQ z1H z1k zH zS zK zV zU zL zN zO zJ z1z z15 zR zM z2w z19 z14 z12 (z1E : ZF zR = true) (z1w : ZF zM = true) (z2I : ZF z19 = true) : Sim (Z2x) (Z3w z24 zQ z1k zH zS zK zV zU zL zN zO zJ z15) (Zfh 0 (.ptr 0 0) (.ptr 1 0) (.ptr 2 0) (.ptr 3 0) [(Zw b0 zR zM), (ZC b1), (Zi (Zk.mk z24 z1Y zQ z1H z1k (Zj.mk zH zS)) z2w z19), (Zw (ZD.mk (Z8.mk zK zV zU zL zN zO zJ) z1z z15) z14 z12)]) := by
 unfold Z3w
 refine zf (ZnB ..)<|ze<|zq<|zq<|zq ?_
 refine zo (iv (z1k.length : Int)) ?_ (Eq.trans (by kernel_rfl) (Z5r (P := PP) (t := 56) (d := 62) (by kernel_rfl) Z1S (shrO z19) z1k))
 exact zk (Zak z1k (z1k.length : Int) 0 b0 b1 z24 z1Y zQ z1H z1k zH zS zK zV zU zL zN zO zJ z1z z15 (shrO z19) zR zM z2w z19 z14 z12 z1E z1w z2I)
def Z6f (z24 : List Int) (z1Y zQ : Int) (z1k : List Zq) (zH zS zK zV zU zL zN : Int) (zO : List Z7) (zJ : List Z8) (z15 : Bool) : Option (ZD × Zj) :=
 (ZT 20 z1Y z24 zH zS).bind fun r1 =>
 Z3w z24 zQ z1k r1.2.1 r1.2.2 zK zV zU zL zN zO zJ z15
theorem ZeB b0 b1 z24 z1Y zQ z1H z1k zH zS zK zV zU zL zN zO zJ z1z z15 zR zM z2w z19 z14 z12 (z1E : ZF zR = true) (z1w : ZF zM = true) (z2I : ZF z19 = true) : Sim (Z2x) (Z6f z24 z1Y zQ z1k zH zS zK zV zU zL zN zO zJ z15) (Zjr 0 (.ptr 0 0) (.ptr 1 0) (.ptr 2 0) (.ptr 3 0) [(Zw b0 zR zM), (ZC b1), (Zi (Zk.mk z24 z1Y zQ z1H z1k (Zj.mk zH zS)) z2w z19), (Zw (ZD.mk (Z8.mk zK zV zU zL zN zO zJ) z1z z15) z14 z12)]) := by
 unfold Z6f
 refine zf (ZnA ..)<|ze<|zq<|zq<|zq<|zi fun r1 hr1 => ?_
 obtain ⟨qr1, er1, exr1, rfl⟩ := ZW 20 z1Y z24 z1Y zQ z1H z1k zH zS z2w z19 z2I r1 hr1
 refine zc [2] (.p (.tup [])) [(Zw b0 zR zM), (ZC b1), (Zi (Zk.mk z24 r1.1 zQ z1H z1k (Zj.mk r1.2.1 r1.2.2)) z2w z19), (Zw (ZD.mk (Z8.mk zK zV zU zL zN zO zJ) z1z z15) z14 z12)] er1 ?_
 exact zk (Z7k b0 b1 z24 r1.1 zQ z1H z1k r1.2.1 r1.2.2 zK zV zU zL zN zO zJ z1z z15 zR zM z2w z19 z14 z12 z1E z1w z2I)
def Z7e (x0 : ByteArray) : Option (ZD × Zj) :=
 (Z17 (ByteArray.mk #[40, 63, 105, 41]) (Z36 x0) 0).bind fun r1 =>
 (Z37 (Z36 x0) r1.2 0 0 ([] : List Zq) 0 0).bind fun r2 =>
 if (r2.2.2.2.2.2.1 == 0) = true then
 (if (decide (r2.2.1 < ((Z36 x0).length : Int))) = true then
 (Z6f (Z36 x0) r2.2.1 r2.2.2.1 r2.2.2.2.2.1 r2.2.2.2.2.2.1 r2.2.2.2.2.2.2 r2.1.Kind r2.1.Lo r2.1.Hi r2.1.Mode r2.1.Ref r2.1.Set r2.1.Kids r1.1)
 else
 (Z3w (Z36 x0) r2.2.2.1 r2.2.2.2.2.1 r2.2.2.2.2.2.1 r2.2.2.2.2.2.2 r2.1.Kind r2.1.Lo r2.1.Hi r2.1.Mode r2.1.Ref r2.1.Set r2.1.Kids r1.1))
 else
 (Z3w (Z36 x0) r2.2.2.1 r2.2.2.2.2.1 r2.2.2.2.2.2.1 r2.2.2.2.2.2.2 r2.1.Kind r2.1.Lo r2.1.Hi r2.1.Mode r2.1.Ref r2.1.Set r2.1.Kids r1.1)
theorem ZeA x0 b0 b1 zR zM (z1E : ZF zR = true) (z1w : ZF zM = true) : Sim (Z2x) (Z7e x0) (Zjq 0 (.p (.v (.string x0))) (.ptr 0 0) (.ptr 1 0) [(Zw b0 zR zM), (ZC b1)]) := by
 unfold Z7e
 refine zf (Znz ..)<|ze ?_
 refine zo (.p (.lst .sh ((Z36 x0).map (eI .u8)))) ?_ (Eq.trans (by kernel_rfl) (Zqg (P := PP) (s := 9) (d := 40) (by kernel_rfl) (by kernel_rfl) x0))
 refine zq<|zx (.ptr 2 0) [(Zw b0 zR zM), (ZC b1), (Zi (Zk.mk (Z36 x0) 0 0 0 ([] : List Zq) (Zj.mk 0 0)) .sh .nl)]<|ze<|zi fun r1 hr1 => ?_
 obtain ⟨qr1, er1, exr1, rfl⟩ := Z1d (ByteArray.mk #[40, 63, 105, 41]) (Z36 x0) 0 0 0 ([] : List Zq) 0 0 .sh .nl rfl r1 hr1
 refine zc [2] (bv r1.1) [(Zw b0 zR zM), (ZC b1), (Zi (Zk.mk (Z36 x0) r1.2 0 0 ([] : List Zq) (Zj.mk 0 0)) .sh .nl)] er1<|zq<|zz (.ptr 3 0) [(Zw b0 zR zM), (ZC b1), (Zi (Zk.mk (Z36 x0) r1.2 0 0 ([] : List Zq) (Zj.mk 0 0)) .sh .nl), (Zw (ZD.mk (Z8.mk 0 0 0 0 0 ([] : List Z7) ([] : List Z8)) 0 false) .nl .nl)]<|zt [(Zw b0 zR zM), (ZC b1), (Zi (Zk.mk (Z36 x0) r1.2 0 0 ([] : List Zq) (Zj.mk 0 0)) .sh .nl), (Zw (ZD.mk (Z8.mk 0 0 0 0 0 ([] : List Z7) ([] : List Z8)) 0 r1.1) .nl .nl)]<|ze<|zi fun r2 hr2 => ?_
 obtain ⟨qr2, er2, or2_0_4, exr2, hor2_0_4, rfl⟩ := Z9I (Z36 x0) r1.2 0 0 ([] : List Zq) 0 0 .sh .nl rfl r2 hr2
 refine zc [2] (.p (.agg (ZE r2.1 .sh .sh))) [(Zw b0 zR zM), (ZC b1), (Zi (Zk.mk (Z36 x0) r2.2.1 r2.2.2.1 r2.2.2.2.1 r2.2.2.2.2.1 (Zj.mk r2.2.2.2.2.2.1 r2.2.2.2.2.2.2)) .sh or2_0_4), (Zw (ZD.mk (Z8.mk 0 0 0 0 0 ([] : List Z7) ([] : List Z8)) 0 r1.1) .nl .nl)] er2<|zq<|zt [(Zw b0 zR zM), (ZC b1), (Zi (Zk.mk (Z36 x0) r2.2.1 r2.2.2.1 r2.2.2.2.1 r2.2.2.2.2.1 (Zj.mk r2.2.2.2.2.2.1 r2.2.2.2.2.2.2)) .sh or2_0_4), (Zw (ZD.mk (Z8.mk r2.1.Kind r2.1.Lo r2.1.Hi r2.1.Mode r2.1.Ref r2.1.Set r2.1.Kids) 0 r1.1) .sh .sh)]<|ze<|zq<|zq<|zq<|zq<|zq ?_
 refine za (r2.2.2.2.2.2.1 == 0) ?_ ?_
 ·refine zq<|zq<|zq<|zq<|zq<|zq ?_
  refine zo (iv ((Z36 x0).length : Int)) ?_ (Eq.trans (by kernel_rfl) (Z5r (P := PP) (t := 40) (d := 5) (by kernel_rfl) (eI .u8) .sh (Z36 x0)))
  refine zq ?_
  refine za (decide (r2.2.1 < ((Z36 x0).length : Int))) ?_ ?_
  ·exact zk (ZeB b0 b1 (Z36 x0) r2.2.1 r2.2.2.1 r2.2.2.2.1 r2.2.2.2.2.1 r2.2.2.2.2.2.1 r2.2.2.2.2.2.2 r2.1.Kind r2.1.Lo r2.1.Hi r2.1.Mode r2.1.Ref r2.1.Set r2.1.Kids 0 r1.1 zR zM .sh or2_0_4 .sh .sh z1E z1w hor2_0_4)
  ·exact zk (Z7k b0 b1 (Z36 x0) r2.2.1 r2.2.2.1 r2.2.2.2.1 r2.2.2.2.2.1 r2.2.2.2.2.2.1 r2.2.2.2.2.2.2 r2.1.Kind r2.1.Lo r2.1.Hi r2.1.Mode r2.1.Ref r2.1.Set r2.1.Kids 0 r1.1 zR zM .sh or2_0_4 .sh .sh z1E z1w hor2_0_4)
 ·exact zk (Z7k b0 b1 (Z36 x0) r2.2.1 r2.2.2.1 r2.2.2.2.1 r2.2.2.2.2.1 r2.2.2.2.2.2.1 r2.2.2.2.2.2.2 r2.1.Kind r2.1.Lo r2.1.Hi r2.1.Mode r2.1.Ref r2.1.Set r2.1.Kids 0 r1.1 zR zM .sh or2_0_4 .sh .sh z1E z1w hor2_0_4)
def Z9e (x0 : ByteArray) : Option (ZD × Zj) :=
 if (decide (256 < (x0.size : Int))) = true then
 (some ((ZD.mk (Z8.mk 0 0 0 0 0 ([] : List Z7) ([] : List Z8)) 0 false), (Zj.mk 12 0)))
 else
 (Z7e x0)
theorem Zgr x0 : Sim (Z2x) (Z9e x0) (EE 16 [(.p (.v (.string x0)))] []) := by
 unfold Z9e
 refine zf (Zrm ..)<|ze<|zz (.ptr 0 0) [(Zw (ZD.mk (Z8.mk 0 0 0 0 0 ([] : List Z7) ([] : List Z8)) 0 false) .nl .nl)]<|zz (.ptr 1 0) [(Zw (ZD.mk (Z8.mk 0 0 0 0 0 ([] : List Z7) ([] : List Z8)) 0 false) .nl .nl), (ZC (Zj.mk 0 0))]<|ze<|zq<|zq ?_
 refine za (decide (256 < (x0.size : Int))) ?_ ?_
 ·refine ze<|zq<|zq<|zt [(Zw (ZD.mk (Z8.mk 0 0 0 0 0 ([] : List Z7) ([] : List Z8)) 0 false) .nl .nl), (ZC (Zj.mk 0 0))]<|zt [(Zw (ZD.mk (Z8.mk 0 0 0 0 0 ([] : List Z7) ([] : List Z8)) 0 false) .nl .nl), (ZC (Zj.mk 12 0))] ?_
  exact zr ((.p (.tup [(.agg (Z1x (ZD.mk (Z8.mk 0 0 0 0 0 ([] : List Z7) ([] : List Z8)) 0 false) .sh .sh)), (.agg (Z16 (Zj.mk 12 0)))])), [(Zw (ZD.mk (Z8.mk 0 0 0 0 0 ([] : List Z7) ([] : List Z8)) 0 false) .nl .nl), (ZC (Zj.mk 12 0))]) ⟨_, rfl⟩
 ·exact zk (ZeA x0 (ZD.mk (Z8.mk 0 0 0 0 0 ([] : List Z7) ([] : List Z8)) 0 false) (Zj.mk 0 0) .nl .nl rfl rfl)
theorem ZgT (x0 : ByteArray) {r} (h : Z9e x0 = some r) : Z4y x0 = some r :=
 Z1e (fun _ _ ha hb => RRun.uniq ZcR (ha ) (hb )) (Zgr x0 r h)
def Z3K (x50 : List Zq) (x51 x52 : Int) (z24 : List Int) (zQ zH zS zK zV zU zL zN : Int) (zO : List Z7) (zJ : List Z8) (z15 : Bool) : Option (ZD × Zj) :=
 Z5m x50 x51 (IntKind.i64.wrap (x52 + 1)) z24 zQ zH zS zK zV zU zL zN zO zJ z15
theorem Z9G (x50 : List Zq) x51 x52 b0 b1 z24 z1Y zQ z1H z1k zH zS zK zV zU zL zN zO zJ z1z z15 ox50 zR zM z2w z19 z14 z12 (z1E : ZF zR = true) (z1w : ZF zM = true) (z2I : ZF z19 = true) : Sim (Z2x) (Z3K x50 x51 x52 z24 zQ zH zS zK zV zU zL zN zO zJ z15) (ZfY 0 (.ptr 0 0) (.ptr 1 0) (.ptr 2 0) (.ptr 3 0) (.p (.lst ox50 (x50.map Z1S))) (iv x51) (iv x52) [(Zw b0 zR zM), (ZC b1), (Zi (Zk.mk z24 z1Y zQ z1H z1k (Zj.mk zH zS)) z2w z19), (Zw (ZD.mk (Z8.mk zK zV zU zL zN zO zJ) z1z z15) z14 z12)]) := by
 unfold Z3K
 refine zf (Zmo ..)<|ze<|zq ?_
 exact zk (Zak x50 x51 (IntKind.i64.wrap (x52 + 1)) b0 b1 z24 z1Y zQ z1H z1k zH zS zK zV zU zL zN zO zJ z1z z15 ox50 zR zM z2w z19 z14 z12 z1E z1w z2I)
def Z5X (x50 : List Zq) (x51 x52 : Int) (z24 : List Int) (zQ zH zS zK zV zU zL zN : Int) (zO : List Z7) (zJ : List Z8) (z15 : Bool) : Option (ZD × Zj) :=
 (lget x50 x52).bind fun a1 =>
 if (decide (zQ < a1.group)) = true then
 ((ZT 26 a1.at_ z24 zH zS).bind fun r2 =>
 Z3K x50 x51 x52 z24 zQ r2.2.1 r2.2.2 zK zV zU zL zN zO zJ z15)
 else
 (Z3K x50 x51 x52 z24 zQ zH zS zK zV zU zL zN zO zJ z15)
theorem ZdV (x50 : List Zq) x51 x52 b0 b1 z24 z1Y zQ z1H z1k zH zS zK zV zU zL zN zO zJ z1z z15 ox50 zR zM z2w z19 z14 z12 (z1E : ZF zR = true) (z1w : ZF zM = true) (z2I : ZF z19 = true) : Sim (Z2x) (Z5X x50 x51 x52 z24 zQ zH zS zK zV zU zL zN zO zJ z15) (Zih 0 (.ptr 0 0) (.ptr 1 0) (.ptr 2 0) (.ptr 3 0) (.p (.lst ox50 (x50.map Z1S))) (iv x51) (iv x52) [(Zw b0 zR zM), (ZC b1), (Zi (Zk.mk z24 z1Y zQ z1H z1k (Zj.mk zH zS)) z2w z19), (Zw (ZD.mk (Z8.mk zK zV zU zL zN zO zJ) z1z z15) z14 z12)]) := by
 unfold Z5X
 refine zf (Zmn ..)<|ze<|zi fun a1 ha1 => ?_
 refine zo (.cptr (Z9w a1)) ?_ (Eq.trans (by kernel_rfl) (Z6d (o := ox50) (k := .i64) (n := 2) (e := Z1S) (cs := Z7i) (fun _ => rfl) (fun _ => rfl) (by decide) ha1))
 refine zq<|zz (.ptr 4 0) [(Zw b0 zR zM), (ZC b1), (Zi (Zk.mk z24 z1Y zQ z1H z1k (Zj.mk zH zS)) z2w z19), (Zw (ZD.mk (Z8.mk zK zV zU zL zN zO zJ) z1z z15) z14 z12), (Z9y (Zq.mk 0 0))]<|zt [(Zw b0 zR zM), (ZC b1), (Zi (Zk.mk z24 z1Y zQ z1H z1k (Zj.mk zH zS)) z2w z19), (Zw (ZD.mk (Z8.mk zK zV zU zL zN zO zJ) z1z z15) z14 z12), (Z9y a1)]<|ze<|zq<|zq<|zq<|zq<|zq<|zq ?_
 refine za (decide (zQ < a1.group)) ?_ ?_
 ·refine ze<|zq<|zq<|zi fun r2 hr2 => ?_
  obtain ⟨qr2, er2, exr2, rfl⟩ := ZW 26 a1.at_ z24 z1Y zQ z1H z1k zH zS z2w z19 z2I r2 hr2
  refine zc [2] (.p (.tup [])) [(Zw b0 zR zM), (ZC b1), (Zi (Zk.mk z24 r2.1 zQ z1H z1k (Zj.mk r2.2.1 r2.2.2)) z2w z19), (Zw (ZD.mk (Z8.mk zK zV zU zL zN zO zJ) z1z z15) z14 z12), (Z9y a1)] er2 ?_
  exact zk (Z9G x50 x51 x52 b0 b1 z24 r2.1 zQ z1H z1k r2.2.1 r2.2.2 zK zV zU zL zN zO zJ z1z z15 ox50 zR zM z2w z19 z14 z12 z1E z1w z2I)
 ·exact zk (Z9G x50 x51 x52 b0 b1 z24 z1Y zQ z1H z1k zH zS zK zV zU zL zN zO zJ z1z z15 ox50 zR zM z2w z19 z14 z12 z1E z1w z2I)
def Z8N (zQ zK zV zU zL zN : Int) (zO : List Z7) (zJ : List Z8) (z15 : Bool) : Option (ZD × Zj) :=
 some ((ZD.mk (Z8.mk zK zV zU zL zN zO zJ) zQ z15), (Zj.mk 0 0))
theorem ZdX b0 b1 z24 z1Y zQ z1H z1k zH zS zK zV zU zL zN zO zJ z1z z15 zR zM z2w z19 z14 z12 (z1E : ZF zR = true) (z1w : ZF zM = true) (z2I : ZF z19 = true) : Sim (Z2x) (Z8N zQ zK zV zU zL zN zO zJ z15) (Zij 0 (.ptr 0 0) (.ptr 1 0) (.ptr 2 0) (.ptr 3 0) [(Zw b0 zR zM), (ZC b1), (Zi (Zk.mk z24 z1Y zQ z1H z1k (Zj.mk zH zS)) z2w z19), (Zw (ZD.mk (Z8.mk zK zV zU zL zN zO zJ) z1z z15) z14 z12)]) := by
 unfold Z8N
 refine zf (Zmq ..)<|ze<|zq<|zq<|zq<|zq<|zt [(Zw b0 zR zM), (ZC b1), (Zi (Zk.mk z24 z1Y zQ z1H z1k (Zj.mk zH zS)) z2w z19), (Zw (ZD.mk (Z8.mk zK zV zU zL zN zO zJ) zQ z15) z14 z12)]<|ze<|zq<|zq<|zt [(Zw (ZD.mk (Z8.mk zK zV zU zL zN zO zJ) zQ z15) (shrO z14) (shrO z12)), (ZC b1), (Zi (Zk.mk z24 z1Y zQ z1H z1k (Zj.mk zH zS)) z2w z19), (Zw (ZD.mk (Z8.mk zK zV zU zL zN zO zJ) zQ z15) z14 z12)]<|zt [(Zw (ZD.mk (Z8.mk zK zV zU zL zN zO zJ) zQ z15) (shrO z14) (shrO z12)), (ZC (Zj.mk 0 0)), (Zi (Zk.mk z24 z1Y zQ z1H z1k (Zj.mk zH zS)) z2w z19), (Zw (ZD.mk (Z8.mk zK zV zU zL zN zO zJ) zQ z15) z14 z12)] ?_
 exact zr ((.p (.tup [(.agg (Z1x (ZD.mk (Z8.mk zK zV zU zL zN zO zJ) zQ z15) .sh .sh)), (.agg (Z16 (Zj.mk 0 0)))])), [(Zw (ZD.mk (Z8.mk zK zV zU zL zN zO zJ) zQ z15) (shrO z14) (shrO z12)), (ZC (Zj.mk 0 0)), (Zi (Zk.mk z24 z1Y zQ z1H z1k (Zj.mk zH zS)) z2w z19), (Zw (ZD.mk (Z8.mk zK zV zU zL zN zO zJ) zQ z15) z14 z12)]) ⟨_, rfl⟩
def Z5Y (zQ zH zS zK zV zU zL zN : Int) (zO : List Z7) (zJ : List Z8) (z15 : Bool) : Option (ZD × Zj) :=
 if (zH != 0) = true then
 (some ((ZD.mk (Z8.mk 0 0 0 0 0 ([] : List Z7) ([] : List Z8)) 0 false), (Zj.mk zH zS)))
 else
 (Z8N zQ zK zV zU zL zN zO zJ z15)
theorem ZdW b0 b1 z24 z1Y zQ z1H z1k zH zS zK zV zU zL zN zO zJ z1z z15 zR zM z2w z19 z14 z12 (z1E : ZF zR = true) (z1w : ZF zM = true) (z2I : ZF z19 = true) : Sim (Z2x) (Z5Y zQ zH zS zK zV zU zL zN zO zJ z15) (Zii 0 (.ptr 0 0) (.ptr 1 0) (.ptr 2 0) (.ptr 3 0) [(Zw b0 zR zM), (ZC b1), (Zi (Zk.mk z24 z1Y zQ z1H z1k (Zj.mk zH zS)) z2w z19), (Zw (ZD.mk (Z8.mk zK zV zU zL zN zO zJ) z1z z15) z14 z12)]) := by
 unfold Z5Y
 refine zf (Zmp ..)<|ze<|zq<|zq<|zq<|zq<|zq ?_
 refine za (zH != 0) ?_ ?_
 ·refine ze<|zq<|zq<|zq<|zq<|zt [(Zw (ZD.mk (Z8.mk 0 0 0 0 0 ([] : List Z7) ([] : List Z8)) 0 false) .nl .nl), (ZC b1), (Zi (Zk.mk z24 z1Y zQ z1H z1k (Zj.mk zH zS)) z2w z19), (Zw (ZD.mk (Z8.mk zK zV zU zL zN zO zJ) z1z z15) z14 z12)]<|zt [(Zw (ZD.mk (Z8.mk 0 0 0 0 0 ([] : List Z7) ([] : List Z8)) 0 false) .nl .nl), (ZC (Zj.mk zH zS)), (Zi (Zk.mk z24 z1Y zQ z1H z1k (Zj.mk zH zS)) z2w z19), (Zw (ZD.mk (Z8.mk zK zV zU zL zN zO zJ) z1z z15) z14 z12)]<|zg ?_
  exact zr ((.p (.tup [(.agg (Z1x (ZD.mk (Z8.mk 0 0 0 0 0 ([] : List Z7) ([] : List Z8)) 0 false) .sh .sh)), (.agg (Z16 (Zj.mk zH zS)))])), [(Zw (ZD.mk (Z8.mk 0 0 0 0 0 ([] : List Z7) ([] : List Z8)) 0 false) .nl .nl), (ZC (Zj.mk zH zS)), (Zi (Zk.mk z24 z1Y zQ z1H z1k (Zj.mk zH zS)) z2w z19), (Zw (ZD.mk (Z8.mk zK zV zU zL zN zO zJ) z1z z15) z14 z12)]) ⟨_, rfl⟩
 ·exact zk (ZdX b0 b1 z24 z1Y zQ z1H z1k zH zS zK zV zU zL zN zO zJ z1z z15 zR zM z2w z19 z14 z12 z1E z1w z2I)
def Z4z (x50 : List Zq) (x51 x52 : Int) (z24 : List Int) (zQ zH zS zK zV zU zL zN : Int) (zO : List Z7) (zJ : List Z8) (z15 : Bool) : Option (ZD × Zj) :=
 if (decide (x52 < x51)) = true then
 (Z5X x50 x51 x52 z24 zQ zH zS zK zV zU zL zN zO zJ z15)
 else
 (Z5Y zQ zH zS zK zV zU zL zN zO zJ z15)
theorem Zez (x50 : List Zq) x51 x52 b0 b1 z24 z1Y zQ z1H z1k zH zS zK zV zU zL zN zO zJ z1z z15 ox50 zR zM z2w z19 z14 z12 (z1E : ZF zR = true) (z1w : ZF zM = true) (z2I : ZF z19 = true) : Sim (Z2x) (Z4z x50 x51 x52 z24 zQ zH zS zK zV zU zL zN zO zJ z15) (ZdB 0 (.ptr 0 0) (.ptr 1 0) (.ptr 2 0) (.ptr 3 0) (.p (.lst ox50 (x50.map Z1S))) (iv x51) (iv x52) [(Zw b0 zR zM), (ZC b1), (Zi (Zk.mk z24 z1Y zQ z1H z1k (Zj.mk zH zS)) z2w z19), (Zw (ZD.mk (Z8.mk zK zV zU zL zN zO zJ) z1z z15) z14 z12)]) := by
 unfold Z4z
 refine zf (Zny ..)<|ze<|zq ?_
 refine za (decide (x52 < x51)) ?_ ?_
 ·exact zk (ZdV x50 x51 x52 b0 b1 z24 z1Y zQ z1H z1k zH zS zK zV zU zL zN zO zJ z1z z15 ox50 zR zM z2w z19 z14 z12 z1E z1w z2I)
 ·exact zk (ZdW b0 b1 z24 z1Y zQ z1H z1k zH zS zK zV zU zL zN zO zJ z1z z15 zR zM z2w z19 z14 z12 z1E z1w z2I)
theorem Z6r (x50 : List Zq) (x51 x52 : Int) (z24 : List Int) (zQ zH zS zK zV zU zL zN : Int) (zO : List Z7) (zJ : List Z8) (z15 : Bool) {r} (h : Z4z x50 x51 x52 z24 zQ zH zS zK zV zU zL zN zO zJ z15 = some r) : Z5m x50 x51 x52 z24 zQ zH zS zK zV zU zL zN zO zJ z15 = some r :=
 Z1e (fun _ _ ha hb => RRun.uniq ZcR (ha default default default default default default .ex .ex .ex .ex .ex .ex .ex rfl rfl rfl) (hb default default default default default default .ex .ex .ex .ex .ex .ex .ex rfl rfl rfl)) (fun b0 b1 z1Y z1H z1k z1z ox50 zR zM z2w z19 z14 z12 z1E z1w z2I => Zez x50 x51 x52 b0 b1 z24 z1Y zQ z1H z1k zH zS zK zV zU zL zN zO zJ z1z z15 ox50 zR zM z2w z19 z14 z12 z1E z1w z2I r h)
def Z5x (zp : Int) : Option (Bool × Int) :=
 some (false, zp)
theorem Z7u zl zp z6 zd zh z1 z2 zn zb (zu : ZF zb = true) : Sim (Z3L zl z6 zd zh z1 z2 zn zb) (Z5x zp) (Zhl 1  [(Zi (Zk.mk zl zp z6 zd zh (Zj.mk z1 z2)) zn zb)]) := by
 unfold Z5x
 refine zf (ZnF ..)<|ze ?_
 exact zr ((bv false), [(Zi (Zk.mk zl zp z6 zd zh (Zj.mk z1 z2)) zn zb)]) ⟨_, rfl⟩
def Z5y (x1 : ByteArray) (zp : Int) : Option (Bool × Int) :=
 some (true, (IntKind.i64.wrap (zp + (x1.size : Int))))
theorem Zbt x1 zl zp z6 zd zh z1 z2 zn zb (zu : ZF zb = true) : Sim (Z3L zl z6 zd zh z1 z2 zn zb) (Z5y x1 zp) (Zjx 1 (.ptr 0 0) (.p (.v (.string x1))) [(Zi (Zk.mk zl zp z6 zd zh (Zj.mk z1 z2)) zn zb)]) := by
 unfold Z5y
 refine zf (ZnG ..)<|ze<|zq<|zq<|zq<|zq<|zq<|zq<|zq<|zt [(Zi (Zk.mk zl (IntKind.i64.wrap (zp + (x1.size : Int))) z6 zd zh (Zj.mk z1 z2)) zn zb)]<|ze ?_
 exact zr ((bv true), [(Zi (Zk.mk zl (IntKind.i64.wrap (zp + (x1.size : Int))) z6 zd zh (Zj.mk z1 z2)) zn zb)]) ⟨_, rfl⟩
def Z6q (x1 : ByteArray) (zl : List Int) (zp : Int) : Option (Bool × Int) :=
 if ((decide ((IntKind.i64.wrap ((zl.length : Int) - zp)) < (x1.size : Int)))) = true then
 (Z5x zp)
 else
 ((lsl zl zp (IntKind.i64.wrap (zp + (x1.size : Int)))).bind fun a1 =>
 if (!(seq (strI a1) x1)) = true then
 (Z5x zp)
 else
 (Z5y x1 zp))
theorem ZcQ x1 zl zp z6 zd zh z1 z2 zn zb (zu : ZF zb = true) : Sim (Z3L zl z6 zd zh z1 z2 zn zb) (Z6q x1 zl zp) (EE 27 [(.ptr 0 0), (.p (.v (.string x1)))] [(Zi (Zk.mk zl zp z6 zd zh (Zj.mk z1 z2)) zn zb)]) := by
 unfold Z6q
 refine zf (Zrs ..)<|ze<|ze<|zq<|zq<|zq ?_
 refine zo (iv (zl.length : Int)) ?_ (Eq.trans (by kernel_rfl) (Z5r (P := PP) (t := 40) (d := 5) (by kernel_rfl) (eI .u8) (shrO zn) zl))
 refine zq<|zq<|zq<|zq<|zq<|zq ?_
 refine za ((decide ((IntKind.i64.wrap ((zl.length : Int) - zp)) < (x1.size : Int)))) ?_ ?_
 ·exact zk (Z7u zl zp z6 zd zh z1 z2 zn zb zu)
 ·refine zq<|zq<|zq<|zq<|zq<|zq<|zq<|zq<|zq<|zq<|zq<|zi fun a1 ha1 => ?_
  refine zo (.p (.lst (slO (shrO zn)) (a1.map (eI .u8)))) ?_ (Eq.trans (by kernel_rfl) <| Zpo (n := 1) (o := (shrO zn)) (lo := (some (iv zp))) (hi := (some (iv (IntKind.i64.wrap (zp + (x1.size : Int)))))) (e := (eI .u8)) (fun _ => rfl) (by decide) (by kernel_rfl) (by kernel_rfl) ha1)
  refine zo (.p (.v (.string (strI a1)))) ?_ (Eq.trans (by kernel_rfl) (Zl5 (P := PP) (s := 40) (d := 9) (by kernel_rfl) (slO (shrO zn)) a1))
  refine zq ?_
  refine za (!(seq (strI a1) x1)) ?_ ?_
  ·exact zk (Z7u zl zp z6 zd zh z1 z2 zn zb zu)
  ·exact zk (Zbt x1 zl zp z6 zd zh z1 z2 zn zb zu)
theorem Zdo (x1 : ByteArray) (zl : List Int) (zp : Int) {r} (h : Z6q x1 zl zp = some r) : Z17 x1 zl zp = some r :=
 Z1e (fun _ _ ha hb => RRun.uniq (Zdy _ _ _ _ _ _ _ _) (ha default default default default default .ex .ex rfl) (hb default default default default default .ex .ex rfl)) (fun z6 zd zh z1 z2 zn zb zu => ZcQ x1 zl zp z6 zd zh z1 z2 zn zb zu r h)
def Z4D (zl : List Int) (zp z6 zd : Int) (zh : List Zq) (z1 z2 : Int) : Option (Z8 × Int × Int × Int × (List Zq) × Int × Int) :=
 (Z4L zl zp z6 zd zh z1 z2).bind fun r1 =>
 Z3U ([r1.1] : List Z8) zl r1.2.1 r1.2.2.1 r1.2.2.2.1 r1.2.2.2.2.1 r1.2.2.2.2.2.1 r1.2.2.2.2.2.2
theorem Zdi zl zp z6 zd zh z1 z2 zn zb (zu : ZF zb = true) : Sim (Z2E zl zn) (Z4D zl zp z6 zd zh z1 z2) (EE 28 [(.ptr 0 0)] [(Zi (Zk.mk zl zp z6 zd zh (Zj.mk z1 z2)) zn zb)]) := by
 unfold Z4D
 refine zf (Zru ..)<|ze<|zz (.ptr 1 0) [(Zi (Zk.mk zl zp z6 zd zh (Zj.mk z1 z2)) zn zb), (Zr (Z8.mk 0 0 0 0 0 ([] : List Z7) ([] : List Z8)) .nl .nl)]<|ze<|zi fun r1 hr1 => ?_
 obtain ⟨qr1, er1, or1_0_4, exr1, hor1_0_4, rfl⟩ := Z9K zl zp z6 zd zh z1 z2 zn zb zu r1 hr1
 refine zc [0] (.p (.agg (ZE r1.1 .sh .sh))) [(Zi (Zk.mk zl r1.2.1 r1.2.2.1 r1.2.2.2.1 r1.2.2.2.2.1 (Zj.mk r1.2.2.2.2.2.1 r1.2.2.2.2.2.2)) zn or1_0_4), (Zr (Z8.mk 0 0 0 0 0 ([] : List Z7) ([] : List Z8)) .nl .nl)] er1 ?_
 refine zo (.p (.lst .ex (([r1.1] : List Z8).map ZX))) ?_ (Eq.trans (b := some (.p (.lst .ex [.agg (Z3i r1.1)]))) (by kernel_rfl) (by simp only [List.map_cons, List.map_nil, Z3y]))
 exact zk (Z7S ([r1.1] : List Z8) zl r1.2.1 r1.2.2.1 r1.2.2.2.1 r1.2.2.2.2.1 r1.2.2.2.2.2.1 r1.2.2.2.2.2.2 (Z8.mk 0 0 0 0 0 ([] : List Z7) ([] : List Z8)) .ex zn or1_0_4 .nl .nl rfl hor1_0_4 rfl rfl)
theorem Z9H (zl : List Int) (zp z6 zd : Int) (zh : List Zq) (z1 z2 : Int) {r} (h : Z4D zl zp z6 zd zh z1 z2 = some r) : Z37 zl zp z6 zd zh z1 z2 = some r :=
 Z1e (fun _ _ ha hb => RRun.uniq (Z9T _ _) (ha .ex .ex rfl) (hb .ex .ex rfl)) (fun zn zb zu => Zdi zl zp z6 zd zh z1 z2 zn zb zu r h)
def Z5O (x3 : List Z8) (zl : List Int) (zp z6 zd : Int) (zh : List Zq) (z1 z2 : Int) : Option (Z8 × Int × Int × Int × (List Zq) × Int × Int) :=
 (Z4L zl zp z6 zd zh z1 z2).bind fun r1 =>
 (lapp x3 ([r1.1] : List Z8)).bind fun a2 =>
 Z3U a2 zl r1.2.1 r1.2.2.1 r1.2.2.2.1 r1.2.2.2.2.1 r1.2.2.2.2.2.1 r1.2.2.2.2.2.2
theorem ZbN (x3 : List Z8) zl zp z6 zd zh z1 z2 b1 ox3 zn zb zB zy (hox3 : ZF ox3 = true) (zu : ZF zb = true) (zP : ZF zB = true) (zI : ZF zy = true) : Sim (Z2E zl zn) (Z5O x3 zl zp z6 zd zh z1 z2) (ZjA 1 (.ptr 0 0) (.ptr 1 0) (.p (.lst ox3 (x3.map ZX))) [(Zi (Zk.mk zl zp z6 zd zh (Zj.mk z1 z2)) zn zb), (Zr b1 zB zy)]) := by
 unfold Z5O
 refine zf (ZnI ..)<|ze<|zi fun r1 hr1 => ?_
 obtain ⟨qr1, er1, or1_0_4, exr1, hor1_0_4, rfl⟩ := Z9K zl zp z6 zd zh z1 z2 zn zb zu r1 hr1
 refine zc [0] (.p (.agg (ZE r1.1 .sh .sh))) [(Zi (Zk.mk zl r1.2.1 r1.2.2.1 r1.2.2.2.1 r1.2.2.2.2.1 (Zj.mk r1.2.2.2.2.2.1 r1.2.2.2.2.2.2)) zn or1_0_4), (Zr b1 zB zy)] er1 ?_
 refine zo (.p (.lst .ex (([r1.1] : List Z8).map ZX))) ?_ (Eq.trans (b := some (.p (.lst .ex [.agg (Z3i r1.1)]))) (by kernel_rfl) (by simp only [List.map_cons, List.map_nil, Z3y]))
 refine zi fun a2 ha2 => ?_
 refine zo (.p (.lst .un (a2.map ZX))) ?_ (Eq.trans (by kernel_rfl) <| Zeh (n := 7) (o := ox3) (o' := .ex) (e := ZX) (ys := ([r1.1] : List Z8)) Ze5 (by decide) hox3 ha2)
 exact zk (Z7S a2 zl r1.2.1 r1.2.2.1 r1.2.2.2.1 r1.2.2.2.2.1 r1.2.2.2.2.2.1 r1.2.2.2.2.2.2 b1 .un zn or1_0_4 zB zy rfl hor1_0_4 zP zI)
def Z4E (x3 : List Z8) (zp z6 zd : Int) (zh : List Zq) (z1 z2 : Int) : Option (Z8 × Int × Int × Int × (List Zq) × Int × Int) :=
 (Z75 3 x3).bind fun r1 =>
 some (r1, zp, z6, zd, zh, z1, z2)
theorem ZbO (x3 : List Z8) zl zp z6 zd zh z1 z2 b1 ox3 zn zb zB zy (hox3 : ZF ox3 = true) (zu : ZF zb = true) (zP : ZF zB = true) (zI : ZF zy = true) : Sim (Z2E zl zn) (Z4E x3 zp z6 zd zh z1 z2) (ZjB 1 (.ptr 1 0) (.p (.lst ox3 (x3.map ZX))) [(Zi (Zk.mk zl zp z6 zd zh (Zj.mk z1 z2)) zn zb), (Zr b1 zB zy)]) := by
 unfold Z4E
 refine zf (ZnJ ..)<|ze<|zi fun r1 hr1 => ?_
 obtain ⟨qr1, er1, exr1, rfl⟩ := ZbB 3 x3 .sh r1 hr1
 refine zc [] (.p (.agg (ZE r1 .sh .sh))) [(Zi (Zk.mk zl zp z6 zd zh (Zj.mk z1 z2)) zn zb), (Zr b1 zB zy)] er1<|zt [(Zi (Zk.mk zl zp z6 zd zh (Zj.mk z1 z2)) zn zb), (Zr r1 .sh .sh)] ?_
 exact zr ((.p (.agg (ZE r1 .sh .sh))), [(Zi (Zk.mk zl zp z6 zd zh (Zj.mk z1 z2)) zn zb), (Zr r1 .sh .sh)]) ⟨zb, _, zu, rfl⟩
def Z3R (x3 : List Z8) (zl : List Int) (zp z6 zd : Int) (zh : List Zq) (z1 z2 : Int) : Option (Z8 × Int × Int × Int × (List Zq) × Int × Int) :=
 (Z17 (ByteArray.mk #[124]) zl zp).bind fun r1 =>
 if (r1.1) = true then
 (Z5O x3 zl r1.2 z6 zd zh z1 z2)
 else
 (Z4E x3 r1.2 z6 zd zh z1 z2)
theorem ZbM (x3 : List Z8) zl zp z6 zd zh z1 z2 b1 ox3 zn zb zB zy (hox3 : ZF ox3 = true) (zu : ZF zb = true) (zP : ZF zB = true) (zI : ZF zy = true) : Sim (Z2E zl zn) (Z3R x3 zl zp z6 zd zh z1 z2) (ZdC 1 (.ptr 0 0) (.ptr 1 0) (.p (.lst ox3 (x3.map ZX))) [(Zi (Zk.mk zl zp z6 zd zh (Zj.mk z1 z2)) zn zb), (Zr b1 zB zy)]) := by
 unfold Z3R
 refine zf (ZnH ..)<|ze<|zi fun r1 hr1 => ?_
 obtain ⟨qr1, er1, exr1, rfl⟩ := Z1d (ByteArray.mk #[124]) zl zp z6 zd zh z1 z2 zn zb zu r1 hr1
 refine zc [0] (bv r1.1) [(Zi (Zk.mk zl r1.2 z6 zd zh (Zj.mk z1 z2)) zn zb), (Zr b1 zB zy)] er1 ?_
 refine za r1.1 ?_ ?_
 ·exact zk (ZbN x3 zl r1.2 z6 zd zh z1 z2 b1 ox3 zn zb zB zy hox3 zu zP zI)
 ·exact zk (ZbO x3 zl r1.2 z6 zd zh z1 z2 b1 ox3 zn zb zB zy hox3 zu zP zI)
theorem Z7R (x3 : List Z8) (zl : List Int) (zp z6 zd : Int) (zh : List Zq) (z1 z2 : Int) {r} (h : Z3R x3 zl zp z6 zd zh z1 z2 = some r) : Z3U x3 zl zp z6 zd zh z1 z2 = some r :=
 Z1e (fun _ _ ha hb => RRun.uniq (Z9T _ _) (ha default .ex .ex .ex .ex .ex rfl rfl rfl rfl) (hb default .ex .ex .ex .ex .ex rfl rfl rfl rfl)) (fun b1 ox3 zn zb zB zy hox3 zu zP zI => ZbM x3 zl zp z6 zd zh z1 z2 b1 ox3 zn zb zB zy hox3 zu zP zI r h)
end Go.Proofs.YtadodmjdkphddaaDoor.N2
end
noncomputable section
set_option linter.unusedSimpArgs false
set_option linter.unusedVariables false
namespace Go.Proofs.YtadodmjdkphddaaDoor.N2
open Go Go.Abs
set_option linter.unusedVariables false
set_option maxRecDepth 100000
def Z5D (zl : List Int) (zp z6 zd : Int) (zh : List Zq) (z1 z2 : Int) : Option (Z8 × Int × Int × Int × (List Zq) × Int × Int) :=
 Z3V ([] : List Z8) zl zp z6 zd zh z1 z2
theorem Zdl zl zp z6 zd zh z1 z2 zn zb (zu : ZF zb = true) : Sim (Z2o zl zn) (Z5D zl zp z6 zd zh z1 z2) (EE 35 [(.ptr 0 0)] [(Zi (Zk.mk zl zp z6 zd zh (Zj.mk z1 z2)) zn zb)]) := by
 unfold Z5D
 refine zf (ZrB ..)<|ze<|zz (.ptr 1 0) [(Zi (Zk.mk zl zp z6 zd zh (Zj.mk z1 z2)) zn zb), (Zr (Z8.mk 0 0 0 0 0 ([] : List Z7) ([] : List Z8)) .nl .nl)]<|ze ?_
 exact zk (Z7U ([] : List Z8) zl zp z6 zd zh z1 z2 (Z8.mk 0 0 0 0 0 ([] : List Z7) ([] : List Z8)) .nl zn zb .nl .nl rfl zu rfl rfl)
theorem Z9J (zl : List Int) (zp z6 zd : Int) (zh : List Zq) (z1 z2 : Int) {r} (h : Z5D zl zp z6 zd zh z1 z2 = some r) : Z4L zl zp z6 zd zh z1 z2 = some r :=
 Z1e (fun _ _ ha hb => RRun.uniq (Z9U _ _) (ha .ex .ex rfl) (hb .ex .ex rfl)) (fun zn zb zu => Zdl zl zp z6 zd zh z1 z2 zn zb zu r h)
def Z2u (x3 : List Z8) (zp z6 zd : Int) (zh : List Zq) (z1 z2 : Int) : Option (Z8 × Int × Int × Int × (List Zq) × Int × Int) :=
 (Z75 2 x3).bind fun r1 =>
 some (r1, zp, z6, zd, zh, z1, z2)
theorem Z4R (x3 : List Z8) zl zp z6 zd zh z1 z2 b1 ox3 zn zb zB zy (hox3 : ZF ox3 = true) (zu : ZF zb = true) (zP : ZF zB = true) (zI : ZF zy = true) : Sim (Z2o zl zn) (Z2u x3 zp z6 zd zh z1 z2) (ZdE 1 (.ptr 1 0) (.p (.lst ox3 (x3.map ZX))) [(Zi (Zk.mk zl zp z6 zd zh (Zj.mk z1 z2)) zn zb), (Zr b1 zB zy)]) := by
 unfold Z2u
 refine zf (ZnP ..)<|ze<|zi fun r1 hr1 => ?_
 obtain ⟨qr1, er1, exr1, rfl⟩ := ZbB 2 x3 .sh r1 hr1
 refine zc [] (.p (.agg (ZE r1 .sh .sh))) [(Zi (Zk.mk zl zp z6 zd zh (Zj.mk z1 z2)) zn zb), (Zr b1 zB zy)] er1<|zt [(Zi (Zk.mk zl zp z6 zd zh (Zj.mk z1 z2)) zn zb), (Zr r1 .sh .sh)] ?_
 exact zr ((.p (.agg (ZE r1 .sh .sh))), [(Zi (Zk.mk zl zp z6 zd zh (Zj.mk z1 z2)) zn zb), (Zr r1 .sh .sh)]) ⟨zb, _, zu, rfl⟩
def Z3k (x3 : List Z8) (zl : List Int) (zp z6 zd : Int) (zh : List Zq) (z1 z2 : Int) : Option (Z8 × Int × Int × Int × (List Zq) × Int × Int) :=
 (Z6s zl zp z6 zd zh z1 z2).bind fun r1 =>
 (Z4N r1.1 r1.2.1 zl r1.2.2.1 r1.2.2.2.1 r1.2.2.2.2.1 r1.2.2.2.2.2.1 r1.2.2.2.2.2.2.1 r1.2.2.2.2.2.2.2).bind fun r2 =>
 (lapp x3 ([r2.1] : List Z8)).bind fun a3 =>
 Z3V a3 zl r2.2.1 r1.2.2.2.1 r1.2.2.2.2.1 r1.2.2.2.2.2.1 r2.2.2.1 r2.2.2.2
theorem Z66 (x3 : List Z8) zl zp z6 zd zh z1 z2 b1 ox3 zn zb zB zy (hox3 : ZF ox3 = true) (zu : ZF zb = true) (zP : ZF zB = true) (zI : ZF zy = true) : Sim (Z2o zl zn) (Z3k x3 zl zp z6 zd zh z1 z2) (Zfi 1 (.ptr 0 0) (.ptr 1 0) (.p (.lst ox3 (x3.map ZX))) [(Zi (Zk.mk zl zp z6 zd zh (Zj.mk z1 z2)) zn zb), (Zr b1 zB zy)]) := by
 unfold Z3k
 refine zf (ZnO ..)<|ze<|zi fun r1 hr1 => ?_
 obtain ⟨qr1, er1, or1_0_4, exr1, hor1_0_4, rfl⟩ := Zdk zl zp z6 zd zh z1 z2 zn zb zu r1 hr1
 refine zc [0] (.p (.tup [(.agg (ZE r1.1 .sh .sh)), (.v (.bool r1.2.1))])) [(Zi (Zk.mk zl r1.2.2.1 r1.2.2.2.1 r1.2.2.2.2.1 r1.2.2.2.2.2.1 (Zj.mk r1.2.2.2.2.2.2.1 r1.2.2.2.2.2.2.2)) zn or1_0_4), (Zr b1 zB zy)] er1<|zq<|zq<|zz (.ptr 2 0) [(Zi (Zk.mk zl r1.2.2.1 r1.2.2.2.1 r1.2.2.2.2.1 r1.2.2.2.2.2.1 (Zj.mk r1.2.2.2.2.2.2.1 r1.2.2.2.2.2.2.2)) zn or1_0_4), (Zr b1 zB zy), (Zr (Z8.mk 0 0 0 0 0 ([] : List Z7) ([] : List Z8)) .nl .nl)]<|zt [(Zi (Zk.mk zl r1.2.2.1 r1.2.2.2.1 r1.2.2.2.2.1 r1.2.2.2.2.2.1 (Zj.mk r1.2.2.2.2.2.2.1 r1.2.2.2.2.2.2.2)) zn or1_0_4), (Zr b1 zB zy), (Zr r1.1 .sh .sh)]<|ze<|zq<|zi fun r2 hr2 => ?_
 obtain ⟨qr2, er2, exr2, rfl⟩ := Zcq r1.1 r1.2.1 zl r1.2.2.1 r1.2.2.2.1 r1.2.2.2.2.1 r1.2.2.2.2.2.1 r1.2.2.2.2.2.2.1 r1.2.2.2.2.2.2.2 .sh .sh zn or1_0_4 hor1_0_4 r2 hr2
 refine zc [0] (.p (.agg (ZE r2.1 .sh .sh))) [(Zi (Zk.mk zl r2.2.1 r1.2.2.2.1 r1.2.2.2.2.1 r1.2.2.2.2.2.1 (Zj.mk r2.2.2.1 r2.2.2.2)) zn or1_0_4), (Zr b1 zB zy), (Zr r1.1 .sh .sh)] er2 ?_
 refine zo (.p (.lst .ex (([r2.1] : List Z8).map ZX))) ?_ (Eq.trans (b := some (.p (.lst .ex [.agg (Z3i r2.1)]))) (by kernel_rfl) (by simp only [List.map_cons, List.map_nil, Z3y]))
 refine zi fun a3 ha3 => ?_
 refine zo (.p (.lst .un (a3.map ZX))) ?_ (Eq.trans (by kernel_rfl) <| Zeh (n := 7) (o := ox3) (o' := .ex) (e := ZX) (ys := ([r2.1] : List Z8)) Ze5 (by decide) hox3 ha3)
 exact zk (Z7U a3 zl r2.2.1 r1.2.2.2.1 r1.2.2.2.2.1 r1.2.2.2.2.2.1 r2.2.2.1 r2.2.2.2 b1 .un zn or1_0_4 zB zy rfl hor1_0_4 zP zI)
def Z4G (x3 : List Z8) (zl : List Int) (zp z6 zd : Int) (zh : List Zq) (z1 z2 : Int) : Option (Z8 × Int × Int × Int × (List Zq) × Int × Int) :=
 (Z1Q (Zk.mk zl zp z6 zd zh (Zj.mk z1 z2))).bind fun r1 =>
 if (r1 == (-1)) = true then
 (if (r1 == (-1)) = true then
 (Z2u x3 zp z6 zd zh z1 z2)
 else
 (Z3k x3 zl zp z6 zd zh z1 z2))
 else
 (if (r1 == 124) = true then
 (if (r1 == 124) = true then
 (Z2u x3 zp z6 zd zh z1 z2)
 else
 (Z3k x3 zl zp z6 zd zh z1 z2))
 else
 (if (r1 == 41) = true then
 (Z2u x3 zp z6 zd zh z1 z2)
 else
 (Z3k x3 zl zp z6 zd zh z1 z2)))
theorem ZbQ (x3 : List Z8) zl zp z6 zd zh z1 z2 b1 ox3 zn zb zB zy (hox3 : ZF ox3 = true) (zu : ZF zb = true) (zP : ZF zB = true) (zI : ZF zy = true) : Sim (Z2o zl zn) (Z4G x3 zl zp z6 zd zh z1 z2) (ZjE 1 (.ptr 0 0) (.ptr 1 0) (.p (.lst ox3 (x3.map ZX))) [(Zi (Zk.mk zl zp z6 zd zh (Zj.mk z1 z2)) zn zb), (Zr b1 zB zy)]) := by
 unfold Z4G
 refine zf (ZnN ..)<|ze<|zi fun r1 hr1 => ?_
 obtain ⟨qr1, er1, exr1, rfl⟩ := Z1V (Zk.mk zl zp z6 zd zh (Zj.mk z1 z2)) zn zb zu r1 hr1
 refine zc [0] (iv r1) [(Zi (Zk.mk zl zp z6 zd zh (Zj.mk z1 z2)) zn zb), (Zr b1 zB zy)] er1<|ze<|zq ?_
 refine za (r1 == (-1)) ?_ ?_
 ·refine za (r1 == (-1)) ?_ ?_
  ·exact zk (Z4R x3 zl zp z6 zd zh z1 z2 b1 ox3 zn zb zB zy hox3 zu zP zI)
  ·exact zk (Z66 x3 zl zp z6 zd zh z1 z2 b1 ox3 zn zb zB zy hox3 zu zP zI)
 ·refine ze<|zq ?_
  refine za (r1 == 124) ?_ ?_
  ·refine za (r1 == 124) ?_ ?_
   ·exact zk (Z4R x3 zl zp z6 zd zh z1 z2 b1 ox3 zn zb zB zy hox3 zu zP zI)
   ·exact zk (Z66 x3 zl zp z6 zd zh z1 z2 b1 ox3 zn zb zB zy hox3 zu zP zI)
  ·refine ze<|zq ?_
   refine za (r1 == 41) ?_ ?_
   ·exact zk (Z4R x3 zl zp z6 zd zh z1 z2 b1 ox3 zn zb zB zy hox3 zu zP zI)
   ·exact zk (Z66 x3 zl zp z6 zd zh z1 z2 b1 ox3 zn zb zB zy hox3 zu zP zI)
def Z4F (x3 : List Z8) (zl : List Int) (zp z6 zd : Int) (zh : List Zq) (z1 z2 : Int) : Option (Z8 × Int × Int × Int × (List Zq) × Int × Int) :=
 if (z1 == 0) = true then
 (Z4G x3 zl zp z6 zd zh z1 z2)
 else
 (Z2u x3 zp z6 zd zh z1 z2)
theorem ZbP (x3 : List Z8) zl zp z6 zd zh z1 z2 b1 ox3 zn zb zB zy (hox3 : ZF ox3 = true) (zu : ZF zb = true) (zP : ZF zB = true) (zI : ZF zy = true) : Sim (Z2o zl zn) (Z4F x3 zl zp z6 zd zh z1 z2) (ZdD 1 (.ptr 0 0) (.ptr 1 0) (.p (.lst ox3 (x3.map ZX))) [(Zi (Zk.mk zl zp z6 zd zh (Zj.mk z1 z2)) zn zb), (Zr b1 zB zy)]) := by
 unfold Z4F
 refine zf (ZnM ..)<|ze<|zq<|zq<|zq<|zq<|zq ?_
 refine za (z1 == 0) ?_ ?_
 ·exact zk (ZbQ x3 zl zp z6 zd zh z1 z2 b1 ox3 zn zb zB zy hox3 zu zP zI)
 ·exact zk (Z4R x3 zl zp z6 zd zh z1 z2 b1 ox3 zn zb zB zy hox3 zu zP zI)
theorem Z7T (x3 : List Z8) (zl : List Int) (zp z6 zd : Int) (zh : List Zq) (z1 z2 : Int) {r} (h : Z4F x3 zl zp z6 zd zh z1 z2 = some r) : Z3V x3 zl zp z6 zd zh z1 z2 = some r :=
 Z1e (fun _ _ ha hb => RRun.uniq (Z9U _ _) (ha default .ex .ex .ex .ex .ex rfl rfl rfl rfl) (hb default .ex .ex .ex .ex .ex rfl rfl rfl rfl)) (fun b1 ox3 zn zb zB zy hox3 zu zP zI => ZbP x3 zl zp z6 zd zh z1 z2 b1 ox3 zn zb zB zy hox3 zu zP zI r h)
def Z5w (b0 : Zk) : Option (Int) :=
 (Z9a b0.b b0.at_).bind fun r1 =>
 some (r1.1)
theorem Zbs b0 zn zb (zu : ZF zb = true) : Sim (Z4r b0 zn zb) (Z5w b0) (ZjL 1 (.ptr 0 0) [(Zi b0 zn zb)]) := by
 unfold Z5w
 refine zf (ZnW ..)<|ze<|zq<|zq<|zq<|zq<|zq<|zq<|zi fun r1 hr1 => ?_
 obtain ⟨qr1, er1, exr1, rfl⟩ := Ze2 b0.b b0.at_ .sh r1 hr1
 refine zc [] (.p (.tup [(.v (.int .i64 r1.1)), (.v (.int .i64 r1.2))])) [(Zi b0 zn zb)] er1<|zq<|zq<|ze ?_
 exact zr ((iv r1.1), [(Zi b0 zn zb)]) ⟨_, rfl⟩
def Z6o (b0 : Zk) : Option (Int) :=
 if (decide ((b0.b.length : Int) ≤ b0.at_)) = true then
 (some (-1))
 else
 (Z5w b0)
theorem ZcN b0 zn zb (zu : ZF zb = true) : Sim (Z4r b0 zn zb) (Z6o b0) (EE 41 [(.ptr 0 0)] [(Zi b0 zn zb)]) := by
 unfold Z6o
 refine zf (ZrI ..)<|ze<|ze<|zq<|zq<|zq<|zq<|zq<|zq ?_
 refine zo (iv (b0.b.length : Int)) ?_ (Eq.trans (by kernel_rfl) (Z5r (P := PP) (t := 40) (d := 5) (by kernel_rfl) (eI .u8) (shrO zn) b0.b))
 refine zq ?_
 refine za (decide ((b0.b.length : Int) ≤ b0.at_)) ?_ ?_
 ·refine ze ?_
  exact zr ((iv (-1)), [(Zi b0 zn zb)]) ⟨_, rfl⟩
 ·exact zk (Zbs b0 zn zb zu)
theorem Zdm (b0 : Zk) {r} (h : Z6o b0 = some r) : Z1Q b0 = some r :=
 Z1e (fun _ _ ha hb => RRun.uniq (Zdw _ _ _) (ha .ex .ex rfl) (hb .ex .ex rfl)) (fun zn zb zu => ZcN b0 zn zb zu r h)
def Z8k  : Option (Int × Int) :=
 some (0, 0)
theorem Zbc  : Sim (Z5t) (Z8k) (Zhn 0  []) := by
 unfold Z8k
 refine zf (ZnX ..)<|ze ?_
 exact zr ((.p (.tup [(.v (.int .i64 0)), (.v (.int .i64 0))])), []) ⟨_, rfl⟩
def Z8m (x0 : List Int) (x1 : Int) : Option (Int × Int) :=
 (lget x0 x1).bind fun a1 =>
 some ((IntKind.i64.wrap (1114112 + (IntKind.i64.wrap a1))), 1)
theorem Zfw (x0 : List Int) x1 ox0 : Sim (Z5t) (Z8m x0 x1) (ZjO 0 (.p (.lst ox0 (x0.map (eI .u8)))) (iv x1) []) := by
 unfold Z8m
 refine zf (ZnZ ..)<|ze<|zi fun a1 ha1 => ?_
 refine zo (.cptr [(.v (.int .u8 a1))]) ?_ (Eq.trans (by kernel_rfl) (Z6d (o := (shrO ox0)) (k := .i64) (n := 1) (e := (eI .u8)) (cs := (fun a => [(eI .u8) a])) (fun _ => rfl) (fun _ => rfl) (by decide) ha1))
 refine zq<|zq<|zq ?_
 exact zr ((.p (.tup [(.v (.int .i64 (IntKind.i64.wrap (1114112 + (IntKind.i64.wrap a1))))), (.v (.int .i64 1))])), []) ⟨_, rfl⟩
def Z6b (x6 x7 : Int) : Option (Int × Int) :=
 some ((IntKind.i64.wrap x6), x7)
theorem Zbd x6 x7 : Sim (Z5t) (Z6b x6 x7) (Zho 0 (.p (.v (.int .i32 x6))) (iv x7) []) := by
 unfold Z6b
 refine zf (Zo0 ..)<|ze<|zq ?_
 exact zr ((.p (.tup [(.v (.int .i64 (IntKind.i64.wrap x6))), (.v (.int .i64 x7))])), []) ⟨_, rfl⟩
def Z8l (x0 : List Int) (x1 : Int) : Option (Int × Int) :=
 (lsl x0 x1 (x0.length : Int)).bind fun a1 =>
 (Z68 a1).bind fun r2 =>
 if (r2.1 == 65533) = true then
 (if (r2.2 == 1) = true then
 (Z8m x0 x1)
 else
 (Z6b r2.1 r2.2))
 else
 (Z6b r2.1 r2.2)
theorem Zfv (x0 : List Int) x1 ox0 : Sim (Z5t) (Z8l x0 x1) (ZjN 0 (.p (.lst ox0 (x0.map (eI .u8)))) (iv x1) []) := by
 unfold Z8l
 refine zf (ZnY ..)<|ze<|zi fun a1 ha1 => ?_
 refine zo (.p (.lst (slO (shrO ox0)) (a1.map (eI .u8)))) ?_ (Eq.trans (by kernel_rfl) <| Zpo (n := 1) (o := (shrO ox0)) (lo := (some (iv x1))) (hi := none) (e := (eI .u8)) (fun _ => rfl) (by decide) (by kernel_rfl) (by kernel_rfl) ha1)
 refine zi fun r2 hr2 => ?_
 obtain ⟨qr2, er2, exr2, rfl⟩ := ZaE a1 .sh r2 hr2
 refine zc [] (.p (.tup [(.v (.int .i32 r2.1)), (.v (.int .i64 r2.2))])) [] er2<|zq<|zq<|ze<|zq ?_
 refine za (r2.1 == 65533) ?_ ?_
 ·refine zq ?_
  refine za (r2.2 == 1) ?_ ?_
  ·exact zk (Zfw x0 x1 ox0)
  ·exact zk (Zbd r2.1 r2.2)
 ·exact zk (Zbd r2.1 r2.2)
def ZaR (x0 : List Int) (x1 : Int) : Option (Int × Int) :=
 if (decide (x1 < 0)) = true then
 (Z8k)
 else
 (if (decide ((x0.length : Int) ≤ x1)) = true then
 (Z8k)
 else
 (Z8l x0 x1))
theorem ZhL (x0 : List Int) x1 ox0 : Sim (Z5t) (ZaR x0 x1) (EE 45 [(.p (.lst ox0 (x0.map (eI .u8)))), (iv x1)] []) := by
 unfold ZaR
 refine zf (ZrN ..)<|ze<|ze<|zq ?_
 refine za (decide (x1 < 0)) ?_ ?_
 ·exact zk (Zbc )
 ·refine zo (iv (x0.length : Int)) ?_ (Eq.trans (by kernel_rfl) (Z5r (P := PP) (t := 40) (d := 5) (by kernel_rfl) (eI .u8) (shrO ox0) x0))
  refine zq ?_
  refine za (decide ((x0.length : Int) ≤ x1)) ?_ ?_
  ·exact zk (Zbc )
  ·exact zk (Zfv x0 x1 ox0)
theorem ZiE (x0 : List Int) (x1 : Int) {r} (h : ZaR x0 x1 = some r) : Z9a x0 x1 = some r :=
 Z1e (fun _ _ ha hb => RRun.uniq Zj4 (ha .ex) (hb .ex)) (fun ox0 => ZhL x0 x1 ox0 r h)
def Z8O (x0 : Int) (x1 : List Z8) : Option (Z8) :=
 some (Z8.mk x0 0 0 0 0 ([] : List Z7) x1)
theorem ZdZ x0 (x1 : List Z8) b0 ox1 ze8 zcw (zpI : ZF ze8 = true) (zoP : ZF zcw = true) : Sim (Z6a) (Z8O x0 x1) (ZjF 0 (iv x0) (.p (.lst ox1 (x1.map ZX))) (.ptr 0 0) [(Zr b0 ze8 zcw)]) := by
 unfold Z8O
 refine zf (ZnQ ..)<|ze<|zq<|zt [(Zr (Z8.mk x0 0 0 0 0 ([] : List Z7) x1) .nl (shrO (shrO ox1)))] ?_
 exact zr ((.p (.agg (ZE (Z8.mk x0 0 0 0 0 ([] : List Z7) x1) .sh .sh))), [(Zr (Z8.mk x0 0 0 0 0 ([] : List Z7) x1) .nl (shrO (shrO ox1)))]) ⟨_, rfl⟩
def Z8i (x0 : Int) (x1 : List Z8) : Option (Z8) :=
 if ((x1.length : Int) == 0) = true then
 (some (Z8.mk 0 0 0 0 0 ([] : List Z7) ([] : List Z8)))
 else
 (if ((x1.length : Int) == 1) = true then
 ((lget x1 0).bind fun a1 =>
 some (a1))
 else
 (Z8O x0 x1))
theorem Zfu x0 (x1 : List Z8) ox1 : Sim (Z6a) (Z8i x0 x1) (EE 36 [(iv x0), (.p (.lst ox1 (x1.map ZX)))] []) := by
 unfold Z8i
 refine zf (ZrE ..)<|ze<|zz (.ptr 0 0) [(Zr (Z8.mk 0 0 0 0 0 ([] : List Z7) ([] : List Z8)) .nl .nl)]<|ze ?_
 refine zo (iv (x1.length : Int)) ?_ (Eq.trans (by kernel_rfl) (Z5r (P := PP) (t := 25) (d := 27) (by kernel_rfl) ZX (shrO ox1) x1))
 refine ze<|zq ?_
 refine za ((x1.length : Int) == 0) ?_ ?_
 ·refine ze<|zq<|zt [(Zr (Z8.mk 0 0 0 0 0 ([] : List Z7) ([] : List Z8)) .nl .nl)] ?_
  exact zr ((.p (.agg (ZE (Z8.mk 0 0 0 0 0 ([] : List Z7) ([] : List Z8)) .sh .sh))), [(Zr (Z8.mk 0 0 0 0 0 ([] : List Z7) ([] : List Z8)) .nl .nl)]) ⟨_, rfl⟩
 ·refine ze<|zq ?_
  refine za ((x1.length : Int) == 1) ?_ ?_
  ·refine ze<|zi fun a1 ha1 => ?_
   refine zo (.cptr (ZE a1 .sh .sh)) ?_ (Eq.trans (by kernel_rfl) (Z6d (o := (shrO ox1)) (k := .i64) (n := 7) (e := ZX) (cs := Z3i) ZaK (fun _ => rfl) (by decide) ha1))
   refine zq<|zt [(Zr a1 .sh .sh)] ?_
   exact zr ((.p (.agg (ZE a1 .sh .sh))), [(Zr a1 .sh .sh)]) ⟨_, rfl⟩
  ·exact zk (ZdZ x0 x1 (Z8.mk 0 0 0 0 0 ([] : List Z7) ([] : List Z8)) ox1 .nl .nl rfl rfl)
theorem Zgs (x0 : Int) (x1 : List Z8) {r} (h : Z8i x0 x1 = some r) : Z75 x0 x1 = some r :=
 Z1e (fun _ _ ha hb => RRun.uniq ZgO (ha .ex) (hb .ex)) (fun ox1 => Zfu x0 x1 ox1 r h)
def Z1n (zp z6 zd : Int) (zh : List Zq) (z1 z2 : Int) : Option (Z8 × Bool × Int × Int × Int × (List Zq) × Int × Int) :=
 some ((Z8.mk 0 0 0 0 0 ([] : List Z7) ([] : List Z8)), true, zp, z6, zd, zh, z1, z2)
theorem Z1p zl zp z6 zd zh z1 z2 b1 zn zb zB zy (zu : ZF zb = true) (zP : ZF zB = true) (zI : ZF zy = true) : Sim (Z4p zl zn) (Z1n zp z6 zd zh z1 z2) (Z5P 1 (.ptr 1 0) [(Zi (Zk.mk zl zp z6 zd zh (Zj.mk z1 z2)) zn zb), (Zr b1 zB zy)]) := by
 unfold Z1n
 refine zf (Zms ..)<|ze<|zq<|zt [(Zi (Zk.mk zl zp z6 zd zh (Zj.mk z1 z2)) zn zb), (Zr (Z8.mk 0 0 0 0 0 ([] : List Z7) ([] : List Z8)) .nl .nl)] ?_
 exact zr ((.p (.tup [(.agg (ZE (Z8.mk 0 0 0 0 0 ([] : List Z7) ([] : List Z8)) .sh .sh)), (.v (.bool true))])), [(Zi (Zk.mk zl zp z6 zd zh (Zj.mk z1 z2)) zn zb), (Zr (Z8.mk 0 0 0 0 0 ([] : List Z7) ([] : List Z8)) .nl .nl)]) ⟨zb, _, zu, rfl⟩
def Z5g (zl : List Int) (zp z6 zd : Int) (zh : List Zq) (z1 z2 : Int) : Option (Z8 × Bool × Int × Int × Int × (List Zq) × Int × Int) :=
 (Z2f zl zp).bind fun r1 =>
 if (r1.1 == 46) = true then
 ((Z1G 10).bind fun r2 =>
 (Z2X true ([r2] : List Z7)).bind fun r3 =>
 some (r3, true, r1.2, z6, zd, zh, z1, z2))
 else
 (if (r1.1 == 94) = true then
 (some ((Z8.mk 9 0 0 0 0 ([] : List Z7) ([] : List Z8)), false, r1.2, z6, zd, zh, z1, z2))
 else
 (if (r1.1 == 36) = true then
 (some ((Z8.mk 9 0 0 0 1 ([] : List Z7) ([] : List Z8)), false, r1.2, z6, zd, zh, z1, z2))
 else
 (if (r1.1 == 92) = true then
 ((Z3o zp zl r1.2 z6 zd zh z1 z2).bind fun r4 =>
 some (r4.1, (r4.1.Kind != 9), r4.2.1, z6, zd, r4.2.2.1, r4.2.2.2.1, r4.2.2.2.2))
 else
 (if (r1.1 == 91) = true then
 ((Z67 zp zl r1.2 z6 zd zh z1 z2).bind fun r5 =>
 some (r5.1, true, r5.2.1, z6, zd, zh, r5.2.2.1, r5.2.2.2))
 else
 (if (r1.1 == 40) = true then
 ((Z3z zp zl r1.2 z6 zd zh z1 z2).bind fun r6 =>
 some (r6.1, r6.2.1, r6.2.2.1, r6.2.2.2.1, r6.2.2.2.2.1, r6.2.2.2.2.2.1, r6.2.2.2.2.2.2.1, r6.2.2.2.2.2.2.2))
 else
 (if (r1.1 == 42) = true then
 (if (r1.1 == 42) = true then
 ((ZT 23 zp zl z1 z2).bind fun r7 =>
 Z1n r7.1 z6 zd zh r7.2.1 r7.2.2)
 else
 (if (r1.1 == 93) = true then
 (if (r1.1 == 93) = true then
 ((ZT 20 zp zl z1 z2).bind fun r8 =>
 Z1n r8.1 z6 zd zh r8.2.1 r8.2.2)
 else
 ((Z1G r1.1).bind fun r9 =>
 (Z2X false ([r9] : List Z7)).bind fun r10 =>
 some (r10, true, r1.2, z6, zd, zh, z1, z2)))
 else
 (if (r1.1 == 125) = true then
 ((ZT 20 zp zl z1 z2).bind fun r11 =>
 Z1n r11.1 z6 zd zh r11.2.1 r11.2.2)
 else
 ((Z1G r1.1).bind fun r12 =>
 (Z2X false ([r12] : List Z7)).bind fun r13 =>
 some (r13, true, r1.2, z6, zd, zh, z1, z2)))))
 else
 (if (r1.1 == 43) = true then
 (if (r1.1 == 43) = true then
 ((ZT 23 zp zl z1 z2).bind fun r14 =>
 Z1n r14.1 z6 zd zh r14.2.1 r14.2.2)
 else
 (if (r1.1 == 93) = true then
 (if (r1.1 == 93) = true then
 ((ZT 20 zp zl z1 z2).bind fun r15 =>
 Z1n r15.1 z6 zd zh r15.2.1 r15.2.2)
 else
 ((Z1G r1.1).bind fun r16 =>
 (Z2X false ([r16] : List Z7)).bind fun r17 =>
 some (r17, true, r1.2, z6, zd, zh, z1, z2)))
 else
 (if (r1.1 == 125) = true then
 ((ZT 20 zp zl z1 z2).bind fun r18 =>
 Z1n r18.1 z6 zd zh r18.2.1 r18.2.2)
 else
 ((Z1G r1.1).bind fun r19 =>
 (Z2X false ([r19] : List Z7)).bind fun r20 =>
 some (r20, true, r1.2, z6, zd, zh, z1, z2)))))
 else
 (if (r1.1 == 63) = true then
 (if (r1.1 == 63) = true then
 ((ZT 23 zp zl z1 z2).bind fun r21 =>
 Z1n r21.1 z6 zd zh r21.2.1 r21.2.2)
 else
 (if (r1.1 == 93) = true then
 (if (r1.1 == 93) = true then
 ((ZT 20 zp zl z1 z2).bind fun r22 =>
 Z1n r22.1 z6 zd zh r22.2.1 r22.2.2)
 else
 ((Z1G r1.1).bind fun r23 =>
 (Z2X false ([r23] : List Z7)).bind fun r24 =>
 some (r24, true, r1.2, z6, zd, zh, z1, z2)))
 else
 (if (r1.1 == 125) = true then
 ((ZT 20 zp zl z1 z2).bind fun r25 =>
 Z1n r25.1 z6 zd zh r25.2.1 r25.2.2)
 else
 ((Z1G r1.1).bind fun r26 =>
 (Z2X false ([r26] : List Z7)).bind fun r27 =>
 some (r27, true, r1.2, z6, zd, zh, z1, z2)))))
 else
 (if (r1.1 == 123) = true then
 ((ZT 23 zp zl z1 z2).bind fun r28 =>
 Z1n r28.1 z6 zd zh r28.2.1 r28.2.2)
 else
 (if (r1.1 == 93) = true then
 (if (r1.1 == 93) = true then
 ((ZT 20 zp zl z1 z2).bind fun r29 =>
 Z1n r29.1 z6 zd zh r29.2.1 r29.2.2)
 else
 ((Z1G r1.1).bind fun r30 =>
 (Z2X false ([r30] : List Z7)).bind fun r31 =>
 some (r31, true, r1.2, z6, zd, zh, z1, z2)))
 else
 (if (r1.1 == 125) = true then
 ((ZT 20 zp zl z1 z2).bind fun r32 =>
 Z1n r32.1 z6 zd zh r32.2.1 r32.2.2)
 else
 ((Z1G r1.1).bind fun r33 =>
 (Z2X false ([r33] : List Z7)).bind fun r34 =>
 some (r34, true, r1.2, z6, zd, zh, z1, z2)))))))))))))
theorem ZcI zl zp z6 zd zh z1 z2 zn zb (zu : ZF zb = true) : Sim (Z4p zl zn) (Z5g zl zp z6 zd zh z1 z2) (EE 42 [(.ptr 0 0)] [(Zi (Zk.mk zl zp z6 zd zh (Zj.mk z1 z2)) zn zb)]) := by
 unfold Z5g
 refine zf (ZrK ..)<|ze<|zz (.ptr 1 0) [(Zi (Zk.mk zl zp z6 zd zh (Zj.mk z1 z2)) zn zb), (Zr (Z8.mk 0 0 0 0 0 ([] : List Z7) ([] : List Z8)) .nl .nl)]<|ze<|zq<|zq<|zq<|ze<|zi fun r1 hr1 => ?_
 obtain ⟨qr1, er1, exr1, rfl⟩ := Z2H zl zp z6 zd zh z1 z2 zn zb zu r1 hr1
 refine zc [0] (iv r1.1) [(Zi (Zk.mk zl r1.2 z6 zd zh (Zj.mk z1 z2)) zn zb), (Zr (Z8.mk 0 0 0 0 0 ([] : List Z7) ([] : List Z8)) .nl .nl)] er1<|ze<|ze<|zq ?_
 refine za (r1.1 == 46) ?_ ?_
 ·refine ze<|zi fun r2 hr2 => ?_
  obtain ⟨qr2, er2, exr2, rfl⟩ := Z1A 10 r2 hr2
  refine zc [] (.p (.agg (ZG r2))) [(Zi (Zk.mk zl r1.2 z6 zd zh (Zj.mk z1 z2)) zn zb), (Zr (Z8.mk 0 0 0 0 0 ([] : List Z7) ([] : List Z8)) .nl .nl)] er2<|zq<|zi fun r3 hr3 => ?_
  obtain ⟨qr3, er3, exr3, rfl⟩ := Z35 true ([r2] : List Z7) .sh r3 hr3
  refine zc [] (.p (.agg (ZE r3 .sh .sh))) [(Zi (Zk.mk zl r1.2 z6 zd zh (Zj.mk z1 z2)) zn zb), (Zr (Z8.mk 0 0 0 0 0 ([] : List Z7) ([] : List Z8)) .nl .nl)] er3<|zt [(Zi (Zk.mk zl r1.2 z6 zd zh (Zj.mk z1 z2)) zn zb), (Zr r3 .sh .sh)] ?_
  exact zr ((.p (.tup [(.agg (ZE r3 .sh .sh)), (.v (.bool true))])), [(Zi (Zk.mk zl r1.2 z6 zd zh (Zj.mk z1 z2)) zn zb), (Zr r3 .sh .sh)]) ⟨zb, _, zu, rfl⟩
 ·refine ze<|zq ?_
  refine za (r1.1 == 94) ?_ ?_
  ·refine ze<|zq<|zt [(Zi (Zk.mk zl r1.2 z6 zd zh (Zj.mk z1 z2)) zn zb), (Zr (Z8.mk 9 0 0 0 0 ([] : List Z7) ([] : List Z8)) .nl .nl)] ?_
   exact zr ((.p (.tup [(.agg (ZE (Z8.mk 9 0 0 0 0 ([] : List Z7) ([] : List Z8)) .sh .sh)), (.v (.bool false))])), [(Zi (Zk.mk zl r1.2 z6 zd zh (Zj.mk z1 z2)) zn zb), (Zr (Z8.mk 9 0 0 0 0 ([] : List Z7) ([] : List Z8)) .nl .nl)]) ⟨zb, _, zu, rfl⟩
  ·refine ze<|zq ?_
   refine za (r1.1 == 36) ?_ ?_
   ·refine ze<|zq<|zt [(Zi (Zk.mk zl r1.2 z6 zd zh (Zj.mk z1 z2)) zn zb), (Zr (Z8.mk 9 0 0 0 1 ([] : List Z7) ([] : List Z8)) .nl .nl)] ?_
    exact zr ((.p (.tup [(.agg (ZE (Z8.mk 9 0 0 0 1 ([] : List Z7) ([] : List Z8)) .sh .sh)), (.v (.bool false))])), [(Zi (Zk.mk zl r1.2 z6 zd zh (Zj.mk z1 z2)) zn zb), (Zr (Z8.mk 9 0 0 0 1 ([] : List Z7) ([] : List Z8)) .nl .nl)]) ⟨zb, _, zu, rfl⟩
   ·refine ze<|zq ?_
    refine za (r1.1 == 92) ?_ ?_
    ·refine ze<|zi fun r4 hr4 => ?_
     obtain ⟨qr4, er4, or4_0_4, exr4, hor4_0_4, rfl⟩ := Zcm zp zl r1.2 z6 zd zh z1 z2 zn zb zu r4 hr4
     refine zc [0] (.p (.agg (ZE r4.1 .sh .sh))) [(Zi (Zk.mk zl r4.2.1 z6 zd r4.2.2.1 (Zj.mk r4.2.2.2.1 r4.2.2.2.2)) zn or4_0_4), (Zr (Z8.mk 0 0 0 0 0 ([] : List Z7) ([] : List Z8)) .nl .nl)] er4<|zz (.ptr 2 0) [(Zi (Zk.mk zl r4.2.1 z6 zd r4.2.2.1 (Zj.mk r4.2.2.2.1 r4.2.2.2.2)) zn or4_0_4), (Zr (Z8.mk 0 0 0 0 0 ([] : List Z7) ([] : List Z8)) .nl .nl), (Zr (Z8.mk 0 0 0 0 0 ([] : List Z7) ([] : List Z8)) .nl .nl)]<|zt [(Zi (Zk.mk zl r4.2.1 z6 zd r4.2.2.1 (Zj.mk r4.2.2.2.1 r4.2.2.2.2)) zn or4_0_4), (Zr (Z8.mk 0 0 0 0 0 ([] : List Z7) ([] : List Z8)) .nl .nl), (Zr r4.1 .sh .sh)]<|ze<|zq<|zq<|zq<|zq<|zt [(Zi (Zk.mk zl r4.2.1 z6 zd r4.2.2.1 (Zj.mk r4.2.2.2.1 r4.2.2.2.2)) zn or4_0_4), (Zr r4.1 .sh .sh), (Zr r4.1 .sh .sh)]<|zg ?_
     exact zr ((.p (.tup [(.agg (ZE r4.1 .sh .sh)), (.v (.bool (r4.1.Kind != 9)))])), [(Zi (Zk.mk zl r4.2.1 z6 zd r4.2.2.1 (Zj.mk r4.2.2.2.1 r4.2.2.2.2)) zn or4_0_4), (Zr r4.1 .sh .sh), (Zr r4.1 .sh .sh)]) ⟨or4_0_4, _, hor4_0_4, rfl⟩
    ·refine ze<|zq ?_
     refine za (r1.1 == 91) ?_ ?_
     ·refine ze<|zi fun r5 hr5 => ?_
      obtain ⟨qr5, er5, exr5, rfl⟩ := ZcK zp zl r1.2 z6 zd zh z1 z2 zn zb zu r5 hr5
      refine zc [0] (.p (.agg (ZE r5.1 .sh .sh))) [(Zi (Zk.mk zl r5.2.1 z6 zd zh (Zj.mk r5.2.2.1 r5.2.2.2)) zn zb), (Zr (Z8.mk 0 0 0 0 0 ([] : List Z7) ([] : List Z8)) .nl .nl)] er5<|zt [(Zi (Zk.mk zl r5.2.1 z6 zd zh (Zj.mk r5.2.2.1 r5.2.2.2)) zn zb), (Zr r5.1 .sh .sh)] ?_
      exact zr ((.p (.tup [(.agg (ZE r5.1 .sh .sh)), (.v (.bool true))])), [(Zi (Zk.mk zl r5.2.1 z6 zd zh (Zj.mk r5.2.2.1 r5.2.2.2)) zn zb), (Zr r5.1 .sh .sh)]) ⟨zb, _, zu, rfl⟩
     ·refine ze<|zq ?_
      refine za (r1.1 == 40) ?_ ?_
      ·refine ze<|zi fun r6 hr6 => ?_
       obtain ⟨qr6, er6, or6_0_4, exr6, hor6_0_4, rfl⟩ := ZcM zp zl r1.2 z6 zd zh z1 z2 zn zb zu r6 hr6
       refine zc [0] (.p (.tup [(.agg (ZE r6.1 .sh .sh)), (.v (.bool r6.2.1))])) [(Zi (Zk.mk zl r6.2.2.1 r6.2.2.2.1 r6.2.2.2.2.1 r6.2.2.2.2.2.1 (Zj.mk r6.2.2.2.2.2.2.1 r6.2.2.2.2.2.2.2)) zn or6_0_4), (Zr (Z8.mk 0 0 0 0 0 ([] : List Z7) ([] : List Z8)) .nl .nl)] er6<|zq<|zq<|zt [(Zi (Zk.mk zl r6.2.2.1 r6.2.2.2.1 r6.2.2.2.2.1 r6.2.2.2.2.2.1 (Zj.mk r6.2.2.2.2.2.2.1 r6.2.2.2.2.2.2.2)) zn or6_0_4), (Zr r6.1 .sh .sh)] ?_
       exact zr ((.p (.tup [(.agg (ZE r6.1 .sh .sh)), (.v (.bool r6.2.1))])), [(Zi (Zk.mk zl r6.2.2.1 r6.2.2.2.1 r6.2.2.2.2.1 r6.2.2.2.2.2.1 (Zj.mk r6.2.2.2.2.2.2.1 r6.2.2.2.2.2.2.2)) zn or6_0_4), (Zr r6.1 .sh .sh)]) ⟨or6_0_4, _, hor6_0_4, rfl⟩
      ·refine ze<|zq ?_
       refine za (r1.1 == 42) ?_ ?_
       ·refine za (r1.1 == 42) ?_ ?_
        ·refine ze<|zi fun r7 hr7 => ?_
         obtain ⟨qr7, er7, exr7, rfl⟩ := ZW 23 zp zl r1.2 z6 zd zh z1 z2 zn zb zu r7 hr7
         refine zc [0] (.p (.tup [])) [(Zi (Zk.mk zl r7.1 z6 zd zh (Zj.mk r7.2.1 r7.2.2)) zn zb), (Zr (Z8.mk 0 0 0 0 0 ([] : List Z7) ([] : List Z8)) .nl .nl)] er7 ?_
         exact zk (Z1p zl r7.1 z6 zd zh r7.2.1 r7.2.2 (Z8.mk 0 0 0 0 0 ([] : List Z7) ([] : List Z8)) zn zb .nl .nl zu rfl rfl)
        ·refine ze<|zq ?_
         refine za (r1.1 == 93) ?_ ?_
         ·refine za (r1.1 == 93) ?_ ?_
          ·refine ze<|zi fun r8 hr8 => ?_
           obtain ⟨qr8, er8, exr8, rfl⟩ := ZW 20 zp zl r1.2 z6 zd zh z1 z2 zn zb zu r8 hr8
           refine zc [0] (.p (.tup [])) [(Zi (Zk.mk zl r8.1 z6 zd zh (Zj.mk r8.2.1 r8.2.2)) zn zb), (Zr (Z8.mk 0 0 0 0 0 ([] : List Z7) ([] : List Z8)) .nl .nl)] er8 ?_
           exact zk (Z1p zl r8.1 z6 zd zh r8.2.1 r8.2.2 (Z8.mk 0 0 0 0 0 ([] : List Z7) ([] : List Z8)) zn zb .nl .nl zu rfl rfl)
          ·refine ze<|zi fun r9 hr9 => ?_
           obtain ⟨qr9, er9, exr9, rfl⟩ := Z1A r1.1 r9 hr9
           refine zc [] (.p (.agg (ZG r9))) [(Zi (Zk.mk zl r1.2 z6 zd zh (Zj.mk z1 z2)) zn zb), (Zr (Z8.mk 0 0 0 0 0 ([] : List Z7) ([] : List Z8)) .nl .nl)] er9<|zq<|zi fun r10 hr10 => ?_
           obtain ⟨qr10, er10, exr10, rfl⟩ := Z35 false ([r9] : List Z7) .sh r10 hr10
           refine zc [] (.p (.agg (ZE r10 .sh .sh))) [(Zi (Zk.mk zl r1.2 z6 zd zh (Zj.mk z1 z2)) zn zb), (Zr (Z8.mk 0 0 0 0 0 ([] : List Z7) ([] : List Z8)) .nl .nl)] er10<|zt [(Zi (Zk.mk zl r1.2 z6 zd zh (Zj.mk z1 z2)) zn zb), (Zr r10 .sh .sh)] ?_
           exact zr ((.p (.tup [(.agg (ZE r10 .sh .sh)), (.v (.bool true))])), [(Zi (Zk.mk zl r1.2 z6 zd zh (Zj.mk z1 z2)) zn zb), (Zr r10 .sh .sh)]) ⟨zb, _, zu, rfl⟩
         ·refine ze<|zq ?_
          refine za (r1.1 == 125) ?_ ?_
          ·refine ze<|zi fun r11 hr11 => ?_
           obtain ⟨qr11, er11, exr11, rfl⟩ := ZW 20 zp zl r1.2 z6 zd zh z1 z2 zn zb zu r11 hr11
           refine zc [0] (.p (.tup [])) [(Zi (Zk.mk zl r11.1 z6 zd zh (Zj.mk r11.2.1 r11.2.2)) zn zb), (Zr (Z8.mk 0 0 0 0 0 ([] : List Z7) ([] : List Z8)) .nl .nl)] er11 ?_
           exact zk (Z1p zl r11.1 z6 zd zh r11.2.1 r11.2.2 (Z8.mk 0 0 0 0 0 ([] : List Z7) ([] : List Z8)) zn zb .nl .nl zu rfl rfl)
          ·refine ze<|zi fun r12 hr12 => ?_
           obtain ⟨qr12, er12, exr12, rfl⟩ := Z1A r1.1 r12 hr12
           refine zc [] (.p (.agg (ZG r12))) [(Zi (Zk.mk zl r1.2 z6 zd zh (Zj.mk z1 z2)) zn zb), (Zr (Z8.mk 0 0 0 0 0 ([] : List Z7) ([] : List Z8)) .nl .nl)] er12<|zq<|zi fun r13 hr13 => ?_
           obtain ⟨qr13, er13, exr13, rfl⟩ := Z35 false ([r12] : List Z7) .sh r13 hr13
           refine zc [] (.p (.agg (ZE r13 .sh .sh))) [(Zi (Zk.mk zl r1.2 z6 zd zh (Zj.mk z1 z2)) zn zb), (Zr (Z8.mk 0 0 0 0 0 ([] : List Z7) ([] : List Z8)) .nl .nl)] er13<|zt [(Zi (Zk.mk zl r1.2 z6 zd zh (Zj.mk z1 z2)) zn zb), (Zr r13 .sh .sh)] ?_
           exact zr ((.p (.tup [(.agg (ZE r13 .sh .sh)), (.v (.bool true))])), [(Zi (Zk.mk zl r1.2 z6 zd zh (Zj.mk z1 z2)) zn zb), (Zr r13 .sh .sh)]) ⟨zb, _, zu, rfl⟩
       ·refine ze<|zq ?_
        refine za (r1.1 == 43) ?_ ?_
        ·refine za (r1.1 == 43) ?_ ?_
         ·refine ze<|zi fun r14 hr14 => ?_
          obtain ⟨qr14, er14, exr14, rfl⟩ := ZW 23 zp zl r1.2 z6 zd zh z1 z2 zn zb zu r14 hr14
          refine zc [0] (.p (.tup [])) [(Zi (Zk.mk zl r14.1 z6 zd zh (Zj.mk r14.2.1 r14.2.2)) zn zb), (Zr (Z8.mk 0 0 0 0 0 ([] : List Z7) ([] : List Z8)) .nl .nl)] er14 ?_
          exact zk (Z1p zl r14.1 z6 zd zh r14.2.1 r14.2.2 (Z8.mk 0 0 0 0 0 ([] : List Z7) ([] : List Z8)) zn zb .nl .nl zu rfl rfl)
         ·refine ze<|zq ?_
          refine za (r1.1 == 93) ?_ ?_
          ·refine za (r1.1 == 93) ?_ ?_
           ·refine ze<|zi fun r15 hr15 => ?_
            obtain ⟨qr15, er15, exr15, rfl⟩ := ZW 20 zp zl r1.2 z6 zd zh z1 z2 zn zb zu r15 hr15
            refine zc [0] (.p (.tup [])) [(Zi (Zk.mk zl r15.1 z6 zd zh (Zj.mk r15.2.1 r15.2.2)) zn zb), (Zr (Z8.mk 0 0 0 0 0 ([] : List Z7) ([] : List Z8)) .nl .nl)] er15 ?_
            exact zk (Z1p zl r15.1 z6 zd zh r15.2.1 r15.2.2 (Z8.mk 0 0 0 0 0 ([] : List Z7) ([] : List Z8)) zn zb .nl .nl zu rfl rfl)
           ·refine ze<|zi fun r16 hr16 => ?_
            obtain ⟨qr16, er16, exr16, rfl⟩ := Z1A r1.1 r16 hr16
            refine zc [] (.p (.agg (ZG r16))) [(Zi (Zk.mk zl r1.2 z6 zd zh (Zj.mk z1 z2)) zn zb), (Zr (Z8.mk 0 0 0 0 0 ([] : List Z7) ([] : List Z8)) .nl .nl)] er16<|zq<|zi fun r17 hr17 => ?_
            obtain ⟨qr17, er17, exr17, rfl⟩ := Z35 false ([r16] : List Z7) .sh r17 hr17
            refine zc [] (.p (.agg (ZE r17 .sh .sh))) [(Zi (Zk.mk zl r1.2 z6 zd zh (Zj.mk z1 z2)) zn zb), (Zr (Z8.mk 0 0 0 0 0 ([] : List Z7) ([] : List Z8)) .nl .nl)] er17<|zt [(Zi (Zk.mk zl r1.2 z6 zd zh (Zj.mk z1 z2)) zn zb), (Zr r17 .sh .sh)] ?_
            exact zr ((.p (.tup [(.agg (ZE r17 .sh .sh)), (.v (.bool true))])), [(Zi (Zk.mk zl r1.2 z6 zd zh (Zj.mk z1 z2)) zn zb), (Zr r17 .sh .sh)]) ⟨zb, _, zu, rfl⟩
          ·refine ze<|zq ?_
           refine za (r1.1 == 125) ?_ ?_
           ·refine ze<|zi fun r18 hr18 => ?_
            obtain ⟨qr18, er18, exr18, rfl⟩ := ZW 20 zp zl r1.2 z6 zd zh z1 z2 zn zb zu r18 hr18
            refine zc [0] (.p (.tup [])) [(Zi (Zk.mk zl r18.1 z6 zd zh (Zj.mk r18.2.1 r18.2.2)) zn zb), (Zr (Z8.mk 0 0 0 0 0 ([] : List Z7) ([] : List Z8)) .nl .nl)] er18 ?_
            exact zk (Z1p zl r18.1 z6 zd zh r18.2.1 r18.2.2 (Z8.mk 0 0 0 0 0 ([] : List Z7) ([] : List Z8)) zn zb .nl .nl zu rfl rfl)
           ·refine ze<|zi fun r19 hr19 => ?_
            obtain ⟨qr19, er19, exr19, rfl⟩ := Z1A r1.1 r19 hr19
            refine zc [] (.p (.agg (ZG r19))) [(Zi (Zk.mk zl r1.2 z6 zd zh (Zj.mk z1 z2)) zn zb), (Zr (Z8.mk 0 0 0 0 0 ([] : List Z7) ([] : List Z8)) .nl .nl)] er19<|zq<|zi fun r20 hr20 => ?_
            obtain ⟨qr20, er20, exr20, rfl⟩ := Z35 false ([r19] : List Z7) .sh r20 hr20
            refine zc [] (.p (.agg (ZE r20 .sh .sh))) [(Zi (Zk.mk zl r1.2 z6 zd zh (Zj.mk z1 z2)) zn zb), (Zr (Z8.mk 0 0 0 0 0 ([] : List Z7) ([] : List Z8)) .nl .nl)] er20<|zt [(Zi (Zk.mk zl r1.2 z6 zd zh (Zj.mk z1 z2)) zn zb), (Zr r20 .sh .sh)] ?_
            exact zr ((.p (.tup [(.agg (ZE r20 .sh .sh)), (.v (.bool true))])), [(Zi (Zk.mk zl r1.2 z6 zd zh (Zj.mk z1 z2)) zn zb), (Zr r20 .sh .sh)]) ⟨zb, _, zu, rfl⟩
        ·refine ze<|zq ?_
         refine za (r1.1 == 63) ?_ ?_
         ·refine za (r1.1 == 63) ?_ ?_
          ·refine ze<|zi fun r21 hr21 => ?_
           obtain ⟨qr21, er21, exr21, rfl⟩ := ZW 23 zp zl r1.2 z6 zd zh z1 z2 zn zb zu r21 hr21
           refine zc [0] (.p (.tup [])) [(Zi (Zk.mk zl r21.1 z6 zd zh (Zj.mk r21.2.1 r21.2.2)) zn zb), (Zr (Z8.mk 0 0 0 0 0 ([] : List Z7) ([] : List Z8)) .nl .nl)] er21 ?_
           exact zk (Z1p zl r21.1 z6 zd zh r21.2.1 r21.2.2 (Z8.mk 0 0 0 0 0 ([] : List Z7) ([] : List Z8)) zn zb .nl .nl zu rfl rfl)
          ·refine ze<|zq ?_
           refine za (r1.1 == 93) ?_ ?_
           ·refine za (r1.1 == 93) ?_ ?_
            ·refine ze<|zi fun r22 hr22 => ?_
             obtain ⟨qr22, er22, exr22, rfl⟩ := ZW 20 zp zl r1.2 z6 zd zh z1 z2 zn zb zu r22 hr22
             refine zc [0] (.p (.tup [])) [(Zi (Zk.mk zl r22.1 z6 zd zh (Zj.mk r22.2.1 r22.2.2)) zn zb), (Zr (Z8.mk 0 0 0 0 0 ([] : List Z7) ([] : List Z8)) .nl .nl)] er22 ?_
             exact zk (Z1p zl r22.1 z6 zd zh r22.2.1 r22.2.2 (Z8.mk 0 0 0 0 0 ([] : List Z7) ([] : List Z8)) zn zb .nl .nl zu rfl rfl)
            ·refine ze<|zi fun r23 hr23 => ?_
             obtain ⟨qr23, er23, exr23, rfl⟩ := Z1A r1.1 r23 hr23
             refine zc [] (.p (.agg (ZG r23))) [(Zi (Zk.mk zl r1.2 z6 zd zh (Zj.mk z1 z2)) zn zb), (Zr (Z8.mk 0 0 0 0 0 ([] : List Z7) ([] : List Z8)) .nl .nl)] er23<|zq<|zi fun r24 hr24 => ?_
             obtain ⟨qr24, er24, exr24, rfl⟩ := Z35 false ([r23] : List Z7) .sh r24 hr24
             refine zc [] (.p (.agg (ZE r24 .sh .sh))) [(Zi (Zk.mk zl r1.2 z6 zd zh (Zj.mk z1 z2)) zn zb), (Zr (Z8.mk 0 0 0 0 0 ([] : List Z7) ([] : List Z8)) .nl .nl)] er24<|zt [(Zi (Zk.mk zl r1.2 z6 zd zh (Zj.mk z1 z2)) zn zb), (Zr r24 .sh .sh)] ?_
             exact zr ((.p (.tup [(.agg (ZE r24 .sh .sh)), (.v (.bool true))])), [(Zi (Zk.mk zl r1.2 z6 zd zh (Zj.mk z1 z2)) zn zb), (Zr r24 .sh .sh)]) ⟨zb, _, zu, rfl⟩
           ·refine ze<|zq ?_
            refine za (r1.1 == 125) ?_ ?_
            ·refine ze<|zi fun r25 hr25 => ?_
             obtain ⟨qr25, er25, exr25, rfl⟩ := ZW 20 zp zl r1.2 z6 zd zh z1 z2 zn zb zu r25 hr25
             refine zc [0] (.p (.tup [])) [(Zi (Zk.mk zl r25.1 z6 zd zh (Zj.mk r25.2.1 r25.2.2)) zn zb), (Zr (Z8.mk 0 0 0 0 0 ([] : List Z7) ([] : List Z8)) .nl .nl)] er25 ?_
             exact zk (Z1p zl r25.1 z6 zd zh r25.2.1 r25.2.2 (Z8.mk 0 0 0 0 0 ([] : List Z7) ([] : List Z8)) zn zb .nl .nl zu rfl rfl)
            ·refine ze<|zi fun r26 hr26 => ?_
             obtain ⟨qr26, er26, exr26, rfl⟩ := Z1A r1.1 r26 hr26
             refine zc [] (.p (.agg (ZG r26))) [(Zi (Zk.mk zl r1.2 z6 zd zh (Zj.mk z1 z2)) zn zb), (Zr (Z8.mk 0 0 0 0 0 ([] : List Z7) ([] : List Z8)) .nl .nl)] er26<|zq<|zi fun r27 hr27 => ?_
             obtain ⟨qr27, er27, exr27, rfl⟩ := Z35 false ([r26] : List Z7) .sh r27 hr27
             refine zc [] (.p (.agg (ZE r27 .sh .sh))) [(Zi (Zk.mk zl r1.2 z6 zd zh (Zj.mk z1 z2)) zn zb), (Zr (Z8.mk 0 0 0 0 0 ([] : List Z7) ([] : List Z8)) .nl .nl)] er27<|zt [(Zi (Zk.mk zl r1.2 z6 zd zh (Zj.mk z1 z2)) zn zb), (Zr r27 .sh .sh)] ?_
             exact zr ((.p (.tup [(.agg (ZE r27 .sh .sh)), (.v (.bool true))])), [(Zi (Zk.mk zl r1.2 z6 zd zh (Zj.mk z1 z2)) zn zb), (Zr r27 .sh .sh)]) ⟨zb, _, zu, rfl⟩
         ·refine ze<|zq ?_
          refine za (r1.1 == 123) ?_ ?_
          ·refine ze<|zi fun r28 hr28 => ?_
           obtain ⟨qr28, er28, exr28, rfl⟩ := ZW 23 zp zl r1.2 z6 zd zh z1 z2 zn zb zu r28 hr28
           refine zc [0] (.p (.tup [])) [(Zi (Zk.mk zl r28.1 z6 zd zh (Zj.mk r28.2.1 r28.2.2)) zn zb), (Zr (Z8.mk 0 0 0 0 0 ([] : List Z7) ([] : List Z8)) .nl .nl)] er28 ?_
           exact zk (Z1p zl r28.1 z6 zd zh r28.2.1 r28.2.2 (Z8.mk 0 0 0 0 0 ([] : List Z7) ([] : List Z8)) zn zb .nl .nl zu rfl rfl)
          ·refine ze<|zq ?_
           refine za (r1.1 == 93) ?_ ?_
           ·refine za (r1.1 == 93) ?_ ?_
            ·refine ze<|zi fun r29 hr29 => ?_
             obtain ⟨qr29, er29, exr29, rfl⟩ := ZW 20 zp zl r1.2 z6 zd zh z1 z2 zn zb zu r29 hr29
             refine zc [0] (.p (.tup [])) [(Zi (Zk.mk zl r29.1 z6 zd zh (Zj.mk r29.2.1 r29.2.2)) zn zb), (Zr (Z8.mk 0 0 0 0 0 ([] : List Z7) ([] : List Z8)) .nl .nl)] er29 ?_
             exact zk (Z1p zl r29.1 z6 zd zh r29.2.1 r29.2.2 (Z8.mk 0 0 0 0 0 ([] : List Z7) ([] : List Z8)) zn zb .nl .nl zu rfl rfl)
            ·refine ze<|zi fun r30 hr30 => ?_
             obtain ⟨qr30, er30, exr30, rfl⟩ := Z1A r1.1 r30 hr30
             refine zc [] (.p (.agg (ZG r30))) [(Zi (Zk.mk zl r1.2 z6 zd zh (Zj.mk z1 z2)) zn zb), (Zr (Z8.mk 0 0 0 0 0 ([] : List Z7) ([] : List Z8)) .nl .nl)] er30<|zq<|zi fun r31 hr31 => ?_
             obtain ⟨qr31, er31, exr31, rfl⟩ := Z35 false ([r30] : List Z7) .sh r31 hr31
             refine zc [] (.p (.agg (ZE r31 .sh .sh))) [(Zi (Zk.mk zl r1.2 z6 zd zh (Zj.mk z1 z2)) zn zb), (Zr (Z8.mk 0 0 0 0 0 ([] : List Z7) ([] : List Z8)) .nl .nl)] er31<|zt [(Zi (Zk.mk zl r1.2 z6 zd zh (Zj.mk z1 z2)) zn zb), (Zr r31 .sh .sh)] ?_
             exact zr ((.p (.tup [(.agg (ZE r31 .sh .sh)), (.v (.bool true))])), [(Zi (Zk.mk zl r1.2 z6 zd zh (Zj.mk z1 z2)) zn zb), (Zr r31 .sh .sh)]) ⟨zb, _, zu, rfl⟩
           ·refine ze<|zq ?_
            refine za (r1.1 == 125) ?_ ?_
            ·refine ze<|zi fun r32 hr32 => ?_
             obtain ⟨qr32, er32, exr32, rfl⟩ := ZW 20 zp zl r1.2 z6 zd zh z1 z2 zn zb zu r32 hr32
             refine zc [0] (.p (.tup [])) [(Zi (Zk.mk zl r32.1 z6 zd zh (Zj.mk r32.2.1 r32.2.2)) zn zb), (Zr (Z8.mk 0 0 0 0 0 ([] : List Z7) ([] : List Z8)) .nl .nl)] er32 ?_
             exact zk (Z1p zl r32.1 z6 zd zh r32.2.1 r32.2.2 (Z8.mk 0 0 0 0 0 ([] : List Z7) ([] : List Z8)) zn zb .nl .nl zu rfl rfl)
            ·refine ze<|zi fun r33 hr33 => ?_
             obtain ⟨qr33, er33, exr33, rfl⟩ := Z1A r1.1 r33 hr33
             refine zc [] (.p (.agg (ZG r33))) [(Zi (Zk.mk zl r1.2 z6 zd zh (Zj.mk z1 z2)) zn zb), (Zr (Z8.mk 0 0 0 0 0 ([] : List Z7) ([] : List Z8)) .nl .nl)] er33<|zq<|zi fun r34 hr34 => ?_
             obtain ⟨qr34, er34, exr34, rfl⟩ := Z35 false ([r33] : List Z7) .sh r34 hr34
             refine zc [] (.p (.agg (ZE r34 .sh .sh))) [(Zi (Zk.mk zl r1.2 z6 zd zh (Zj.mk z1 z2)) zn zb), (Zr (Z8.mk 0 0 0 0 0 ([] : List Z7) ([] : List Z8)) .nl .nl)] er34<|zt [(Zi (Zk.mk zl r1.2 z6 zd zh (Zj.mk z1 z2)) zn zb), (Zr r34 .sh .sh)] ?_
             exact zr ((.p (.tup [(.agg (ZE r34 .sh .sh)), (.v (.bool true))])), [(Zi (Zk.mk zl r1.2 z6 zd zh (Zj.mk z1 z2)) zn zb), (Zr r34 .sh .sh)]) ⟨zb, _, zu, rfl⟩
theorem Zdj (zl : List Int) (zp z6 zd : Int) (zh : List Zq) (z1 z2 : Int) {r} (h : Z5g zl zp z6 zd zh z1 z2 = some r) : Z6s zl zp z6 zd zh z1 z2 = some r :=
 Z1e (fun _ _ ha hb => RRun.uniq (Zdu _ _) (ha .ex .ex rfl) (hb .ex .ex rfl)) (fun zn zb zu => ZcI zl zp z6 zd zh z1 z2 zn zb zu r h)
def Z6p (zl : List Int) (zp : Int) : Option (Int × Int) :=
 (Z9a zl zp).bind fun r1 =>
 some (r1.1, (IntKind.i64.wrap (zp + r1.2)))
theorem ZcP zl zp z6 zd zh z1 z2 zn zb (zu : ZF zb = true) : Sim (Z5f zl z6 zd zh z1 z2 zn zb) (Z6p zl zp) (EE 46 [(.ptr 0 0)] [(Zi (Zk.mk zl zp z6 zd zh (Zj.mk z1 z2)) zn zb)]) := by
 unfold Z6p
 refine zf (ZrQ ..)<|ze<|ze<|zq<|zq<|zq<|zq<|zq<|zq<|zi fun r1 hr1 => ?_
 obtain ⟨qr1, er1, exr1, rfl⟩ := Ze2 zl zp .sh r1 hr1
 refine zc [] (.p (.tup [(.v (.int .i64 r1.1)), (.v (.int .i64 r1.2))])) [(Zi (Zk.mk zl zp z6 zd zh (Zj.mk z1 z2)) zn zb)] er1<|zq<|zq<|ze<|zq<|zq<|zq<|zq<|zq<|zq<|zt [(Zi (Zk.mk zl (IntKind.i64.wrap (zp + r1.2)) z6 zd zh (Zj.mk z1 z2)) zn zb)]<|ze ?_
 exact zr ((iv r1.1), [(Zi (Zk.mk zl (IntKind.i64.wrap (zp + r1.2)) z6 zd zh (Zj.mk z1 z2)) zn zb)]) ⟨_, rfl⟩
theorem Zdn (zl : List Int) (zp : Int) {r} (h : Z6p zl zp = some r) : Z2f zl zp = some r :=
 Z1e (fun _ _ ha hb => RRun.uniq (Zdx _ _ _ _ _ _ _ _) (ha default default default default default .ex .ex rfl) (hb default default default default default .ex .ex rfl)) (fun z6 zd zh z1 z2 zn zb zu => ZcP zl zp z6 zd zh z1 z2 zn zb zu r h)
def Zdb (x0 : Int) : Option (Z7) :=
 some (Z7.mk x0 x0)
theorem ZhJ x0 : Sim (Z8U) (Zdb x0) (EE 48 [(iv x0)] []) := by
 unfold Zdb
 refine zf (ZrT ..)<|ze<|zz (.ptr 0 0) [(Z1I (Z7.mk 0 0))]<|ze<|zq<|zt [(Z1I (Z7.mk x0 x0))] ?_
 exact zr ((.p (.agg (ZG (Z7.mk x0 x0)))), [(Z1I (Z7.mk x0 x0))]) ⟨_, rfl⟩
theorem ZiC (x0 : Int) {r} (h : Zdb x0 = some r) : Z1G x0 = some r :=
 Z1e (fun _ _ ha hb => RRun.uniq Zj2 (ha ) (hb )) (ZhJ x0 r h)
def Z8j (x5 : List Z7) : Option (Z8) :=
 some (Z8.mk 1 0 0 0 0 x5 ([] : List Z8))
theorem Zbb (x5 : List Z7) b0 ox5 ze8 zcw (zpI : ZF ze8 = true) (zoP : ZF zcw = true) : Sim (Z7x) (Z8j x5) (Zhp 0 (.ptr 0 0) (.p (.lst ox5 (x5.map Zv))) [(Zr b0 ze8 zcw)]) := by
 unfold Z8j
 refine zf (Zo1 ..)<|ze<|zq<|zt [(Zr (Z8.mk 1 0 0 0 0 x5 ([] : List Z8)) (shrO (shrO ox5)) .nl)] ?_
 exact zr ((.p (.agg (ZE (Z8.mk 1 0 0 0 0 x5 ([] : List Z8)) .sh .sh))), [(Zr (Z8.mk 1 0 0 0 0 x5 ([] : List Z8)) (shrO (shrO ox5)) .nl)]) ⟨_, rfl⟩
def ZaQ (x0 : Bool) (x1 : List Z7) : Option (Z8) :=
 (Z9Z x1).bind fun r1 =>
 if (x0) = true then
 ((Z6I r1.1).bind fun r2 =>
 Z8j r2.1)
 else
 (Z8j r1.1)
theorem ZhK x0 (x1 : List Z7) ox1 : Sim (Z7x) (ZaQ x0 x1) (EE 47 [(bv x0), (.p (.lst ox1 (x1.map Zv)))] []) := by
 unfold ZaQ
 refine zf (ZrR ..)<|ze<|zz (.ptr 0 0) [(Zr (Z8.mk 0 0 0 0 0 ([] : List Z7) ([] : List Z8)) .nl .nl)]<|ze<|zi fun r1 hr1 => ?_
 obtain ⟨qr1, er1, exr1, rfl⟩ := ZhH x1 .sh r1 hr1
 refine zc [] (.p (.tup [(.lst .sh (r1.1.map Zv)), (.v (.int .i64 r1.2))])) [(Zr (Z8.mk 0 0 0 0 0 ([] : List Z7) ([] : List Z8)) .nl .nl)] er1<|zq<|zq<|ze ?_
 refine za x0 ?_ ?_
 ·refine ze<|zi fun r2 hr2 => ?_
  obtain ⟨qr2, er2, exr2, rfl⟩ := Zb4 r1.1 .sh r2 hr2
  refine zc [] (.p (.tup [(.lst .sh (r2.1.map Zv)), (.v (.int .i64 r2.2))])) [(Zr (Z8.mk 0 0 0 0 0 ([] : List Z7) ([] : List Z8)) .nl .nl)] er2<|zq<|zq ?_
  exact zk (Zbb r2.1 (Z8.mk 0 0 0 0 0 ([] : List Z7) ([] : List Z8)) .sh .nl .nl rfl rfl)
 ·exact zk (Zbb r1.1 (Z8.mk 0 0 0 0 0 ([] : List Z7) ([] : List Z8)) .sh .nl .nl rfl rfl)
theorem ZiD (x0 : Bool) (x1 : List Z7) {r} (h : ZaQ x0 x1 = some r) : Z2X x0 x1 = some r :=
 Z1e (fun _ _ ha hb => RRun.uniq Zj3 (ha .ex) (hb .ex)) (fun ox1 => ZhK x0 x1 ox1 r h)
def Z7E (x0 : List Z7) : Option ((List Z7) × Int) :=
 (Z8p x0).bind fun r1 =>
 some (r1, 0)
theorem Zf9 (x0 : List Z7) ox0 : Sim (Z6W) (Z7E x0) (ZjW 0 (.p (.lst ox0 (x0.map Zv))) []) := by
 unfold Z7E
 refine zf (Zoc ..)<|ze<|zi fun r1 hr1 => ?_
 obtain ⟨qr1, er1, exr1, rfl⟩ := ZbA x0 .sh r1 hr1
 refine zc [] (.p (.lst .sh (r1.map Zv))) [] er1 ?_
 exact zr ((.p (.tup [(.lst .sh (r1.map Zv)), (.v (.int .i64 0))])), []) ⟨_, rfl⟩
def Z9W (x0 : List Z7) : Option ((List Z7) × Int) :=
 (Z3G x0).bind fun r1 =>
 if (r1) = true then
 (some (([] : List Z7), 13))
 else
 (Z7E x0)
theorem ZgS (x0 : List Z7) ox0 : Sim (Z6W) (Z9W x0) (EE 54 [(.p (.lst ox0 (x0.map Zv)))] []) := by
 unfold Z9W
 refine zf (Zs7 ..)<|ze<|ze<|zi fun r1 hr1 => ?_
 obtain ⟨qr1, er1, exr1, rfl⟩ := Z8T x0 .sh r1 hr1
 refine zc [] (bv r1) [] er1 ?_
 refine za r1 ?_ ?_
 ·refine ze ?_
  exact zr ((.p (.tup [(.lst .sh []), (.v (.int .i64 13))])), []) ⟨_, rfl⟩
 ·exact zk (Zf9 x0 ox0)
theorem ZhG (x0 : List Z7) {r} (h : Z9W x0 = some r) : Z9Z x0 = some r :=
 Z1e (fun _ _ ha hb => RRun.uniq Zif (ha .ex) (hb .ex)) (fun ox0 => ZgS x0 ox0 r h)
def Z3B (x0 : List Z7) : Option (Bool) :=
 (Z4i x0).bind fun r1 =>
 some (decide (0 ≤ r1))
theorem Z8r (x0 : List Z7) ox0 : Sim (Z2Z) (Z3B x0) (EE 65 [(.p (.lst ox0 (x0.map Zv))), (.clo 66 [] [])] []) := by
 unfold Z3B
 refine zf (Zsq ..)<|ze<|ze<|zi fun r1 hr1 => ?_
 obtain ⟨qr1, er1, exr1, rfl⟩ := Z9R x0 .sh r1 hr1
 refine zc [] (iv r1) [] er1<|zq ?_
 exact zr ((bv (decide (0 ≤ r1))), []) ⟨_, rfl⟩
theorem Z8S (x0 : List Z7) {r} (h : Z3B x0 = some r) : Z3G x0 = some r :=
 Z1e (fun _ _ ha hb => RRun.uniq Z8X (ha .ex) (hb .ex)) (fun ox0 => Z8r x0 ox0 r h)
def Z4c (x0 : List Z7) : Option (Int) :=
 Z33 x0 (x0.length : Int) 0
theorem Z9r (x0 : List Z7) ox0 : Sim (Z1v) (Z4c x0) (EE 73 [(.p (.lst ox0 (x0.map Zv))), (.clo 66 [] [])] []) := by
 unfold Z4c
 refine zf (ZsD ..)<|ze<|ze ?_
 refine zo (iv (x0.length : Int)) ?_ (Eq.trans (by kernel_rfl) (Z5r (P := PP) (t := 23) (d := 39) (by kernel_rfl) Zv (shrO ox0) x0))
 exact zk (Z63 x0 (x0.length : Int) 0 ox0)
theorem Z9Q (x0 : List Z7) {r} (h : Z4c x0 = some r) : Z4i x0 = some r :=
 Z1e (fun _ _ ha hb => RRun.uniq Z6B (ha .ex) (hb .ex)) (fun ox0 => Z9r x0 ox0 r h)
def Z3E (x0 : List Z7) (x7 x8 : Int) : Option (Int) :=
 Z33 x0 x7 (IntKind.i64.wrap (x8 + 1))
theorem Z8y (x0 : List Z7) x7 x8 ox0 : Sim (Z1v) (Z3E x0 x7 x8) (Zkt 0 (.p (.lst ox0 (x0.map Zv))) (.clo 66 [] []) (iv x7) (iv x8) []) := by
 unfold Z3E
 refine zf (ZoH ..)<|ze<|zq ?_
 exact zk (Z63 x0 x7 (IntKind.i64.wrap (x8 + 1)) ox0)
def Z3D (x0 : List Z7) (x7 x8 : Int) : Option (Int) :=
 (lget x0 x8).bind fun a1 =>
 (Z8n a1).bind fun r2 =>
 if (r2) = true then
 (some (x8))
 else
 (Z3E x0 x7 x8)
theorem Z8x (x0 : List Z7) x7 x8 ox0 : Sim (Z1v) (Z3D x0 x7 x8) (Zks 0 (.p (.lst ox0 (x0.map Zv))) (.clo 66 [] []) (iv x7) (iv x8) []) := by
 unfold Z3D
 refine zf (ZoG ..)<|ze<|ze<|zi fun a1 ha1 => ?_
 refine zo (.cptr (ZG a1)) ?_ (Eq.trans (by kernel_rfl) (Z6d (o := (shrO ox0)) (k := .i64) (n := 2) (e := Zv) (cs := Z3I) (fun _ => rfl) (fun _ => rfl) (by decide) ha1))
 refine zq<|zi fun r2 hr2 => ?_
 obtain ⟨qr2, er2, exr2, rfl⟩ := Zgo a1 r2 hr2
 refine zv [] (bv r2) [] er2 ?_
 refine za r2 ?_ ?_
 ·refine ze ?_
  exact zr ((iv x8), []) ⟨_, rfl⟩
 ·exact zk (Z8y x0 x7 x8 ox0)
def Z4V  : Option (Int) :=
 some (-1)
theorem Z8z  : Sim (Z1v) (Z4V) (Zku 0  []) := by
 unfold Z4V
 refine zf (ZoI ..)<|ze ?_
 exact zr ((iv (-1)), []) ⟨_, rfl⟩
def Z31 (x0 : List Z7) (x7 x8 : Int) : Option (Int) :=
 if (decide (x8 < x7)) = true then
 (Z3D x0 x7 x8)
 else
 (Z4V)
theorem Z8w (x0 : List Z7) x7 x8 ox0 : Sim (Z1v) (Z31 x0 x7 x8) (ZdR 0 (.p (.lst ox0 (x0.map Zv))) (.clo 66 [] []) (iv x7) (iv x8) []) := by
 unfold Z31
 refine zf (ZoF ..)<|ze<|zq ?_
 refine za (decide (x8 < x7)) ?_ ?_
 ·exact zk (Z8x x0 x7 x8 ox0)
 ·exact zk (Z8z )
theorem Z62 (x0 : List Z7) (x7 x8 : Int) {r} (h : Z31 x0 x7 x8 = some r) : Z33 x0 x7 x8 = some r :=
 Z1e (fun _ _ ha hb => RRun.uniq Z6B (ha .ex) (hb .ex)) (fun ox0 => Z8w x0 x7 x8 ox0 r h)
def Z8e (x0 : Z7) : Option (Bool) :=
 (Z5i x0).bind fun r1 =>
 some (!r1)
theorem Zfl x0 : Sim (Z6X) (Z8e x0) (EE 66 [(.p (.agg (ZG x0)))] []) := by
 unfold Z8e
 refine zf (Zsr ..)<|ze<|zx (.ptr 0 0) [(Z1I x0)]<|ze<|zq<|zi fun r1 hr1 => ?_
 obtain ⟨qr1, er1, exr1, rfl⟩ := Z91 x0 r1 hr1
 refine zc [] (bv r1) [(Z1I x0)] er1<|zq ?_
 exact zr ((bv (!r1)), [(Z1I x0)]) ⟨_, rfl⟩
theorem Zgn (x0 : Z7) {r} (h : Z8e x0 = some r) : Z8n x0 = some r :=
 Z1e (fun _ _ ha hb => RRun.uniq ZgL (ha ) (hb )) (Zfl x0 r h)
def Z6m (x0 : Z7) : Option (Bool) :=
 if (decide (0 ≤ x0.Lo)) = true then
 (if (decide (x0.Lo ≤ x0.Hi)) = true then
 (some (decide (x0.Hi ≤ 1114367)))
 else
 (some (false)))
 else
 (some (false))
theorem ZcG x0 : Sim (Z5e) (Z6m x0) (EE 67 [(.p (.agg (ZG x0)))] []) := by
 unfold Z6m
 refine zf (Zss ..)<|ze<|zx (.ptr 0 0) [(Z1I x0)]<|ze<|zq<|zq<|zq ?_
 refine za (decide (0 ≤ x0.Lo)) ?_ ?_
 ·refine zq<|zq<|zq<|zq<|zq ?_
  refine za (decide (x0.Lo ≤ x0.Hi)) ?_ ?_
  ·refine zq<|zq<|zq ?_
   exact zr ((bv (decide (x0.Hi ≤ 1114367))), [(Z1I x0)]) ⟨_, rfl⟩
  ·exact zr ((bv false), [(Z1I x0)]) ⟨_, rfl⟩
 ·exact zr ((bv false), [(Z1I x0)]) ⟨_, rfl⟩
theorem Zdc (x0 : Z7) {r} (h : Z6m x0 = some r) : Z5i x0 = some r :=
 Z1e (fun _ _ ha hb => RRun.uniq Zdt (ha ) (hb )) (ZcG x0 r h)
def Z6D (x0 : List Z7) : Option ((List Z7) × Int) :=
 (Z7L x0).bind fun r1 =>
 some (r1, 0)
theorem Zde (x0 : List Z7) ox0 : Sim (Z5I) (Z6D x0) (ZjX 0 (.p (.lst ox0 (x0.map Zv))) []) := by
 unfold Z6D
 refine zf (Zod ..)<|ze<|zi fun r1 hr1 => ?_
 obtain ⟨qr1, er1, exr1, rfl⟩ := Zfr x0 .sh r1 hr1
 refine zc [] (.p (.lst .sh (r1.map Zv))) [] er1 ?_
 exact zr ((.p (.tup [(.lst .sh (r1.map Zv)), (.v (.int .i64 0))])), []) ⟨_, rfl⟩
def Z7G (x0 : List Z7) : Option ((List Z7) × Int) :=
 (Z4J x0).bind fun r1 =>
 if (!r1) = true then
 (some (([] : List Z7), 10))
 else
 (Z6D x0)
theorem Zfb (x0 : List Z7) ox0 : Sim (Z5I) (Z7G x0) (EE 55 [(.p (.lst ox0 (x0.map Zv)))] []) := by
 unfold Z7G
 refine zf (Zs9 ..)<|ze<|ze<|zi fun r1 hr1 => ?_
 obtain ⟨qr1, er1, exr1, rfl⟩ := Z74 x0 .sh r1 hr1
 refine zc [] (bv r1) [] er1<|zq ?_
 refine za (!r1) ?_ ?_
 ·refine ze ?_
  exact zr ((.p (.tup [(.lst .sh []), (.v (.int .i64 10))])), []) ⟨_, rfl⟩
 ·exact zk (Zde x0 ox0)
theorem Zfo (x0 : List Z7) {r} (h : Z7G x0 = some r) : Z6I x0 = some r :=
 Z1e (fun _ _ ha hb => RRun.uniq Zgm (ha .ex) (hb .ex)) (fun ox0 => Zfb x0 ox0 r h)
def Z6C (x0 : List Z7) : Option (Bool) :=
 Z4K (-2) x0 (x0.length : Int) 0
theorem Zdd (x0 : List Z7) ox0 : Sim (Z20) (Z6C x0) (EE 69 [(.p (.lst ox0 (x0.map Zv)))] []) := by
 unfold Z6C
 refine zf (Zst ..)<|ze<|ze<|ze ?_
 refine zo (iv (x0.length : Int)) ?_ (Eq.trans (by kernel_rfl) (Z5r (P := PP) (t := 24) (d := 39) (by kernel_rfl) Zv (shrO ox0) x0))
 exact zk (Z7Q (-2) x0 (x0.length : Int) 0 (shrO ox0))
theorem ZdT (x0 : List Z7) {r} (h : Z6C x0 = some r) : Z4J x0 = some r :=
 Z1e (fun _ _ ha hb => RRun.uniq Z9S (ha .ex) (hb .ex)) (fun ox0 => Zdd x0 ox0 r h)
def Z5L  : Option (Bool) :=
 some (false)
theorem Z7K  : Sim (Z20) (Z5L) (Zhy 0  []) := by
 unfold Z5L
 refine zf (Zos ..)<|ze ?_
 exact zr ((bv false), []) ⟨_, rfl⟩
def Z5N (x3 : Int) (x6 : List Z7) (x7 x8 : Int) : Option (Bool) :=
 Z4K x3 x6 x7 (IntKind.i64.wrap (x8 + 1))
theorem ZbI x3 (x6 : List Z7) x7 x8 ox6 : Sim (Z20) (Z5N x3 x6 x7 x8) (Zkh 0 (iv x3) (.p (.lst ox6 (x6.map Zv))) (iv x7) (iv x8) []) := by
 unfold Z5N
 refine zf (Zou ..)<|ze<|zq ?_
 exact zk (Z7Q x3 x6 x7 (IntKind.i64.wrap (x8 + 1)) ox6)
def Z5M (x6 : List Z7) (x7 x8 : Int) (b0 : Z7) : Option (Bool) :=
 Z5N b0.Hi x6 x7 x8
theorem ZbH (x6 : List Z7) x7 x8 b0 ox6 : Sim (Z20) (Z5M x6 x7 x8 b0) (Zkg 0 (.ptr 0 0) (.p (.lst ox6 (x6.map Zv))) (iv x7) (iv x8) [(Z1I b0)]) := by
 unfold Z5M
 refine zf (Zot ..)<|ze<|zq<|zq ?_
 exact zk (ZbI b0.Hi x6 x7 x8 ox6)
def Z5K (x3 : Int) (x6 : List Z7) (x7 x8 : Int) : Option (Bool) :=
 (lget x6 x8).bind fun a1 =>
 (Z5i a1).bind fun r2 =>
 if (!r2) = true then
 (Z5L)
 else
 (if (decide (a1.Lo < (IntKind.i64.wrap (x3 + 2)))) = true then
 (Z5L)
 else
 (Z5M x6 x7 x8 a1))
theorem ZbG x3 (x6 : List Z7) x7 x8 ox6 : Sim (Z20) (Z5K x3 x6 x7 x8) (Zkf 0 (iv x3) (.p (.lst ox6 (x6.map Zv))) (iv x7) (iv x8) []) := by
 unfold Z5K
 refine zf (Zor ..)<|ze<|zi fun a1 ha1 => ?_
 refine zo (.cptr (ZG a1)) ?_ (Eq.trans (by kernel_rfl) (Z6d (o := ox6) (k := .i64) (n := 2) (e := Zv) (cs := Z3I) (fun _ => rfl) (fun _ => rfl) (by decide) ha1))
 refine zq<|zz (.ptr 0 0) [(Z1I (Z7.mk 0 0))]<|zt [(Z1I a1)]<|ze<|zq<|zi fun r2 hr2 => ?_
 obtain ⟨qr2, er2, exr2, rfl⟩ := Z91 a1 r2 hr2
 refine zc [] (bv r2) [(Z1I a1)] er2<|zq ?_
 refine za (!r2) ?_ ?_
 ·exact zk (Z7K )
 ·refine zq<|zq<|zq<|zq ?_
  refine za (decide (a1.Lo < (IntKind.i64.wrap (x3 + 2)))) ?_ ?_
  ·exact zk (Z7K )
  ·exact zk (ZbH x6 x7 x8 a1 ox6)
def Z6Y  : Option (Bool) :=
 some (true)
theorem ZbJ  : Sim (Z20) (Z6Y) (Zki 0  []) := by
 unfold Z6Y
 refine zf (Zov ..)<|ze ?_
 exact zr ((bv true), []) ⟨_, rfl⟩
def Z4B (x3 : Int) (x6 : List Z7) (x7 x8 : Int) : Option (Bool) :=
 if (decide (x8 < x7)) = true then
 (Z5K x3 x6 x7 x8)
 else
 (Z6Y)
theorem ZbF x3 (x6 : List Z7) x7 x8 ox6 : Sim (Z20) (Z4B x3 x6 x7 x8) (ZdP 0 (iv x3) (.p (.lst ox6 (x6.map Zv))) (iv x7) (iv x8) []) := by
 unfold Z4B
 refine zf (Zoq ..)<|ze<|zq ?_
 refine za (decide (x8 < x7)) ?_ ?_
 ·exact zk (ZbG x3 x6 x7 x8 ox6)
 ·exact zk (ZbJ )
theorem Z7P (x3 : Int) (x6 : List Z7) (x7 x8 : Int) {r} (h : Z4B x3 x6 x7 x8 = some r) : Z4K x3 x6 x7 x8 = some r :=
 Z1e (fun _ _ ha hb => RRun.uniq Z9S (ha .ex) (hb .ex)) (fun ox6 => ZbF x3 x6 x7 x8 ox6 r h)
end Go.Proofs.YtadodmjdkphddaaDoor.N2
end
noncomputable section
set_option linter.unusedSimpArgs false
set_option linter.unusedVariables false
namespace Go.Proofs.YtadodmjdkphddaaDoor.N2
open Go Go.Abs
set_option linter.unusedVariables false
set_option maxRecDepth 100000
def Z7H (x0 : List Z7) : Option (List Z7) :=
 Z5E ([] : List Z7) 0 x0 (x0.length : Int) 0
theorem Zfc (x0 : List Z7) ox0 : Sim (Z2q) (Z7H x0) (EE 70 [(.p (.lst ox0 (x0.map Zv)))] []) := by
 unfold Z7H
 refine zf (Zsx ..)<|ze<|ze<|ze<|ze ?_
 refine zo (iv (x0.length : Int)) ?_ (Eq.trans (by kernel_rfl) (Z5r (P := PP) (t := 24) (d := 39) (by kernel_rfl) Zv (shrO ox0) x0))
 exact zk (Z9F ([] : List Z7) 0 x0 (x0.length : Int) 0 .nl (shrO ox0) rfl)
theorem Zfq (x0 : List Z7) {r} (h : Z7H x0 = some r) : Z7L x0 = some r :=
 Z1e (fun _ _ ha hb => RRun.uniq Zbx (ha .ex) (hb .ex)) (fun ox0 => Zfc x0 ox0 r h)
def Z6F (x3 : List Z7) (x4 : Int) (x7 : List Z7) (x8 x9 : Int) : Option (List Z7) :=
 Z5E x3 x4 x7 x8 (IntKind.i64.wrap (x9 + 1))
theorem Zdh (x3 : List Z7) x4 (x7 : List Z7) x8 x9 ox3 ox7 (hox3 : ZF ox3 = true) : Sim (Z2q) (Z6F x3 x4 x7 x8 x9) (Zkl 0 (.p (.lst ox3 (x3.map Zv))) (iv x4) (.p (.lst ox7 (x7.map Zv))) (iv x8) (iv x9) []) := by
 unfold Z6F
 refine zf (Zoz ..)<|ze<|zq ?_
 exact zk (Z9F x3 x4 x7 x8 (IntKind.i64.wrap (x9 + 1)) ox3 ox7 hox3)
def Z4C (x3 x7 : List Z7) (x8 x9 : Int) (b0 : Z7) : Option (List Z7) :=
 Z6F x3 (IntKind.i64.wrap (b0.Hi + 1)) x7 x8 x9
theorem Z92 (x3 x7 : List Z7) x8 x9 b0 ox3 ox7 (hox3 : ZF ox3 = true) : Sim (Z2q) (Z4C x3 x7 x8 x9 b0) (ZhB 0 (.p (.lst ox3 (x3.map Zv))) (.ptr 0 0) (.p (.lst ox7 (x7.map Zv))) (iv x8) (iv x9) [(Z1I b0)]) := by
 unfold Z4C
 refine zf (Zoy ..)<|ze<|zq<|zq<|zq ?_
 exact zk (Zdh x3 (IntKind.i64.wrap (b0.Hi + 1)) x7 x8 x9 ox3 ox7 hox3)
def Z6E (x3 : List Z7) (x4 : Int) (x7 : List Z7) (x8 x9 : Int) : Option (List Z7) :=
 (lget x7 x9).bind fun a1 =>
 if (decide (x4 < a1.Lo)) = true then
 ((lapp x3 ([(Z7.mk x4 (IntKind.i64.wrap (a1.Lo - 1)))] : List Z7)).bind fun a2 =>
 Z4C a2 x7 x8 x9 a1)
 else
 (Z4C x3 x7 x8 x9 a1)
theorem Zdg (x3 : List Z7) x4 (x7 : List Z7) x8 x9 ox3 ox7 (hox3 : ZF ox3 = true) : Sim (Z2q) (Z6E x3 x4 x7 x8 x9) (Zkk 0 (.p (.lst ox3 (x3.map Zv))) (iv x4) (.p (.lst ox7 (x7.map Zv))) (iv x8) (iv x9) []) := by
 unfold Z6E
 refine zf (Zox ..)<|ze<|zi fun a1 ha1 => ?_
 refine zo (.cptr (ZG a1)) ?_ (Eq.trans (by kernel_rfl) (Z6d (o := ox7) (k := .i64) (n := 2) (e := Zv) (cs := Z3I) (fun _ => rfl) (fun _ => rfl) (by decide) ha1))
 refine zq<|zz (.ptr 0 0) [(Z1I (Z7.mk 0 0))]<|zt [(Z1I a1)]<|ze<|zq<|zq<|zq ?_
 refine za (decide (x4 < a1.Lo)) ?_ ?_
 ·refine ze<|zq<|zq<|zq<|zq<|zq<|zi fun a2 ha2 => ?_
  refine zo (.p (.lst .un (a2.map Zv))) ?_ (Eq.trans (by kernel_rfl) <| Zeh (n := 2) (o := ox3) (o' := .ex) (e := Zv) (ys := ([(Z7.mk x4 (IntKind.i64.wrap (a1.Lo - 1)))] : List Z7)) (fun _ => rfl) (by decide) hox3 ha2)
  exact zk (Z92 a2 x7 x8 x9 a1 .un ox7 rfl)
 ·exact zk (Z92 x3 x7 x8 x9 a1 ox3 ox7 hox3)
def Z4s (x3 : List Z7) : Option (List Z7) :=
 some (x3)
theorem Z8K (x3 : List Z7) ox3 (hox3 : ZF ox3 = true) : Sim (Z2q) (Z4s x3) (Zg8 0 (.p (.lst ox3 (x3.map Zv))) []) := by
 unfold Z4s
 refine zf (ZmU ..)<|ze ?_
 exact zr ((.p (.lst .sh (x3.map Zv))), []) ⟨_, rfl⟩
def Z6n (x3 : List Z7) (x4 : Int) : Option (List Z7) :=
 if (decide (x4 ≤ 1114367)) = true then
 ((lapp x3 ([(Z7.mk x4 1114367)] : List Z7)).bind fun a1 =>
 Z4s a1)
 else
 (Z4s x3)
theorem ZcH (x3 : List Z7) x4 ox3 (hox3 : ZF ox3 = true) : Sim (Z2q) (Z6n x3 x4) (Ziy 0 (.p (.lst ox3 (x3.map Zv))) (iv x4) []) := by
 unfold Z6n
 refine zf (ZmT ..)<|ze<|zq ?_
 refine za (decide (x4 ≤ 1114367)) ?_ ?_
 ·refine ze<|zq<|zq<|zi fun a1 ha1 => ?_
  refine zo (.p (.lst .un (a1.map Zv))) ?_ (Eq.trans (by kernel_rfl) <| Zeh (n := 2) (o := ox3) (o' := .ex) (e := Zv) (ys := ([(Z7.mk x4 1114367)] : List Z7)) (fun _ => rfl) (by decide) hox3 ha1)
  exact zk (Z8K a1 .un rfl)
 ·exact zk (Z8K x3 ox3 hox3)
def Z5C (x3 : List Z7) (x4 : Int) (x7 : List Z7) (x8 x9 : Int) : Option (List Z7) :=
 if (decide (x9 < x8)) = true then
 (Z6E x3 x4 x7 x8 x9)
 else
 (Z6n x3 x4)
theorem Zdf (x3 : List Z7) x4 (x7 : List Z7) x8 x9 ox3 ox7 (hox3 : ZF ox3 = true) : Sim (Z2q) (Z5C x3 x4 x7 x8 x9) (ZdQ 0 (.p (.lst ox3 (x3.map Zv))) (iv x4) (.p (.lst ox7 (x7.map Zv))) (iv x8) (iv x9) []) := by
 unfold Z5C
 refine zf (Zow ..)<|ze<|zq ?_
 refine za (decide (x9 < x8)) ?_ ?_
 ·exact zk (Zdg x3 x4 x7 x8 x9 ox3 ox7 hox3)
 ·exact zk (ZcH x3 x4 ox3 hox3)
theorem Z9E (x3 : List Z7) (x4 : Int) (x7 : List Z7) (x8 x9 : Int) {r} (h : Z5C x3 x4 x7 x8 x9 = some r) : Z5E x3 x4 x7 x8 x9 = some r :=
 Z1e (fun _ _ ha hb => RRun.uniq Zbx (ha .ex .ex rfl) (hb .ex .ex rfl)) (fun ox3 ox7 hox3 => Zdf x3 x4 x7 x8 x9 ox3 ox7 hox3 r h)
def Z3P (x1 x5 zp : Int) (zh : List Zq) (z1 z2 : Int) : Option (Z8 × Int × (List Zq) × Int × Int) :=
 (lapp zh ([(Zq.mk (IntKind.i64.wrap (x5 - 48)) x1)] : List Zq)).bind fun a1 =>
 some ((Z8.mk 6 0 0 0 (IntKind.i64.wrap (x5 - 48)) ([] : List Z7) ([] : List Z8)), zp, a1, z1, z2)
theorem Zai x1 x5 zl zp z6 zd zh z1 z2 b1 zn zb zB zy (zu : ZF zb = true) (zP : ZF zB = true) (zI : ZF zy = true) : Sim (Z2S zl z6 zd zn) (Z3P x1 x5 zp zh z1 z2) (Zin 1 (.ptr 0 0) (iv x1) (.ptr 1 0) (iv x5) [(Zi (Zk.mk zl zp z6 zd zh (Zj.mk z1 z2)) zn zb), (Zr b1 zB zy)]) := by
 unfold Z3P
 refine zf (Zmx ..)<|ze<|zq<|zq<|zw (.p (.lst zb (zh.map Z1S))) [(Zi (Zk.mk zl zp z6 zd zh (Zj.mk z1 z2)) zn (shrO zb)), (Zr b1 zB zy)]<|zq<|zq<|zq<|zi fun a1 ha1 => ?_
 refine zo (.p (.lst .un (a1.map Z1S))) ?_ (Eq.trans (by kernel_rfl) <| Zeh (n := 2) (o := zb) (o' := .ex) (e := Z1S) (ys := ([(Zq.mk (IntKind.i64.wrap (x5 - 48)) x1)] : List Zq)) (fun _ => rfl) (by decide) zu ha1)
 refine zq<|zq<|zt [(Zi (Zk.mk zl zp z6 zd a1 (Zj.mk z1 z2)) zn .un), (Zr b1 zB zy)]<|ze<|zq<|zq<|zt [(Zi (Zk.mk zl zp z6 zd a1 (Zj.mk z1 z2)) zn .un), (Zr (Z8.mk 6 0 0 0 (IntKind.i64.wrap (x5 - 48)) ([] : List Z7) ([] : List Z8)) .nl .nl)] ?_
 exact zr ((.p (.agg (ZE (Z8.mk 6 0 0 0 (IntKind.i64.wrap (x5 - 48)) ([] : List Z7) ([] : List Z8)) .sh .sh))), [(Zi (Zk.mk zl zp z6 zd a1 (Zj.mk z1 z2)) zn .un), (Zr (Z8.mk 6 0 0 0 (IntKind.i64.wrap (x5 - 48)) ([] : List Z7) ([] : List Z8)) .nl .nl)]) ⟨.un, _, rfl, rfl⟩
def Z2h (x1 x5 : Int) (zl : List Int) (zp z6 zd : Int) (zh : List Zq) (z1 z2 : Int) : Option (Z8 × Int × (List Zq) × Int × Int) :=
 (Z58 x5 x1 zl zp z6 zd zh z1 z2).bind fun r1 =>
 (Z1G r1.1).bind fun r2 =>
 (Z2X false ([r2] : List Z7)).bind fun r3 =>
 some (r3, r1.2.1, zh, r1.2.2.1, r1.2.2.2)
theorem Z6O x1 x5 zl zp z6 zd zh z1 z2 b1 zn zb zB zy (zu : ZF zb = true) (zP : ZF zB = true) (zI : ZF zy = true) : Sim (Z2S zl z6 zd zn) (Z2h x1 x5 zl zp z6 zd zh z1 z2) (Zg2 1 (.ptr 0 0) (iv x1) (.ptr 1 0) (iv x5) [(Zi (Zk.mk zl zp z6 zd zh (Zj.mk z1 z2)) zn zb), (Zr b1 zB zy)]) := by
 unfold Z2h
 refine zf (Zmy ..)<|ze<|zi fun r1 hr1 => ?_
 obtain ⟨qr1, er1, exr1, rfl⟩ := Z8M x5 x1 zl zp z6 zd zh z1 z2 zn zb zu r1 hr1
 refine zc [0] (iv r1.1) [(Zi (Zk.mk zl r1.2.1 z6 zd zh (Zj.mk r1.2.2.1 r1.2.2.2)) zn zb), (Zr b1 zB zy)] er1<|zi fun r2 hr2 => ?_
 obtain ⟨qr2, er2, exr2, rfl⟩ := Z1A r1.1 r2 hr2
 refine zc [] (.p (.agg (ZG r2))) [(Zi (Zk.mk zl r1.2.1 z6 zd zh (Zj.mk r1.2.2.1 r1.2.2.2)) zn zb), (Zr b1 zB zy)] er2<|zq<|zi fun r3 hr3 => ?_
 obtain ⟨qr3, er3, exr3, rfl⟩ := Z35 false ([r2] : List Z7) .sh r3 hr3
 refine zc [] (.p (.agg (ZE r3 .sh .sh))) [(Zi (Zk.mk zl r1.2.1 z6 zd zh (Zj.mk r1.2.2.1 r1.2.2.2)) zn zb), (Zr b1 zB zy)] er3<|zt [(Zi (Zk.mk zl r1.2.1 z6 zd zh (Zj.mk r1.2.2.1 r1.2.2.2)) zn zb), (Zr r3 .sh .sh)] ?_
 exact zr ((.p (.agg (ZE r3 .sh .sh))), [(Zi (Zk.mk zl r1.2.1 z6 zd zh (Zj.mk r1.2.2.1 r1.2.2.2)) zn zb), (Zr r3 .sh .sh)]) ⟨zb, _, zu, rfl⟩
def Z2p (x1 x5 : Int) (zl : List Int) (zp z6 zd : Int) (zh : List Zq) (z1 z2 : Int) : Option (Z8 × Int × (List Zq) × Int × Int) :=
 (Z2f zl zp).bind fun r1 =>
 (Z5b x5).bind fun r2 =>
 (nilO r2.1 r2.2).bind fun a3 =>
 if (!a3) = true then
 ((Z5b x5).bind fun r4 =>
 (Z2X (decide (x5 < 97)) r4.2).bind fun r5 =>
 some (r5, r1.2, zh, z1, z2))
 else
 (if (x5 == 98) = true then
 (some ((Z8.mk 9 0 0 0 2 ([] : List Z7) ([] : List Z8)), r1.2, zh, z1, z2))
 else
 (if (x5 == 66) = true then
 (some ((Z8.mk 9 0 0 0 3 ([] : List Z7) ([] : List Z8)), r1.2, zh, z1, z2))
 else
 (if (decide (49 ≤ x5)) = true then
 (if (decide (x5 ≤ 57)) = true then
 (Z3P x1 x5 r1.2 zh z1 z2)
 else
 (Z2h x1 x5 zl r1.2 z6 zd zh z1 z2))
 else
 (Z2h x1 x5 zl r1.2 z6 zd zh z1 z2))))
theorem Zaw x1 x5 zl zp z6 zd zh z1 z2 b1 zn zb zB zy (zu : ZF zb = true) (zP : ZF zB = true) (zI : ZF zy = true) : Sim (Z2S zl z6 zd zn) (Z2p x1 x5 zl zp z6 zd zh z1 z2) (ZjP 1 (.ptr 0 0) (iv x1) (.ptr 1 0) (iv x5) [(Zi (Zk.mk zl zp z6 zd zh (Zj.mk z1 z2)) zn zb), (Zr b1 zB zy)]) := by
 unfold Z2p
 refine zf (Zo2 ..)<|ze<|zi fun r1 hr1 => ?_
 obtain ⟨qr1, er1, exr1, rfl⟩ := Z2H zl zp z6 zd zh z1 z2 zn zb zu r1 hr1
 refine zc [0] (iv r1.1) [(Zi (Zk.mk zl r1.2 z6 zd zh (Zj.mk z1 z2)) zn zb), (Zr b1 zB zy)] er1<|ze<|zi fun r2 hr2 => ?_
 obtain ⟨qr2, er2, exr2, rfl⟩ := Z7l x5 r2 hr2
 refine zc [] (.p (.lst r2.1 (r2.2.map Zv))) [(Zi (Zk.mk zl r1.2 z6 zd zh (Zj.mk z1 z2)) zn zb), (Zr b1 zB zy)] er2<|zi fun a3 ha3 => ?_
 refine zo (bv (!a3)) ?_ (Eq.trans (by kernel_rfl) (Zf2 (P := PP) (t := 23) (c := .slice none 0 0) (e := Zv) (by kernel_rfl) ha3))
 refine za (!a3) ?_ ?_
 ·refine ze<|zq<|zi fun r4 hr4 => ?_
  obtain ⟨qr4, er4, exr4, rfl⟩ := Z7l x5 r4 hr4
  refine zc [] (.p (.lst r4.1 (r4.2.map Zv))) [(Zi (Zk.mk zl r1.2 z6 zd zh (Zj.mk z1 z2)) zn zb), (Zr b1 zB zy)] er4<|zi fun r5 hr5 => ?_
  obtain ⟨qr5, er5, exr5, rfl⟩ := Z35 (decide (x5 < 97)) r4.2 .sh r5 hr5
  refine zc [] (.p (.agg (ZE r5 .sh .sh))) [(Zi (Zk.mk zl r1.2 z6 zd zh (Zj.mk z1 z2)) zn zb), (Zr b1 zB zy)] er5<|zt [(Zi (Zk.mk zl r1.2 z6 zd zh (Zj.mk z1 z2)) zn zb), (Zr r5 .sh .sh)] ?_
  exact zr ((.p (.agg (ZE r5 .sh .sh))), [(Zi (Zk.mk zl r1.2 z6 zd zh (Zj.mk z1 z2)) zn zb), (Zr r5 .sh .sh)]) ⟨zb, _, zu, rfl⟩
 ·refine ze<|zq ?_
  refine za (x5 == 98) ?_ ?_
  ·refine ze<|zq<|zt [(Zi (Zk.mk zl r1.2 z6 zd zh (Zj.mk z1 z2)) zn zb), (Zr (Z8.mk 9 0 0 0 2 ([] : List Z7) ([] : List Z8)) .nl .nl)] ?_
   exact zr ((.p (.agg (ZE (Z8.mk 9 0 0 0 2 ([] : List Z7) ([] : List Z8)) .sh .sh))), [(Zi (Zk.mk zl r1.2 z6 zd zh (Zj.mk z1 z2)) zn zb), (Zr (Z8.mk 9 0 0 0 2 ([] : List Z7) ([] : List Z8)) .nl .nl)]) ⟨zb, _, zu, rfl⟩
  ·refine ze<|zq ?_
   refine za (x5 == 66) ?_ ?_
   ·refine ze<|zq<|zt [(Zi (Zk.mk zl r1.2 z6 zd zh (Zj.mk z1 z2)) zn zb), (Zr (Z8.mk 9 0 0 0 3 ([] : List Z7) ([] : List Z8)) .nl .nl)] ?_
    exact zr ((.p (.agg (ZE (Z8.mk 9 0 0 0 3 ([] : List Z7) ([] : List Z8)) .sh .sh))), [(Zi (Zk.mk zl r1.2 z6 zd zh (Zj.mk z1 z2)) zn zb), (Zr (Z8.mk 9 0 0 0 3 ([] : List Z7) ([] : List Z8)) .nl .nl)]) ⟨zb, _, zu, rfl⟩
   ·refine ze<|zq ?_
    refine za (decide (49 ≤ x5)) ?_ ?_
    ·refine zq ?_
     refine za (decide (x5 ≤ 57)) ?_ ?_
     ·exact zk (Zai x1 x5 zl r1.2 z6 zd zh z1 z2 b1 zn zb zB zy zu zP zI)
     ·exact zk (Z6O x1 x5 zl r1.2 z6 zd zh z1 z2 b1 zn zb zB zy zu zP zI)
    ·exact zk (Z6O x1 x5 zl r1.2 z6 zd zh z1 z2 b1 zn zb zB zy zu zP zI)
def Z3S (x1 : Int) (zl : List Int) (zp z6 zd : Int) (zh : List Zq) (z1 z2 : Int) : Option (Z8 × Int × (List Zq) × Int × Int) :=
 (Z1Q (Zk.mk zl zp z6 zd zh (Zj.mk z1 z2))).bind fun r1 =>
 if (decide (r1 < 0)) = true then
 ((ZT 21 x1 zl z1 z2).bind fun r2 =>
 some ((Z8.mk 0 0 0 0 0 ([] : List Z7) ([] : List Z8)), r2.1, zh, r2.2.1, r2.2.2))
 else
 (Z2p x1 r1 zl zp z6 zd zh z1 z2)
theorem ZbT x1 zl zp z6 zd zh z1 z2 zn zb (zu : ZF zb = true) : Sim (Z2S zl z6 zd zn) (Z3S x1 zl zp z6 zd zh z1 z2) (EE 49 [(.ptr 0 0), (iv x1)] [(Zi (Zk.mk zl zp z6 zd zh (Zj.mk z1 z2)) zn zb)]) := by
 unfold Z3S
 refine zf (ZrU ..)<|ze<|zz (.ptr 1 0) [(Zi (Zk.mk zl zp z6 zd zh (Zj.mk z1 z2)) zn zb), (Zr (Z8.mk 0 0 0 0 0 ([] : List Z7) ([] : List Z8)) .nl .nl)]<|ze<|zi fun r1 hr1 => ?_
 obtain ⟨qr1, er1, exr1, rfl⟩ := Z1V (Zk.mk zl zp z6 zd zh (Zj.mk z1 z2)) zn zb zu r1 hr1
 refine zc [0] (iv r1) [(Zi (Zk.mk zl zp z6 zd zh (Zj.mk z1 z2)) zn zb), (Zr (Z8.mk 0 0 0 0 0 ([] : List Z7) ([] : List Z8)) .nl .nl)] er1<|ze<|zq ?_
 refine za (decide (r1 < 0)) ?_ ?_
 ·refine ze<|zi fun r2 hr2 => ?_
  obtain ⟨qr2, er2, exr2, rfl⟩ := ZW 21 x1 zl zp z6 zd zh z1 z2 zn zb zu r2 hr2
  refine zc [0] (.p (.tup [])) [(Zi (Zk.mk zl r2.1 z6 zd zh (Zj.mk r2.2.1 r2.2.2)) zn zb), (Zr (Z8.mk 0 0 0 0 0 ([] : List Z7) ([] : List Z8)) .nl .nl)] er2<|ze<|zq<|zt [(Zi (Zk.mk zl r2.1 z6 zd zh (Zj.mk r2.2.1 r2.2.2)) zn zb), (Zr (Z8.mk 0 0 0 0 0 ([] : List Z7) ([] : List Z8)) .nl .nl)] ?_
  exact zr ((.p (.agg (ZE (Z8.mk 0 0 0 0 0 ([] : List Z7) ([] : List Z8)) .sh .sh))), [(Zi (Zk.mk zl r2.1 z6 zd zh (Zj.mk r2.2.1 r2.2.2)) zn zb), (Zr (Z8.mk 0 0 0 0 0 ([] : List Z7) ([] : List Z8)) .nl .nl)]) ⟨zb, _, zu, rfl⟩
 ·exact zk (Zaw x1 r1 zl zp z6 zd zh z1 z2 (Z8.mk 0 0 0 0 0 ([] : List Z7) ([] : List Z8)) zn zb .nl .nl zu rfl rfl)
theorem Zcl (x1 : Int) (zl : List Int) (zp z6 zd : Int) (zh : List Zq) (z1 z2 : Int) {r} (h : Z3S x1 zl zp z6 zd zh z1 z2 = some r) : Z3o x1 zl zp z6 zd zh z1 z2 = some r :=
 Z1e (fun _ _ ha hb => RRun.uniq (ZcC _ _ _ _) (ha .ex .ex rfl) (hb .ex .ex rfl)) (fun zn zb zu => ZbT x1 zl zp z6 zd zh z1 z2 zn zb zu r h)
def Z3H (zl : List Int) (z1 z2 : Int) : Option (Int × Int × Int) :=
 some ((zl.length : Int), z1, z2)
theorem Z7t zl zp z6 zd zh z1 z2 zn zb (zu : ZF zb = true) : Sim (Z4q zl z6 zd zh zn zb) (Z3H zl z1 z2) (Zhm 1 (.ptr 0 0) [(Zi (Zk.mk zl zp z6 zd zh (Zj.mk z1 z2)) zn zb)]) := by
 unfold Z3H
 refine zf (ZnK ..)<|ze<|zq<|zq<|zq ?_
 refine zo (iv (zl.length : Int)) ?_ (Eq.trans (by kernel_rfl) (Z5r (P := PP) (t := 40) (d := 5) (by kernel_rfl) (eI .u8) (shrO zn) zl))
 refine zq<|zq<|zt [(Zi (Zk.mk zl (zl.length : Int) z6 zd zh (Zj.mk z1 z2)) zn zb)] ?_
 exact zr ((.p (.tup [])), [(Zi (Zk.mk zl (zl.length : Int) z6 zd zh (Zj.mk z1 z2)) zn zb)]) ⟨_, rfl⟩
def Z5h (x1 x2 : Int) (zl : List Int) (z1 z2 : Int) : Option (Int × Int × Int) :=
 if (z1 == 0) = true then
 (Z3H zl x1 x2)
 else
 (Z3H zl z1 z2)
theorem ZcL x1 x2 zl zp z6 zd zh z1 z2 zn zb (zu : ZF zb = true) : Sim (Z4q zl z6 zd zh zn zb) (Z5h x1 x2 zl z1 z2) (EE 29 [(.ptr 0 0), (iv x1), (iv x2)] [(Zi (Zk.mk zl zp z6 zd zh (Zj.mk z1 z2)) zn zb)]) := by
 unfold Z5h
 refine zf (Zrx ..)<|ze<|zq<|zq<|zq<|zq<|zq ?_
 refine za (z1 == 0) ?_ ?_
 ·refine ze<|zq<|zq<|zq<|zt [(Zi (Zk.mk zl zp z6 zd zh (Zj.mk x1 x2)) zn zb)] ?_
  exact zk (Z7t zl zp z6 zd zh x1 x2 zn zb zu)
 ·exact zk (Z7t zl zp z6 zd zh z1 z2 zn zb zu)
theorem Z98 (x1 x2 : Int) (zl : List Int) (z1 z2 : Int) {r} (h : Z5h x1 x2 zl z1 z2 = some r) : ZT x1 x2 zl z1 z2 = some r :=
 Z1e (fun _ _ ha hb => RRun.uniq (Zdv _ _ _ _ _ _) (ha default default default default .ex .ex rfl) (hb default default default default .ex .ex rfl)) (fun zp z6 zd zh zn zb zu => ZcL x1 x2 zl zp z6 zd zh z1 z2 zn zb zu r h)
def Z22  : Option (Own × (List Z7)) :=
 some (.nl, ([] : List Z7))
theorem Z2i  : Sim (Z5a) (Z22) (Z7z 0  []) := by
 unfold Z22
 refine zf (ZmO ..)<|ze ?_
 exact zr ((.p (.lst .nl [])), []) ⟨_, rfl⟩
def Z2V (x0 : Int) : Option (Own × (List Z7)) :=
 if (x0 == 100) = true then
 (if (x0 == 100) = true then
 (some (.ex, ([(Z7.mk 48 57)] : List Z7)))
 else
 (if (x0 == 119) = true then
 (if (x0 == 119) = true then
 ((Z1G 95).bind fun r1 =>
 some (.ex, ([(Z7.mk 48 57), (Z7.mk 65 90), r1, (Z7.mk 97 122)] : List Z7)))
 else
 (if (x0 == 115) = true then
 (if (x0 == 115) = true then
 ((Z1G 32).bind fun r2 =>
 some (.ex, ([(Z7.mk 9 13), r2] : List Z7)))
 else
 (Z22))
 else
 (if (x0 == 83) = true then
 ((Z1G 32).bind fun r3 =>
 some (.ex, ([(Z7.mk 9 13), r3] : List Z7)))
 else
 (Z22))))
 else
 (if (x0 == 87) = true then
 ((Z1G 95).bind fun r4 =>
 some (.ex, ([(Z7.mk 48 57), (Z7.mk 65 90), r4, (Z7.mk 97 122)] : List Z7)))
 else
 (if (x0 == 115) = true then
 (if (x0 == 115) = true then
 ((Z1G 32).bind fun r5 =>
 some (.ex, ([(Z7.mk 9 13), r5] : List Z7)))
 else
 (Z22))
 else
 (if (x0 == 83) = true then
 ((Z1G 32).bind fun r6 =>
 some (.ex, ([(Z7.mk 9 13), r6] : List Z7)))
 else
 (Z22))))))
 else
 (if (x0 == 68) = true then
 (some (.ex, ([(Z7.mk 48 57)] : List Z7)))
 else
 (if (x0 == 119) = true then
 (if (x0 == 119) = true then
 ((Z1G 95).bind fun r7 =>
 some (.ex, ([(Z7.mk 48 57), (Z7.mk 65 90), r7, (Z7.mk 97 122)] : List Z7)))
 else
 (if (x0 == 115) = true then
 (if (x0 == 115) = true then
 ((Z1G 32).bind fun r8 =>
 some (.ex, ([(Z7.mk 9 13), r8] : List Z7)))
 else
 (Z22))
 else
 (if (x0 == 83) = true then
 ((Z1G 32).bind fun r9 =>
 some (.ex, ([(Z7.mk 9 13), r9] : List Z7)))
 else
 (Z22))))
 else
 (if (x0 == 87) = true then
 ((Z1G 95).bind fun r10 =>
 some (.ex, ([(Z7.mk 48 57), (Z7.mk 65 90), r10, (Z7.mk 97 122)] : List Z7)))
 else
 (if (x0 == 115) = true then
 (if (x0 == 115) = true then
 ((Z1G 32).bind fun r11 =>
 some (.ex, ([(Z7.mk 9 13), r11] : List Z7)))
 else
 (Z22))
 else
 (if (x0 == 83) = true then
 ((Z1G 32).bind fun r12 =>
 some (.ex, ([(Z7.mk 9 13), r12] : List Z7)))
 else
 (Z22))))))
theorem Ze0 x0 : Sim (Z5a) (Z2V x0) (EE 56 [(iv x0)] []) := by
 unfold Z2V
 refine zf (Zsb ..)<|ze<|ze<|ze<|zq ?_
 refine za (x0 == 100) ?_ ?_
 ·refine za (x0 == 100) ?_ ?_
  ·refine ze<|zq<|zq ?_
   exact zr ((.p (.lst .ex (([(Z7.mk 48 57)] : List Z7).map Zv))), []) ⟨_, rfl⟩
  ·refine ze<|zq ?_
   refine za (x0 == 119) ?_ ?_
   ·refine za (x0 == 119) ?_ ?_
    ·refine ze<|zq<|zq<|zi fun r1 hr1 => ?_
     obtain ⟨qr1, er1, exr1, rfl⟩ := Z1A 95 r1 hr1
     refine zc [] (.p (.agg (ZG r1))) [] er1<|zq<|zq ?_
     exact zr ((.p (.lst .ex (([(Z7.mk 48 57), (Z7.mk 65 90), r1, (Z7.mk 97 122)] : List Z7).map Zv))), []) ⟨_, rfl⟩
    ·refine ze<|zq ?_
     refine za (x0 == 115) ?_ ?_
     ·refine za (x0 == 115) ?_ ?_
      ·refine ze<|zq<|zi fun r2 hr2 => ?_
       obtain ⟨qr2, er2, exr2, rfl⟩ := Z1A 32 r2 hr2
       refine zc [] (.p (.agg (ZG r2))) [] er2<|zq ?_
       exact zr ((.p (.lst .ex (([(Z7.mk 9 13), r2] : List Z7).map Zv))), []) ⟨_, rfl⟩
      ·exact zk (Z2i )
     ·refine ze<|zq ?_
      refine za (x0 == 83) ?_ ?_
      ·refine ze<|zq<|zi fun r3 hr3 => ?_
       obtain ⟨qr3, er3, exr3, rfl⟩ := Z1A 32 r3 hr3
       refine zc [] (.p (.agg (ZG r3))) [] er3<|zq ?_
       exact zr ((.p (.lst .ex (([(Z7.mk 9 13), r3] : List Z7).map Zv))), []) ⟨_, rfl⟩
      ·exact zk (Z2i )
   ·refine ze<|zq ?_
    refine za (x0 == 87) ?_ ?_
    ·refine ze<|zq<|zq<|zi fun r4 hr4 => ?_
     obtain ⟨qr4, er4, exr4, rfl⟩ := Z1A 95 r4 hr4
     refine zc [] (.p (.agg (ZG r4))) [] er4<|zq<|zq ?_
     exact zr ((.p (.lst .ex (([(Z7.mk 48 57), (Z7.mk 65 90), r4, (Z7.mk 97 122)] : List Z7).map Zv))), []) ⟨_, rfl⟩
    ·refine ze<|zq ?_
     refine za (x0 == 115) ?_ ?_
     ·refine za (x0 == 115) ?_ ?_
      ·refine ze<|zq<|zi fun r5 hr5 => ?_
       obtain ⟨qr5, er5, exr5, rfl⟩ := Z1A 32 r5 hr5
       refine zc [] (.p (.agg (ZG r5))) [] er5<|zq ?_
       exact zr ((.p (.lst .ex (([(Z7.mk 9 13), r5] : List Z7).map Zv))), []) ⟨_, rfl⟩
      ·exact zk (Z2i )
     ·refine ze<|zq ?_
      refine za (x0 == 83) ?_ ?_
      ·refine ze<|zq<|zi fun r6 hr6 => ?_
       obtain ⟨qr6, er6, exr6, rfl⟩ := Z1A 32 r6 hr6
       refine zc [] (.p (.agg (ZG r6))) [] er6<|zq ?_
       exact zr ((.p (.lst .ex (([(Z7.mk 9 13), r6] : List Z7).map Zv))), []) ⟨_, rfl⟩
      ·exact zk (Z2i )
 ·refine ze<|zq ?_
  refine za (x0 == 68) ?_ ?_
  ·refine ze<|zq<|zq ?_
   exact zr ((.p (.lst .ex (([(Z7.mk 48 57)] : List Z7).map Zv))), []) ⟨_, rfl⟩
  ·refine ze<|zq ?_
   refine za (x0 == 119) ?_ ?_
   ·refine za (x0 == 119) ?_ ?_
    ·refine ze<|zq<|zq<|zi fun r7 hr7 => ?_
     obtain ⟨qr7, er7, exr7, rfl⟩ := Z1A 95 r7 hr7
     refine zc [] (.p (.agg (ZG r7))) [] er7<|zq<|zq ?_
     exact zr ((.p (.lst .ex (([(Z7.mk 48 57), (Z7.mk 65 90), r7, (Z7.mk 97 122)] : List Z7).map Zv))), []) ⟨_, rfl⟩
    ·refine ze<|zq ?_
     refine za (x0 == 115) ?_ ?_
     ·refine za (x0 == 115) ?_ ?_
      ·refine ze<|zq<|zi fun r8 hr8 => ?_
       obtain ⟨qr8, er8, exr8, rfl⟩ := Z1A 32 r8 hr8
       refine zc [] (.p (.agg (ZG r8))) [] er8<|zq ?_
       exact zr ((.p (.lst .ex (([(Z7.mk 9 13), r8] : List Z7).map Zv))), []) ⟨_, rfl⟩
      ·exact zk (Z2i )
     ·refine ze<|zq ?_
      refine za (x0 == 83) ?_ ?_
      ·refine ze<|zq<|zi fun r9 hr9 => ?_
       obtain ⟨qr9, er9, exr9, rfl⟩ := Z1A 32 r9 hr9
       refine zc [] (.p (.agg (ZG r9))) [] er9<|zq ?_
       exact zr ((.p (.lst .ex (([(Z7.mk 9 13), r9] : List Z7).map Zv))), []) ⟨_, rfl⟩
      ·exact zk (Z2i )
   ·refine ze<|zq ?_
    refine za (x0 == 87) ?_ ?_
    ·refine ze<|zq<|zq<|zi fun r10 hr10 => ?_
     obtain ⟨qr10, er10, exr10, rfl⟩ := Z1A 95 r10 hr10
     refine zc [] (.p (.agg (ZG r10))) [] er10<|zq<|zq ?_
     exact zr ((.p (.lst .ex (([(Z7.mk 48 57), (Z7.mk 65 90), r10, (Z7.mk 97 122)] : List Z7).map Zv))), []) ⟨_, rfl⟩
    ·refine ze<|zq ?_
     refine za (x0 == 115) ?_ ?_
     ·refine za (x0 == 115) ?_ ?_
      ·refine ze<|zq<|zi fun r11 hr11 => ?_
       obtain ⟨qr11, er11, exr11, rfl⟩ := Z1A 32 r11 hr11
       refine zc [] (.p (.agg (ZG r11))) [] er11<|zq ?_
       exact zr ((.p (.lst .ex (([(Z7.mk 9 13), r11] : List Z7).map Zv))), []) ⟨_, rfl⟩
      ·exact zk (Z2i )
     ·refine ze<|zq ?_
      refine za (x0 == 83) ?_ ?_
      ·refine ze<|zq<|zi fun r12 hr12 => ?_
       obtain ⟨qr12, er12, exr12, rfl⟩ := Z1A 32 r12 hr12
       refine zc [] (.p (.agg (ZG r12))) [] er12<|zq ?_
       exact zr ((.p (.lst .ex (([(Z7.mk 9 13), r12] : List Z7).map Zv))), []) ⟨_, rfl⟩
      ·exact zk (Z2i )
theorem ZeC (x0 : Int) {r} (h : Z2V x0 = some r) : Z5b x0 = some r :=
 Z1e (fun _ _ ha hb => RRun.uniq Zf7 (ha ) (hb )) (Ze0 x0 r h)
def Z27 (x2 : Int) (zl : List Int) (z1 z2 : Int) : Option (Int × Int × Int × Int) :=
 (ZT 21 x2 zl z1 z2).bind fun r1 =>
 some (0, r1.1, r1.2.1, r1.2.2)
theorem Z3p x2 zl zp z6 zd zh z1 z2 zn zb (zu : ZF zb = true) : Sim (Z3v zl z6 zd zh zn zb) (Z27 x2 zl z1 z2) (Zao 1 (.ptr 0 0) (iv x2) [(Zi (Zk.mk zl zp z6 zd zh (Zj.mk z1 z2)) zn zb)]) := by
 unfold Z27
 refine zf (ZmQ ..)<|ze<|zi fun r1 hr1 => ?_
 obtain ⟨qr1, er1, exr1, rfl⟩ := ZW 21 x2 zl zp z6 zd zh z1 z2 zn zb zu r1 hr1
 refine zc [0] (.p (.tup [])) [(Zi (Zk.mk zl r1.1 z6 zd zh (Zj.mk r1.2.1 r1.2.2)) zn zb)] er1<|ze ?_
 exact zr ((iv 0), [(Zi (Zk.mk zl r1.1 z6 zd zh (Zj.mk r1.2.1 r1.2.2)) zn zb)]) ⟨_, rfl⟩
def Z6i (x1 zp z1 z2 : Int) : Option (Int × Int × Int × Int) :=
 some (x1, zp, z1, z2)
theorem ZaD x1 zl zp z6 zd zh z1 z2 zn zb (zu : ZF zb = true) : Sim (Z3v zl z6 zd zh zn zb) (Z6i x1 zp z1 z2) (Ziv 1 (iv x1) [(Zi (Zk.mk zl zp z6 zd zh (Zj.mk z1 z2)) zn zb)]) := by
 unfold Z6i
 refine zf (ZmP ..)<|ze ?_
 exact zr ((iv x1), [(Zi (Zk.mk zl zp z6 zd zh (Zj.mk z1 z2)) zn zb)]) ⟨_, rfl⟩
def Z65 (x1 x2 : Int) (zl : List Int) (zp z6 zd : Int) (zh : List Zq) (z1 z2 : Int) : Option (Int × Int × Int × Int) :=
 if (x1 == 110) = true then
 (some (10, zp, z1, z2))
 else
 (if (x1 == 116) = true then
 (some (9, zp, z1, z2))
 else
 (if (x1 == 114) = true then
 (some (13, zp, z1, z2))
 else
 (if (x1 == 120) = true then
 ((Z1Q (Zk.mk zl zp z6 zd zh (Zj.mk z1 z2))).bind fun r1 =>
 (Z97 r1).bind fun r2 =>
 if (decide (0 ≤ r2)) = true then
 ((Z2f zl zp).bind fun r3 =>
 (Z1Q (Zk.mk zl r3.2 z6 zd zh (Zj.mk z1 z2))).bind fun r4 =>
 (Z97 r4).bind fun r5 =>
 if (decide (0 ≤ r5)) = true then
 ((Z2f zl r3.2).bind fun r6 =>
 some ((IntKind.i64.wrap ((IntKind.i64.wrap (16 * r2)) + r5)), r6.2, z1, z2))
 else
 (Z27 x2 zl z1 z2))
 else
 (Z27 x2 zl z1 z2))
 else
 (if (decide (32 < x1)) = true then
 (if (decide (x1 < 127)) = true then
 ((Z6H ([(Z7.mk 48 57), (Z7.mk 65 90), (Z7.mk 97 122)] : List Z7) x1).bind fun r7 =>
 if (!r7) = true then
 (Z6i x1 zp z1 z2)
 else
 (Z27 x2 zl z1 z2))
 else
 (Z27 x2 zl z1 z2))
 else
 (Z27 x2 zl z1 z2)))))
theorem Zcp x1 x2 zl zp z6 zd zh z1 z2 zn zb (zu : ZF zb = true) : Sim (Z3v zl z6 zd zh zn zb) (Z65 x1 x2 zl zp z6 zd zh z1 z2) (EE 57 [(.ptr 0 0), (iv x1), (iv x2)] [(Zi (Zk.mk zl zp z6 zd zh (Zj.mk z1 z2)) zn zb)]) := by
 unfold Z65
 refine zf (Zsd ..)<|ze<|ze<|zq ?_
 refine za (x1 == 110) ?_ ?_
 ·refine ze ?_
  exact zr ((iv 10), [(Zi (Zk.mk zl zp z6 zd zh (Zj.mk z1 z2)) zn zb)]) ⟨_, rfl⟩
 ·refine ze<|zq ?_
  refine za (x1 == 116) ?_ ?_
  ·refine ze ?_
   exact zr ((iv 9), [(Zi (Zk.mk zl zp z6 zd zh (Zj.mk z1 z2)) zn zb)]) ⟨_, rfl⟩
  ·refine ze<|zq ?_
   refine za (x1 == 114) ?_ ?_
   ·refine ze ?_
    exact zr ((iv 13), [(Zi (Zk.mk zl zp z6 zd zh (Zj.mk z1 z2)) zn zb)]) ⟨_, rfl⟩
   ·refine ze<|zq ?_
    refine za (x1 == 120) ?_ ?_
    ·refine ze<|zi fun r1 hr1 => ?_
     obtain ⟨qr1, er1, exr1, rfl⟩ := Z1V (Zk.mk zl zp z6 zd zh (Zj.mk z1 z2)) zn zb zu r1 hr1
     refine zc [0] (iv r1) [(Zi (Zk.mk zl zp z6 zd zh (Zj.mk z1 z2)) zn zb)] er1<|zi fun r2 hr2 => ?_
     obtain ⟨qr2, er2, exr2, rfl⟩ := ZdY r1 r2 hr2
     refine zc [] (iv r2) [(Zi (Zk.mk zl zp z6 zd zh (Zj.mk z1 z2)) zn zb)] er2<|ze<|zq ?_
     refine za (decide (0 ≤ r2)) ?_ ?_
     ·refine ze<|zi fun r3 hr3 => ?_
      obtain ⟨qr3, er3, exr3, rfl⟩ := Z2H zl zp z6 zd zh z1 z2 zn zb zu r3 hr3
      refine zc [0] (iv r3.1) [(Zi (Zk.mk zl r3.2 z6 zd zh (Zj.mk z1 z2)) zn zb)] er3<|ze<|zi fun r4 hr4 => ?_
      obtain ⟨qr4, er4, exr4, rfl⟩ := Z1V (Zk.mk zl r3.2 z6 zd zh (Zj.mk z1 z2)) zn zb zu r4 hr4
      refine zc [0] (iv r4) [(Zi (Zk.mk zl r3.2 z6 zd zh (Zj.mk z1 z2)) zn zb)] er4<|zi fun r5 hr5 => ?_
      obtain ⟨qr5, er5, exr5, rfl⟩ := ZdY r4 r5 hr5
      refine zc [] (iv r5) [(Zi (Zk.mk zl r3.2 z6 zd zh (Zj.mk z1 z2)) zn zb)] er5<|ze<|zq ?_
      refine za (decide (0 ≤ r5)) ?_ ?_
      ·refine ze<|zi fun r6 hr6 => ?_
       obtain ⟨qr6, er6, exr6, rfl⟩ := Z2H zl r3.2 z6 zd zh z1 z2 zn zb zu r6 hr6
       refine zc [0] (iv r6.1) [(Zi (Zk.mk zl r6.2 z6 zd zh (Zj.mk z1 z2)) zn zb)] er6<|ze<|zq<|zq ?_
       exact zr ((iv (IntKind.i64.wrap ((IntKind.i64.wrap (16 * r2)) + r5))), [(Zi (Zk.mk zl r6.2 z6 zd zh (Zj.mk z1 z2)) zn zb)]) ⟨_, rfl⟩
      ·exact zk (Z3p x2 zl r3.2 z6 zd zh z1 z2 zn zb zu)
     ·exact zk (Z3p x2 zl zp z6 zd zh z1 z2 zn zb zu)
    ·refine ze<|zq ?_
     refine za (decide (32 < x1)) ?_ ?_
     ·refine zq ?_
      refine za (decide (x1 < 127)) ?_ ?_
      ·refine zq<|zq<|zq<|zq<|zi fun r7 hr7 => ?_
       obtain ⟨qr7, er7, exr7, rfl⟩ := Zfn ([(Z7.mk 48 57), (Z7.mk 65 90), (Z7.mk 97 122)] : List Z7) x1 .sh r7 hr7
       refine zc [] (bv r7) [(Zi (Zk.mk zl zp z6 zd zh (Zj.mk z1 z2)) zn zb)] er7<|zq ?_
       refine za (!r7) ?_ ?_
       ·exact zk (ZaD x1 zl zp z6 zd zh z1 z2 zn zb zu)
       ·exact zk (Z3p x2 zl zp z6 zd zh z1 z2 zn zb zu)
      ·exact zk (Z3p x2 zl zp z6 zd zh z1 z2 zn zb zu)
     ·exact zk (Z3p x2 zl zp z6 zd zh z1 z2 zn zb zu)
theorem ZcO (x1 x2 : Int) (zl : List Int) (zp z6 zd : Int) (zh : List Zq) (z1 z2 : Int) {r} (h : Z65 x1 x2 zl zp z6 zd zh z1 z2 = some r) : Z58 x1 x2 zl zp z6 zd zh z1 z2 = some r :=
 Z1e (fun _ _ ha hb => RRun.uniq (Zda _ _ _ _ _ _) (ha .ex .ex rfl) (hb .ex .ex rfl)) (fun zn zb zu => Zcp x1 x2 zl zp z6 zd zh z1 z2 zn zb zu r h)
def Z8g (x0 : Int) : Option (Int) :=
 some (IntKind.i64.wrap (x0 - 48))
theorem Zfs x0 : Sim (Z5s) (Z8g x0) (Zko 0 (iv x0) []) := by
 unfold Z8g
 refine zf (ZoA ..)<|ze<|zq ?_
 exact zr ((iv (IntKind.i64.wrap (x0 - 48))), []) ⟨_, rfl⟩
def Z8h (x0 : Int) : Option (Int) :=
 some (IntKind.i64.wrap ((IntKind.i64.wrap (x0 - 97)) + 10))
theorem Zft x0 : Sim (Z5s) (Z8h x0) (Zkp 0 (iv x0) []) := by
 unfold Z8h
 refine zf (ZoC ..)<|ze<|zq<|zq ?_
 exact zr ((iv (IntKind.i64.wrap ((IntKind.i64.wrap (x0 - 97)) + 10))), []) ⟨_, rfl⟩
def Z70  : Option (Int) :=
 some (-1)
theorem Zb6  : Sim (Z5s) (Z70) (ZhD 0  []) := by
 unfold Z70
 refine zf (ZoD ..)<|ze ?_
 exact zr ((iv (-1)), []) ⟨_, rfl⟩
def Z6Z (x0 : Int) : Option (Int) :=
 if (decide (97 ≤ x0)) = true then
 (if (decide (x0 ≤ 102)) = true then
 (Z8h x0)
 else
 (Z70))
 else
 (Z70)
theorem Zb5 x0 : Sim (Z5s) (Z6Z x0) (ZhC 0 (iv x0) []) := by
 unfold Z6Z
 refine zf (ZoB ..)<|ze<|zq ?_
 refine za (decide (97 ≤ x0)) ?_ ?_
 ·refine zq ?_
  refine za (decide (x0 ≤ 102)) ?_ ?_
  ·exact zk (Zft x0)
  ·exact zk (Zb6 )
 ·exact zk (Zb6 )
def ZaP (x0 : Int) : Option (Int) :=
 if (decide (48 ≤ x0)) = true then
 (if (decide (x0 ≤ 57)) = true then
 (Z8g x0)
 else
 (Z6Z x0))
 else
 (Z6Z x0)
theorem ZhI x0 : Sim (Z5s) (ZaP x0) (EE 71 [(iv x0)] []) := by
 unfold ZaP
 refine zf (ZsB ..)<|ze<|ze<|zq ?_
 refine za (decide (48 ≤ x0)) ?_ ?_
 ·refine zq ?_
  refine za (decide (x0 ≤ 57)) ?_ ?_
  ·exact zk (Zfs x0)
  ·exact zk (Zb5 x0)
 ·exact zk (Zb5 x0)
theorem ZiB (x0 : Int) {r} (h : ZaP x0 = some r) : Z97 x0 = some r :=
 Z1e (fun _ _ ha hb => RRun.uniq Zj1 (ha ) (hb )) (ZhI x0 r h)
def Z7F (x0 : List Z7) (x1 : Int) : Option (Bool) :=
 (Z3F x0 x1).bind fun r1 =>
 some (r1)
theorem Zfa (x0 : List Z7) x1 ox0 : Sim (Z6z) (Z7F x0 x1) (EE 19 [(.p (.lst ox0 (x0.map Zv))), (iv x1)] []) := by
 unfold Z7F
 refine zf (Zrq ..)<|ze<|zx (.ptr 0 0) [[(iv x1)]]<|ze<|zi fun r1 hr1 => ?_
 obtain ⟨qr1, er1, exr1, rfl⟩ := Z8R x0 x1 .sh r1 hr1
 refine zc [0] (bv r1) [[(iv x1)]] er1 ?_
 exact zr ((bv r1), [[(iv x1)]]) ⟨_, rfl⟩
theorem Zfm (x0 : List Z7) (x1 : Int) {r} (h : Z7F x0 x1 = some r) : Z6H x0 x1 = some r :=
 Z1e (fun _ _ ha hb => RRun.uniq Zgl (ha .ex) (hb .ex)) (fun ox0 => Zfa x0 x1 ox0 r h)
def Z3A (x0 : List Z7) (zZ : Int) : Option (Bool) :=
 (Z4h x0 zZ).bind fun r1 =>
 some (decide (0 ≤ r1))
theorem Z8q (x0 : List Z7) zZ ox0 : Sim (Z2Y zZ) (Z3A x0 zZ) (EE 30 [(.p (.lst ox0 (x0.map Zv))), (.clo 31 [] [(.ptr 0 0)])] [[(iv zZ)]]) := by
 unfold Z3A
 refine zf (Zrz ..)<|ze<|ze<|zi fun r1 hr1 => ?_
 obtain ⟨qr1, er1, exr1, rfl⟩ := Z9P x0 zZ .sh r1 hr1
 refine zc [0] (iv r1) [[(iv zZ)]] er1<|zq ?_
 exact zr ((bv (decide (0 ≤ r1))), [[(iv zZ)]]) ⟨_, rfl⟩
theorem Z8Q (x0 : List Z7) (zZ : Int) {r} (h : Z3A x0 zZ = some r) : Z3F x0 zZ = some r :=
 Z1e (fun _ _ ha hb => RRun.uniq (Z8W _) (ha .ex) (hb .ex)) (fun ox0 => Z8q x0 zZ ox0 r h)
def Z4b (x0 : List Z7) (zZ : Int) : Option (Int) :=
 Z32 x0 (x0.length : Int) 0 zZ
theorem Z9q (x0 : List Z7) zZ ox0 : Sim (Z1u zZ) (Z4b x0 zZ) (EE 37 [(.p (.lst ox0 (x0.map Zv))), (.clo 31 [] [(.ptr 0 0)])] [[(iv zZ)]]) := by
 unfold Z4b
 refine zf (ZrG ..)<|ze<|ze ?_
 refine zo (iv (x0.length : Int)) ?_ (Eq.trans (by kernel_rfl) (Z5r (P := PP) (t := 24) (d := 39) (by kernel_rfl) Zv (shrO ox0) x0))
 exact zk (Z61 x0 (x0.length : Int) 0 zZ ox0)
theorem Z9O (x0 : List Z7) (zZ : Int) {r} (h : Z4b x0 zZ = some r) : Z4h x0 zZ = some r :=
 Z1e (fun _ _ ha hb => RRun.uniq (Z6A _) (ha .ex) (hb .ex)) (fun ox0 => Z9q x0 zZ ox0 r h)
def Z3C (x0 : List Z7) (x7 x8 zZ : Int) : Option (Int) :=
 Z32 x0 x7 (IntKind.i64.wrap (x8 + 1)) zZ
theorem Z8u (x0 : List Z7) x7 x8 zZ ox0 : Sim (Z1u zZ) (Z3C x0 x7 x8 zZ) (ZjJ 1 (.p (.lst ox0 (x0.map Zv))) (.clo 31 [] [(.ptr 0 0)]) (iv x7) (iv x8) [[(iv zZ)]]) := by
 unfold Z3C
 refine zf (ZnU ..)<|ze<|zq ?_
 exact zk (Z61 x0 x7 (IntKind.i64.wrap (x8 + 1)) zZ ox0)
def Z30 (x0 : List Z7) (x7 x8 zZ : Int) : Option (Int) :=
 (lget x0 x8).bind fun a1 =>
 (Z6U a1 zZ).bind fun r2 =>
 if (r2) = true then
 (some (x8))
 else
 (Z3C x0 x7 x8 zZ)
theorem Z8t (x0 : List Z7) x7 x8 zZ ox0 : Sim (Z1u zZ) (Z30 x0 x7 x8 zZ) (ZjI 1 (.p (.lst ox0 (x0.map Zv))) (.clo 31 [] [(.ptr 0 0)]) (iv x7) (iv x8) [[(iv zZ)]]) := by
 unfold Z30
 refine zf (ZnT ..)<|ze<|ze<|zi fun a1 ha1 => ?_
 refine zo (.cptr (ZG a1)) ?_ (Eq.trans (by kernel_rfl) (Z6d (o := (shrO ox0)) (k := .i64) (n := 2) (e := Zv) (cs := Z3I) (fun _ => rfl) (fun _ => rfl) (by decide) ha1))
 refine zq<|zi fun r2 hr2 => ?_
 obtain ⟨qr2, er2, exr2, rfl⟩ := Zey a1 zZ r2 hr2
 refine zv [0] (bv r2) [[(iv zZ)]] er2 ?_
 refine za r2 ?_ ?_
 ·refine ze ?_
  exact zr ((iv x8), [[(iv zZ)]]) ⟨_, rfl⟩
 ·exact zk (Z8u x0 x7 x8 zZ ox0)
def Z4U  : Option (Int) :=
 some (-1)
theorem Z8v zZ : Sim (Z1u zZ) (Z4U) (ZjK 1  [[(iv zZ)]]) := by
 unfold Z4U
 refine zf (ZnV ..)<|ze ?_
 exact zr ((iv (-1)), [[(iv zZ)]]) ⟨_, rfl⟩
def Z2n (x0 : List Z7) (x7 x8 zZ : Int) : Option (Int) :=
 if (decide (x8 < x7)) = true then
 (Z30 x0 x7 x8 zZ)
 else
 (Z4U)
theorem Z8s (x0 : List Z7) x7 x8 zZ ox0 : Sim (Z1u zZ) (Z2n x0 x7 x8 zZ) (ZdF 1 (.p (.lst ox0 (x0.map Zv))) (.clo 31 [] [(.ptr 0 0)]) (iv x7) (iv x8) [[(iv zZ)]]) := by
 unfold Z2n
 refine zf (ZnS ..)<|ze<|zq ?_
 refine za (decide (x8 < x7)) ?_ ?_
 ·exact zk (Z8t x0 x7 x8 zZ ox0)
 ·exact zk (Z8v zZ)
theorem Z4n (x0 : List Z7) (x7 x8 zZ : Int) {r} (h : Z2n x0 x7 x8 zZ = some r) : Z32 x0 x7 x8 zZ = some r :=
 Z1e (fun _ _ ha hb => RRun.uniq (Z6A _) (ha .ex) (hb .ex)) (fun ox0 => Z8s x0 x7 x8 zZ ox0 r h)
def Z6Q (x0 : Z7) (zZ : Int) : Option (Bool) :=
 if (decide (x0.Lo ≤ zZ)) = true then
 (some (decide (zZ ≤ x0.Hi)))
 else
 (some (false))
theorem ZdS x0 zZ : Sim (Z5V zZ) (Z6Q x0 zZ) (EE 31 [(.p (.agg (ZG x0))), (.ptr 0 0)] [[(iv zZ)]]) := by
 unfold Z6Q
 refine zf (ZrA ..)<|ze<|zx (.ptr 1 0) [[(iv zZ)], (Z1I x0)]<|ze<|zq<|zq<|zq<|zq ?_
 refine za (decide (x0.Lo ≤ zZ)) ?_ ?_
 ·refine zq<|zq<|zq<|zq ?_
  exact zr ((bv (decide (zZ ≤ x0.Hi))), [[(iv zZ)], (Z1I x0)]) ⟨_, rfl⟩
 ·exact zr ((bv false), [[(iv zZ)], (Z1I x0)]) ⟨_, rfl⟩
theorem Zex (x0 : Z7) (zZ : Int) {r} (h : Z6Q x0 zZ = some r) : Z6U x0 zZ = some r :=
 Z1e (fun _ _ ha hb => RRun.uniq (Zf6 _) (ha ) (hb )) (ZdS x0 zZ r h)
def Z4W (x1 : Int) (zl : List Int) (zp z6 zd : Int) (zh : List Zq) (z1 z2 : Int) : Option (Z8 × Int × Int × Int) :=
 (Z17 (ByteArray.mk #[94]) zl zp).bind fun r1 =>
 Z34 x1 r1.1 0 zl r1.2 z6 zd zh z1 z2 ([] : List Z7)
theorem Zcj x1 zl zp z6 zd zh z1 z2 zn zb (zu : ZF zb = true) : Sim (Z1b zl z6 zd zh zn zb) (Z4W x1 zl zp z6 zd zh z1 z2) (EE 50 [(.ptr 0 0), (iv x1)] [(Zi (Zk.mk zl zp z6 zd zh (Zj.mk z1 z2)) zn zb)]) := by
 unfold Z4W
 refine zf (ZrX ..)<|ze<|zz (.ptr 1 0) [(Zi (Zk.mk zl zp z6 zd zh (Zj.mk z1 z2)) zn zb), (Zr (Z8.mk 0 0 0 0 0 ([] : List Z7) ([] : List Z8)) .nl .nl)]<|ze<|zi fun r1 hr1 => ?_
 obtain ⟨qr1, er1, exr1, rfl⟩ := Z1d (ByteArray.mk #[94]) zl zp z6 zd zh z1 z2 zn zb zu r1 hr1
 refine zc [0] (bv r1.1) [(Zi (Zk.mk zl r1.2 z6 zd zh (Zj.mk z1 z2)) zn zb), (Zr (Z8.mk 0 0 0 0 0 ([] : List Z7) ([] : List Z8)) .nl .nl)] er1<|ze<|zz (.ptr 2 0) [(Zi (Zk.mk zl r1.2 z6 zd zh (Zj.mk z1 z2)) zn zb), (Zr (Z8.mk 0 0 0 0 0 ([] : List Z7) ([] : List Z8)) .nl .nl), [(.p (.lst .nl []))]]<|ze<|ze ?_
 exact zk (Z7s x1 r1.1 0 zl r1.2 z6 zd zh z1 z2 (Z8.mk 0 0 0 0 0 ([] : List Z7) ([] : List Z8)) ([] : List Z7) zn zb .nl .nl .nl zu rfl rfl)
theorem ZcJ (x1 : Int) (zl : List Int) (zp z6 zd : Int) (zh : List Zq) (z1 z2 : Int) {r} (h : Z4W x1 zl zp z6 zd zh z1 z2 = some r) : Z67 x1 zl zp z6 zd zh z1 z2 = some r :=
 Z1e (fun _ _ ha hb => RRun.uniq (Z8V _ _ _ _ _ _) (ha .ex .ex rfl) (hb .ex .ex rfl)) (fun zn zb zu => Zcj x1 zl zp z6 zd zh z1 z2 zn zb zu r h)
def Z1g (x1 : Int) (x5 : Bool) (x8 : Int) (zl : List Int) (zp z6 zd : Int) (zh : List Zq) (z1 z2 : Int) (z13 : List Z7) : Option (Z8 × Int × Int × Int) :=
 Z34 x1 x5 (IntKind.i64.wrap (x8 + 1)) zl zp z6 zd zh z1 z2 z13
theorem Z1T x1 x5 x8 zl zp z6 zd zh z1 z2 b1 (z13 : List Z7) zn zb zB zy z1i (zu : ZF zb = true) (zP : ZF zB = true) (zI : ZF zy = true) : Sim (Z1b zl z6 zd zh zn zb) (Z1g x1 x5 x8 zl zp z6 zd zh z1 z2 z13) (Z7O 1 (.ptr 0 0) (iv x1) (.ptr 1 0) (bv x5) (.ptr 2 0) (.clo 58 [] [(.ptr 2 0)]) (iv x8) [(Zi (Zk.mk zl zp z6 zd zh (Zj.mk z1 z2)) zn zb), (Zr b1 zB zy), [(.p (.lst z1i (z13.map Zv)))]]) := by
 unfold Z1g
 refine zf (Zo5 ..)<|ze<|zq ?_
 exact zk (Z7s x1 x5 (IntKind.i64.wrap (x8 + 1)) zl zp z6 zd zh z1 z2 b1 z13 zn zb zB zy z1i zu zP zI)
def Z45 (zp z1 z2 : Int) (z13 : List Z7) : Option (Z8 × Int × Int × Int) :=
 some ((Z8.mk 1 0 0 0 0 z13 ([] : List Z8)), zp, z1, z2)
theorem Z76 zl zp z6 zd zh z1 z2 b1 (z13 : List Z7) zn zb zB zy z1i (zu : ZF zb = true) (zP : ZF zB = true) (zI : ZF zy = true) : Sim (Z1b zl z6 zd zh zn zb) (Z45 zp z1 z2 z13) (Zg3 1 (.ptr 1 0) (.ptr 2 0) [(Zi (Zk.mk zl zp z6 zd zh (Zj.mk z1 z2)) zn zb), (Zr b1 zB zy), [(.p (.lst z1i (z13.map Zv)))]]) := by
 unfold Z45
 refine zf (ZmA ..)<|ze<|zq<|zq<|zt [(Zi (Zk.mk zl zp z6 zd zh (Zj.mk z1 z2)) zn zb), (Zr (Z8.mk 1 0 0 0 0 z13 ([] : List Z8)) (shrO (shrO z1i)) .nl), [(.p (.lst z1i (z13.map Zv)))]] ?_
 exact zr ((.p (.agg (ZE (Z8.mk 1 0 0 0 0 z13 ([] : List Z8)) .sh .sh))), [(Zi (Zk.mk zl zp z6 zd zh (Zj.mk z1 z2)) zn zb), (Zr (Z8.mk 1 0 0 0 0 z13 ([] : List Z8)) (shrO (shrO z1i)) .nl), [(.p (.lst z1i (z13.map Zv)))]]) ⟨_, rfl⟩
def Z4X (x5 : Bool) (zl : List Int) (zp z1 z2 : Int) (z13 : List Z7) : Option (Z8 × Int × Int × Int) :=
 (Z2f zl zp).bind fun r1 =>
 if (x5) = true then
 ((Z6I z13).bind fun r2 =>
 Z45 r1.2 z1 z2 r2.1)
 else
 (Z45 r1.2 z1 z2 z13)
theorem Zaq x5 zl zp z6 zd zh z1 z2 b1 (z13 : List Z7) zn zb zB zy z1i (zu : ZF zb = true) (zP : ZF zB = true) (zI : ZF zy = true) : Sim (Z1b zl z6 zd zh zn zb) (Z4X x5 zl zp z1 z2 z13) (Zio 1 (.ptr 0 0) (.ptr 1 0) (bv x5) (.ptr 2 0) [(Zi (Zk.mk zl zp z6 zd zh (Zj.mk z1 z2)) zn zb), (Zr b1 zB zy), [(.p (.lst z1i (z13.map Zv)))]]) := by
 unfold Z4X
 refine zf (Zmz ..)<|ze<|zi fun r1 hr1 => ?_
 obtain ⟨qr1, er1, exr1, rfl⟩ := Z2H zl zp z6 zd zh z1 z2 zn zb zu r1 hr1
 refine zc [0] (iv r1.1) [(Zi (Zk.mk zl r1.2 z6 zd zh (Zj.mk z1 z2)) zn zb), (Zr b1 zB zy), [(.p (.lst z1i (z13.map Zv)))]] er1<|ze ?_
 refine za x5 ?_ ?_
 ·refine ze<|zq<|zi fun r2 hr2 => ?_
  obtain ⟨qr2, er2, exr2, rfl⟩ := Zb4 z13 .sh r2 hr2
  refine zc [] (.p (.tup [(.lst .sh (r2.1.map Zv)), (.v (.int .i64 r2.2))])) [(Zi (Zk.mk zl r1.2 z6 zd zh (Zj.mk z1 z2)) zn zb), (Zr b1 zB zy), [(.p (.lst z1i (z13.map Zv)))]] er2<|zq<|zq<|zt [(Zi (Zk.mk zl r1.2 z6 zd zh (Zj.mk z1 z2)) zn zb), (Zr b1 zB zy), [(.p (.lst .sh (r2.1.map Zv)))]] ?_
  exact zk (Z76 zl r1.2 z6 zd zh z1 z2 b1 r2.1 zn zb zB zy .sh zu zP zI)
 ·exact zk (Z76 zl r1.2 z6 zd zh z1 z2 b1 z13 zn zb zB zy z1i zu zP zI)
def Z2N (x1 : Int) (x5 : Bool) (x8 x9 : Int) (zl : List Int) (z6 zd : Int) (zh : List Zq) (z1 z2 : Int) (z13 : List Z7) : Option (Z8 × Int × Int × Int) :=
 (ZT 22 x9 zl z1 z2).bind fun r1 =>
 Z1g x1 x5 x8 zl r1.1 z6 zd zh r1.2.1 r1.2.2 z13
theorem Z4e x1 x5 x8 x9 zl zp z6 zd zh z1 z2 b1 (z13 : List Z7) zn zb zB zy z1i (zu : ZF zb = true) (zP : ZF zB = true) (zI : ZF zy = true) : Sim (Z1b zl z6 zd zh zn zb) (Z2N x1 x5 x8 x9 zl z6 zd zh z1 z2 z13) (Zc7 1 (.ptr 0 0) (iv x1) (.ptr 1 0) (bv x5) (.ptr 2 0) (.clo 58 [] [(.ptr 2 0)]) (iv x8) (iv x9) [(Zi (Zk.mk zl zp z6 zd zh (Zj.mk z1 z2)) zn zb), (Zr b1 zB zy), [(.p (.lst z1i (z13.map Zv)))]]) := by
 unfold Z2N
 refine zf (ZmD ..)<|ze<|zi fun r1 hr1 => ?_
 obtain ⟨qr1, er1, exr1, rfl⟩ := ZW 22 x9 zl zp z6 zd zh z1 z2 zn zb zu r1 hr1
 refine zc [0] (.p (.tup [])) [(Zi (Zk.mk zl r1.1 z6 zd zh (Zj.mk r1.2.1 r1.2.2)) zn zb), (Zr b1 zB zy), [(.p (.lst z1i (z13.map Zv)))]] er1 ?_
 exact zk (Z1T x1 x5 x8 zl r1.1 z6 zd zh r1.2.1 r1.2.2 b1 z13 zn zb zB zy z1i zu zP zI)
def Z1K (x1 : Int) (x5 : Bool) (x8 x11 x15 : Int) (zl : List Int) (zp z6 zd : Int) (zh : List Zq) (z1 z2 : Int) (z13 : List Z7) : Option (Z8 × Int × Int × Int) :=
 if (z1 == 0) = true then
 ((Z4u ([(Z7.mk x11 x15)] : List Z7) z13).bind fun r1 =>
 Z1g x1 x5 x8 zl zp z6 zd zh z1 z2 r1)
 else
 (Z1g x1 x5 x8 zl zp z6 zd zh z1 z2 z13)
theorem Z4f x1 x5 x8 x11 x15 zl zp z6 zd zh z1 z2 b1 (z13 : List Z7) zn zb zB zy z1i (zu : ZF zb = true) (zP : ZF zB = true) (zI : ZF zy = true) : Sim (Z1b zl z6 zd zh zn zb) (Z1K x1 x5 x8 x11 x15 zl zp z6 zd zh z1 z2 z13) (Zc8 1 (.ptr 0 0) (iv x1) (.ptr 1 0) (bv x5) (.ptr 2 0) (.clo 58 [] [(.ptr 2 0)]) (iv x8) (iv x11) (iv x15) [(Zi (Zk.mk zl zp z6 zd zh (Zj.mk z1 z2)) zn zb), (Zr b1 zB zy), [(.p (.lst z1i (z13.map Zv)))]]) := by
 unfold Z1K
 refine zf (ZmG ..)<|ze<|zq<|zq<|zq<|zq<|zq ?_
 refine za (z1 == 0) ?_ ?_
 ·refine ze<|zq<|zq<|zi fun r1 hr1 => ?_
  obtain ⟨qr1, er1, or1_0_0, exr1, rfl⟩ := Z7M ([(Z7.mk x11 x15)] : List Z7) z13 .sh z1i r1 hr1
  refine zv [2] (.p (.tup [])) [(Zi (Zk.mk zl zp z6 zd zh (Zj.mk z1 z2)) zn zb), (Zr b1 zB zy), [(.p (.lst or1_0_0 (r1.map Zv)))]] er1 ?_
  exact zk (Z1T x1 x5 x8 zl zp z6 zd zh z1 z2 b1 r1 zn zb zB zy or1_0_0 zu zP zI)
 ·exact zk (Z1T x1 x5 x8 zl zp z6 zd zh z1 z2 b1 z13 zn zb zB zy z1i zu zP zI)
def Z3l (x1 : Int) (x5 : Bool) (x8 x9 x11 x15 : Int) (zl : List Int) (z6 zd : Int) (zh : List Zq) (z1 z2 : Int) (z13 : List Z7) : Option (Z8 × Int × Int × Int) :=
 (ZT 22 x9 zl z1 z2).bind fun r1 =>
 Z1K x1 x5 x8 x11 x15 zl r1.1 z6 zd zh r1.2.1 r1.2.2 z13
theorem Z78 x1 x5 x8 x9 x11 x15 zl zp z6 zd zh z1 z2 b1 (z13 : List Z7) zn zb zB zy z1i (zu : ZF zb = true) (zP : ZF zB = true) (zI : ZF zy = true) : Sim (Z1b zl z6 zd zh zn zb) (Z3l x1 x5 x8 x9 x11 x15 zl z6 zd zh z1 z2 z13) (Zg5 1 (.ptr 0 0) (iv x1) (.ptr 1 0) (bv x5) (.ptr 2 0) (.clo 58 [] [(.ptr 2 0)]) (iv x8) (iv x9) (iv x11) (iv x15) [(Zi (Zk.mk zl zp z6 zd zh (Zj.mk z1 z2)) zn zb), (Zr b1 zB zy), [(.p (.lst z1i (z13.map Zv)))]]) := by
 unfold Z3l
 refine zf (ZmF ..)<|ze<|zi fun r1 hr1 => ?_
 obtain ⟨qr1, er1, exr1, rfl⟩ := ZW 22 x9 zl zp z6 zd zh z1 z2 zn zb zu r1 hr1
 refine zc [0] (.p (.tup [])) [(Zi (Zk.mk zl r1.1 z6 zd zh (Zj.mk r1.2.1 r1.2.2)) zn zb), (Zr b1 zB zy), [(.p (.lst z1i (z13.map Zv)))]] er1 ?_
 exact zk (Z4f x1 x5 x8 x11 x15 zl r1.1 z6 zd zh r1.2.1 r1.2.2 b1 z13 zn zb zB zy z1i zu zP zI)
def Z4Y (x1 : Int) (x5 : Bool) (x8 x9 x11 : Int) (zl : List Int) (zp z6 zd : Int) (zh : List Zq) (z1 z2 : Int) (z13 : List Z7) : Option (Z8 × Int × Int × Int) :=
 (Z3W zl zp z6 zd zh z1 z2).bind fun r1 =>
 if (r1.2.2.2.2.1 == 0) = true then
 ((nilO (shrO (shrO (shrO (shrO r1.2.1.1)))) r1.2.1.2).bind fun a2 =>
 if (!a2) = true then
 (Z3l x1 x5 x8 x9 x11 r1.1 zl z6 zd zh r1.2.2.2.2.1 r1.2.2.2.2.2 z13)
 else
 (if (decide (r1.1 < x11)) = true then
 (Z3l x1 x5 x8 x9 x11 r1.1 zl z6 zd zh r1.2.2.2.2.1 r1.2.2.2.2.2 z13)
 else
 (Z1K x1 x5 x8 x11 r1.1 zl r1.2.2.2.1 z6 zd zh r1.2.2.2.2.1 r1.2.2.2.2.2 z13)))
 else
 (Z1K x1 x5 x8 x11 r1.1 zl r1.2.2.2.1 z6 zd zh r1.2.2.2.2.1 r1.2.2.2.2.2 z13)
theorem Zas x1 x5 x8 x9 x11 zl zp z6 zd zh z1 z2 b1 (z13 : List Z7) zn zb zB zy z1i (zu : ZF zb = true) (zP : ZF zB = true) (zI : ZF zy = true) : Sim (Z1b zl z6 zd zh zn zb) (Z4Y x1 x5 x8 x9 x11 zl zp z6 zd zh z1 z2 z13) (Ziq 1 (.ptr 0 0) (iv x1) (.ptr 1 0) (bv x5) (.ptr 2 0) (.clo 58 [] [(.ptr 2 0)]) (iv x8) (iv x9) (iv x11) [(Zi (Zk.mk zl zp z6 zd zh (Zj.mk z1 z2)) zn zb), (Zr b1 zB zy), [(.p (.lst z1i (z13.map Zv)))]]) := by
 unfold Z4Y
 refine zf (ZmE ..)<|ze<|zi fun r1 hr1 => ?_
 obtain ⟨qr1, er1, exr1, rfl⟩ := Z7X zl zp z6 zd zh z1 z2 zn zb zu r1 hr1
 refine zc [0] (.p (.tup [(.v (.int .i64 r1.1)), (.lst r1.2.1.1 (r1.2.1.2.map Zv)), (.v (.bool r1.2.2.1))])) [(Zi (Zk.mk zl r1.2.2.2.1 z6 zd zh (Zj.mk r1.2.2.2.2.1 r1.2.2.2.2.2)) zn zb), (Zr b1 zB zy), [(.p (.lst z1i (z13.map Zv)))]] er1<|zq<|zq<|zq<|ze<|zq<|zq<|zq<|zq<|zq ?_
 refine za (r1.2.2.2.2.1 == 0) ?_ ?_
 ·refine zi fun a2 ha2 => ?_
  refine zo (bv (!a2)) ?_ (Eq.trans (by kernel_rfl) (Zf2 (P := PP) (t := 23) (c := .slice none 0 0) (e := Zv) (by kernel_rfl) ha2))
  refine za (!a2) ?_ ?_
  ·exact zk (Z78 x1 x5 x8 x9 x11 r1.1 zl r1.2.2.2.1 z6 zd zh r1.2.2.2.2.1 r1.2.2.2.2.2 b1 z13 zn zb zB zy z1i zu zP zI)
  ·refine zq ?_
   refine za (decide (r1.1 < x11)) ?_ ?_
   ·exact zk (Z78 x1 x5 x8 x9 x11 r1.1 zl r1.2.2.2.1 z6 zd zh r1.2.2.2.2.1 r1.2.2.2.2.2 b1 z13 zn zb zB zy z1i zu zP zI)
   ·exact zk (Z4f x1 x5 x8 x11 r1.1 zl r1.2.2.2.1 z6 zd zh r1.2.2.2.2.1 r1.2.2.2.2.2 b1 z13 zn zb zB zy z1i zu zP zI)
 ·exact zk (Z4f x1 x5 x8 x11 r1.1 zl r1.2.2.2.1 z6 zd zh r1.2.2.2.2.1 r1.2.2.2.2.2 b1 z13 zn zb zB zy z1i zu zP zI)
def Z47 (x1 : Int) (x5 : Bool) (x8 x9 x11 : Int) (zl : List Int) (zp z6 zd : Int) (zh : List Zq) (z1 z2 : Int) (z13 : List Z7) : Option (Z8 × Int × Int × Int) :=
 (Z17 (ByteArray.mk #[45]) zl zp).bind fun r1 =>
 if (r1.1) = true then
 ((Z1Q (Zk.mk zl r1.2 z6 zd zh (Zj.mk z1 z2))).bind fun r2 =>
 if (r2 == 93) = true then
 (Z2N x1 x5 x8 x9 zl z6 zd zh z1 z2 z13)
 else
 (if (r2 == 91) = true then
 (Z2N x1 x5 x8 x9 zl z6 zd zh z1 z2 z13)
 else
 (if (r2 == 45) = true then
 (Z2N x1 x5 x8 x9 zl z6 zd zh z1 z2 z13)
 else
 (if (decide (r2 < 0)) = true then
 (Z2N x1 x5 x8 x9 zl z6 zd zh z1 z2 z13)
 else
 (Z4Y x1 x5 x8 x9 x11 zl r1.2 z6 zd zh z1 z2 z13)))))
 else
 (Z1K x1 x5 x8 x11 x11 zl r1.2 z6 zd zh z1 z2 z13)
theorem Zar x1 x5 x8 x9 x11 zl zp z6 zd zh z1 z2 b1 (z13 : List Z7) zn zb zB zy z1i (zu : ZF zb = true) (zP : ZF zB = true) (zI : ZF zy = true) : Sim (Z1b zl z6 zd zh zn zb) (Z47 x1 x5 x8 x9 x11 zl zp z6 zd zh z1 z2 z13) (Zip 1 (.ptr 0 0) (iv x1) (.ptr 1 0) (bv x5) (.ptr 2 0) (.clo 58 [] [(.ptr 2 0)]) (iv x8) (iv x9) (iv x11) [(Zi (Zk.mk zl zp z6 zd zh (Zj.mk z1 z2)) zn zb), (Zr b1 zB zy), [(.p (.lst z1i (z13.map Zv)))]]) := by
 unfold Z47
 refine zf (ZmC ..)<|ze<|ze<|zi fun r1 hr1 => ?_
 obtain ⟨qr1, er1, exr1, rfl⟩ := Z1d (ByteArray.mk #[45]) zl zp z6 zd zh z1 z2 zn zb zu r1 hr1
 refine zc [0] (bv r1.1) [(Zi (Zk.mk zl r1.2 z6 zd zh (Zj.mk z1 z2)) zn zb), (Zr b1 zB zy), [(.p (.lst z1i (z13.map Zv)))]] er1 ?_
 refine za r1.1 ?_ ?_
 ·refine ze<|zi fun r2 hr2 => ?_
  obtain ⟨qr2, er2, exr2, rfl⟩ := Z1V (Zk.mk zl r1.2 z6 zd zh (Zj.mk z1 z2)) zn zb zu r2 hr2
  refine zc [0] (iv r2) [(Zi (Zk.mk zl r1.2 z6 zd zh (Zj.mk z1 z2)) zn zb), (Zr b1 zB zy), [(.p (.lst z1i (z13.map Zv)))]] er2<|ze<|zq ?_
  refine za (r2 == 93) ?_ ?_
  ·exact zk (Z4e x1 x5 x8 x9 zl r1.2 z6 zd zh z1 z2 b1 z13 zn zb zB zy z1i zu zP zI)
  ·refine zq ?_
   refine za (r2 == 91) ?_ ?_
   ·exact zk (Z4e x1 x5 x8 x9 zl r1.2 z6 zd zh z1 z2 b1 z13 zn zb zB zy z1i zu zP zI)
   ·refine zq ?_
    refine za (r2 == 45) ?_ ?_
    ·exact zk (Z4e x1 x5 x8 x9 zl r1.2 z6 zd zh z1 z2 b1 z13 zn zb zB zy z1i zu zP zI)
    ·refine zq ?_
     refine za (decide (r2 < 0)) ?_ ?_
     ·exact zk (Z4e x1 x5 x8 x9 zl r1.2 z6 zd zh z1 z2 b1 z13 zn zb zB zy z1i zu zP zI)
     ·exact zk (Zas x1 x5 x8 x9 x11 zl r1.2 z6 zd zh z1 z2 b1 z13 zn zb zB zy z1i zu zP zI)
 ·exact zk (Z4f x1 x5 x8 x11 x11 zl r1.2 z6 zd zh z1 z2 b1 z13 zn zb zB zy z1i zu zP zI)
def Z46 (x1 : Int) (x5 : Bool) (x8 x9 : Int) (zl : List Int) (zp z6 zd : Int) (zh : List Zq) (z1 z2 : Int) (z13 : List Z7) : Option (Z8 × Int × Int × Int) :=
 (Z3W zl zp z6 zd zh z1 z2).bind fun r1 =>
 (nilO (shrO (shrO (shrO (shrO r1.2.1.1)))) r1.2.1.2).bind fun a2 =>
 if (!a2) = true then
 ((Z2X r1.2.2.1 r1.2.1.2).bind fun r3 =>
 (Z4u r3.Set z13).bind fun r4 =>
 (Z1Q (Zk.mk zl r1.2.2.2.1 z6 zd zh (Zj.mk r1.2.2.2.2.1 r1.2.2.2.2.2))).bind fun r5 =>
 if (r5 == 45) = true then
 ((ZT 22 r1.2.2.2.1 zl r1.2.2.2.2.1 r1.2.2.2.2.2).bind fun r6 =>
 Z1g x1 x5 x8 zl r6.1 z6 zd zh r6.2.1 r6.2.2 r4)
 else
 (Z1g x1 x5 x8 zl r1.2.2.2.1 z6 zd zh r1.2.2.2.2.1 r1.2.2.2.2.2 r4))
 else
 (Z47 x1 x5 x8 x9 r1.1 zl r1.2.2.2.1 z6 zd zh r1.2.2.2.2.1 r1.2.2.2.2.2 z13)
theorem Z77 x1 x5 x8 x9 zl zp z6 zd zh z1 z2 b1 (z13 : List Z7) zn zb zB zy z1i (zu : ZF zb = true) (zP : ZF zB = true) (zI : ZF zy = true) : Sim (Z1b zl z6 zd zh zn zb) (Z46 x1 x5 x8 x9 zl zp z6 zd zh z1 z2 z13) (Zg4 1 (.ptr 0 0) (iv x1) (.ptr 1 0) (bv x5) (.ptr 2 0) (.clo 58 [] [(.ptr 2 0)]) (iv x8) (iv x9) [(Zi (Zk.mk zl zp z6 zd zh (Zj.mk z1 z2)) zn zb), (Zr b1 zB zy), [(.p (.lst z1i (z13.map Zv)))]]) := by
 unfold Z46
 refine zf (ZmB ..)<|ze<|zi fun r1 hr1 => ?_
 obtain ⟨qr1, er1, exr1, rfl⟩ := Z7X zl zp z6 zd zh z1 z2 zn zb zu r1 hr1
 refine zc [0] (.p (.tup [(.v (.int .i64 r1.1)), (.lst r1.2.1.1 (r1.2.1.2.map Zv)), (.v (.bool r1.2.2.1))])) [(Zi (Zk.mk zl r1.2.2.2.1 z6 zd zh (Zj.mk r1.2.2.2.2.1 r1.2.2.2.2.2)) zn zb), (Zr b1 zB zy), [(.p (.lst z1i (z13.map Zv)))]] er1<|zq<|zq<|zq<|ze<|zi fun a2 ha2 => ?_
 refine zo (bv (!a2)) ?_ (Eq.trans (by kernel_rfl) (Zf2 (P := PP) (t := 23) (c := .slice none 0 0) (e := Zv) (by kernel_rfl) ha2))
 refine za (!a2) ?_ ?_
 ·refine ze<|zi fun r3 hr3 => ?_
  obtain ⟨qr3, er3, exr3, rfl⟩ := Z35 r1.2.2.1 r1.2.1.2 .sh r3 hr3
  refine zc [] (.p (.agg (ZE r3 .sh .sh))) [(Zi (Zk.mk zl r1.2.2.2.1 z6 zd zh (Zj.mk r1.2.2.2.2.1 r1.2.2.2.2.2)) zn zb), (Zr b1 zB zy), [(.p (.lst z1i (z13.map Zv)))]] er3<|zz (.ptr 3 0) [(Zi (Zk.mk zl r1.2.2.2.1 z6 zd zh (Zj.mk r1.2.2.2.2.1 r1.2.2.2.2.2)) zn zb), (Zr b1 zB zy), [(.p (.lst z1i (z13.map Zv)))], (Zr (Z8.mk 0 0 0 0 0 ([] : List Z7) ([] : List Z8)) .nl .nl)]<|zt [(Zi (Zk.mk zl r1.2.2.2.1 z6 zd zh (Zj.mk r1.2.2.2.2.1 r1.2.2.2.2.2)) zn zb), (Zr b1 zB zy), [(.p (.lst z1i (z13.map Zv)))], (Zr r3 .sh .sh)]<|ze<|zq<|zq<|zi fun r4 hr4 => ?_
  obtain ⟨qr4, er4, or4_0_0, exr4, rfl⟩ := Z7M r3.Set z13 .sh z1i r4 hr4
  refine zv [2] (.p (.tup [])) [(Zi (Zk.mk zl r1.2.2.2.1 z6 zd zh (Zj.mk r1.2.2.2.2.1 r1.2.2.2.2.2)) zn zb), (Zr b1 zB zy), [(.p (.lst or4_0_0 (r4.map Zv)))], (Zr r3 .sh .sh)] er4<|ze<|zi fun r5 hr5 => ?_
  obtain ⟨qr5, er5, exr5, rfl⟩ := Z1V (Zk.mk zl r1.2.2.2.1 z6 zd zh (Zj.mk r1.2.2.2.2.1 r1.2.2.2.2.2)) zn zb zu r5 hr5
  refine zc [0] (iv r5) [(Zi (Zk.mk zl r1.2.2.2.1 z6 zd zh (Zj.mk r1.2.2.2.2.1 r1.2.2.2.2.2)) zn zb), (Zr b1 zB zy), [(.p (.lst or4_0_0 (r4.map Zv)))], (Zr r3 .sh .sh)] er5<|zq ?_
  refine za (r5 == 45) ?_ ?_
  ·refine ze<|zq<|zq<|zq<|zi fun r6 hr6 => ?_
   obtain ⟨qr6, er6, exr6, rfl⟩ := ZW 22 r1.2.2.2.1 zl r1.2.2.2.1 z6 zd zh r1.2.2.2.2.1 r1.2.2.2.2.2 zn zb zu r6 hr6
   refine zc [0] (.p (.tup [])) [(Zi (Zk.mk zl r6.1 z6 zd zh (Zj.mk r6.2.1 r6.2.2)) zn zb), (Zr b1 zB zy), [(.p (.lst or4_0_0 (r4.map Zv)))], (Zr r3 .sh .sh)] er6 ?_
   exact zk (Z1T x1 x5 x8 zl r6.1 z6 zd zh r6.2.1 r6.2.2 b1 r4 zn zb zB zy or4_0_0 zu zP zI)
  ·exact zk (Z1T x1 x5 x8 zl r1.2.2.2.1 z6 zd zh r1.2.2.2.2.1 r1.2.2.2.2.2 b1 r4 zn zb zB zy or4_0_0 zu zP zI)
 ·exact zk (Zar x1 x5 x8 x9 r1.1 zl r1.2.2.2.1 z6 zd zh r1.2.2.2.2.1 r1.2.2.2.2.2 b1 z13 zn zb zB zy z1i zu zP zI)
def Z3u (x1 : Int) (x5 : Bool) (x8 : Int) (zl : List Int) (zp z6 zd : Int) (zh : List Zq) (z1 z2 : Int) (z13 : List Z7) : Option (Z8 × Int × Int × Int) :=
 (Z1Q (Zk.mk zl zp z6 zd zh (Zj.mk z1 z2))).bind fun r1 =>
 if (r1 == (-1)) = true then
 ((ZT 22 x1 zl z1 z2).bind fun r2 =>
 Z1g x1 x5 x8 zl r2.1 z6 zd zh r2.2.1 r2.2.2 z13)
 else
 (if (r1 == 93) = true then
 (if (x8 == 0) = true then
 ((ZT 22 x1 zl z1 z2).bind fun r3 =>
 Z1g x1 x5 x8 zl r3.1 z6 zd zh r3.2.1 r3.2.2 z13)
 else
 (Z4X x5 zl zp z1 z2 z13))
 else
 (if (r1 == 91) = true then
 (if (r1 == 91) = true then
 ((ZT 22 zp zl z1 z2).bind fun r4 =>
 Z1g x1 x5 x8 zl r4.1 z6 zd zh r4.2.1 r4.2.2 z13)
 else
 (Z46 x1 x5 x8 zp zl zp z6 zd zh z1 z2 z13))
 else
 (if (r1 == 45) = true then
 ((ZT 22 zp zl z1 z2).bind fun r5 =>
 Z1g x1 x5 x8 zl r5.1 z6 zd zh r5.2.1 r5.2.2 z13)
 else
 (Z46 x1 x5 x8 zp zl zp z6 zd zh z1 z2 z13))))
theorem Zb8 x1 x5 x8 zl zp z6 zd zh z1 z2 b1 (z13 : List Z7) zn zb zB zy z1i (zu : ZF zb = true) (zP : ZF zB = true) (zI : ZF zy = true) : Sim (Z1b zl z6 zd zh zn zb) (Z3u x1 x5 x8 zl zp z6 zd zh z1 z2 z13) (ZjS 1 (.ptr 0 0) (iv x1) (.ptr 1 0) (bv x5) (.ptr 2 0) (.clo 58 [] [(.ptr 2 0)]) (iv x8) [(Zi (Zk.mk zl zp z6 zd zh (Zj.mk z1 z2)) zn zb), (Zr b1 zB zy), [(.p (.lst z1i (z13.map Zv)))]]) := by
 unfold Z3u
 refine zf (Zo6 ..)<|ze<|zq<|zq<|zq<|ze<|zi fun r1 hr1 => ?_
 obtain ⟨qr1, er1, exr1, rfl⟩ := Z1V (Zk.mk zl zp z6 zd zh (Zj.mk z1 z2)) zn zb zu r1 hr1
 refine zc [0] (iv r1) [(Zi (Zk.mk zl zp z6 zd zh (Zj.mk z1 z2)) zn zb), (Zr b1 zB zy), [(.p (.lst z1i (z13.map Zv)))]] er1<|ze<|ze<|zq ?_
 refine za (r1 == (-1)) ?_ ?_
 ·refine ze<|zi fun r2 hr2 => ?_
  obtain ⟨qr2, er2, exr2, rfl⟩ := ZW 22 x1 zl zp z6 zd zh z1 z2 zn zb zu r2 hr2
  refine zc [0] (.p (.tup [])) [(Zi (Zk.mk zl r2.1 z6 zd zh (Zj.mk r2.2.1 r2.2.2)) zn zb), (Zr b1 zB zy), [(.p (.lst z1i (z13.map Zv)))]] er2 ?_
  exact zk (Z1T x1 x5 x8 zl r2.1 z6 zd zh r2.2.1 r2.2.2 b1 z13 zn zb zB zy z1i zu zP zI)
 ·refine ze<|zq ?_
  refine za (r1 == 93) ?_ ?_
  ·refine ze<|zq ?_
   refine za (x8 == 0) ?_ ?_
   ·refine ze<|zi fun r3 hr3 => ?_
    obtain ⟨qr3, er3, exr3, rfl⟩ := ZW 22 x1 zl zp z6 zd zh z1 z2 zn zb zu r3 hr3
    refine zc [0] (.p (.tup [])) [(Zi (Zk.mk zl r3.1 z6 zd zh (Zj.mk r3.2.1 r3.2.2)) zn zb), (Zr b1 zB zy), [(.p (.lst z1i (z13.map Zv)))]] er3 ?_
    exact zk (Z1T x1 x5 x8 zl r3.1 z6 zd zh r3.2.1 r3.2.2 b1 z13 zn zb zB zy z1i zu zP zI)
   ·exact zk (Zaq x5 zl zp z6 zd zh z1 z2 b1 z13 zn zb zB zy z1i zu zP zI)
  ·refine ze<|zq ?_
   refine za (r1 == 91) ?_ ?_
   ·refine za (r1 == 91) ?_ ?_
    ·refine ze<|zi fun r4 hr4 => ?_
     obtain ⟨qr4, er4, exr4, rfl⟩ := ZW 22 zp zl zp z6 zd zh z1 z2 zn zb zu r4 hr4
     refine zc [0] (.p (.tup [])) [(Zi (Zk.mk zl r4.1 z6 zd zh (Zj.mk r4.2.1 r4.2.2)) zn zb), (Zr b1 zB zy), [(.p (.lst z1i (z13.map Zv)))]] er4 ?_
     exact zk (Z1T x1 x5 x8 zl r4.1 z6 zd zh r4.2.1 r4.2.2 b1 z13 zn zb zB zy z1i zu zP zI)
    ·exact zk (Z77 x1 x5 x8 zp zl zp z6 zd zh z1 z2 b1 z13 zn zb zB zy z1i zu zP zI)
   ·refine ze<|zq ?_
    refine za (r1 == 45) ?_ ?_
    ·refine ze<|zi fun r5 hr5 => ?_
     obtain ⟨qr5, er5, exr5, rfl⟩ := ZW 22 zp zl zp z6 zd zh z1 z2 zn zb zu r5 hr5
     refine zc [0] (.p (.tup [])) [(Zi (Zk.mk zl r5.1 z6 zd zh (Zj.mk r5.2.1 r5.2.2)) zn zb), (Zr b1 zB zy), [(.p (.lst z1i (z13.map Zv)))]] er5 ?_
     exact zk (Z1T x1 x5 x8 zl r5.1 z6 zd zh r5.2.1 r5.2.2 b1 z13 zn zb zB zy z1i zu zP zI)
    ·exact zk (Z77 x1 x5 x8 zp zl zp z6 zd zh z1 z2 b1 z13 zn zb zB zy z1i zu zP zI)
def Z6g (zp z1 z2 : Int) : Option (Z8 × Int × Int × Int) :=
 some ((Z8.mk 0 0 0 0 0 ([] : List Z7) ([] : List Z8)), zp, z1, z2)
theorem Zat zl zp z6 zd zh z1 z2 b1 zn zb zB zy (zu : ZF zb = true) (zP : ZF zB = true) (zI : ZF zy = true) : Sim (Z1b zl z6 zd zh zn zb) (Z6g zp z1 z2) (Zir 1 (.ptr 1 0) [(Zi (Zk.mk zl zp z6 zd zh (Zj.mk z1 z2)) zn zb), (Zr b1 zB zy)]) := by
 unfold Z6g
 refine zf (ZmH ..)<|ze<|zq<|zt [(Zi (Zk.mk zl zp z6 zd zh (Zj.mk z1 z2)) zn zb), (Zr (Z8.mk 0 0 0 0 0 ([] : List Z7) ([] : List Z8)) .nl .nl)] ?_
 exact zr ((.p (.agg (ZE (Z8.mk 0 0 0 0 0 ([] : List Z7) ([] : List Z8)) .sh .sh))), [(Zi (Zk.mk zl zp z6 zd zh (Zj.mk z1 z2)) zn zb), (Zr (Z8.mk 0 0 0 0 0 ([] : List Z7) ([] : List Z8)) .nl .nl)]) ⟨_, rfl⟩
def Z4k (x1 : Int) (x5 : Bool) (x8 : Int) (zl : List Int) (zp z6 zd : Int) (zh : List Zq) (z1 z2 : Int) (z13 : List Z7) : Option (Z8 × Int × Int × Int) :=
 if (z1 == 0) = true then
 (Z3u x1 x5 x8 zl zp z6 zd zh z1 z2 z13)
 else
 (Z6g zp z1 z2)
theorem Zb7 x1 x5 x8 zl zp z6 zd zh z1 z2 b1 (z13 : List Z7) zn zb zB zy z1i (zu : ZF zb = true) (zP : ZF zB = true) (zI : ZF zy = true) : Sim (Z1b zl z6 zd zh zn zb) (Z4k x1 x5 x8 zl zp z6 zd zh z1 z2 z13) (ZdI 1 (.ptr 0 0) (iv x1) (.ptr 1 0) (bv x5) (.ptr 2 0) (.clo 58 [] [(.ptr 2 0)]) (iv x8) [(Zi (Zk.mk zl zp z6 zd zh (Zj.mk z1 z2)) zn zb), (Zr b1 zB zy), [(.p (.lst z1i (z13.map Zv)))]]) := by
 unfold Z4k
 refine zf (Zo4 ..)<|ze<|zq<|zq<|zq<|zq<|zq ?_
 refine za (z1 == 0) ?_ ?_
 ·exact zk (Zb8 x1 x5 x8 zl zp z6 zd zh z1 z2 b1 z13 zn zb zB zy z1i zu zP zI)
 ·exact zk (Zat zl zp z6 zd zh z1 z2 b1 zn zb zB zy zu zP zI)
theorem Z7r (x1 : Int) (x5 : Bool) (x8 : Int) (zl : List Int) (zp z6 zd : Int) (zh : List Zq) (z1 z2 : Int) (z13 : List Z7) {r} (h : Z4k x1 x5 x8 zl zp z6 zd zh z1 z2 z13 = some r) : Z34 x1 x5 x8 zl zp z6 zd zh z1 z2 z13 = some r :=
 Z1e (fun _ _ ha hb => RRun.uniq (Z8V _ _ _ _ _ _) (ha default .ex .ex .ex .ex .ex rfl rfl rfl) (hb default .ex .ex .ex .ex .ex rfl rfl rfl)) (fun b1 zn zb zB zy z1i zu zP zI => Zb7 x1 x5 x8 zl zp z6 zd zh z1 z2 b1 z13 zn zb zB zy z1i zu zP zI r h)
end Go.Proofs.YtadodmjdkphddaaDoor.N2
end
