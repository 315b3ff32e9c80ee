/- The functions' typed texts. No condition. -/
import Derived.Test.YtiigbcahdaoedaaGreatDoorTypA

set_option linter.unusedSimpArgs false
set_option linter.unusedVariables false
set_option linter.defProp false
noncomputable section
namespace Go.Proofs.YtiigbcahdaoedaaGreatDoor.N2
open Go Go.Abs
set_option maxRecDepth 100000
def Z9s (x0 : List Z0) : Option (Int × Int × Bool) :=
 (Z6n x0).bind fun r1 =>
 Z62 r1 0 0 r1 (r1.length : Int) 0
theorem ZhU (x0 : List Z0) ox0 : Sim ZY (Z9s x0) (EE 12 [(Zh ox0 (x0.map Z3))] []) := by
 unfold Z9s
 refine zf (Zvg ..)<|ze<|ze<|zi fun r1 hr1 => ?_
 obtain ⟨_, er1, _, rfl⟩ := Z7G x0 .sh r1 hr1
 refine zc [] (Zh .sh (r1.map Z3)) [] er1<|ze<|zp (iv (r1.length : Int)) (et_ (ZU (P := PP) (t := 22) (d := 39) (by kernel_rfl) Z3 .sh r1)) ?_
 exact zk (Zb2 r1 0 0 r1 (r1.length : Int) 0 .sh .sh)
theorem Zir x0 {r} (h : Z9s x0 = some r) : Z2f x0 = some r :=
 ZN (fun _ _ ha hb => ru_ Z5c (ha .ex) (hb .ex)) (fun ox0 => ZhU x0 ox0 r h)
def Z7p (x0 : List Z0) (x2 x3 : Int) (x11 : List Z0) (x12 x13 : Int) : Option (Int × Int × Bool) :=
 (lget x11 x13).bind fun a1 =>
 (lsl x0 0 x13).bind fun a2 =>
 Z63 x0 x2 x3 x13 x11 x12 x13 a2 (a2.length : Int) 0 a1
theorem Zfm (x0 : List Z0) x2 x3 (x11 : List Z0) x12 x13 ox0 ox11 : Sim ZY (Z7p x0 x2 x3 x11 x12 x13) (Zlz 0 (Zh ox0 (x0.map Z3)) (iv x2) (iv x3) (Zh ox11 (x11.map Z3)) (iv x12) (iv x13) []) := by
 unfold Z7p
 refine zf (ZqM ..)<|ze<|zi fun a1 ha1 => zp (.cptr (Zv a1 .sh)) (et_ (Z1h (o := ox11) (k := .i64) (n := 5) (e := Z3) (cs := Z20) (fun _ => rfl) (fun _ => rfl) (by decide) ha1))<|zq<|zz (.ptr 0 0) [(Zd ZeB .nl)]<|zt [(Zd a1 .sh)]<|ze<|zi fun a2 ha2 => zp (Zh (slO (shrO ox0)) (a2.map Z3)) (Eq.trans (by kernel_rfl) <| Zci (n := 5) (o := (shrO ox0)) (lo := none) (hi := (some (iv x13))) (e := Z3) (fun _ => rfl) (by decide) (by kernel_rfl) (by kernel_rfl) ha2)<|zp (iv (a2.length : Int)) (et_ (ZU (P := PP) (t := 22) (d := 39) (by kernel_rfl) Z3 (slO (shrO ox0)) a2)) ?_
 exact zk (Zb4 x0 x2 x3 x13 x11 x12 x13 a2 (a2.length : Int) 0 a1 ox0 ox11 (slO (shrO ox0)) .sh)
def Z4o (x2 x3 : Int) : Option (Int × Int × Bool) :=
 some (x2, x3, (x3 == 0))
theorem Z9W x2 x3 : Sim ZY (Z4o x2 x3) (ZhI 0 (iv x2) (iv x3) []) := by
 unfold Z4o
 refine zf (Zpp ..)<|ze<|zq ?_
 exact zr ((.p (.tup [(.v (.int .i64 x2)), (.v (.int .i64 x3)), (.v (.bool (x3 == 0)))])), []) ⟨_, rfl⟩
def Z5R (x0 : List Z0) (x2 x3 : Int) (x11 : List Z0) (x12 x13 : Int) : Option (Int × Int × Bool) :=
 if (decide (x13 < x12)) = true then
 (Z7p x0 x2 x3 x11 x12 x13)
 else
 (Z4o x2 x3)
theorem Zfk (x0 : List Z0) x2 x3 (x11 : List Z0) x12 x13 ox0 ox11 : Sim ZY (Z5R x0 x2 x3 x11 x12 x13) (Zgr 0 (Zh ox0 (x0.map Z3)) (iv x2) (iv x3) (Zh ox11 (x11.map Z3)) (iv x12) (iv x13) []) := by
 unfold Z5R
 refine zf (ZqK ..)<|ze<|zq ?_
 refine za (decide (x13 < x12)) ?_ ?_
 ·exact zk (Zfm x0 x2 x3 x11 x12 x13 ox0 ox11)
 ·exact zk (Z9W x2 x3)
theorem Zb1 x0 x2 x3 x11 x12 x13 {r} (h : Z5R x0 x2 x3 x11 x12 x13 = some r) : Z62 x0 x2 x3 x11 x12 x13 = some r :=
 ZN (fun _ _ ha hb => ru_ Z5c (ha .ex .ex) (hb .ex .ex)) (fun ox0 ox11 => Zfk x0 x2 x3 x11 x12 x13 ox0 ox11 r h)
def Z6Y (x0 : List Z0) (x2 x3 x5 : Int) (x11 : List Z0) (x12 x13 : Int) (x20 : List Z0) (x21 x22 : Int) (b0 : Z0) : Option (Int × Int × Bool) :=
 Z63 x0 x2 x3 x5 x11 x12 x13 x20 x21 (IntKind.i64.wrap (x22 + 1)) b0
theorem ZeM (x0 : List Z0) x2 x3 x5 (x11 : List Z0) x12 x13 (x20 : List Z0) x21 x22 b0 ox0 ox11 ox20 zj : Sim ZY (Z6Y x0 x2 x3 x5 x11 x12 x13 x20 x21 x22 b0) (Zkl 0 (Zh ox0 (x0.map Z3)) (iv x2) (iv x3) (iv x5) (.ptr 0 0) (Zh ox11 (x11.map Z3)) (iv x12) (iv x13) (Zh ox20 (x20.map Z3)) (iv x21) (iv x22) [(Zd b0 zj)]) := by
 unfold Z6Y
 refine zf (Zpn ..)<|ze<|zq ?_
 exact zk (Zb4 x0 x2 x3 x5 x11 x12 x13 x20 x21 (IntKind.i64.wrap (x22 + 1)) b0 ox0 ox11 ox20 zj)
def Z7r (x5 x7 : Int) : Option (Int × Int × Bool) :=
 Z4o x7 x5
theorem Zfo x5 x7 : Sim ZY (Z7r x5 x7) (ZlB 0 (iv x5) (iv x7) []) := by
 unfold Z7r
 refine zf (ZqO ..)<|ze ?_
 exact zk (Z9W x7 x5)
def Z7q (x0 : List Z0) (x2 x3 x5 : Int) (x11 : List Z0) (x12 x13 : Int) (x20 : List Z0) (x21 x22 : Int) (b0 : Z0) : Option (Int × Int × Bool) :=
 (lget x20 x22).bind fun a1 =>
 (Z7b a1).bind fun r2 =>
 (Z7b b0).bind fun r3 =>
 (Z8F r2 r3).bind fun r4 =>
 if r4 = true then
 (Z6Y x0 x2 x3 x5 x11 x12 x13 x20 x21 x22 b0)
 else
 (Z7r x5 x22)
theorem Zfn (x0 : List Z0) x2 x3 x5 (x11 : List Z0) x12 x13 (x20 : List Z0) x21 x22 b0 ox0 ox11 ox20 zj : Sim ZY (Z7q x0 x2 x3 x5 x11 x12 x13 x20 x21 x22 b0) (ZlA 0 (Zh ox0 (x0.map Z3)) (iv x2) (iv x3) (iv x5) (.ptr 0 0) (Zh ox11 (x11.map Z3)) (iv x12) (iv x13) (Zh ox20 (x20.map Z3)) (iv x21) (iv x22) [(Zd b0 zj)]) := by
 unfold Z7q
 refine zf (ZqN ..)<|ze<|zi fun a1 ha1 => zp (.cptr (Zv a1 .sh)) (et_ (Z1h (o := ox20) (k := .i64) (n := 5) (e := Z3) (cs := Z20) (fun _ => rfl) (fun _ => rfl) (by decide) ha1))<|zq<|zz (.ptr 1 0) [(Zd b0 zj), (Zd ZeB .nl)]<|zt [(Zd b0 zj), (Zd a1 .sh)]<|ze<|zq<|zi fun r2 hr2 => ?_
 obtain ⟨_, er2, _, rfl⟩ := Zax a1 .sh r2 hr2
 refine zc [] (Zh .sh (r2.map Za)) [(Zd b0 zj), (Zd a1 .sh)] er2<|zq<|zi fun r3 hr3 => ?_
 obtain ⟨_, er3, _, rfl⟩ := Zax b0 .sh r3 hr3
 refine zc [] (Zh .sh (r3.map Za)) [(Zd b0 zj), (Zd a1 .sh)] er3<|zi fun r4 hr4 => ?_
 obtain ⟨_, er4, _, rfl⟩ := ZhX r2 r3 .sh .sh r4 hr4
 refine zc [] (bv r4) [(Zd b0 zj), (Zd a1 .sh)] er4<|zg ?_
 refine za r4 ?_ ?_
 ·exact zk (ZeM x0 x2 x3 x5 x11 x12 x13 x20 x21 x22 b0 ox0 ox11 ox20 zj)
 ·exact zk (Zfo x5 x22)
def Z4n (x0 : List Z0) (x2 x3 : Int) (x11 : List Z0) (x12 x13 : Int) : Option (Int × Int × Bool) :=
 Z62 x0 x2 x3 x11 x12 (IntKind.i64.wrap (x13 + 1))
theorem ZeN (x0 : List Z0) x2 x3 (x11 : List Z0) x12 x13 ox0 ox11 : Sim ZY (Z4n x0 x2 x3 x11 x12 x13) (Zkm 0 (Zh ox0 (x0.map Z3)) (iv x2) (iv x3) (Zh ox11 (x11.map Z3)) (iv x12) (iv x13) []) := by
 unfold Z4n
 refine zf (Zpo ..)<|ze<|zq ?_
 exact zk (Zb2 x0 x2 x3 x11 x12 (IntKind.i64.wrap (x13 + 1)) ox0 ox11)
def Z5S (x0 : List Z0) (x2 x3 x5 : Int) (x11 : List Z0) (x12 x13 : Int) (x20 : List Z0) (x21 x22 : Int) (b0 : Z0) : Option (Int × Int × Bool) :=
 if (decide (x22 < x21)) = true then
 (Z7q x0 x2 x3 x5 x11 x12 x13 x20 x21 x22 b0)
 else
 (Z4n x0 x2 x3 x11 x12 x13)
theorem Zfl (x0 : List Z0) x2 x3 x5 (x11 : List Z0) x12 x13 (x20 : List Z0) x21 x22 b0 ox0 ox11 ox20 zj : Sim ZY (Z5S x0 x2 x3 x5 x11 x12 x13 x20 x21 x22 b0) (Zgs 0 (Zh ox0 (x0.map Z3)) (iv x2) (iv x3) (iv x5) (.ptr 0 0) (Zh ox11 (x11.map Z3)) (iv x12) (iv x13) (Zh ox20 (x20.map Z3)) (iv x21) (iv x22) [(Zd b0 zj)]) := by
 unfold Z5S
 refine zf (ZqL ..)<|ze<|zq ?_
 refine za (decide (x22 < x21)) ?_ ?_
 ·exact zk (Zfn x0 x2 x3 x5 x11 x12 x13 x20 x21 x22 b0 ox0 ox11 ox20 zj)
 ·exact zk (ZeN x0 x2 x3 x11 x12 x13 ox0 ox11)
theorem Zb3 x0 x2 x3 x5 x11 x12 x13 x20 x21 x22 b0 {r} (h : Z5S x0 x2 x3 x5 x11 x12 x13 x20 x21 x22 b0 = some r) : Z63 x0 x2 x3 x5 x11 x12 x13 x20 x21 x22 b0 = some r :=
 ZN (fun _ _ ha hb => ru_ Z5c (ha .ex .ex .ex .ex) (hb .ex .ex .ex .ex)) (fun ox0 ox11 ox20 zj => Zfl x0 x2 x3 x5 x11 x12 x13 x20 x21 x22 b0 ox0 ox11 ox20 zj r h)
def Z9t (x0 : List Z0) : Option (List Z0) :=
 Z64 ([] : List Z0) x0 (x0.length : Int) 0
theorem ZhY (x0 : List Z0) ox0 : Sim Z2E (Z9t x0) (EE 28 [(Zh ox0 (x0.map Z3))] []) := by
 unfold Z9t
 refine zf (ZvH ..)<|ze<|ze<|ze<|zp (iv (x0.length : Int)) (et_ (ZU (P := PP) (t := 22) (d := 39) (by kernel_rfl) Z3 (shrO ox0) x0)) ?_
 exact zk (Zb6 ([] : List Z0) x0 (x0.length : Int) 0 .nl (shrO ox0) rfl)
theorem Ziu x0 {r} (h : Z9t x0 = some r) : Z6n x0 = some r :=
 ZN (fun _ _ ha hb => ru_ ZdV (ha .ex) (hb .ex)) (fun ox0 => ZhY x0 ox0 r h)
def Z4F (x3 x6 : List Z0) (x7 x8 : Int) : Option (List Z0) :=
 Z64 x3 x6 x7 (IntKind.i64.wrap (x8 + 1))
theorem Zay (x3 x6 : List Z0) x7 x8 ox3 ox6 (hox3 : Z1j ox3 = true) : Sim Z2E (Z4F x3 x6 x7 x8) (Zmc 0 (Zh ox3 (x3.map Z3)) (Zh ox6 (x6.map Z3)) (iv x7) (iv x8) []) := by
 unfold Z4F
 refine zf (Zrg ..)<|ze<|zq ?_
 exact zk (Zb6 x3 x6 x7 (IntKind.i64.wrap (x8 + 1)) ox3 ox6 hox3)
def Z7v (x3 x6 : List Z0) (x7 x8 : Int) (b0 : Z0) : Option (List Z0) :=
 (lapp x3 ([b0] : List Z0)).bind fun a1 =>
 Z4F a1 x6 x7 x8
theorem Zft (x3 x6 : List Z0) x7 x8 b0 ox3 ox6 zj (hox3 : Z1j ox3 = true) (zxh : Z1j zj = true) : Sim Z2E (Z7v x3 x6 x7 x8 b0) (ZgJ 0 (Zh ox3 (x3.map Z3)) (.ptr 0 0) (Zh ox6 (x6.map Z3)) (iv x7) (iv x8) [(Zd b0 zj)]) := by
 unfold Z7v
 refine zf (Zl2 ..)<|ze<|zq<|zq<|zi fun a1 ha1 => zp (Zh .un (a1.map Z3)) (Eq.trans (by kernel_rfl) <| Za1 (n := 5) (o := ox3) (o' := .ex) (e := Z3) (ys := ([b0] : List Z0)) (fun _ => rfl) (by decide) hox3 ha1) ?_
 exact zk (Zay a1 x6 x7 x8 .un ox6 rfl)
def Z6w (x3 x6 : List Z0) (x7 x8 : Int) (b0 : Z0) : Option (List Z0) :=
 (lapp x3 ([b0] : List Z0)).bind fun a1 =>
 Z4F a1 x6 x7 x8
theorem Zei (x3 x6 : List Z0) x7 x8 b0 ox3 ox6 zj (hox3 : Z1j ox3 = true) : Sim Z2E (Z6w x3 x6 x7 x8 b0) (ZgJ 0 (Zh ox3 (x3.map Z3)) (.ptr 0 0) (Zh ox6 (x6.map Z3)) (iv x7) (iv x8) [(Zd b0 zj)]) := by
 unfold Z6w
 refine zf (Zl2 ..)<|ze<|zq<|zq<|zi fun a1 ha1 => zp (Zh .un (a1.map Z3)) (Eq.trans (by kernel_rfl) <| Za1 (n := 5) (o := ox3) (o' := .ex) (e := Z3) (ys := ([b0] : List Z0)) (fun _ => rfl) (by decide) hox3 ha1) ?_
 exact zk (Zay a1 x6 x7 x8 .un ox6 rfl)
def Z7u (x3 x6 : List Z0) (x7 x8 : Int) : Option (List Z0) :=
 (lget x6 x8).bind fun a1 =>
 (Z3q a1).bind fun r2 =>
 if (!r2) = true then
 (Z7v x3 x6 x7 x8 (Z0.mk 0 0 0 0 ([] : List Z8)))
 else
 (Z6w x3 x6 x7 x8 a1)
theorem Zfs (x3 x6 : List Z0) x7 x8 ox3 ox6 (hox3 : Z1j ox3 = true) : Sim Z2E (Z7u x3 x6 x7 x8) (Zmb 0 (Zh ox3 (x3.map Z3)) (Zh ox6 (x6.map Z3)) (iv x7) (iv x8) []) := by
 unfold Z7u
 refine zf (Zrf ..)<|ze<|zi fun a1 ha1 => zp (.cptr (Zv a1 .sh)) (et_ (Z1h (o := ox6) (k := .i64) (n := 5) (e := Z3) (cs := Z20) (fun _ => rfl) (fun _ => rfl) (by decide) ha1))<|zq<|zz (.ptr 0 0) [(Zd ZeB .nl)]<|zt [(Zd a1 .sh)]<|ze<|zq<|zi fun r2 hr2 => ?_
 obtain ⟨_, er2, _, rfl⟩ := Z8V a1 .sh r2 hr2
 refine zc [] (bv r2) [(Zd a1 .sh)] er2<|zq ?_
 refine za (!r2) ?_ ?_
 ·refine ze<|zq<|zt [(Zd ZeB .nl)] ?_
  exact zk (Zft x3 x6 x7 x8 ZeB ox3 ox6 .nl hox3 rfl)
 ·exact zk (Zei x3 x6 x7 x8 a1 ox3 ox6 .sh hox3)
def Z7w (x3 : List Z0) : Option (List Z0) :=
 some x3
theorem Zfu (x3 : List Z0) ox3 (hox3 : Z1j ox3 = true) : Sim Z2E (Z7w x3) (Zmd 0 (Zh ox3 (x3.map Z3)) []) := by
 unfold Z7w
 refine zf (Zrh ..)<|ze ?_
 exact zr ((Zh .sh (x3.map Z3)), []) ⟨_, rfl⟩
def Z5T (x3 x6 : List Z0) (x7 x8 : Int) : Option (List Z0) :=
 if (decide (x8 < x7)) = true then
 (Z7u x3 x6 x7 x8)
 else
 (Z7w x3)
theorem Zfr (x3 x6 : List Z0) x7 x8 ox3 ox6 (hox3 : Z1j ox3 = true) : Sim Z2E (Z5T x3 x6 x7 x8) (ZgI 0 (Zh ox3 (x3.map Z3)) (Zh ox6 (x6.map Z3)) (iv x7) (iv x8) []) := by
 unfold Z5T
 refine zf (Zre ..)<|ze<|zq ?_
 refine za (decide (x8 < x7)) ?_ ?_
 ·exact zk (Zfs x3 x6 x7 x8 ox3 ox6 hox3)
 ·exact zk (Zfu x3 ox3 hox3)
theorem Zb5 x3 x6 x7 x8 {r} (h : Z5T x3 x6 x7 x8 = some r) : Z64 x3 x6 x7 x8 = some r :=
 ZN (fun _ _ ha hb => ru_ ZdV (ha .ex .ex rfl) (hb .ex .ex rfl)) (fun ox3 ox6 hox3 => Zfr x3 x6 x7 x8 ox3 ox6 hox3 r h)
def Z5z (x0 : Z0) : Option Bool :=
 if (decide (0 ≤ x0.View)) = true then
 (if (decide (x0.View ≤ 1099511627776)) = true then
 (if (decide (0 ≤ x0.Normal)) = true then
 (if (decide (x0.Normal ≤ x0.View)) = true then
 (if (decide ((x0.Log.length : Int) ≤ 64)) = true then
 (if (decide (0 ≤ x0.Commit)) = true then
 (if (decide (x0.Commit ≤ (x0.Log.length : Int))) = true then
 (if (decide (0 ≤ x0.Active)) = true then
 (if (decide (x0.Active ≤ 64)) = true then
 ((Z2R x0.Log).bind fun r1 =>
 some (!r1))
 else
 (some false))
 else
 (some false))
 else
 (some false))
 else
 (some false))
 else
 (some false))
 else
 (some false))
 else
 (some false))
 else
 (some false))
 else
 (some false)
theorem Zdt x0 zl : Sim Z6 (Z5z x0) (EE 23 [(pA_ (Zv x0 zl))] []) := by
 unfold Z5z
 refine zf (ZvD ..)<|ze<|zx (.ptr 0 0) [(Zd x0 zl)]<|ze<|zq<|zq<|zq ?_
 refine za (decide (0 ≤ x0.View)) ?_ ?_
 ·refine zq<|zq<|zq ?_
  refine za (decide (x0.View ≤ 1099511627776)) ?_ ?_
  ·refine zq<|zq<|zq ?_
   refine za (decide (0 ≤ x0.Normal)) ?_ ?_
   ·refine zq<|zq<|zq<|zq<|zq ?_
    refine za (decide (x0.Normal ≤ x0.View)) ?_ ?_
    ·refine zq<|zq<|zp (iv (x0.Log.length : Int)) (et_ (ZU (P := PP) (t := 37) (d := 81) (by kernel_rfl) Za (shrO zl) x0.Log))<|zq ?_
     refine za (decide ((x0.Log.length : Int) ≤ 64)) ?_ ?_
     ·refine zq<|zq<|zq ?_
      refine za (decide (0 ≤ x0.Commit)) ?_ ?_
      ·refine zq<|zq<|zq<|zq<|zp (iv (x0.Log.length : Int)) (et_ (ZU (P := PP) (t := 37) (d := 81) (by kernel_rfl) Za (shrO zl) x0.Log))<|zq ?_
       refine za (decide (x0.Commit ≤ (x0.Log.length : Int))) ?_ ?_
       ·refine zq<|zq<|zq ?_
        refine za (decide (0 ≤ x0.Active)) ?_ ?_
        ·refine zq<|zq<|zq ?_
         refine za (decide (x0.Active ≤ 64)) ?_ ?_
         ·refine zq<|zq<|zi fun r1 hr1 => ?_
          obtain ⟨_, er1, _, rfl⟩ := Z93 x0.Log .sh r1 hr1
          refine zc [] (bv r1) [(Zd x0 zl)] er1<|zq ?_
          exact zr ((bv (!r1)), [(Zd x0 zl)]) ⟨_, rfl⟩
         ·exact zr ((bv false), [(Zd x0 zl)]) ⟨_, rfl⟩
        ·exact zr ((bv false), [(Zd x0 zl)]) ⟨_, rfl⟩
       ·exact zr ((bv false), [(Zd x0 zl)]) ⟨_, rfl⟩
      ·exact zr ((bv false), [(Zd x0 zl)]) ⟨_, rfl⟩
     ·exact zr ((bv false), [(Zd x0 zl)]) ⟨_, rfl⟩
    ·exact zr ((bv false), [(Zd x0 zl)]) ⟨_, rfl⟩
   ·exact zr ((bv false), [(Zd x0 zl)]) ⟨_, rfl⟩
  ·exact zr ((bv false), [(Zd x0 zl)]) ⟨_, rfl⟩
 ·exact zr ((bv false), [(Zd x0 zl)]) ⟨_, rfl⟩
theorem ZdN x0 {r} (h : Z5z x0 = some r) : Z3q x0 = some r :=
 ZN (fun _ _ ha hb => ru_ ZK (ha .ex) (hb .ex)) (fun zl => Zdt x0 zl r h)
def Z2M (x0 : List Z8) : Option Bool :=
 (Z3t x0).bind fun r1 =>
 some (decide (0 ≤ r1))
theorem Z8G (x0 : List Z8) ox0 : Sim Z6 (Z2M x0) (EE 42 [(Zh ox0 (x0.map Za)), (.clo 43 [] [])] []) := by
 unfold Z2M
 refine zf (ZvZ ..)<|ze<|ze<|zi fun r1 hr1 => ?_
 obtain ⟨_, er1, _, rfl⟩ := Zaa x0 .sh r1 hr1
 refine zc [] (iv r1) [] er1<|zq ?_
 exact zr ((bv (decide (0 ≤ r1))), []) ⟨_, rfl⟩
theorem Z92 x0 {r} (h : Z2M x0 = some r) : Z2R x0 = some r :=
 ZN (fun _ _ ha hb => ru_ ZK (ha .ex) (hb .ex)) (fun ox0 => Z8G x0 ox0 r h)
def Z3p (x0 : List Z8) : Option Int :=
 Z2a x0 (x0.length : Int) 0
theorem Z9N (x0 : List Z8) ox0 : Sim Ze (Z3p x0) (EE 59 [(Zh ox0 (x0.map Za)), (.clo 43 [] [])] []) := by
 unfold Z3p
 refine zf (Zwk ..)<|ze<|ze<|zp (iv (x0.length : Int)) (et_ (ZU (P := PP) (t := 37) (d := 81) (by kernel_rfl) Za (shrO ox0) x0)) ?_
 exact zk (Z5u x0 (x0.length : Int) 0 ox0)
theorem Za9 x0 {r} (h : Z3p x0 = some r) : Z3t x0 = some r :=
 ZN (fun _ _ ha hb => ru_ Z1e (ha .ex) (hb .ex)) (fun ox0 => Z9N x0 ox0 r h)
def Z2Q (x0 : List Z8) (x7 x8 : Int) : Option Int :=
 Z2a x0 x7 (IntKind.i64.wrap (x8 + 1))
theorem Z8N (x0 : List Z8) x7 x8 ox0 : Sim Ze (Z2Q x0 x7 x8) (ZmW 0 (Zh ox0 (x0.map Za)) (.clo 43 [] []) (iv x7) (iv x8) []) := by
 unfold Z2Q
 refine zf (Zs5 ..)<|ze<|zq ?_
 exact zk (Z5u x0 x7 (IntKind.i64.wrap (x8 + 1)) ox0)
def Z28 (x0 : List Z8) (x7 x8 : Int) : Option Int :=
 (lget x0 x8).bind fun a1 =>
 (Z55 a1).bind fun r2 =>
 if r2 = true then
 (some x8)
 else
 (Z2Q x0 x7 x8)
theorem Z8M (x0 : List Z8) x7 x8 ox0 : Sim Ze (Z28 x0 x7 x8) (ZmV 0 (Zh ox0 (x0.map Za)) (.clo 43 [] []) (iv x7) (iv x8) []) := by
 unfold Z28
 refine zf (Zs4 ..)<|ze<|ze<|zi fun a1 ha1 => zp (.cptr (Z17 a1 .sh .sh)) (et_ (Z1h (o := (shrO ox0)) (k := .i64) (n := 9) (e := Za) (cs := Z3l) (fun _ => rfl) (fun _ => rfl) (by decide) ha1))<|zq<|zi fun r2 hr2 => ?_
 obtain ⟨_, er2, _, rfl⟩ := Zd1 a1 .sh .sh r2 hr2
 refine zv [] (bv r2) [] er2 ?_
 refine za r2 ?_ ?_
 ·refine ze ?_
  exact zr ((iv x8), []) ⟨_, rfl⟩
 ·exact zk (Z8N x0 x7 x8 ox0)
def Z4d : Option Int :=
 some (-1)
theorem Z8O : Sim Ze Z4d (ZmX 0 []) := by
 unfold Z4d
 refine zf (Zs6 ..)<|ze ?_
 exact zr ((iv (-1)), []) ⟨_, rfl⟩
def Z1L (x0 : List Z8) (x7 x8 : Int) : Option Int :=
 if (decide (x8 < x7)) = true then
 (Z28 x0 x7 x8)
 else
 Z4d
theorem Z8L (x0 : List Z8) x7 x8 ox0 : Sim Ze (Z1L x0 x7 x8) (Zh1 0 (Zh ox0 (x0.map Za)) (.clo 43 [] []) (iv x7) (iv x8) []) := by
 unfold Z1L
 refine zf (Zs3 ..)<|ze<|zq ?_
 refine za (decide (x8 < x7)) ?_ ?_
 ·exact zk (Z8M x0 x7 x8 ox0)
 ·exact zk Z8O
theorem Z3z x0 x7 x8 {r} (h : Z1L x0 x7 x8 = some r) : Z2a x0 x7 x8 = some r :=
 ZN (fun _ _ ha hb => ru_ Z1e (ha .ex) (hb .ex)) (fun ox0 => Z8L x0 x7 x8 ox0 r h)
def Z4P (x0 : Z8) : Option Bool :=
 (Z6G x0).bind fun r1 =>
 some (!r1)
theorem Zcs x0 z9 z7 : Sim Z6 (Z4P x0) (EE 43 [(pA_ (Z17 x0 z9 z7))] []) := by
 unfold Z4P
 refine zf (Zw0 ..)<|ze<|zx (.ptr 0 0) [(Zk x0 z9 z7)]<|ze<|zq<|zi fun r1 hr1 => ?_
 obtain ⟨_, er1, _, rfl⟩ := ZeT x0 .sh .sh r1 hr1
 refine zc [] (bv r1) [(Zk x0 z9 z7)] er1<|zq ?_
 exact zr ((bv (!r1)), [(Zk x0 z9 z7)]) ⟨_, rfl⟩
theorem Zd0 x0 {r} (h : Z4P x0 = some r) : Z55 x0 = some r :=
 ZN (fun _ _ ha hb => ru_ ZK (ha .ex .ex) (hb .ex .ex)) (fun z9 z7 => Zcs x0 z9 z7 r h)
def Z6x (x0 : Z8) : Option Bool :=
 (Z2H x0.View 0).bind fun r1 =>
 if r1 = true then
 ((Z2H x0.Client 1).bind fun r2 =>
 if r2 = true then
 ((Z2H x0.Request 1).bind fun r3 =>
 if r3 = true then
 ((Z2H x0.Delta.Default (-1)).bind fun r4 =>
 if r4 = true then
 ((Z2H x0.Delta.Closed (-1)).bind fun r5 =>
 if r5 = true then
 ((Z2H x0.Delta.Fuel (-1)).bind fun r6 =>
 if r6 = true then
 ((Z2H x0.Delta.Stack (-1)).bind fun r7 =>
 if r7 = true then
 (if (decide ((x0.Delta.Put.length : Int) ≤ 16)) = true then
 (if (decide ((x0.Delta.Drop.length : Int) ≤ 16)) = true then
 ((Z36 x0.Delta.Put).bind fun r8 =>
 if (!r8) = true then
 ((Z3d x0.Delta.Drop).bind fun r9 =>
 some (!r9))
 else
 (some false))
 else
 (some false))
 else
 (some false))
 else
 (some false))
 else
 (some false))
 else
 (some false))
 else
 (some false))
 else
 (some false))
 else
 (some false))
 else
 (some false)
theorem Zej x0 z9 z7 : Sim Z6 (Z6x x0) (EE 44 [(pA_ (Z17 x0 z9 z7))] []) := by
 unfold Z6x
 refine zf (Zw1 ..)<|ze<|zx (.ptr 0 0) [(Zk x0 z9 z7)]<|ze<|zq<|zq<|zz (.ptr 1 0) [(Zk x0 z9 z7), (Zo Zo8 .nl .nl)]<|zt [(Zk x0 z9 z7), (Zo x0.Delta (shrO z9) (shrO z7))]<|ze<|zq<|zq<|zi fun r1 hr1 => ?_
 obtain ⟨_, er1, _, rfl⟩ := Z3h x0.View 0 r1 hr1
 refine zc [] (bv r1) [(Zk x0 z9 z7), (Zo x0.Delta (shrO z9) (shrO z7))] er1 ?_
 refine za r1 ?_ ?_
 ·refine zq<|zq<|zi fun r2 hr2 => ?_
  obtain ⟨_, er2, _, rfl⟩ := Z3h x0.Client 1 r2 hr2
  refine zc [] (bv r2) [(Zk x0 z9 z7), (Zo x0.Delta (shrO z9) (shrO z7))] er2 ?_
  refine za r2 ?_ ?_
  ·refine zq<|zq<|zi fun r3 hr3 => ?_
   obtain ⟨_, er3, _, rfl⟩ := Z3h x0.Request 1 r3 hr3
   refine zc [] (bv r3) [(Zk x0 z9 z7), (Zo x0.Delta (shrO z9) (shrO z7))] er3 ?_
   refine za r3 ?_ ?_
   ·refine zq<|zq<|zi fun r4 hr4 => ?_
    obtain ⟨_, er4, _, rfl⟩ := Z3h x0.Delta.Default (-1) r4 hr4
    refine zc [] (bv r4) [(Zk x0 z9 z7), (Zo x0.Delta (shrO z9) (shrO z7))] er4 ?_
    refine za r4 ?_ ?_
    ·refine zq<|zq<|zi fun r5 hr5 => ?_
     obtain ⟨_, er5, _, rfl⟩ := Z3h x0.Delta.Closed (-1) r5 hr5
     refine zc [] (bv r5) [(Zk x0 z9 z7), (Zo x0.Delta (shrO z9) (shrO z7))] er5 ?_
     refine za r5 ?_ ?_
     ·refine zq<|zq<|zi fun r6 hr6 => ?_
      obtain ⟨_, er6, _, rfl⟩ := Z3h x0.Delta.Fuel (-1) r6 hr6
      refine zc [] (bv r6) [(Zk x0 z9 z7), (Zo x0.Delta (shrO z9) (shrO z7))] er6 ?_
      refine za r6 ?_ ?_
      ·refine zq<|zq<|zi fun r7 hr7 => ?_
       obtain ⟨_, er7, _, rfl⟩ := Z3h x0.Delta.Stack (-1) r7 hr7
       refine zc [] (bv r7) [(Zk x0 z9 z7), (Zo x0.Delta (shrO z9) (shrO z7))] er7 ?_
       refine za r7 ?_ ?_
       ·refine zq<|zq<|zp (iv (x0.Delta.Put.length : Int)) (et_ (ZU (P := PP) (t := 49) (d := 104) (by kernel_rfl) Z2 (shrO (shrO z9)) x0.Delta.Put))<|zq ?_
        refine za (decide ((x0.Delta.Put.length : Int) ≤ 16)) ?_ ?_
        ·refine zq<|zq<|zp (iv (x0.Delta.Drop.length : Int)) (et_ (ZU (P := PP) (t := 77) (d := 3) (by kernel_rfl) (eI .i64) (shrO (shrO z7)) x0.Delta.Drop))<|zq ?_
         refine za (decide ((x0.Delta.Drop.length : Int) ≤ 16)) ?_ ?_
         ·refine zq<|zq<|zi fun r8 hr8 => ?_
          obtain ⟨_, er8, _, rfl⟩ := Z9i x0.Delta.Put .sh r8 hr8
          refine zc [] (bv r8) [(Zk x0 z9 z7), (Zo x0.Delta (shrO z9) (shrO z7))] er8<|zq ?_
          refine za (!r8) ?_ ?_
          ·refine zq<|zq<|zi fun r9 hr9 => ?_
           obtain ⟨_, er9, _, rfl⟩ := Z9L x0.Delta.Drop .sh r9 hr9
           refine zc [] (bv r9) [(Zk x0 z9 z7), (Zo x0.Delta (shrO z9) (shrO z7))] er9<|zq ?_
           exact zr ((bv (!r9)), [(Zk x0 z9 z7), (Zo x0.Delta (shrO z9) (shrO z7))]) ⟨_, rfl⟩
          ·exact zr ((bv false), [(Zk x0 z9 z7), (Zo x0.Delta (shrO z9) (shrO z7))]) ⟨_, rfl⟩
         ·exact zr ((bv false), [(Zk x0 z9 z7), (Zo x0.Delta (shrO z9) (shrO z7))]) ⟨_, rfl⟩
        ·exact zr ((bv false), [(Zk x0 z9 z7), (Zo x0.Delta (shrO z9) (shrO z7))]) ⟨_, rfl⟩
       ·exact zr ((bv false), [(Zk x0 z9 z7), (Zo x0.Delta (shrO z9) (shrO z7))]) ⟨_, rfl⟩
      ·exact zr ((bv false), [(Zk x0 z9 z7), (Zo x0.Delta (shrO z9) (shrO z7))]) ⟨_, rfl⟩
     ·exact zr ((bv false), [(Zk x0 z9 z7), (Zo x0.Delta (shrO z9) (shrO z7))]) ⟨_, rfl⟩
    ·exact zr ((bv false), [(Zk x0 z9 z7), (Zo x0.Delta (shrO z9) (shrO z7))]) ⟨_, rfl⟩
   ·exact zr ((bv false), [(Zk x0 z9 z7), (Zo x0.Delta (shrO z9) (shrO z7))]) ⟨_, rfl⟩
  ·exact zr ((bv false), [(Zk x0 z9 z7), (Zo x0.Delta (shrO z9) (shrO z7))]) ⟨_, rfl⟩
 ·exact zr ((bv false), [(Zk x0 z9 z7), (Zo x0.Delta (shrO z9) (shrO z7))]) ⟨_, rfl⟩
theorem ZeS x0 {r} (h : Z6x x0 = some r) : Z6G x0 = some r :=
 ZN (fun _ _ ha hb => ru_ ZK (ha .ex .ex) (hb .ex .ex)) (fun z9 z7 => Zej x0 z9 z7 r h)
def Z9u (x0 x1 : Int) : Option Bool :=
 if (decide (x1 ≤ x0)) = true then
 (some (decide (x0 ≤ 1099511627776)))
 else
 (some false)
theorem ZhZ x0 x1 : Sim Z6 (Z9u x0 x1) (EE 60 [(iv x0), (iv x1)] []) := by
 unfold Z9u
 refine zf (Zwm ..)<|ze<|ze<|zq ?_
 refine za (decide (x1 ≤ x0)) ?_ ?_
 ·refine zq ?_
  exact zr ((bv (decide (x0 ≤ 1099511627776))), []) ⟨_, rfl⟩
 ·exact zr ((bv false), []) ⟨_, rfl⟩
theorem Ziv x0 x1 {r} (h : Z9u x0 x1 = some r) : Z2H x0 x1 = some r :=
 ZN (fun _ _ ha hb => ru_ ZK ha hb) (ZhZ x0 x1 r h)
def Z31 (x0 : List Z4) : Option Bool :=
 (Z3F x0).bind fun r1 =>
 some (decide (0 ≤ r1))
theorem Z94 (x0 : List Z4) ox0 : Sim Z6 (Z31 x0) (EE 61 [(Zh ox0 (x0.map Z2)), (.clo 62 [] [])] []) := by
 unfold Z31
 refine zf (Zwn ..)<|ze<|ze<|zi fun r1 hr1 => ?_
 obtain ⟨_, er1, _, rfl⟩ := ZaD x0 .sh r1 hr1
 refine zc [] (iv r1) [] er1<|zq ?_
 exact zr ((bv (decide (0 ≤ r1))), []) ⟨_, rfl⟩
theorem Z9h x0 {r} (h : Z31 x0 = some r) : Z36 x0 = some r :=
 ZN (fun _ _ ha hb => ru_ ZK (ha .ex) (hb .ex)) (fun ox0 => Z94 x0 ox0 r h)
def Z3E (x0 : List Z4) : Option Int :=
 Z2k x0 (x0.length : Int) 0
theorem Zab (x0 : List Z4) ox0 : Sim Ze (Z3E x0) (EE 80 [(Zh ox0 (x0.map Z2)), (.clo 62 [] [])] []) := by
 unfold Z3E
 refine zf (ZwF ..)<|ze<|ze<|zp (iv (x0.length : Int)) (et_ (ZU (P := PP) (t := 49) (d := 104) (by kernel_rfl) Z2 (shrO ox0) x0)) ?_
 exact zk (Z5O x0 (x0.length : Int) 0 ox0)
theorem ZaC x0 {r} (h : Z3E x0 = some r) : Z3F x0 = some r :=
 ZN (fun _ _ ha hb => ru_ Z1e (ha .ex) (hb .ex)) (fun ox0 => Zab x0 ox0 r h)
def Z32 (x0 : List Z4) (x7 x8 : Int) : Option Int :=
 Z2k x0 x7 (IntKind.i64.wrap (x8 + 1))
theorem Z97 (x0 : List Z4) x7 x8 ox0 : Sim Ze (Z32 x0 x7 x8) (Znn 0 (Zh ox0 (x0.map Z2)) (.clo 62 [] []) (iv x7) (iv x8) []) := by
 unfold Z32
 refine zf (ZsB ..)<|ze<|zq ?_
 exact zk (Z5O x0 x7 (IntKind.i64.wrap (x8 + 1)) ox0)
def Z2i (x0 : List Z4) (x7 x8 : Int) : Option Int :=
 (lget x0 x8).bind fun a1 =>
 (Z5I a1).bind fun r2 =>
 if r2 = true then
 (some x8)
 else
 (Z32 x0 x7 x8)
theorem Z96 (x0 : List Z4) x7 x8 ox0 : Sim Ze (Z2i x0 x7 x8) (Znm 0 (Zh ox0 (x0.map Z2)) (.clo 62 [] []) (iv x7) (iv x8) []) := by
 unfold Z2i
 refine zf (ZsA ..)<|ze<|ze<|zi fun a1 ha1 => zp (.cptr (ZJ a1)) (et_ (Z1h (o := (shrO ox0)) (k := .i64) (n := 5) (e := Z2) (cs := Z1o) (fun _ => rfl) (fun _ => rfl) (by decide) ha1))<|zq<|zi fun r2 hr2 => ?_
 obtain ⟨_, er2, _, rfl⟩ := ZdP a1 r2 hr2
 refine zv [] (bv r2) [] er2 ?_
 refine za r2 ?_ ?_
 ·refine ze ?_
  exact zr ((iv x8), []) ⟨_, rfl⟩
 ·exact zk (Z97 x0 x7 x8 ox0)
def Z4j : Option Int :=
 some (-1)
theorem Z98 : Sim Ze Z4j (Zno 0 []) := by
 unfold Z4j
 refine zf (ZsC ..)<|ze ?_
 exact zr ((iv (-1)), []) ⟨_, rfl⟩
def Z1P (x0 : List Z4) (x7 x8 : Int) : Option Int :=
 if (decide (x8 < x7)) = true then
 (Z2i x0 x7 x8)
 else
 Z4j
theorem Z95 (x0 : List Z4) x7 x8 ox0 : Sim Ze (Z1P x0 x7 x8) (Zha 0 (Zh ox0 (x0.map Z2)) (.clo 62 [] []) (iv x7) (iv x8) []) := by
 unfold Z1P
 refine zf (Zsz ..)<|ze<|zq ?_
 refine za (decide (x8 < x7)) ?_ ?_
 ·exact zk (Z96 x0 x7 x8 ox0)
 ·exact zk Z98
theorem Z3O x0 x7 x8 {r} (h : Z1P x0 x7 x8 = some r) : Z2k x0 x7 x8 = some r :=
 ZN (fun _ _ ha hb => ru_ Z1e (ha .ex) (hb .ex)) (fun ox0 => Z95 x0 x7 x8 ox0 r h)
def Z5A (x0 : Z4) : Option Bool :=
 (Z73 x0).bind fun r1 =>
 some (!r1)
theorem Zdu x0 : Sim Z6 (Z5A x0) (EE 62 [(pA_ (ZJ x0))] []) := by
 unfold Z5A
 refine zf (Zwo ..)<|ze<|zx (.ptr 0 0) [(ZG x0)]<|ze<|zq<|zi fun r1 hr1 => ?_
 obtain ⟨_, er1, _, rfl⟩ := ZfL x0 r1 hr1
 refine zc [] (bv r1) [(ZG x0)] er1<|zq ?_
 exact zr ((bv (!r1)), [(ZG x0)]) ⟨_, rfl⟩
theorem ZdO x0 {r} (h : Z5A x0 = some r) : Z5I x0 = some r :=
 ZN (fun _ _ ha hb => ru_ ZK ha hb) (Zdu x0 r h)
def Z72 (x0 : Z4) : Option Bool :=
 if (decide (1 ≤ x0.ID)) = true then
 (if (decide (x0.ID ≤ 1099511627776)) = true then
 (if (decide (0 ≤ x0.Priority)) = true then
 (if (decide (x0.Priority ≤ 1000)) = true then
 (if (decide (0 ≤ x0.Action)) = true then
 (if (decide (x0.Action ≤ 255)) = true then
 (if (decide (1 ≤ x0.Scope)) = true then
 (if (decide (x0.Scope ≤ 65535)) = true then
 (some (decide ((x0.Pattern.size : Int) ≤ 256)))
 else
 (some false))
 else
 (some false))
 else
 (some false))
 else
 (some false))
 else
 (some false))
 else
 (some false))
 else
 (some false))
 else
 (some false)
theorem ZeY x0 : Sim Z6 (Z72 x0) (EE 63 [(pA_ (ZJ x0))] []) := by
 unfold Z72
 refine zf (Zwp ..)<|ze<|zx (.ptr 0 0) [(ZG x0)]<|ze<|zq<|zq<|zq ?_
 refine za (decide (1 ≤ x0.ID)) ?_ ?_
 ·refine zq<|zq<|zq ?_
  refine za (decide (x0.ID ≤ 1099511627776)) ?_ ?_
  ·refine zq<|zq<|zq ?_
   refine za (decide (0 ≤ x0.Priority)) ?_ ?_
   ·refine zq<|zq<|zq ?_
    refine za (decide (x0.Priority ≤ 1000)) ?_ ?_
    ·refine zq<|zq<|zq ?_
     refine za (decide (0 ≤ x0.Action)) ?_ ?_
     ·refine zq<|zq<|zq ?_
      refine za (decide (x0.Action ≤ 255)) ?_ ?_
      ·refine zq<|zq<|zq ?_
       refine za (decide (1 ≤ x0.Scope)) ?_ ?_
       ·refine zq<|zq<|zq ?_
        refine za (decide (x0.Scope ≤ 65535)) ?_ ?_
        ·refine zq<|zq<|zq<|zq ?_
         exact zr ((bv (decide ((x0.Pattern.size : Int) ≤ 256))), [(ZG x0)]) ⟨_, rfl⟩
        ·exact zr ((bv false), [(ZG x0)]) ⟨_, rfl⟩
       ·exact zr ((bv false), [(ZG x0)]) ⟨_, rfl⟩
      ·exact zr ((bv false), [(ZG x0)]) ⟨_, rfl⟩
     ·exact zr ((bv false), [(ZG x0)]) ⟨_, rfl⟩
    ·exact zr ((bv false), [(ZG x0)]) ⟨_, rfl⟩
   ·exact zr ((bv false), [(ZG x0)]) ⟨_, rfl⟩
  ·exact zr ((bv false), [(ZG x0)]) ⟨_, rfl⟩
 ·exact zr ((bv false), [(ZG x0)]) ⟨_, rfl⟩
theorem ZfK x0 {r} (h : Z72 x0 = some r) : Z73 x0 = some r :=
 ZN (fun _ _ ha hb => ru_ ZK ha hb) (ZeY x0 r h)
def Z39 (x0 : List Int) : Option Bool :=
 (Z3V x0).bind fun r1 =>
 some (decide (0 ≤ r1))
theorem Z9j (x0 : List Int) ox0 : Sim Z6 (Z39 x0) (EE 64 [(Zh ox0 (x0.map (eI .i64))), (.clo 65 [] [])] []) := by
 unfold Z39
 refine zf (Zwq ..)<|ze<|ze<|zi fun r1 hr1 => ?_
 obtain ⟨_, er1, _, rfl⟩ := Zb0 x0 .sh r1 hr1
 refine zc [] (iv r1) [] er1<|zq ?_
 exact zr ((bv (decide (0 ≤ r1))), []) ⟨_, rfl⟩
theorem Z9K x0 {r} (h : Z39 x0 = some r) : Z3d x0 = some r :=
 ZN (fun _ _ ha hb => ru_ ZK (ha .ex) (hb .ex)) (fun ox0 => Z9j x0 ox0 r h)
def Z3S (x0 : List Int) : Option Int :=
 Z2t x0 (x0.length : Int) 0
theorem ZaE (x0 : List Int) ox0 : Sim Ze (Z3S x0) (EE 81 [(Zh ox0 (x0.map (eI .i64))), (.clo 65 [] [])] []) := by
 unfold Z3S
 refine zf (ZwH ..)<|ze<|ze<|zp (iv (x0.length : Int)) (et_ (ZU (P := PP) (t := 77) (d := 3) (by kernel_rfl) (eI .i64) (shrO ox0) x0)) ?_
 exact zk (Z68 x0 (x0.length : Int) 0 ox0)
theorem ZaZ x0 {r} (h : Z3S x0 = some r) : Z3V x0 = some r :=
 ZN (fun _ _ ha hb => ru_ Z1e (ha .ex) (hb .ex)) (fun ox0 => ZaE x0 ox0 r h)
def Z3a (x0 : List Int) (x7 x8 : Int) : Option Int :=
 Z2t x0 x7 (IntKind.i64.wrap (x8 + 1))
theorem Z9m (x0 : List Int) x7 x8 ox0 : Sim Ze (Z3a x0 x7 x8) (Znt 0 (Zh ox0 (x0.map (eI .i64))) (.clo 65 [] []) (iv x7) (iv x8) []) := by
 unfold Z3a
 refine zf (ZsH ..)<|ze<|zq ?_
 exact zk (Z68 x0 x7 (IntKind.i64.wrap (x8 + 1)) ox0)
def Z2s (x0 : List Int) (x7 x8 : Int) : Option Int :=
 (lget x0 x8).bind fun a1 =>
 (Z5J a1).bind fun r2 =>
 if r2 = true then
 (some x8)
 else
 (Z3a x0 x7 x8)
theorem Z9l (x0 : List Int) x7 x8 ox0 : Sim Ze (Z2s x0 x7 x8) (Zns 0 (Zh ox0 (x0.map (eI .i64))) (.clo 65 [] []) (iv x7) (iv x8) []) := by
 unfold Z2s
 refine zf (ZsG ..)<|ze<|ze<|zi fun a1 ha1 => zp (.cptr [(.v (.int .i64 a1))]) (et_ (Z1h (o := (shrO ox0)) (k := .i64) (n := 1) (e := (eI .i64)) (cs := (fun a => [(eI .i64) a])) (fun _ => rfl) (fun _ => rfl) (by decide) ha1))<|zq<|zi fun r2 hr2 => ?_
 obtain ⟨_, er2, _, rfl⟩ := ZdR a1 r2 hr2
 refine zv [] (bv r2) [] er2 ?_
 refine za r2 ?_ ?_
 ·refine ze ?_
  exact zr ((iv x8), []) ⟨_, rfl⟩
 ·exact zk (Z9m x0 x7 x8 ox0)
def Z4r : Option Int :=
 some (-1)
theorem Z9n : Sim Ze Z4r (Znu 0 []) := by
 unfold Z4r
 refine zf (ZsI ..)<|ze ?_
 exact zr ((iv (-1)), []) ⟨_, rfl⟩
def Z1T (x0 : List Int) (x7 x8 : Int) : Option Int :=
 if (decide (x8 < x7)) = true then
 (Z2s x0 x7 x8)
 else
 Z4r
theorem Z9k (x0 : List Int) x7 x8 ox0 : Sim Ze (Z1T x0 x7 x8) (Zhb 0 (Zh ox0 (x0.map (eI .i64))) (.clo 65 [] []) (iv x7) (iv x8) []) := by
 unfold Z1T
 refine zf (ZsF ..)<|ze<|zq ?_
 refine za (decide (x8 < x7)) ?_ ?_
 ·exact zk (Z9l x0 x7 x8 ox0)
 ·exact zk Z9n
theorem Z3X x0 x7 x8 {r} (h : Z1T x0 x7 x8 = some r) : Z2t x0 x7 x8 = some r :=
 ZN (fun _ _ ha hb => ru_ Z1e (ha .ex) (hb .ex)) (fun ox0 => Z9k x0 x7 x8 ox0 r h)
def Z5B (x0 : Int) : Option Bool :=
 (Z2H x0 1).bind fun r1 =>
 some (!r1)
theorem Zdv x0 : Sim Z6 (Z5B x0) (EE 65 [(iv x0)] []) := by
 unfold Z5B
 refine zf (Zwr ..)<|ze<|ze<|zi fun r1 hr1 => ?_
 obtain ⟨_, er1, _, rfl⟩ := Z3h x0 1 r1 hr1
 refine zc [] (bv r1) [] er1<|zq ?_
 exact zr ((bv (!r1)), []) ⟨_, rfl⟩
theorem ZdQ x0 {r} (h : Z5B x0 = some r) : Z5J x0 = some r :=
 ZN (fun _ _ ha hb => ru_ ZK ha hb) (Zdv x0 r h)
def Zag (x0 : Z0) : Option (List Z8) :=
 (lsl x0.Log 0 x0.Commit).bind fun a1 =>
 some a1
theorem Zit x0 zl : Sim Zac (Zag x0) (EE 30 [(pA_ (Zv x0 zl))] []) := by
 unfold Zag
 refine zf (ZvM ..)<|ze<|zx (.ptr 0 0) [(Zd x0 zl)]<|ze<|zq<|zq<|zq<|zq<|zi fun a1 ha1 => zp (Zh (slO (shrO zl)) (a1.map Za)) (Eq.trans (by kernel_rfl) <| Zci (n := 9) (o := (shrO zl)) (lo := none) (hi := (some (iv x0.Commit))) (e := Za) (fun _ => rfl) (by decide) (by kernel_rfl) (by kernel_rfl) ha1) ?_
 exact zr ((Zh .sh (a1.map Za)), [(Zd x0 zl)]) ⟨_, rfl⟩
theorem ZjG x0 {r} (h : Zag x0 = some r) : Z7b x0 = some r :=
 ZN (fun _ _ ha hb => ru_ Zkf (ha .ex) (hb .ex)) (fun zl => Zit x0 zl r h)
def Z8A (x0 x1 : List Z8) : Option Bool :=
 (lsl x0 0 (min (x0.length : Int) (x1.length : Int))).bind fun a1 =>
 (lsl x1 0 (min (x0.length : Int) (x1.length : Int))).bind fun a2 =>
 (Z9g a1 a2).bind fun r3 =>
 some r3
theorem Zhe (x0 x1 : List Z8) ox0 ox1 : Sim Z6 (Z8A x0 x1) (EE 29 [(Zh ox0 (x0.map Za)), (Zh ox1 (x1.map Za))] []) := by
 unfold Z8A
 refine zf (ZvL ..)<|ze<|ze<|zp (iv (x0.length : Int)) (et_ (ZU (P := PP) (t := 37) (d := 81) (by kernel_rfl) Za (shrO ox0) x0))<|zp (iv (x1.length : Int)) (et_ (ZU (P := PP) (t := 37) (d := 81) (by kernel_rfl) Za (shrO ox1) x1))<|zp (iv (min (x0.length : Int) (x1.length : Int))) (Zo7 _ _)<|ze<|zi fun a1 ha1 => zp (Zh (slO (shrO ox0)) (a1.map Za)) (Eq.trans (by kernel_rfl) <| Zci (n := 9) (o := (shrO ox0)) (lo := none) (hi := (some (iv (min (x0.length : Int) (x1.length : Int))))) (e := Za) (fun _ => rfl) (by decide) (by kernel_rfl) (by kernel_rfl) ha1)<|zi fun a2 ha2 => zp (Zh (slO (shrO ox1)) (a2.map Za)) (Eq.trans (by kernel_rfl) <| Zci (n := 9) (o := (shrO ox1)) (lo := none) (hi := (some (iv (min (x0.length : Int) (x1.length : Int))))) (e := Za) (fun _ => rfl) (by decide) (by kernel_rfl) (by kernel_rfl) ha2)<|zi fun r3 hr3 => ?_
 obtain ⟨_, er3, _, rfl⟩ := ZeU a1 a2 .sh .sh r3 hr3
 refine zc [] (bv r3) [] er3 ?_
 exact zr ((bv r3), []) ⟨_, rfl⟩
theorem ZhW x0 x1 {r} (h : Z8A x0 x1 = some r) : Z8F x0 x1 = some r :=
 ZN (fun _ _ ha hb => ru_ ZK (ha .ex .ex) (hb .ex .ex)) (fun ox0 ox1 => Zhe x0 x1 ox0 ox1 r h)
def ZbC (x0 x1 : List Z8) : Option Bool :=
 (Z3s x0 x1).bind fun r1 =>
 some r1
theorem ZjH (x0 x1 : List Z8) ox0 ox1 : Sim Z6 (ZbC x0 x1) (EE 34 [(Zh ox0 (x0.map Za)), (Zh ox1 (x1.map Za))] []) := by
 unfold ZbC
 refine zf (ZvQ ..)<|ze<|ze<|zi fun r1 hr1 => ?_
 obtain ⟨_, er1, _, rfl⟩ := Za8 x0 x1 .sh .sh r1 hr1
 refine zc [] (bv r1) [] er1 ?_
 exact zr ((bv r1), []) ⟨_, rfl⟩
theorem ZkH x0 x1 {r} (h : ZbC x0 x1 = some r) : Z9g x0 x1 = some r :=
 ZN (fun _ _ ha hb => ru_ ZK (ha .ex .ex) (hb .ex .ex)) (fun ox0 ox1 => ZjH x0 x1 ox0 ox1 r h)
def Z2N (x0 x1 : List Z8) : Option Bool :=
 Z29 x1 x0 (x0.length : Int) 0
theorem Z8I (x0 x1 : List Z8) ox0 ox1 : Sim Z6 (Z2N x0 x1) (ZmK 0 (Zh ox0 (x0.map Za)) (Zh ox1 (x1.map Za)) (.clo 52 [] []) []) := by
 unfold Z2N
 refine zf (ZrP ..)<|ze<|zp (iv (x0.length : Int)) (et_ (ZU (P := PP) (t := 37) (d := 81) (by kernel_rfl) Za (shrO ox0) x0)) ?_
 exact zk (Z5t x1 x0 (x0.length : Int) 0 ox1 (shrO ox0))
def Z3o (x0 x1 : List Z8) : Option Bool :=
 if ((x0.length : Int) != (x1.length : Int)) = true then
 (some false)
 else
 (Z2N x0 x1)
theorem Z9M (x0 x1 : List Z8) ox0 ox1 : Sim Z6 (Z3o x0 x1) (EE 51 [(Zh ox0 (x0.map Za)), (Zh ox1 (x1.map Za)), (.clo 52 [] [])] []) := by
 unfold Z3o
 refine zf (Zwc ..)<|ze<|ze<|zp (iv (x0.length : Int)) (et_ (ZU (P := PP) (t := 37) (d := 81) (by kernel_rfl) Za (shrO ox0) x0))<|zp (iv (x1.length : Int)) (et_ (ZU (P := PP) (t := 37) (d := 81) (by kernel_rfl) Za (shrO ox1) x1))<|zq ?_
 refine za ((x0.length : Int) != (x1.length : Int)) ?_ ?_
 ·refine ze ?_
  exact zr ((bv false), []) ⟨_, rfl⟩
 ·exact zk (Z8I x0 x1 ox0 ox1)
theorem Za7 x0 x1 {r} (h : Z3o x0 x1 = some r) : Z3s x0 x1 = some r :=
 ZN (fun _ _ ha hb => ru_ ZK (ha .ex .ex) (hb .ex .ex)) (fun ox0 ox1 => Z9M x0 x1 ox0 ox1 r h)
def Z2P (x1 x15 : List Z8) (x16 x17 : Int) : Option Bool :=
 Z29 x1 x15 x16 (IntKind.i64.wrap (x17 + 1))
theorem Z8K (x1 x15 : List Z8) x16 x17 ox1 ox15 : Sim Z6 (Z2P x1 x15 x16 x17) (ZmM 0 (Zh ox1 (x1.map Za)) (.clo 52 [] []) (Zh ox15 (x15.map Za)) (iv x16) (iv x17) []) := by
 unfold Z2P
 refine zf (ZrR ..)<|ze<|zq ?_
 exact zk (Z5t x1 x15 x16 (IntKind.i64.wrap (x17 + 1)) ox1 ox15)
def Z2O (x1 x15 : List Z8) (x16 x17 : Int) : Option Bool :=
 (lget x15 x17).bind fun a1 =>
 (lget x1 x17).bind fun a2 =>
 (ZbH a1 a2).bind fun r3 =>
 if (!r3) = true then
 (some false)
 else
 (Z2P x1 x15 x16 x17)
theorem Z8J (x1 x15 : List Z8) x16 x17 ox1 ox15 : Sim Z6 (Z2O x1 x15 x16 x17) (ZmL 0 (Zh ox1 (x1.map Za)) (.clo 52 [] []) (Zh ox15 (x15.map Za)) (iv x16) (iv x17) []) := by
 unfold Z2O
 refine zf (ZrQ ..)<|ze<|zi fun a1 ha1 => zp (.cptr (Z17 a1 .sh .sh)) (et_ (Z1h (o := ox15) (k := .i64) (n := 9) (e := Za) (cs := Z3l) (fun _ => rfl) (fun _ => rfl) (by decide) ha1))<|zq<|zz (.ptr 0 0) [(Zk Zo9 .nl .nl)]<|zt [(Zk a1 .sh .sh)]<|ze<|zi fun a2 ha2 => zp (.cptr (Z17 a2 .sh .sh)) (et_ (Z1h (o := (shrO ox1)) (k := .i64) (n := 9) (e := Za) (cs := Z3l) (fun _ => rfl) (fun _ => rfl) (by decide) ha2))<|zq<|zz (.ptr 1 0) [(Zk a1 .sh .sh), (Zk Zo9 .nl .nl)]<|zt [(Zk a1 .sh .sh), (Zk a2 .sh .sh)]<|ze<|zq<|zq<|zi fun r3 hr3 => ?_
 obtain ⟨_, er3, _, rfl⟩ := ZkJ a1 a2 .sh .sh .sh .sh r3 hr3
 refine zv [] (bv r3) [(Zk a1 .sh .sh), (Zk a2 .sh .sh)] er3<|zq ?_
 refine za (!r3) ?_ ?_
 ·refine ze ?_
  exact zr ((bv false), [(Zk a1 .sh .sh), (Zk a2 .sh .sh)]) ⟨_, rfl⟩
 ·exact zk (Z8K x1 x15 x16 x17 ox1 ox15)
def Z2D : Option Bool :=
 some true
theorem Z8m : Sim Z6 Z2D (Zkz 0 []) := by
 unfold Z2D
 refine zf (ZpE ..)<|ze ?_
 exact zr ((bv true), []) ⟨_, rfl⟩
def Z27 (x1 x15 : List Z8) (x16 x17 : Int) : Option Bool :=
 if (decide (x17 < x16)) = true then
 (Z2O x1 x15 x16 x17)
 else
 Z2D
theorem Z8H (x1 x15 : List Z8) x16 x17 ox1 ox15 : Sim Z6 (Z27 x1 x15 x16 x17) (ZgV 0 (Zh ox1 (x1.map Za)) (.clo 52 [] []) (Zh ox15 (x15.map Za)) (iv x16) (iv x17) []) := by
 unfold Z27
 refine zf (ZrO ..)<|ze<|zq ?_
 refine za (decide (x17 < x16)) ?_ ?_
 ·exact zk (Z8J x1 x15 x16 x17 ox1 ox15)
 ·exact zk Z8m
theorem Z5s x1 x15 x16 x17 {r} (h : Z27 x1 x15 x16 x17 = some r) : Z29 x1 x15 x16 x17 = some r :=
 ZN (fun _ _ ha hb => ru_ ZK (ha .ex .ex) (hb .ex .ex)) (fun ox1 ox15 => Z8H x1 x15 x16 x17 ox1 ox15 r h)
def ZbD (x0 x1 : Z8) : Option Bool :=
 if (x0.View == x1.View) = true then
 (if (x0.Client == x1.Client) = true then
 (if (x0.Request == x1.Request) = true then
 (if (x0.Delta.Default == x1.Delta.Default) = true then
 (if (x0.Delta.Closed == x1.Delta.Closed) = true then
 (if (x0.Delta.Fuel == x1.Delta.Fuel) = true then
 (if (x0.Delta.Stack == x1.Delta.Stack) = true then
 ((Z6l x0.Delta.Put x1.Delta.Put).bind fun r1 =>
 if r1 = true then
 ((Z6J x0.Delta.Drop x1.Delta.Drop).bind fun r2 =>
 some r2)
 else
 (some false))
 else
 (some false))
 else
 (some false))
 else
 (some false))
 else
 (some false))
 else
 (some false))
 else
 (some false))
 else
 (some false)
theorem ZjI x0 x1 z9 z7 zO zL : Sim Z6 (ZbD x0 x1) (EE 52 [(pA_ (Z17 x0 z9 z7)), (pA_ (Z17 x1 zO zL))] []) := by
 unfold ZbD
 refine zf (Zwe ..)<|ze<|zx (.ptr 0 0) [(Zk x0 z9 z7)]<|zx (.ptr 1 0) [(Zk x0 z9 z7), (Zk x1 zO zL)]<|ze<|zq<|zq<|zq<|zq<|zz (.ptr 2 0) [(Zk x0 z9 z7), (Zk x1 zO zL), (Zo Zo8 .nl .nl)]<|zz (.ptr 3 0) [(Zk x0 z9 z7), (Zk x1 zO zL), (Zo Zo8 .nl .nl), (Zo Zo8 .nl .nl)]<|zt [(Zk x0 z9 z7), (Zk x1 zO zL), (Zo x0.Delta (shrO z9) (shrO z7)), (Zo Zo8 .nl .nl)]<|zt [(Zk x0 z9 z7), (Zk x1 zO zL), (Zo x0.Delta (shrO z9) (shrO z7)), (Zo x1.Delta (shrO zO) (shrO zL))]<|zg<|zg<|zg<|zg<|zg<|ze<|zq<|zq<|zq<|zq<|zq ?_
 refine za (x0.View == x1.View) ?_ ?_
 ·refine zq<|zq<|zq<|zq<|zq ?_
  refine za (x0.Client == x1.Client) ?_ ?_
  ·refine zq<|zq<|zq<|zq<|zq ?_
   refine za (x0.Request == x1.Request) ?_ ?_
   ·refine zq<|zq<|zq<|zq<|zq ?_
    refine za (x0.Delta.Default == x1.Delta.Default) ?_ ?_
    ·refine zq<|zq<|zq<|zq<|zq ?_
     refine za (x0.Delta.Closed == x1.Delta.Closed) ?_ ?_
     ·refine zq<|zq<|zq<|zq<|zq ?_
      refine za (x0.Delta.Fuel == x1.Delta.Fuel) ?_ ?_
      ·refine zq<|zq<|zq<|zq<|zq ?_
       refine za (x0.Delta.Stack == x1.Delta.Stack) ?_ ?_
       ·refine zq<|zq<|zq<|zq<|zi fun r1 hr1 => ?_
        obtain ⟨_, er1, _, rfl⟩ := Zer x0.Delta.Put x1.Delta.Put .sh .sh r1 hr1
        refine zc [] (bv r1) [(Zk x0 z9 z7), (Zk x1 zO zL), (Zo x0.Delta (shrO z9) (shrO z7)), (Zo x1.Delta (shrO zO) (shrO zL))] er1 ?_
        refine za r1 ?_ ?_
        ·refine zq<|zq<|zq<|zq<|zi fun r2 hr2 => ?_
         obtain ⟨_, er2, _, rfl⟩ := Zf1 x0.Delta.Drop x1.Delta.Drop .sh .sh r2 hr2
         refine zc [] (bv r2) [(Zk x0 z9 z7), (Zk x1 zO zL), (Zo x0.Delta (shrO z9) (shrO z7)), (Zo x1.Delta (shrO zO) (shrO zL))] er2 ?_
         exact zr ((bv r2), [(Zk x0 z9 z7), (Zk x1 zO zL), (Zo x0.Delta (shrO z9) (shrO z7)), (Zo x1.Delta (shrO zO) (shrO zL))]) ⟨_, rfl⟩
        ·exact zr ((bv false), [(Zk x0 z9 z7), (Zk x1 zO zL), (Zo x0.Delta (shrO z9) (shrO z7)), (Zo x1.Delta (shrO zO) (shrO zL))]) ⟨_, rfl⟩
       ·exact zr ((bv false), [(Zk x0 z9 z7), (Zk x1 zO zL), (Zo x0.Delta (shrO z9) (shrO z7)), (Zo x1.Delta (shrO zO) (shrO zL))]) ⟨_, rfl⟩
      ·exact zr ((bv false), [(Zk x0 z9 z7), (Zk x1 zO zL), (Zo x0.Delta (shrO z9) (shrO z7)), (Zo x1.Delta (shrO zO) (shrO zL))]) ⟨_, rfl⟩
     ·exact zr ((bv false), [(Zk x0 z9 z7), (Zk x1 zO zL), (Zo x0.Delta (shrO z9) (shrO z7)), (Zo x1.Delta (shrO zO) (shrO zL))]) ⟨_, rfl⟩
    ·exact zr ((bv false), [(Zk x0 z9 z7), (Zk x1 zO zL), (Zo x0.Delta (shrO z9) (shrO z7)), (Zo x1.Delta (shrO zO) (shrO zL))]) ⟨_, rfl⟩
   ·exact zr ((bv false), [(Zk x0 z9 z7), (Zk x1 zO zL), (Zo x0.Delta (shrO z9) (shrO z7)), (Zo x1.Delta (shrO zO) (shrO zL))]) ⟨_, rfl⟩
  ·exact zr ((bv false), [(Zk x0 z9 z7), (Zk x1 zO zL), (Zo x0.Delta (shrO z9) (shrO z7)), (Zo x1.Delta (shrO zO) (shrO zL))]) ⟨_, rfl⟩
 ·exact zr ((bv false), [(Zk x0 z9 z7), (Zk x1 zO zL), (Zo x0.Delta (shrO z9) (shrO z7)), (Zo x1.Delta (shrO zO) (shrO zL))]) ⟨_, rfl⟩
theorem ZkI x0 x1 {r} (h : ZbD x0 x1 = some r) : ZbH x0 x1 = some r :=
 ZN (fun _ _ ha hb => ru_ ZK (ha .ex .ex .ex .ex) (hb .ex .ex .ex .ex)) (fun z9 z7 zO zL => ZjI x0 x1 z9 z7 zO zL r h)
def Z4Y (x0 x1 : List Z4) : Option Bool :=
 Z3N x0 x1 (x0.length : Int) 0
theorem ZcE (x0 x1 : List Z4) ox0 ox1 : Sim Z6 (Z4Y x0 x1) (Znb 0 (Zh ox0 (x0.map Z2)) (Zh ox1 (x1.map Z2)) []) := by
 unfold Z4Y
 refine zf (Zsm ..)<|ze<|zp (iv (x0.length : Int)) (et_ (ZU (P := PP) (t := 49) (d := 104) (by kernel_rfl) Z2 (shrO ox0) x0)) ?_
 exact zk (Z8e x0 x1 (x0.length : Int) 0 ox0 ox1)
def Z6h (x0 x1 : List Z4) : Option Bool :=
 if ((x0.length : Int) != (x1.length : Int)) = true then
 (some false)
 else
 (Z4Y x0 x1)
theorem ZdU (x0 x1 : List Z4) ox0 ox1 : Sim Z6 (Z6h x0 x1) (EE 69 [(Zh ox0 (x0.map Z2)), (Zh ox1 (x1.map Z2))] []) := by
 unfold Z6h
 refine zf (ZwA ..)<|ze<|ze<|zp (iv (x0.length : Int)) (et_ (ZU (P := PP) (t := 49) (d := 104) (by kernel_rfl) Z2 (shrO ox0) x0))<|zp (iv (x1.length : Int)) (et_ (ZU (P := PP) (t := 49) (d := 104) (by kernel_rfl) Z2 (shrO ox1) x1))<|zq ?_
 refine za ((x0.length : Int) != (x1.length : Int)) ?_ ?_
 ·refine ze ?_
  exact zr ((bv false), []) ⟨_, rfl⟩
 ·exact zk (ZcE x0 x1 ox0 ox1)
theorem Zeq x0 x1 {r} (h : Z6h x0 x1 = some r) : Z6l x0 x1 = some r :=
 ZN (fun _ _ ha hb => ru_ ZK (ha .ex .ex) (hb .ex .ex)) (fun ox0 ox1 => ZdU x0 x1 ox0 ox1 r h)
def Z50 (x0 x1 : List Z4) (x12 x13 : Int) : Option Bool :=
 Z3N x0 x1 x12 (IntKind.i64.wrap (x13 + 1))
theorem ZcG (x0 x1 : List Z4) x12 x13 ox0 ox1 : Sim Z6 (Z50 x0 x1 x12 x13) (Znd 0 (Zh ox0 (x0.map Z2)) (Zh ox1 (x1.map Z2)) (iv x12) (iv x13) []) := by
 unfold Z50
 refine zf (Zso ..)<|ze<|zq ?_
 exact zk (Z8e x0 x1 x12 (IntKind.i64.wrap (x13 + 1)) ox0 ox1)
def Z4Z (x0 x1 : List Z4) (x12 x13 : Int) : Option Bool :=
 (lget x0 x13).bind fun a1 =>
 (lget x1 x13).bind fun a2 =>
 if ((!((a1.ID == a2.ID) && ((a1.Priority == a2.Priority) && ((a1.Action == a2.Action) && ((a1.Scope == a2.Scope) && ((seq a1.Pattern a2.Pattern) && true))))))) = true then
 (some false)
 else
 (Z50 x0 x1 x12 x13)
theorem ZcF (x0 x1 : List Z4) x12 x13 ox0 ox1 : Sim Z6 (Z4Z x0 x1 x12 x13) (Znc 0 (Zh ox0 (x0.map Z2)) (Zh ox1 (x1.map Z2)) (iv x12) (iv x13) []) := by
 unfold Z4Z
 refine zf (Zsn ..)<|ze<|ze<|zi fun a1 ha1 => zp (.cptr (ZJ a1)) (et_ (Z1h (o := (shrO ox0)) (k := .i64) (n := 5) (e := Z2) (cs := Z1o) (fun _ => rfl) (fun _ => rfl) (by decide) ha1))<|zq<|zi fun a2 ha2 => zp (.cptr (ZJ a2)) (et_ (Z1h (o := (shrO ox1)) (k := .i64) (n := 5) (e := Z2) (cs := Z1o) (fun _ => rfl) (fun _ => rfl) (by decide) ha2))<|zq<|zp (bv (!((a1.ID == a2.ID) && ((a1.Priority == a2.Priority) && ((a1.Action == a2.Action) && ((a1.Scope == a2.Scope) && ((seq a1.Pattern a2.Pattern) && true))))))) (Eq.trans (b := xbin PP .neq 104 (pA_ (ZJ a1)) (pA_ (ZJ a2))) (by kernel_rfl) (Zp4 (by kernel_rfl) (by kernel_rfl) (by kernel_rfl) (by kernel_rfl) (by kernel_rfl))) ?_
 refine za ((!((a1.ID == a2.ID) && ((a1.Priority == a2.Priority) && ((a1.Action == a2.Action) && ((a1.Scope == a2.Scope) && ((seq a1.Pattern a2.Pattern) && true))))))) ?_ ?_
 ·refine ze ?_
  exact zr ((bv false), []) ⟨_, rfl⟩
 ·exact zk (ZcG x0 x1 x12 x13 ox0 ox1)
def Z51 : Option Bool :=
 some true
theorem ZcH : Sim Z6 Z51 (Zne 0 []) := by
 unfold Z51
 refine zf (Zsp ..)<|ze ?_
 exact zr ((bv true), []) ⟨_, rfl⟩
def Z3L (x0 x1 : List Z4) (x12 x13 : Int) : Option Bool :=
 if (decide (x13 < x12)) = true then
 (Z4Z x0 x1 x12 x13)
 else
 Z51
theorem ZcD (x0 x1 : List Z4) x12 x13 ox0 ox1 : Sim Z6 (Z3L x0 x1 x12 x13) (Zh6 0 (Zh ox0 (x0.map Z2)) (Zh ox1 (x1.map Z2)) (iv x12) (iv x13) []) := by
 unfold Z3L
 refine zf (Zsl ..)<|ze<|zq ?_
 refine za (decide (x13 < x12)) ?_ ?_
 ·exact zk (ZcF x0 x1 x12 x13 ox0 ox1)
 ·exact zk ZcH
theorem Z8d x0 x1 x12 x13 {r} (h : Z3L x0 x1 x12 x13 = some r) : Z3N x0 x1 x12 x13 = some r :=
 ZN (fun _ _ ha hb => ru_ ZK (ha .ex .ex) (hb .ex .ex)) (fun ox0 ox1 => ZcD x0 x1 x12 x13 ox0 ox1 r h)
def Z5h (x0 x1 : List Int) : Option Bool :=
 Z40 x0 x1 (x0.length : Int) 0
theorem Zd6 (x0 x1 : List Int) ox0 ox1 : Sim Z6 (Z5h x0 x1) (Zng 0 (Zh ox0 (x0.map (eI .i64))) (Zh ox1 (x1.map (eI .i64))) []) := by
 unfold Z5h
 refine zf (Zst ..)<|ze<|zp (iv (x0.length : Int)) (et_ (ZU (P := PP) (t := 77) (d := 3) (by kernel_rfl) (eI .i64) (shrO ox0) x0)) ?_
 exact zk (Z8o x0 x1 (x0.length : Int) 0 ox0 ox1)
def Z6A (x0 x1 : List Int) : Option Bool :=
 if ((x0.length : Int) != (x1.length : Int)) = true then
 (some false)
 else
 (Z5h x0 x1)
theorem Zes (x0 x1 : List Int) ox0 ox1 : Sim Z6 (Z6A x0 x1) (EE 70 [(Zh ox0 (x0.map (eI .i64))), (Zh ox1 (x1.map (eI .i64)))] []) := by
 unfold Z6A
 refine zf (ZwC ..)<|ze<|ze<|zp (iv (x0.length : Int)) (et_ (ZU (P := PP) (t := 77) (d := 3) (by kernel_rfl) (eI .i64) (shrO ox0) x0))<|zp (iv (x1.length : Int)) (et_ (ZU (P := PP) (t := 77) (d := 3) (by kernel_rfl) (eI .i64) (shrO ox1) x1))<|zq ?_
 refine za ((x0.length : Int) != (x1.length : Int)) ?_ ?_
 ·refine ze ?_
  exact zr ((bv false), []) ⟨_, rfl⟩
 ·exact zk (Zd6 x0 x1 ox0 ox1)
theorem Zf0 x0 x1 {r} (h : Z6A x0 x1 = some r) : Z6J x0 x1 = some r :=
 ZN (fun _ _ ha hb => ru_ ZK (ha .ex .ex) (hb .ex .ex)) (fun ox0 ox1 => Zes x0 x1 ox0 ox1 r h)
def Z5j (x0 x1 : List Int) (x12 x13 : Int) : Option Bool :=
 Z40 x0 x1 x12 (IntKind.i64.wrap (x13 + 1))
theorem Zd8 (x0 x1 : List Int) x12 x13 ox0 ox1 : Sim Z6 (Z5j x0 x1 x12 x13) (Zni 0 (Zh ox0 (x0.map (eI .i64))) (Zh ox1 (x1.map (eI .i64))) (iv x12) (iv x13) []) := by
 unfold Z5j
 refine zf (Zsv ..)<|ze<|zq ?_
 exact zk (Z8o x0 x1 x12 (IntKind.i64.wrap (x13 + 1)) ox0 ox1)
def Z5i (x0 x1 : List Int) (x12 x13 : Int) : Option Bool :=
 (lget x0 x13).bind fun a1 =>
 (lget x1 x13).bind fun a2 =>
 if (a1 != a2) = true then
 (some false)
 else
 (Z5j x0 x1 x12 x13)
theorem Zd7 (x0 x1 : List Int) x12 x13 ox0 ox1 : Sim Z6 (Z5i x0 x1 x12 x13) (Znh 0 (Zh ox0 (x0.map (eI .i64))) (Zh ox1 (x1.map (eI .i64))) (iv x12) (iv x13) []) := by
 unfold Z5i
 refine zf (Zsu ..)<|ze<|ze<|zi fun a1 ha1 => zp (.cptr [(.v (.int .i64 a1))]) (et_ (Z1h (o := (shrO ox0)) (k := .i64) (n := 1) (e := (eI .i64)) (cs := (fun a => [(eI .i64) a])) (fun _ => rfl) (fun _ => rfl) (by decide) ha1))<|zq<|zi fun a2 ha2 => zp (.cptr [(.v (.int .i64 a2))]) (et_ (Z1h (o := (shrO ox1)) (k := .i64) (n := 1) (e := (eI .i64)) (cs := (fun a => [(eI .i64) a])) (fun _ => rfl) (fun _ => rfl) (by decide) ha2))<|zq<|zq ?_
 refine za (a1 != a2) ?_ ?_
 ·refine ze ?_
  exact zr ((bv false), []) ⟨_, rfl⟩
 ·exact zk (Zd8 x0 x1 x12 x13 ox0 ox1)
def Z5k : Option Bool :=
 some true
theorem Zd9 : Sim Z6 Z5k (Znj 0 []) := by
 unfold Z5k
 refine zf (Zsw ..)<|ze ?_
 exact zr ((bv true), []) ⟨_, rfl⟩
def Z3Y (x0 x1 : List Int) (x12 x13 : Int) : Option Bool :=
 if (decide (x13 < x12)) = true then
 (Z5i x0 x1 x12 x13)
 else
 Z5k
theorem Zd5 (x0 x1 : List Int) x12 x13 ox0 ox1 : Sim Z6 (Z3Y x0 x1 x12 x13) (Zh8 0 (Zh ox0 (x0.map (eI .i64))) (Zh ox1 (x1.map (eI .i64))) (iv x12) (iv x13) []) := by
 unfold Z3Y
 refine zf (Zss ..)<|ze<|zq ?_
 refine za (decide (x13 < x12)) ?_ ?_
 ·exact zk (Zd7 x0 x1 x12 x13 ox0 ox1)
 ·exact zk Zd9
theorem Z8n x0 x1 x12 x13 {r} (h : Z3Y x0 x1 x12 x13 = some r) : Z40 x0 x1 x12 x13 = some r :=
 ZN (fun _ _ ha hb => ru_ ZK (ha .ex .ex) (hb .ex .ex)) (fun ox0 ox1 => Zd5 x0 x1 x12 x13 ox0 ox1 r h)
def Z8z (x0 : List Z0) : Option Int :=
 (Z6n x0).bind fun r1 =>
 Z5p r1 0 r1 (r1.length : Int) 0
theorem Zhc (x0 : List Z0) ox0 : Sim Ze (Z8z x0) (EE 17 [(Zh ox0 (x0.map Z3))] []) := by
 unfold Z8z
 refine zf (Zvt ..)<|ze<|ze<|zi fun r1 hr1 => ?_
 obtain ⟨_, er1, _, rfl⟩ := Z7G x0 .sh r1 hr1
 refine zc [] (Zh .sh (r1.map Z3)) [] er1<|ze<|ze<|zp (iv (r1.length : Int)) (et_ (ZU (P := PP) (t := 22) (d := 39) (by kernel_rfl) Z3 .sh r1)) ?_
 exact zk (Zau r1 0 r1 (r1.length : Int) 0 .sh .sh)
theorem ZhV x0 {r} (h : Z8z x0 = some r) : Z2w x0 = some r :=
 ZN (fun _ _ ha hb => ru_ Z1e (ha .ex) (hb .ex)) (fun ox0 => Zhc x0 ox0 r h)
def Z6Z (x0 : List Z0) (x3 : Int) (x12 : List Z0) (x13 x14 : Int) : Option Int :=
 (lget x12 x14).bind fun a1 =>
 Z5q x0 x3 (a1.Log.length : Int) x12 x13 x14 a1
theorem ZeQ (x0 : List Z0) x3 (x12 : List Z0) x13 x14 ox0 ox12 : Sim Ze (Z6Z x0 x3 x12 x13 x14) (ZlV 0 (Zh ox0 (x0.map Z3)) (iv x3) (Zh ox12 (x12.map Z3)) (iv x13) (iv x14) []) := by
 unfold Z6Z
 refine zf (Zr2 ..)<|ze<|zi fun a1 ha1 => zp (.cptr (Zv a1 .sh)) (et_ (Z1h (o := ox12) (k := .i64) (n := 5) (e := Z3) (cs := Z20) (fun _ => rfl) (fun _ => rfl) (by decide) ha1))<|zq<|zz (.ptr 0 0) [(Zd ZeB .nl)]<|zt [(Zd a1 .sh)]<|ze<|zq<|zq<|zp (iv (a1.Log.length : Int)) (et_ (ZU (P := PP) (t := 37) (d := 81) (by kernel_rfl) Za .sh a1.Log)) ?_
 exact zk (Zaw x0 x3 (a1.Log.length : Int) x12 x13 x14 a1 ox0 ox12 .sh)
def Z6u (x3 : Int) : Option Int :=
 some x3
theorem Zeh x3 : Sim Ze (Z6u x3) (Zkt 0 (iv x3) []) := by
 unfold Z6u
 refine zf (Zpw ..)<|ze ?_
 exact zr ((iv x3), []) ⟨_, rfl⟩
def Z5n (x0 : List Z0) (x3 : Int) (x12 : List Z0) (x13 x14 : Int) : Option Int :=
 if (decide (x14 < x13)) = true then
 (Z6Z x0 x3 x12 x13 x14)
 else
 (Z6u x3)
theorem ZeO (x0 : List Z0) x3 (x12 : List Z0) x13 x14 ox0 ox12 : Sim Ze (Z5n x0 x3 x12 x13 x14) (Zgz 0 (Zh ox0 (x0.map Z3)) (iv x3) (Zh ox12 (x12.map Z3)) (iv x13) (iv x14) []) := by
 unfold Z5n
 refine zf (Zr0 ..)<|ze<|zq ?_
 refine za (decide (x14 < x13)) ?_ ?_
 ·exact zk (ZeQ x0 x3 x12 x13 x14 ox0 ox12)
 ·exact zk (Zeh x3)
theorem Zat x0 x3 x12 x13 x14 {r} (h : Z5n x0 x3 x12 x13 x14 = some r) : Z5p x0 x3 x12 x13 x14 = some r :=
 ZN (fun _ _ ha hb => ru_ Z1e (ha .ex .ex) (hb .ex .ex)) (fun ox0 ox12 => ZeO x0 x3 x12 x13 x14 ox0 ox12 r h)
def Z70 (x0 : List Z0) (x3 x6 : Int) (x12 : List Z0) (x13 x14 : Int) (b0 : Z0) : Option Int :=
 Z3Z x0 x3 x6 0 x12 x13 x14 x0 (x0.length : Int) 0 b0
theorem ZeR (x0 : List Z0) x3 x6 (x12 : List Z0) x13 x14 b0 ox0 ox12 zj : Sim Ze (Z70 x0 x3 x6 x12 x13 x14 b0) (ZlW 0 (Zh ox0 (x0.map Z3)) (iv x3) (.ptr 0 0) (iv x6) (Zh ox12 (x12.map Z3)) (iv x13) (iv x14) [(Zd b0 zj)]) := by
 unfold Z70
 refine zf (Zr4 ..)<|ze<|ze<|zp (iv (x0.length : Int)) (et_ (ZU (P := PP) (t := 22) (d := 39) (by kernel_rfl) Z3 (shrO ox0) x0)) ?_
 exact zk (Z9Y x0 x3 x6 0 x12 x13 x14 x0 (x0.length : Int) 0 b0 ox0 ox12 (shrO ox0) zj)
def Z58 (x0 : List Z0) (x3 : Int) (x12 : List Z0) (x13 x14 : Int) : Option Int :=
 Z5p x0 x3 x12 x13 (IntKind.i64.wrap (x14 + 1))
theorem Zeg (x0 : List Z0) x3 (x12 : List Z0) x13 x14 ox0 ox12 : Sim Ze (Z58 x0 x3 x12 x13 x14) (Zks 0 (Zh ox0 (x0.map Z3)) (iv x3) (Zh ox12 (x12.map Z3)) (iv x13) (iv x14) []) := by
 unfold Z58
 refine zf (Zpv ..)<|ze<|zq ?_
 exact zk (Zau x0 x3 x12 x13 (IntKind.i64.wrap (x14 + 1)) ox0 ox12)
def Z5o (x0 : List Z0) (x3 x6 : Int) (x12 : List Z0) (x13 x14 : Int) (b0 : Z0) : Option Int :=
 if (decide (x3 < x6)) = true then
 (Z70 x0 x3 x6 x12 x13 x14 b0)
 else
 (Z58 x0 x3 x12 x13 x14)
theorem ZeP (x0 : List Z0) x3 x6 (x12 : List Z0) x13 x14 b0 ox0 ox12 zj : Sim Ze (Z5o x0 x3 x6 x12 x13 x14 b0) (ZgA 0 (Zh ox0 (x0.map Z3)) (iv x3) (.ptr 0 0) (iv x6) (Zh ox12 (x12.map Z3)) (iv x13) (iv x14) [(Zd b0 zj)]) := by
 unfold Z5o
 refine zf (Zr1 ..)<|ze<|zq ?_
 refine za (decide (x3 < x6)) ?_ ?_
 ·exact zk (ZeR x0 x3 x6 x12 x13 x14 b0 ox0 ox12 zj)
 ·exact zk (Zeg x0 x3 x12 x13 x14 ox0 ox12)
theorem Zav x0 x3 x6 x12 x13 x14 b0 {r} (h : Z5o x0 x3 x6 x12 x13 x14 b0 = some r) : Z5q x0 x3 x6 x12 x13 x14 b0 = some r :=
 ZN (fun _ _ ha hb => ru_ Z1e (ha .ex .ex .ex) (hb .ex .ex .ex)) (fun ox0 ox12 zj => ZeP x0 x3 x6 x12 x13 x14 b0 ox0 ox12 zj r h)
def Z3e (x0 : List Z0) (x3 x6 x7 : Int) (x12 : List Z0) (x13 x14 : Int) (x26 : List Z0) (x27 x28 : Int) (b0 : Z0) : Option Int :=
 Z3Z x0 x3 x6 x7 x12 x13 x14 x26 x27 (IntKind.i64.wrap (x28 + 1)) b0
theorem Z6O (x0 : List Z0) x3 x6 x7 (x12 : List Z0) x13 x14 (x26 : List Z0) x27 x28 b0 ox0 ox12 ox26 zj : Sim Ze (Z3e x0 x3 x6 x7 x12 x13 x14 x26 x27 x28 b0) (ZeF 0 (Zh ox0 (x0.map Z3)) (iv x3) (.ptr 0 0) (iv x6) (iv x7) (Zh ox12 (x12.map Z3)) (iv x13) (iv x14) (Zh ox26 (x26.map Z3)) (iv x27) (iv x28) [(Zd b0 zj)]) := by
 unfold Z3e
 refine zf (Zpt ..)<|ze<|zq ?_
 exact zk (Z9Y x0 x3 x6 x7 x12 x13 x14 x26 x27 (IntKind.i64.wrap (x28 + 1)) b0 ox0 ox12 ox26 zj)
def Z6t (x0 : List Z0) (x3 x6 x7 : Int) (x12 : List Z0) (x13 x14 : Int) (x26 : List Z0) (x27 x28 : Int) (b0 : Z0) : Option Int :=
 Z3e x0 x3 x6 (IntKind.i64.wrap (x7 + 1)) x12 x13 x14 x26 x27 x28 b0
theorem Zee (x0 : List Z0) x3 x6 x7 (x12 : List Z0) x13 x14 (x26 : List Z0) x27 x28 b0 ox0 ox12 ox26 zj : Sim Ze (Z6t x0 x3 x6 x7 x12 x13 x14 x26 x27 x28 b0) (Zkq 0 (Zh ox0 (x0.map Z3)) (iv x3) (.ptr 0 0) (iv x6) (iv x7) (Zh ox12 (x12.map Z3)) (iv x13) (iv x14) (Zh ox26 (x26.map Z3)) (iv x27) (iv x28) [(Zd b0 zj)]) := by
 unfold Z6t
 refine zf (Zps ..)<|ze<|zq ?_
 exact zk (Z6O x0 x3 x6 (IntKind.i64.wrap (x7 + 1)) x12 x13 x14 x26 x27 x28 b0 ox0 ox12 ox26 zj)
def Z6s (x0 : List Z0) (x3 x6 x7 : Int) (x12 : List Z0) (x13 x14 : Int) (x26 : List Z0) (x27 x28 : Int) (b0 : Z0) : Option Int :=
 (lget x26 x28).bind fun a1 =>
 if (decide (x6 ≤ (a1.Log.length : Int))) = true then
 ((lsl a1.Log 0 x6).bind fun a2 =>
 (lsl b0.Log 0 x6).bind fun a3 =>
 (Z9g a2 a3).bind fun r4 =>
 if r4 = true then
 (Z6t x0 x3 x6 x7 x12 x13 x14 x26 x27 x28 b0)
 else
 (Z3e x0 x3 x6 x7 x12 x13 x14 x26 x27 x28 b0))
 else
 (Z3e x0 x3 x6 x7 x12 x13 x14 x26 x27 x28 b0)
theorem Zed (x0 : List Z0) x3 x6 x7 (x12 : List Z0) x13 x14 (x26 : List Z0) x27 x28 b0 ox0 ox12 ox26 zj : Sim Ze (Z6s x0 x3 x6 x7 x12 x13 x14 x26 x27 x28 b0) (Zkp 0 (Zh ox0 (x0.map Z3)) (iv x3) (.ptr 0 0) (iv x6) (iv x7) (Zh ox12 (x12.map Z3)) (iv x13) (iv x14) (Zh ox26 (x26.map Z3)) (iv x27) (iv x28) [(Zd b0 zj)]) := by
 unfold Z6s
 refine zf (Zpr ..)<|ze<|zi fun a1 ha1 => zp (.cptr (Zv a1 .sh)) (et_ (Z1h (o := ox26) (k := .i64) (n := 5) (e := Z3) (cs := Z20) (fun _ => rfl) (fun _ => rfl) (by decide) ha1))<|zq<|zz (.ptr 1 0) [(Zd b0 zj), (Zd ZeB .nl)]<|zt [(Zd b0 zj), (Zd a1 .sh)]<|ze<|zq<|zq<|zp (iv (a1.Log.length : Int)) (et_ (ZU (P := PP) (t := 37) (d := 81) (by kernel_rfl) Za .sh a1.Log))<|zq ?_
 refine za (decide (x6 ≤ (a1.Log.length : Int))) ?_ ?_
 ·refine zq<|zq<|zi fun a2 ha2 => zp (Zh .sh (a2.map Za)) (Eq.trans (by kernel_rfl) <| Zci (n := 9) (o := .sh) (lo := none) (hi := (some (iv x6))) (e := Za) (fun _ => rfl) (by decide) (by kernel_rfl) (by kernel_rfl) ha2)<|zq<|zq<|zi fun a3 ha3 => zp (Zh (slO (shrO zj)) (a3.map Za)) (Eq.trans (by kernel_rfl) <| Zci (n := 9) (o := (shrO zj)) (lo := none) (hi := (some (iv x6))) (e := Za) (fun _ => rfl) (by decide) (by kernel_rfl) (by kernel_rfl) ha3)<|zi fun r4 hr4 => ?_
  obtain ⟨_, er4, _, rfl⟩ := ZeU a2 a3 .sh .sh r4 hr4
  refine zc [] (bv r4) [(Zd b0 zj), (Zd a1 .sh)] er4 ?_
  refine za r4 ?_ ?_
  ·exact zk (Zee x0 x3 x6 x7 x12 x13 x14 x26 x27 x28 b0 ox0 ox12 ox26 zj)
  ·exact zk (Z6O x0 x3 x6 x7 x12 x13 x14 x26 x27 x28 b0 ox0 ox12 ox26 zj)
 ·exact zk (Z6O x0 x3 x6 x7 x12 x13 x14 x26 x27 x28 b0 ox0 ox12 ox26 zj)
def Z4p (x0 : List Z0) (x3 x6 : Int) (x12 : List Z0) (x13 x14 : Int) (b0 : Z0) : Option Int :=
 Z5q x0 x3 (IntKind.i64.wrap (x6 - 1)) x12 x13 x14 b0
theorem Z9Z (x0 : List Z0) x3 x6 (x12 : List Z0) x13 x14 b0 ox0 ox12 zj : Sim Ze (Z4p x0 x3 x6 x12 x13 x14 b0) (Zjb 0 (Zh ox0 (x0.map Z3)) (iv x3) (.ptr 0 0) (iv x6) (Zh ox12 (x12.map Z3)) (iv x13) (iv x14) [(Zd b0 zj)]) := by
 unfold Z4p
 refine zf (Zr3 ..)<|ze<|zq ?_
 exact zk (Zaw x0 x3 (IntKind.i64.wrap (x6 - 1)) x12 x13 x14 b0 ox0 ox12 zj)
def Z3f (x0 : List Z0) (x3 x6 x7 : Int) (x12 : List Z0) (x13 x14 : Int) (b0 : Z0) : Option Int :=
 if (decide ((x0.length : Int) < (IntKind.i64.wrap (2 * x7)))) = true then
 (Z4p x0 x6 x6 x12 x13 x14 b0)
 else
 (Z4p x0 x3 x6 x12 x13 x14 b0)
theorem Zef (x0 : List Z0) x3 x6 x7 (x12 : List Z0) x13 x14 b0 ox0 ox12 zj : Sim Ze (Z3f x0 x3 x6 x7 x12 x13 x14 b0) (Zkr 0 (Zh ox0 (x0.map Z3)) (iv x3) (.ptr 0 0) (iv x6) (iv x7) (Zh ox12 (x12.map Z3)) (iv x13) (iv x14) [(Zd b0 zj)]) := by
 unfold Z3f
 refine zf (Zpu ..)<|ze<|zq<|zp (iv (x0.length : Int)) (et_ (ZU (P := PP) (t := 22) (d := 39) (by kernel_rfl) Z3 (shrO ox0) x0))<|zq ?_
 refine za (decide ((x0.length : Int) < (IntKind.i64.wrap (2 * x7)))) ?_ ?_
 ·refine ze ?_
  exact zk (Z9Z x0 x6 x6 x12 x13 x14 b0 ox0 ox12 zj)
 ·exact zk (Z9Z x0 x3 x6 x12 x13 x14 b0 ox0 ox12 zj)
def Z57 (x0 : List Z0) (x3 x6 x7 : Int) (x12 : List Z0) (x13 x14 : Int) (x26 : List Z0) (x27 x28 : Int) (b0 : Z0) : Option Int :=
 if (decide (x28 < x27)) = true then
 (Z6s x0 x3 x6 x7 x12 x13 x14 x26 x27 x28 b0)
 else
 (Z3f x0 x3 x6 x7 x12 x13 x14 b0)
theorem Zec (x0 : List Z0) x3 x6 x7 (x12 : List Z0) x13 x14 (x26 : List Z0) x27 x28 b0 ox0 ox12 ox26 zj : Sim Ze (Z57 x0 x3 x6 x7 x12 x13 x14 x26 x27 x28 b0) (ZeE 0 (Zh ox0 (x0.map Z3)) (iv x3) (.ptr 0 0) (iv x6) (iv x7) (Zh ox12 (x12.map Z3)) (iv x13) (iv x14) (Zh ox26 (x26.map Z3)) (iv x27) (iv x28) [(Zd b0 zj)]) := by
 unfold Z57
 refine zf (Zpq ..)<|ze<|zq ?_
 refine za (decide (x28 < x27)) ?_ ?_
 ·exact zk (Zed x0 x3 x6 x7 x12 x13 x14 x26 x27 x28 b0 ox0 ox12 ox26 zj)
 ·exact zk (Zef x0 x3 x6 x7 x12 x13 x14 b0 ox0 ox12 zj)
theorem Z9X x0 x3 x6 x7 x12 x13 x14 x26 x27 x28 b0 {r} (h : Z57 x0 x3 x6 x7 x12 x13 x14 x26 x27 x28 b0 = some r) : Z3Z x0 x3 x6 x7 x12 x13 x14 x26 x27 x28 b0 = some r :=
 ZN (fun _ _ ha hb => ru_ Z1e (ha .ex .ex .ex .ex) (hb .ex .ex .ex .ex)) (fun ox0 ox12 ox26 zj => Zec x0 x3 x6 x7 x12 x13 x14 x26 x27 x28 b0 ox0 ox12 ox26 zj r h)
def Zae (x0 : Z0) : Option (List Zp) :=
 (Z9y).bind fun r1 =>
 (Z6n ([x0] : List Z0)).bind fun r2 =>
 (lget r2 0).bind fun a3 =>
 (Z7b a3).bind fun r4 =>
 Z6F r4 (r4.length : Int) 0 r1.1 r1.2.1 r1.2.2
theorem Zis x0 zl : Sim Z2h (Zae x0) (EE 19 [(pA_ (Zv x0 zl))] []) := by
 unfold Zae
 refine zf (Zvy ..)<|ze<|zx (.ptr 0 0) [(Zd x0 zl)]<|ze<|zi fun r1 hr1 => ?_
 obtain ⟨_, er1, zhP, _, ztB, rfl, _⟩ := Ziq r1 hr1
 refine zc [] (.ptr 2 0) [(Zd x0 zl), (rM_ ZF r1.1), [(Zh zhP (r1.2.1.map ZC)), (.mp 1), (iv r1.2.2)]] er1<|ze<|zq<|zq<|zi fun r2 hr2 => ?_
 obtain ⟨_, er2, _, rfl⟩ := Z7G ([x0] : List Z0) .sh r2 hr2
 refine zc [] (Zh .sh (r2.map Z3)) [(Zd x0 zl), (rM_ ZF r1.1), [(Zh zhP (r1.2.1.map ZC)), (.mp 1), (iv r1.2.2)]] er2<|zi fun a3 ha3 => zp (.cptr (Zv a3 .sh)) (et_ (Z1h (o := .sh) (k := .i64) (n := 5) (e := Z3) (cs := Z20) (fun _ => rfl) (fun _ => rfl) (by decide) ha3))<|zq<|zi fun r4 hr4 => ?_
 obtain ⟨_, er4, _, rfl⟩ := Zax a3 .sh r4 hr4
 refine zc [] (Zh .sh (r4.map Za)) [(Zd x0 zl), (rM_ ZF r1.1), [(Zh zhP (r1.2.1.map ZC)), (.mp 1), (iv r1.2.2)]] er4<|zp (iv (r4.length : Int)) (et_ (ZU (P := PP) (t := 37) (d := 81) (by kernel_rfl) Za .sh r4)) ?_
 exact zk (ZbW r4 (r4.length : Int) 0 x0 r1.1 r1.2.1 r1.2.2 .sh zl zhP ztB)
theorem ZjF x0 {r} (h : Zae x0 = some r) : Z3M x0 = some r :=
 ZN (fun _ _ ha hb => ru_ Zbf (ha .ex) (hb .ex)) (fun zl => Zis x0 zl r h)
def Zaf (x16 : List Z8) (x17 x18 : Int) (zW : List (Int × ZT)) (z1x : List Zp) (z24 : Int) : Option (List Zp) :=
 (lget x16 x18).bind fun a1 =>
 (Z88 a1 z1x z24 zW).bind fun r2 =>
 Z6F x16 x17 (IntKind.i64.wrap (x18 + 1)) zW z1x z24
theorem Zgf (x16 : List Z8) x17 x18 b0 zW (z1x : List Zp) z24 ox16 zj z1F (z3i : Z1j z1F = true) : Sim Z2h (Zaf x16 x17 x18 zW z1x z24) (Zm1 0 (.ptr 2 0) (Zh ox16 (x16.map Za)) (iv x17) (iv x18) [(Zd b0 zj), (rM_ ZF zW), [(Zh z1F (z1x.map ZC)), (.mp 1), (iv z24)]]) := by
 unfold Zaf
 refine zf (Zr7 ..)<|ze<|zi fun a1 ha1 => zp (.cptr (Z17 a1 .sh .sh)) (et_ (Z1h (o := ox16) (k := .i64) (n := 9) (e := Za) (cs := Z3l) (fun _ => rfl) (fun _ => rfl) (by decide) ha1))<|zq<|zz (.ptr 3 0) [(Zd b0 zj), (rM_ ZF zW), [(Zh z1F (z1x.map ZC)), (.mp 1), (iv z24)], (Zk Zo9 .nl .nl)]<|zt [(Zd b0 zj), (rM_ ZF zW), [(Zh z1F (z1x.map ZC)), (.mp 1), (iv z24)], (Zk a1 .sh .sh)]<|ze<|zq<|zi fun r2 hr2 => ?_
 obtain ⟨_, er2, _, rfl⟩ := Zbo a1 z1x z24 zW .sh .sh z1F z3i r2 hr2
 refine zc [2, 1] (.p (.tup [(.agg (Zc8 r2.1)), (.v (.int .i64 r2.2))])) [(Zd b0 zj), (rM_ ZF zW), [(Zh z1F (z1x.map ZC)), (.mp 1), (iv z24)], (Zk a1 .sh .sh)] er2<|ze<|zq ?_
 exact zk (ZbW x16 x17 (IntKind.i64.wrap (x18 + 1)) b0 zW z1x z24 ox16 zj z1F z3i)
def Z82 (z1x : List Zp) : Option (List Zp) :=
 (Z3c z1x).bind fun r1 =>
 Z5l ([] : List Zp) (IntKind.i64.wrap (r1 + 1)) 0 z1x
theorem Zgg b0 zW (z1x : List Zp) z24 zj z1F (z3i : Z1j z1F = true) : Sim Z2h (Z82 z1x) (Zm2 0 (.ptr 2 0) [(Zd b0 zj), (rM_ ZF zW), [(Zh z1F (z1x.map ZC)), (.mp 1), (iv z24)]]) := by
 unfold Z82
 refine zf (Zr8 ..)<|ze<|ze<|zi fun r1 hr1 => ?_
 obtain ⟨_, er1, _, rfl⟩ := Z9H z1x z24 zW z1F z3i r1 hr1
 refine zc [2, 1] (iv r1) [(Zd b0 zj), (rM_ ZF zW), [(Zh z1F (z1x.map ZC)), (.mp 1), (iv z24)]] er1<|zq ?_
 exact zk (ZbY ([] : List Zp) (IntKind.i64.wrap (r1 + 1)) 0 b0 zW z1x z24 .nl zj z1F rfl z3i)
def Z81 (x16 : List Z8) (x17 x18 : Int) (zW : List (Int × ZT)) (z1x : List Zp) (z24 : Int) : Option (List Zp) :=
 if (decide (x18 < x17)) = true then
 (Zaf x16 x17 x18 zW z1x z24)
 else
 (Z82 z1x)
theorem Zgd (x16 : List Z8) x17 x18 b0 zW (z1x : List Zp) z24 ox16 zj z1F (z3i : Z1j z1F = true) : Sim Z2h (Z81 x16 x17 x18 zW z1x z24) (ZgD 0 (.ptr 2 0) (Zh ox16 (x16.map Za)) (iv x17) (iv x18) [(Zd b0 zj), (rM_ ZF zW), [(Zh z1F (z1x.map ZC)), (.mp 1), (iv z24)]]) := by
 unfold Z81
 refine zf (Zr5 ..)<|ze<|zq ?_
 refine za (decide (x18 < x17)) ?_ ?_
 ·exact zk (Zgf x16 x17 x18 b0 zW z1x z24 ox16 zj z1F z3i)
 ·exact zk (Zgg b0 zW z1x z24 zj z1F z3i)
theorem Zhd x16 x17 x18 zW z1x z24 {r} (h : Z81 x16 x17 x18 zW z1x z24 = some r) : Z6F x16 x17 x18 zW z1x z24 = some r :=
 ZN (fun _ _ ha hb => ru_ Zbf (ha default .ex .ex .ex rfl) (hb default .ex .ex .ex rfl)) (fun b0 ox16 zj z1F z3i => Zgd x16 x17 x18 b0 zW z1x z24 ox16 zj z1F z3i r h)
def Z7s (x6 : List Zp) (x28 x29 : Int) (z1x : List Zp) : Option (List Zp) :=
 (Z4a x29 z1x).bind fun r1 =>
 (lapp x6 ([r1.1] : List Zp)).bind fun a2 =>
 Z5l a2 x28 (IntKind.i64.wrap (x29 + 1)) z1x
theorem Zfp (x6 : List Zp) x28 x29 b0 zW (z1x : List Zp) z24 ox6 zj z1F (hox6 : Z1j ox6 = true) (z3i : Z1j z1F = true) : Sim Z2h (Z7s x6 x28 x29 z1x) (Zku 0 (.ptr 2 0) (Zh ox6 (x6.map ZC)) (iv x28) (iv x29) [(Zd b0 zj), (rM_ ZF zW), [(Zh z1F (z1x.map ZC)), (.mp 1), (iv z24)]]) := by
 unfold Z7s
 refine zf (Zpx ..)<|ze<|ze<|zi fun r1 hr1 => ?_
 obtain ⟨_, er1, _, rfl⟩ := Zbq x29 z1x z24 zW z1F z3i r1 hr1
 refine zc [2, 1] (.p (.tup [(.agg (Z2A r1.1 .sh)), (.v (.bool r1.2))])) [(Zd b0 zj), (rM_ ZF zW), [(Zh z1F (z1x.map ZC)), (.mp 1), (iv z24)]] er1<|zq<|zq<|zz (.ptr 3 0) [(Zd b0 zj), (rM_ ZF zW), [(Zh z1F (z1x.map ZC)), (.mp 1), (iv z24)], (Z1t ZdI .nl)]<|zt [(Zd b0 zj), (rM_ ZF zW), [(Zh z1F (z1x.map ZC)), (.mp 1), (iv z24)], (Z1t r1.1 .sh)]<|ze<|zq<|zq<|zi fun a2 ha2 => zp (Zh .un (a2.map ZC)) (Eq.trans (by kernel_rfl) <| Za1 (n := 5) (o := ox6) (o' := .ex) (e := ZC) (ys := ([r1.1] : List Zp)) (fun _ => rfl) (by decide) hox6 ha2)<|ze<|zq ?_
 exact zk (ZbY a2 x28 (IntKind.i64.wrap (x29 + 1)) b0 zW z1x z24 .un zj z1F rfl z3i)
def Z7t (x6 : List Zp) : Option (List Zp) :=
 some x6
theorem Zfq (x6 : List Zp) ox6 (hox6 : Z1j ox6 = true) : Sim Z2h (Z7t x6) (Zkv 0 (Zh ox6 (x6.map ZC)) []) := by
 unfold Z7t
 refine zf (Zpy ..)<|ze ?_
 exact zr ((Zh .sh (x6.map ZC)), []) ⟨_, rfl⟩
def Z6v (x6 : List Zp) (x28 x29 : Int) (z1x : List Zp) : Option (List Zp) :=
 if (decide (x29 < x28)) = true then
 (Z7s x6 x28 x29 z1x)
 else
 (Z7t x6)
theorem Zge (x6 : List Zp) x28 x29 b0 zW (z1x : List Zp) z24 ox6 zj z1F (hox6 : Z1j ox6 = true) (z3i : Z1j z1F = true) : Sim Z2h (Z6v x6 x28 x29 z1x) (ZgE 0 (.ptr 2 0) (Zh ox6 (x6.map ZC)) (iv x28) (iv x29) [(Zd b0 zj), (rM_ ZF zW), [(Zh z1F (z1x.map ZC)), (.mp 1), (iv z24)]]) := by
 unfold Z6v
 refine zf (Zr6 ..)<|ze<|zq ?_
 refine za (decide (x29 < x28)) ?_ ?_
 ·exact zk (Zfp x6 x28 x29 b0 zW z1x z24 ox6 zj z1F hox6 z3i)
 ·exact zk (Zfq x6 ox6 hox6)
theorem ZbX x6 x28 x29 z1x {r} (h : Z6v x6 x28 x29 z1x = some r) : Z5l x6 x28 x29 z1x = some r :=
 ZN (fun _ _ ha hb => ru_ Zbf (ha default default default .ex .ex .ex rfl rfl) (hb default default default .ex .ex .ex rfl rfl)) (fun b0 zW z24 ox6 zj z1F hox6 z3i => Zge x6 x28 x29 b0 zW z1x z24 ox6 zj z1F hox6 z3i r h)
def Z9r : Option ((List (Int × ZT)) × (List Zp) × Int) :=
 (ZaB).bind fun r1 =>
 some (([] : List (Int × ZT)), ([r1] : List Zp), 0)
theorem ZhT : Sim Z9q Z9r (EE 36 [] []) := by
 unfold Z9r
 refine zf (ZvV ..)<|ze<|ze<|zi fun r1 hr1 => ?_
 obtain ⟨_, er1, _, rfl⟩ := ZjM r1 hr1
 refine zc [] (pA_ (Z2A r1 .sh)) [] er1<|zq<|zm (.mp 0) [(rM_ ZF ([] : List (Int × ZT)))]<|zq<|zx (.ptr 1 0) [(rM_ ZF ([] : List (Int × ZT))), [(Zh .ex (([r1] : List Zp).map ZC)), (.mp 0), (iv 0)]] ?_
 exact zr ((.ptr 1 0), [(rM_ ZF ([] : List (Int × ZT))), [(Zh .ex (([r1] : List Zp).map ZC)), (.mp 0), (iv 0)]]) ⟨.ex, [], rfl, rfl, rfl⟩
theorem Zip {r} (h : Z9r = some r) : Z9y = some r :=
 ZN (fun _ _ ha hb => ru_ ZiS ha hb) (ZhT r h)
def Zdi : Option Zp :=
 some (Zp.mk 0 255 10000 500 ([] : List Z4))
theorem ZiB : Sim Zad Zdi (EE 54 [] []) := by
 unfold Zdi
 refine zf (Zwj ..)<|ze<|zz (.ptr 0 0) [(Z1t ZdI .nl)]<|ze<|zq<|zt [(Z1t (Zp.mk 0 255 10000 500 ([] : List Z4)) .nl)] ?_
 exact zr ((pA_ (Z2A (Zp.mk 0 255 10000 500 ([] : List Z4)) .sh)), [(Z1t (Zp.mk 0 255 10000 500 ([] : List Z4)) .nl)]) ⟨_, rfl⟩
theorem ZjL {r} (h : Zdi = some r) : ZaB = some r :=
 ZN (fun _ _ ha hb => ru_ Zkg ha hb) (ZiB r h)
def Z38 (z1d : List Zp) : Option Int :=
 some (IntKind.i64.wrap ((z1d.length : Int) - 1))
theorem Z9f (z1d : List Zp) z1H zW z15 (z4l : Z1j z15 = true) : Sim (Z37 z1d z1H zW z15) (Z38 z1d) (EE 38 [(.ptr 0 0)] [[(Zh z15 (z1d.map ZC)), (.mp 1), (iv z1H)], (rM_ ZF zW)]) := by
 unfold Z38
 refine zf (ZvW ..)<|ze<|ze<|zq<|zq<|zq<|zp (iv (z1d.length : Int)) (et_ (ZU (P := PP) (t := 40) (d := 51) (by kernel_rfl) ZC (shrO z15) z1d))<|zq ?_
 exact zr ((iv (IntKind.i64.wrap ((z1d.length : Int) - 1))), [[(Zh z15 (z1d.map ZC)), (.mp 1), (iv z1H)], (rM_ ZF zW)]) ⟨_, rfl⟩
theorem Z9G z1d {r} (h : Z38 z1d = some r) : Z3c z1d = some r :=
 ZN (fun _ _ ha hb => ru_ (Za2 _ _ _ _) (ha default default .ex rfl) (hb default default .ex rfl)) (fun z1H zW z15 z4l => Z9f z1d z1H zW z15 z4l r h)
def Z3m : Option (Zp × Bool) :=
 some ((Zp.mk 0 0 0 0 ([] : List Z4)), false)
theorem Z61 (z1d : List Zp) z1H zW b2 z15 z6K (z4l : Z1j z15 = true) (zpQ : Z1j z6K = true) : Sim (Z2p z1d z1H zW z15) Z3m (Zjm 2 (.ptr 2 0) [[(Zh z15 (z1d.map ZC)), (.mp 1), (iv z1H)], (rM_ ZF zW), (Z1t b2 z6K)]) := by
 unfold Z3m
 refine zf (Zrt ..)<|ze<|zq<|zt [[(Zh z15 (z1d.map ZC)), (.mp 1), (iv z1H)], (rM_ ZF zW), (Z1t ZdI .nl)] ?_
 exact zr ((.p (.tup [(.agg (Z2A ZdI .sh)), (.v (.bool false))])), [[(Zh z15 (z1d.map ZC)), (.mp 1), (iv z1H)], (rM_ ZF zW), (Z1t ZdI .nl)]) ⟨_, rfl⟩
def Z3n (x1 : Int) (z1d : List Zp) : Option (Zp × Bool) :=
 (lget z1d x1).bind fun a1 =>
 (Z7X a1.Rules).bind fun r2 =>
 some ((Zp.mk a1.Default a1.Closed a1.Fuel a1.Stack r2), true)
theorem Z9F x1 (z1d : List Zp) z1H zW b2 z15 z6K (z4l : Z1j z15 = true) (zpQ : Z1j z6K = true) : Sim (Z2p z1d z1H zW z15) (Z3n x1 z1d) (Zmq 2 (.ptr 0 0) (iv x1) (.ptr 2 0) [[(Zh z15 (z1d.map ZC)), (.mp 1), (iv z1H)], (rM_ ZF zW), (Z1t b2 z6K)]) := by
 unfold Z3n
 refine zf (Zru ..)<|ze<|zq<|zq<|zq<|zi fun a1 ha1 => zp (.cptr (Z2A a1 .sh)) (et_ (Z1h (o := (shrO z15)) (k := .i64) (n := 5) (e := ZC) (cs := ZbE) (fun _ => rfl) (fun _ => rfl) (by decide) ha1))<|zq<|zz (.ptr 3 0) [[(Zh z15 (z1d.map ZC)), (.mp 1), (iv z1H)], (rM_ ZF zW), (Z1t b2 z6K), (Z1t ZdI .nl)]<|zt [[(Zh z15 (z1d.map ZC)), (.mp 1), (iv z1H)], (rM_ ZF zW), (Z1t b2 z6K), (Z1t a1 .sh)]<|ze<|zq<|zq<|zi fun r2 hr2 => ?_
 obtain ⟨_, er2, _, rfl⟩ := Zep a1.Rules .sh r2 hr2
 refine zc [] (Zh .sh (r2.map Z2)) [[(Zh z15 (z1d.map ZC)), (.mp 1), (iv z1H)], (rM_ ZF zW), (Z1t b2 z6K), (Z1t a1 .sh)] er2<|zq<|zt [[(Zh z15 (z1d.map ZC)), (.mp 1), (iv z1H)], (rM_ ZF zW), (Z1t b2 z6K), (Z1t (Zp.mk a1.Default a1.Closed a1.Fuel a1.Stack r2) .sh)]<|ze<|zq<|zt [[(Zh z15 (z1d.map ZC)), (.mp 1), (iv z1H)], (rM_ ZF zW), (Z1t (Zp.mk a1.Default a1.Closed a1.Fuel a1.Stack r2) .sh), (Z1t (Zp.mk a1.Default a1.Closed a1.Fuel a1.Stack r2) .sh)] ?_
 exact zr ((.p (.tup [(.agg (Z2A (Zp.mk a1.Default a1.Closed a1.Fuel a1.Stack r2) .sh)), (.v (.bool true))])), [[(Zh z15 (z1d.map ZC)), (.mp 1), (iv z1H)], (rM_ ZF zW), (Z1t (Zp.mk a1.Default a1.Closed a1.Fuel a1.Stack r2) .sh), (Z1t (Zp.mk a1.Default a1.Closed a1.Fuel a1.Stack r2) .sh)]) ⟨_, rfl⟩
def Z47 (x1 : Int) (z1d : List Zp) : Option (Zp × Bool) :=
 if (decide (x1 < 0)) = true then
 Z3m
 else
 (if (decide ((z1d.length : Int) ≤ x1)) = true then
 Z3m
 else
 (Z3n x1 z1d))
theorem ZaY x1 (z1d : List Zp) z1H zW z15 (z4l : Z1j z15 = true) : Sim (Z2p z1d z1H zW z15) (Z47 x1 z1d) (EE 39 [(.ptr 0 0), (iv x1)] [[(Zh z15 (z1d.map ZC)), (.mp 1), (iv z1H)], (rM_ ZF zW)]) := by
 unfold Z47
 refine zf (ZvX ..)<|ze<|zz (.ptr 2 0) [[(Zh z15 (z1d.map ZC)), (.mp 1), (iv z1H)], (rM_ ZF zW), (Z1t ZdI .nl)]<|ze<|zq ?_
 refine za (decide (x1 < 0)) ?_ ?_
 ·exact zk (Z61 z1d z1H zW ZdI z15 .nl z4l rfl)
 ·refine zq<|zq<|zq<|zp (iv (z1d.length : Int)) (et_ (ZU (P := PP) (t := 40) (d := 51) (by kernel_rfl) ZC (shrO z15) z1d))<|zq ?_
  refine za (decide ((z1d.length : Int) ≤ x1)) ?_ ?_
  ·exact zk (Z61 z1d z1H zW ZdI z15 .nl z4l rfl)
  ·exact zk (Z9F x1 z1d z1H zW ZdI z15 .nl z4l rfl)
theorem Zbp x1 z1d {r} (h : Z47 x1 z1d = some r) : Z4a x1 z1d = some r :=
 ZN (fun _ _ ha hb => ru_ (ZbL _ _ _ _) (ha default default .ex rfl) (hb default default .ex rfl)) (fun z1H zW z15 z4l => ZaY x1 z1d z1H zW z15 z4l r h)
def Z5d (x0 : List Z0) : Option Bool :=
 Z3g x0 x0 (x0.length : Int) 0
theorem ZcW (x0 : List Z0) ox0 : Sim Z6 (Z5d x0) (EE 11 [(Zh ox0 (x0.map Z3))] []) := by
 unfold Z5d
 refine zf (Zvc ..)<|ze<|ze<|zp (iv (x0.length : Int)) (et_ (ZU (P := PP) (t := 22) (d := 39) (by kernel_rfl) Z3 (shrO ox0) x0)) ?_
 exact zk (Z7j x0 x0 (x0.length : Int) 0 ox0 (shrO ox0))
theorem Zdp x0 {r} (h : Z5d x0 = some r) : Z1u x0 = some r :=
 ZN (fun _ _ ha hb => ru_ ZK (ha .ex) (hb .ex)) (fun ox0 => ZcW x0 ox0 r h)
def Z2u : Option Bool :=
 some false
theorem Z75 : Sim Z6 Z2u (Zj0 0 []) := by
 unfold Z2u
 refine zf (ZqH ..)<|ze ?_
 exact zr ((bv false), []) ⟨_, rfl⟩
def Z2v (x0 x5 : List Z0) (x6 x7 : Int) : Option Bool :=
 Z3g x0 x5 x6 (IntKind.i64.wrap (x7 + 1))
theorem Z76 (x0 x5 : List Z0) x6 x7 ox0 ox5 : Sim Z6 (Z2v x0 x5 x6 x7) (Zj1 0 (Zh ox0 (x0.map Z3)) (Zh ox5 (x5.map Z3)) (iv x6) (iv x7) []) := by
 unfold Z2v
 refine zf (ZqI ..)<|ze<|zq ?_
 exact zk (Z7j x0 x5 x6 (IntKind.i64.wrap (x7 + 1)) ox0 ox5)
def Z22 (x0 x5 : List Z0) (x6 x7 : Int) : Option Bool :=
 (lget x5 x7).bind fun a1 =>
 (Z49 a1).bind fun r2 =>
 if (!r2) = true then
 Z2u
 else
 (if (decide (10 < (a1.Log.length : Int))) = true then
 (if (decide ((a1.Log.length : Int) ≤ 64)) = true then
 Z2u
 else
 (Z2v x0 x5 x6 x7))
 else
 (Z2v x0 x5 x6 x7))
theorem Zbk (x0 x5 : List Z0) x6 x7 ox0 ox5 : Sim Z6 (Z22 x0 x5 x6 x7) (Zlt 0 (Zh ox0 (x0.map Z3)) (Zh ox5 (x5.map Z3)) (iv x6) (iv x7) []) := by
 unfold Z22
 refine zf (ZqG ..)<|ze<|zi fun a1 ha1 => zp (.cptr (Zv a1 .sh)) (et_ (Z1h (o := ox5) (k := .i64) (n := 5) (e := Z3) (cs := Z20) (fun _ => rfl) (fun _ => rfl) (by decide) ha1))<|zq<|zz (.ptr 0 0) [(Zd ZeB .nl)]<|zt [(Zd a1 .sh)]<|ze<|zq<|zi fun r2 hr2 => ?_
 obtain ⟨_, er2, _, rfl⟩ := Zbn a1 .sh r2 hr2
 refine zc [] (bv r2) [(Zd a1 .sh)] er2<|zq ?_
 refine za (!r2) ?_ ?_
 ·exact zk Z75
 ·refine zq<|zq<|zp (iv (a1.Log.length : Int)) (et_ (ZU (P := PP) (t := 37) (d := 81) (by kernel_rfl) Za .sh a1.Log))<|zq ?_
  refine za (decide (10 < (a1.Log.length : Int))) ?_ ?_
  ·refine zq<|zq<|zp (iv (a1.Log.length : Int)) (et_ (ZU (P := PP) (t := 37) (d := 81) (by kernel_rfl) Za .sh a1.Log))<|zq ?_
   refine za (decide ((a1.Log.length : Int) ≤ 64)) ?_ ?_
   ·exact zk Z75
   ·exact zk (Z76 x0 x5 x6 x7 ox0 ox5)
  ·exact zk (Z76 x0 x5 x6 x7 ox0 ox5)
def Z4f (x0 : List Z0) : Option Bool :=
 some (decide ((x0.length : Int) ≤ 9))
theorem Zbl (x0 : List Z0) ox0 : Sim Z6 (Z4f x0) (Zlu 0 (Zh ox0 (x0.map Z3)) []) := by
 unfold Z4f
 refine zf (ZqJ ..)<|ze<|zp (iv (x0.length : Int)) (et_ (ZU (P := PP) (t := 22) (d := 39) (by kernel_rfl) Z3 (shrO ox0) x0))<|zq ?_
 exact zr ((bv (decide ((x0.length : Int) ≤ 9))), []) ⟨_, rfl⟩
def Z1O (x0 x5 : List Z0) (x6 x7 : Int) : Option Bool :=
 if (decide (x7 < x6)) = true then
 (Z22 x0 x5 x6 x7)
 else
 (Z4f x0)
theorem Zbj (x0 x5 : List Z0) x6 x7 ox0 ox5 : Sim Z6 (Z1O x0 x5 x6 x7) (Zgp 0 (Zh ox0 (x0.map Z3)) (Zh ox5 (x5.map Z3)) (iv x6) (iv x7) []) := by
 unfold Z1O
 refine zf (ZqF ..)<|ze<|zq ?_
 refine za (decide (x7 < x6)) ?_ ?_
 ·exact zk (Zbk x0 x5 x6 x7 ox0 ox5)
 ·exact zk (Zbl x0 ox0)
theorem Z2B x0 x5 x6 x7 {r} (h : Z1O x0 x5 x6 x7 = some r) : Z3g x0 x5 x6 x7 = some r :=
 ZN (fun _ _ ha hb => ru_ ZK (ha .ex .ex) (hb .ex .ex)) (fun ox0 ox5 => Zbj x0 x5 x6 x7 ox0 ox5 r h)
def Z46 (x0 : Z0) : Option Bool :=
 (Z4B x0.Log).bind fun r1 =>
 some r1
theorem ZaX x0 zl : Sim Z6 (Z46 x0) (EE 27 [(pA_ (Zv x0 zl))] []) := by
 unfold Z46
 refine zf (ZvG ..)<|ze<|zx (.ptr 0 0) [(Zd x0 zl)]<|ze<|zq<|zq<|zi fun r1 hr1 => ?_
 obtain ⟨_, er1, _, rfl⟩ := Zcr x0.Log .sh r1 hr1
 refine zc [] (bv r1) [(Zd x0 zl)] er1 ?_
 exact zr ((bv r1), [(Zd x0 zl)]) ⟨_, rfl⟩
theorem Zbm x0 {r} (h : Z46 x0 = some r) : Z49 x0 = some r :=
 ZN (fun _ _ ha hb => ru_ ZK (ha .ex) (hb .ex)) (fun zl => ZaX x0 zl r h)
def Z4w (x0 : List Z8) : Option Bool :=
 Z2e x0 x0 (x0.length : Int) 0
theorem ZbV (x0 : List Z8) ox0 : Sim Z6 (Z4w x0) (EE 48 [(Zh ox0 (x0.map Za))] []) := by
 unfold Z4w
 refine zf (Zw2 ..)<|ze<|ze<|zp (iv (x0.length : Int)) (et_ (ZU (P := PP) (t := 37) (d := 81) (by kernel_rfl) Za (shrO ox0) x0)) ?_
 exact zk (Z6V x0 x0 (x0.length : Int) 0 ox0 (shrO ox0))
theorem Zcq x0 {r} (h : Z4w x0 = some r) : Z4B x0 = some r :=
 ZN (fun _ _ ha hb => ru_ ZK (ha .ex) (hb .ex)) (fun ox0 => ZbV x0 ox0 r h)
def Z2d : Option Bool :=
 some false
theorem Z6E : Sim Z6 Z2d (Zjp 0 []) := by
 unfold Z2d
 refine zf (Zrz ..)<|ze ?_
 exact zr ((bv false), []) ⟨_, rfl⟩
def Z3R (x0 x7 : List Z8) (x8 x9 : Int) (b0 : Z8) : Option Bool :=
 Z2G x0 x7 x8 x9 b0.Delta.Put (b0.Delta.Put.length : Int) 0
theorem Zar (x0 x7 : List Z8) x8 x9 b0 ox0 ox7 zB zy : Sim Z6 (Z3R x0 x7 x8 x9 b0) (Zmw 0 (Zh ox0 (x0.map Za)) (.ptr 0 0) (Zh ox7 (x7.map Za)) (iv x8) (iv x9) [(Zk b0 zB zy)]) := by
 unfold Z3R
 refine zf (ZrA ..)<|ze<|zq<|zq<|zq<|zp (iv (b0.Delta.Put.length : Int)) (et_ (ZU (P := PP) (t := 49) (d := 104) (by kernel_rfl) Z2 (shrO zB) b0.Delta.Put)) ?_
 exact zk (Z6W x0 x7 x8 x9 b0.Delta.Put (b0.Delta.Put.length : Int) 0 ox0 ox7 (shrO zB))
def Z2c (x0 x7 : List Z8) (x8 x9 : Int) : Option Bool :=
 (lget x7 x9).bind fun a1 =>
 if (decide (20 < (a1.Delta.Put.length : Int))) = true then
 Z2d
 else
 (if (decide (20 < (a1.Delta.Drop.length : Int))) = true then
 Z2d
 else
 (Z3R x0 x7 x8 x9 a1))
theorem Zaq (x0 x7 : List Z8) x8 x9 ox0 ox7 : Sim Z6 (Z2c x0 x7 x8 x9) (Zmv 0 (Zh ox0 (x0.map Za)) (Zh ox7 (x7.map Za)) (iv x8) (iv x9) []) := by
 unfold Z2c
 refine zf (Zry ..)<|ze<|zi fun a1 ha1 => zp (.cptr (Z17 a1 .sh .sh)) (et_ (Z1h (o := ox7) (k := .i64) (n := 9) (e := Za) (cs := Z3l) (fun _ => rfl) (fun _ => rfl) (by decide) ha1))<|zq<|zz (.ptr 0 0) [(Zk Zo9 .nl .nl)]<|zt [(Zk a1 .sh .sh)]<|ze<|zq<|zq<|zq<|zp (iv (a1.Delta.Put.length : Int)) (et_ (ZU (P := PP) (t := 49) (d := 104) (by kernel_rfl) Z2 .sh a1.Delta.Put))<|zq ?_
 refine za (decide (20 < (a1.Delta.Put.length : Int))) ?_ ?_
 ·exact zk Z6E
 ·refine zq<|zq<|zq<|zp (iv (a1.Delta.Drop.length : Int)) (et_ (ZU (P := PP) (t := 77) (d := 3) (by kernel_rfl) (eI .i64) .sh a1.Delta.Drop))<|zq ?_
  refine za (decide (20 < (a1.Delta.Drop.length : Int))) ?_ ?_
  ·exact zk Z6E
  ·exact zk (Zar x0 x7 x8 x9 a1 ox0 ox7 .sh .sh)
def Z3D (x0 : List Z8) : Option Bool :=
 some (decide ((x0.length : Int) ≤ 70))
theorem Za6 (x0 : List Z8) ox0 : Sim Z6 (Z3D x0) (Zky 0 (Zh ox0 (x0.map Za)) []) := by
 unfold Z3D
 refine zf (ZpD ..)<|ze<|zp (iv (x0.length : Int)) (et_ (ZU (P := PP) (t := 37) (d := 81) (by kernel_rfl) Za (shrO ox0) x0))<|zq ?_
 exact zr ((bv (decide ((x0.length : Int) ≤ 70))), []) ⟨_, rfl⟩
def Z1Q (x0 x7 : List Z8) (x8 x9 : Int) : Option Bool :=
 if (decide (x9 < x8)) = true then
 (Z2c x0 x7 x8 x9)
 else
 (Z3D x0)
theorem Zao (x0 x7 : List Z8) x8 x9 ox0 ox7 : Sim Z6 (Z1Q x0 x7 x8 x9) (ZgQ 0 (Zh ox0 (x0.map Za)) (Zh ox7 (x7.map Za)) (iv x8) (iv x9) []) := by
 unfold Z1Q
 refine zf (Zrw ..)<|ze<|zq ?_
 refine za (decide (x9 < x8)) ?_ ?_
 ·exact zk (Zaq x0 x7 x8 x9 ox0 ox7)
 ·exact zk (Za6 x0 ox0)
theorem Z3b x0 x7 x8 x9 {r} (h : Z1Q x0 x7 x8 x9 = some r) : Z2e x0 x7 x8 x9 = some r :=
 ZN (fun _ _ ha hb => ru_ ZK (ha .ex .ex) (hb .ex .ex)) (fun ox0 ox7 => Zao x0 x7 x8 x9 ox0 ox7 r h)
def Z3B (x0 x7 : List Z8) (x8 x9 : Int) (x27 : List Z4) (x28 x29 : Int) : Option Bool :=
 Z2G x0 x7 x8 x9 x27 x28 (IntKind.i64.wrap (x29 + 1))
theorem Za4 (x0 x7 : List Z8) x8 x9 (x27 : List Z4) x28 x29 ox0 ox7 ox27 : Sim Z6 (Z3B x0 x7 x8 x9 x27 x28 x29) (Zkw 0 (Zh ox0 (x0.map Za)) (Zh ox7 (x7.map Za)) (iv x8) (iv x9) (Zh ox27 (x27.map Z2)) (iv x28) (iv x29) []) := by
 unfold Z3B
 refine zf (ZpB ..)<|ze<|zq ?_
 exact zk (Z6W x0 x7 x8 x9 x27 x28 (IntKind.i64.wrap (x29 + 1)) ox0 ox7 ox27)
def Z2F (x0 x7 : List Z8) (x8 x9 : Int) (x27 : List Z4) (x28 x29 : Int) : Option Bool :=
 (lget x27 x29).bind fun a1 =>
 if (decide (300 < (a1.Pattern.size : Int))) = true then
 (some false)
 else
 (Z3B x0 x7 x8 x9 x27 x28 x29)
theorem Zas (x0 x7 : List Z8) x8 x9 (x27 : List Z4) x28 x29 ox0 ox7 ox27 : Sim Z6 (Z2F x0 x7 x8 x9 x27 x28 x29) (Zmx 0 (Zh ox0 (x0.map Za)) (Zh ox7 (x7.map Za)) (iv x8) (iv x9) (Zh ox27 (x27.map Z2)) (iv x28) (iv x29) []) := by
 unfold Z2F
 refine zf (ZrB ..)<|ze<|zi fun a1 ha1 => zp (.cptr (ZJ a1)) (et_ (Z1h (o := ox27) (k := .i64) (n := 5) (e := Z2) (cs := Z1o) (fun _ => rfl) (fun _ => rfl) (by decide) ha1))<|zq<|zz (.ptr 0 0) [(ZG (Z4.mk 0 0 0 0 (ByteArray.mk #[])))]<|zt [(ZG a1)]<|ze<|zq<|zq<|zq<|zq ?_
 refine za (decide (300 < (a1.Pattern.size : Int))) ?_ ?_
 ·refine ze ?_
  exact zr ((bv false), [(ZG a1)]) ⟨_, rfl⟩
 ·exact zk (Za4 x0 x7 x8 x9 x27 x28 x29 ox0 ox7 ox27)
def Z3C (x0 x7 : List Z8) (x8 x9 : Int) : Option Bool :=
 Z2e x0 x7 x8 (IntKind.i64.wrap (x9 + 1))
theorem Za5 (x0 x7 : List Z8) x8 x9 ox0 ox7 : Sim Z6 (Z3C x0 x7 x8 x9) (Zkx 0 (Zh ox0 (x0.map Za)) (Zh ox7 (x7.map Za)) (iv x8) (iv x9) []) := by
 unfold Z3C
 refine zf (ZpC ..)<|ze<|zq ?_
 exact zk (Z6V x0 x7 x8 (IntKind.i64.wrap (x9 + 1)) ox0 ox7)
def Z2b (x0 x7 : List Z8) (x8 x9 : Int) (x27 : List Z4) (x28 x29 : Int) : Option Bool :=
 if (decide (x29 < x28)) = true then
 (Z2F x0 x7 x8 x9 x27 x28 x29)
 else
 (Z3C x0 x7 x8 x9)
theorem Zap (x0 x7 : List Z8) x8 x9 (x27 : List Z4) x28 x29 ox0 ox7 ox27 : Sim Z6 (Z2b x0 x7 x8 x9 x27 x28 x29) (ZgR 0 (Zh ox0 (x0.map Za)) (Zh ox7 (x7.map Za)) (iv x8) (iv x9) (Zh ox27 (x27.map Z2)) (iv x28) (iv x29) []) := by
 unfold Z2b
 refine zf (Zrx ..)<|ze<|zq ?_
 refine za (decide (x29 < x28)) ?_ ?_
 ·exact zk (Zas x0 x7 x8 x9 x27 x28 x29 ox0 ox7 ox27)
 ·exact zk (Za5 x0 x7 x8 x9 ox0 ox7)
theorem Z4s x0 x7 x8 x9 x27 x28 x29 {r} (h : Z2b x0 x7 x8 x9 x27 x28 x29 = some r) : Z2G x0 x7 x8 x9 x27 x28 x29 = some r :=
 ZN (fun _ _ ha hb => ru_ ZK (ha .ex .ex .ex) (hb .ex .ex .ex)) (fun ox0 ox7 ox27 => Zap x0 x7 x8 x9 x27 x28 x29 ox0 ox7 ox27 r h)
def Z4N (x0 : List Z0) : Option (List Z1) :=
 Z34 ([] : List Z1) x0 (x0.length : Int) 0
theorem Zco (x0 : List Z0) ox0 : Sim Z1B (Z4N x0) (EE 14 [(Zh ox0 (x0.map Z3))] []) := by
 unfold Z4N
 refine zf (Zvq ..)<|ze<|ze<|ze<|zp (iv (x0.length : Int)) (et_ (ZU (P := PP) (t := 22) (d := 39) (by kernel_rfl) Z3 (shrO ox0) x0)) ?_
 exact zk (Z78 ([] : List Z1) x0 (x0.length : Int) 0 .nl (shrO ox0) rfl)
theorem ZcX x0 {r} (h : Z4N x0 = some r) : Z1p x0 = some r :=
 ZN (fun _ _ ha hb => ru_ Z80 (ha .ex) (hb .ex)) (fun ox0 => Zco x0 ox0 r h)
def Z42 (x3 : List Z1) (x6 : List Z0) (x7 x8 : Int) : Option (List Z1) :=
 (lget x6 x8).bind fun a1 =>
 (Z5H a1).bind fun r2 =>
 (lapp x3 ([r2] : List Z1)).bind fun a3 =>
 Z34 a3 x6 x7 (IntKind.i64.wrap (x8 + 1))
theorem ZaS (x3 : List Z1) (x6 : List Z0) x7 x8 ox3 ox6 (hox3 : Z1j ox3 = true) : Sim Z1B (Z42 x3 x6 x7 x8) (ZlO 0 (Zh ox3 (x3.map Zf)) (Zh ox6 (x6.map Z3)) (iv x7) (iv x8) []) := by
 unfold Z42
 refine zf (ZqY ..)<|ze<|zi fun a1 ha1 => zp (.cptr (Zv a1 .sh)) (et_ (Z1h (o := ox6) (k := .i64) (n := 5) (e := Z3) (cs := Z20) (fun _ => rfl) (fun _ => rfl) (by decide) ha1))<|zq<|zz (.ptr 0 0) [(Zd ZeB .nl)]<|zt [(Zd a1 .sh)]<|ze<|zq<|zi fun r2 hr2 => ?_
 obtain ⟨_, er2, _, rfl⟩ := ZdM a1 .sh r2 hr2
 refine zc [] (pA_ (ZP r2 .sh)) [(Zd a1 .sh)] er2<|zq<|zi fun a3 ha3 => zp (Zh .un (a3.map Zf)) (Eq.trans (by kernel_rfl) <| Za1 (n := 5) (o := ox3) (o' := .ex) (e := Zf) (ys := ([r2] : List Z1)) (fun _ => rfl) (by decide) hox3 ha3)<|ze<|zq ?_
 exact zk (Z78 a3 x6 x7 (IntKind.i64.wrap (x8 + 1)) .un ox6 rfl)
def Z43 (x3 : List Z1) : Option (List Z1) :=
 (Z9z x3).bind fun r1 =>
 some r1
theorem ZaT (x3 : List Z1) ox3 (hox3 : Z1j ox3 = true) : Sim Z1B (Z43 x3) (ZlP 0 (Zh ox3 (x3.map Zf)) []) := by
 unfold Z43
 refine zf (ZqZ ..)<|ze<|zi fun r1 hr1 => ?_
 obtain ⟨_, er1, _, rfl⟩ := ZiA x3 .sh r1 hr1
 refine zc [] (Zh .sh (r1.map Zf)) [] er1 ?_
 exact zr ((Zh .sh (r1.map Zf)), []) ⟨_, rfl⟩
def Z2Z (x3 : List Z1) (x6 : List Z0) (x7 x8 : Int) : Option (List Z1) :=
 if (decide (x8 < x7)) = true then
 (Z42 x3 x6 x7 x8)
 else
 (Z43 x3)
theorem ZaR (x3 : List Z1) (x6 : List Z0) x7 x8 ox3 ox6 (hox3 : Z1j ox3 = true) : Sim Z1B (Z2Z x3 x6 x7 x8) (Zgy 0 (Zh ox3 (x3.map Zf)) (Zh ox6 (x6.map Z3)) (iv x7) (iv x8) []) := by
 unfold Z2Z
 refine zf (ZqX ..)<|ze<|zq ?_
 refine za (decide (x8 < x7)) ?_ ?_
 ·exact zk (ZaS x3 x6 x7 x8 ox3 ox6 hox3)
 ·exact zk (ZaT x3 ox3 hox3)
theorem Z77 x3 x6 x7 x8 {r} (h : Z2Z x3 x6 x7 x8 = some r) : Z34 x3 x6 x7 x8 = some r :=
 ZN (fun _ _ ha hb => ru_ Z80 (ha .ex .ex rfl) (hb .ex .ex rfl)) (fun ox3 ox6 hox3 => ZaR x3 x6 x7 x8 ox3 ox6 hox3 r h)
def Z5y (x0 : Z0) : Option Z1 :=
 (Z54 x0.Log).bind fun r1 =>
 some (Z1.mk x0.View x0.Normal x0.Commit x0.Active r1)
theorem Zdr x0 zl : Sim Z5w (Z5y x0) (EE 31 [(pA_ (Zv x0 zl))] []) := by
 unfold Z5y
 refine zf (ZvN ..)<|ze<|zx (.ptr 0 0) [(Zd x0 zl)]<|zz (.ptr 1 0) [(Zd x0 zl), (ZI Zoa .nl)]<|ze<|zq<|zq<|zq<|zq<|zq<|zq<|zq<|zq<|zq<|zq<|zi fun r1 hr1 => ?_
 obtain ⟨_, er1, _, rfl⟩ := ZcZ x0.Log .sh r1 hr1
 refine zc [] (Zh .sh (r1.map Zg)) [(Zd x0 zl), (ZI Zoa .nl)] er1<|zq<|zt [(Zd x0 zl), (ZI (Z1.mk x0.View x0.Normal x0.Commit x0.Active r1) .sh)]<|zg<|zg<|zg<|zg ?_
 exact zr ((pA_ (ZP (Z1.mk x0.View x0.Normal x0.Commit x0.Active r1) .sh)), [(Zd x0 zl), (ZI (Z1.mk x0.View x0.Normal x0.Commit x0.Active r1) .sh)]) ⟨_, rfl⟩
theorem ZdL x0 {r} (h : Z5y x0 = some r) : Z5H x0 = some r :=
 ZN (fun _ _ ha hb => ru_ Ze9 (ha .ex) (hb .ex)) (fun zl => Zdr x0 zl r h)
def Z4O (x0 : List Z8) : Option (List Zb) :=
 Z35 ([] : List Zb) x0 (x0.length : Int) 0
theorem Zcp (x0 : List Z8) ox0 : Sim Z1W (Z4O x0) (EE 49 [(Zh ox0 (x0.map Za))] []) := by
 unfold Z4O
 refine zf (Zw6 ..)<|ze<|ze<|ze<|zp (iv (x0.length : Int)) (et_ (ZU (P := PP) (t := 37) (d := 81) (by kernel_rfl) Za (shrO ox0) x0)) ?_
 exact zk (Z7a ([] : List Zb) x0 (x0.length : Int) 0 .nl (shrO ox0) rfl)
theorem ZcY x0 {r} (h : Z4O x0 = some r) : Z54 x0 = some r :=
 ZN (fun _ _ ha hb => ru_ Z8g (ha .ex) (hb .ex)) (fun ox0 => Zcp x0 ox0 r h)
def Z44 (x3 : List Zb) (x6 : List Z8) (x7 x8 : Int) : Option (List Zb) :=
 (lget x6 x8).bind fun a1 =>
 (Z5G a1.Delta).bind fun r2 =>
 (lapp x3 ([(Zb.mk a1.View a1.Client a1.Request (Z5.mk r2.Default r2.Closed r2.Fuel r2.Stack r2.Put r2.Drop))] : List Zb)).bind fun a3 =>
 Z35 a3 x6 x7 (IntKind.i64.wrap (x8 + 1))
theorem ZaV (x3 : List Zb) (x6 : List Z8) x7 x8 ox3 ox6 (hox3 : Z1j ox3 = true) : Sim Z1W (Z44 x3 x6 x7 x8) (ZmB 0 (Zh ox3 (x3.map Zg)) (Zh ox6 (x6.map Za)) (iv x7) (iv x8) []) := by
 unfold Z44
 refine zf (ZrE ..)<|ze<|zi fun a1 ha1 => zp (.cptr (Z17 a1 .sh .sh)) (et_ (Z1h (o := ox6) (k := .i64) (n := 9) (e := Za) (cs := Z3l) (fun _ => rfl) (fun _ => rfl) (by decide) ha1))<|zq<|zz (.ptr 0 0) [(Zk Zo9 .nl .nl)]<|zt [(Zk a1 .sh .sh)]<|ze<|zq<|zq<|zq<|zq<|zq<|zq<|zq<|zq<|zi fun r2 hr2 => ?_
 obtain ⟨_, er2, _, rfl⟩ := ZdK a1.Delta .sh .sh r2 hr2
 refine zc [] (pA_ (Z1n r2 .sh .sh)) [(Zk a1 .sh .sh)] er2<|zq<|zq<|zi fun a3 ha3 => zp (Zh .un (a3.map Zg)) (Eq.trans (by kernel_rfl) <| Za1 (n := 9) (o := ox3) (o' := .ex) (e := Zg) (ys := ([(Zb.mk a1.View a1.Client a1.Request (Z5.mk r2.Default r2.Closed r2.Fuel r2.Stack r2.Put r2.Drop))] : List Zb)) (fun _ => rfl) (by decide) hox3 ha3)<|zg<|zg<|zg<|ze<|zq ?_
 exact zk (Z7a a3 x6 x7 (IntKind.i64.wrap (x8 + 1)) .un ox6 rfl)
def Z45 (x3 : List Zb) : Option (List Zb) :=
 some x3
theorem ZaW (x3 : List Zb) ox3 (hox3 : Z1j ox3 = true) : Sim Z1W (Z45 x3) (ZmC 0 (Zh ox3 (x3.map Zg)) []) := by
 unfold Z45
 refine zf (ZrF ..)<|ze ?_
 exact zr ((Zh .sh (x3.map Zg)), []) ⟨_, rfl⟩
def Z30 (x3 : List Zb) (x6 : List Z8) (x7 x8 : Int) : Option (List Zb) :=
 if (decide (x8 < x7)) = true then
 (Z44 x3 x6 x7 x8)
 else
 (Z45 x3)
theorem ZaU (x3 : List Zb) (x6 : List Z8) x7 x8 ox3 ox6 (hox3 : Z1j ox3 = true) : Sim Z1W (Z30 x3 x6 x7 x8) (ZgS 0 (Zh ox3 (x3.map Zg)) (Zh ox6 (x6.map Za)) (iv x7) (iv x8) []) := by
 unfold Z30
 refine zf (ZrD ..)<|ze<|zq ?_
 refine za (decide (x8 < x7)) ?_ ?_
 ·exact zk (ZaV x3 x6 x7 x8 ox3 ox6 hox3)
 ·exact zk (ZaW x3 ox3 hox3)
theorem Z79 x3 x6 x7 x8 {r} (h : Z30 x3 x6 x7 x8 = some r) : Z35 x3 x6 x7 x8 = some r :=
 ZN (fun _ _ ha hb => ru_ Z8g (ha .ex .ex rfl) (hb .ex .ex rfl)) (fun ox3 ox6 hox3 => ZaU x3 x6 x7 x8 ox3 ox6 hox3 r h)
def Z5x (x0 : Z26) : Option Z5 :=
 Z3x x0.Put (x0.Put.length : Int) 0 x0.Default x0.Closed x0.Fuel x0.Stack ([] : List Z4) x0.Drop
theorem Zdq x0 z1U z1z : Sim Z2g (Z5x x0) (EE 67 [(pA_ (Z6p x0 z1U z1z))] []) := by
 unfold Z5x
 refine zf (Zws ..)<|ze<|zx (.ptr 0 0) [(Zo x0 z1U z1z)]<|zz (.ptr 1 0) [(Zo x0 z1U z1z), (Zc ZkZ .nl .nl)]<|ze<|zq<|zq<|zq<|zq<|zq<|zq<|zq<|zq<|zq<|zq<|zq<|zz (.ptr 2 0) [(Zo x0 z1U z1z), (Zc ZkZ .nl .nl), (Zc ZkZ .nl .nl)]<|zt [(Zo x0 z1U z1z), (Zc ZkZ .nl .nl), (Zbu x0.Default x0.Closed x0.Fuel x0.Stack ([] : List Z4) x0.Drop .nl (shrO (shrO z1z)))]<|ze<|zq<|zq<|zp (iv (x0.Put.length : Int)) (et_ (ZU (P := PP) (t := 49) (d := 104) (by kernel_rfl) Z2 (shrO z1U) x0.Put)) ?_
 exact zk (Z7O x0.Put (x0.Put.length : Int) 0 x0 ZkZ x0.Default x0.Closed x0.Fuel x0.Stack ([] : List Z4) x0.Drop (shrO z1U) z1U z1z .nl .nl .nl (shrO (shrO z1z)) rfl rfl rfl)
theorem ZdJ x0 {r} (h : Z5x x0 = some r) : Z5G x0 = some r :=
 ZN (fun _ _ ha hb => ru_ Z9c (ha .ex .ex) (hb .ex .ex)) (fun z1U z1z => Zdq x0 z1U z1z r h)
def Z4u (x18 : List Z4) (x19 x20 z12 z1a z1s z1i : Int) (z1N : List Z4) (z1r : List Int) : Option Z5 :=
 (lget x18 x20).bind fun a1 =>
 (lapp z1N ([a1] : List Z4)).bind fun a2 =>
 Z3x x18 x19 (IntKind.i64.wrap (x20 + 1)) z12 z1a z1s z1i a2 z1r
theorem ZbT (x18 : List Z4) x19 x20 b0 b1 z12 z1a z1s z1i z1N z1r ox18 zS zQ zu zn z1Z z23 (z6P : Z1j zu = true) (z5P : Z1j zn = true) (z6Q : Z1j z1Z = true) : Sim Z2g (Z4u x18 x19 x20 z12 z1a z1s z1i z1N z1r) (Zn1 0 (.ptr 1 0) (.ptr 2 0) (Zh ox18 (x18.map Z2)) (iv x19) (iv x20) [(Zo b0 zS zQ), (Zc b1 zu zn), (Zbu z12 z1a z1s z1i z1N z1r z1Z z23)]) := by
 unfold Z4u
 refine zf (Zs9 ..)<|ze<|zi fun a1 ha1 => zp (.cptr (ZJ a1)) (et_ (Z1h (o := ox18) (k := .i64) (n := 5) (e := Z2) (cs := Z1o) (fun _ => rfl) (fun _ => rfl) (by decide) ha1))<|zq<|zz (.ptr 3 0) [(Zo b0 zS zQ), (Zc b1 zu zn), (Zbu z12 z1a z1s z1i z1N z1r z1Z z23), (ZG (Z4.mk 0 0 0 0 (ByteArray.mk #[])))]<|zt [(Zo b0 zS zQ), (Zc b1 zu zn), (Zbu z12 z1a z1s z1i z1N z1r z1Z z23), (ZG a1)]<|ze<|zq<|zw (Zh z1Z (z1N.map Z2)) [(Zo b0 zS zQ), (Zc b1 zu zn), (Zbu z12 z1a z1s z1i z1N z1r (shrO z1Z) z23), (ZG a1)]<|zq<|zq<|zi fun a2 ha2 => zp (Zh .un (a2.map Z2)) (Eq.trans (by kernel_rfl) <| Za1 (n := 5) (o := z1Z) (o' := .ex) (e := Z2) (ys := ([a1] : List Z4)) (fun _ => rfl) (by decide) z6Q ha2)<|zq<|zt [(Zo b0 zS zQ), (Zc b1 zu zn), (Zbu z12 z1a z1s z1i a2 z1r .un z23), (ZG a1)]<|ze<|zq ?_
 exact zk (Z7O x18 x19 (IntKind.i64.wrap (x20 + 1)) b0 b1 z12 z1a z1s z1i a2 z1r ox18 zS zQ zu zn .un z23 z6P z5P rfl)
def Z4v (z12 z1a z1s z1i : Int) (z1N : List Z4) (z1r : List Int) : Option Z5 :=
 some (Z5.mk z12 z1a z1s z1i z1N z1r)
theorem ZbU b0 b1 z12 z1a z1s z1i z1N z1r zS zQ zu zn z1Z z23 (z6P : Z1j zu = true) (z5P : Z1j zn = true) (z6Q : Z1j z1Z = true) : Sim Z2g (Z4v z12 z1a z1s z1i z1N z1r) (Zn2 0 (.ptr 1 0) (.ptr 2 0) [(Zo b0 zS zQ), (Zc b1 zu zn), (Zbu z12 z1a z1s z1i z1N z1r z1Z z23)]) := by
 unfold Z4v
 refine zf (Zsa ..)<|ze<|zq<|zt [(Zo b0 zS zQ), (Zbu z12 z1a z1s z1i z1N z1r (shrO z1Z) (shrO z23)), (Zbu z12 z1a z1s z1i z1N z1r z1Z z23)] ?_
 exact zr ((pA_ (Z1n (Z5.mk z12 z1a z1s z1i z1N z1r) .sh .sh)), [(Zo b0 zS zQ), (Zbu z12 z1a z1s z1i z1N z1r (shrO z1Z) (shrO z23)), (Zbu z12 z1a z1s z1i z1N z1r z1Z z23)]) ⟨_, rfl⟩
def Z3v (x18 : List Z4) (x19 x20 z12 z1a z1s z1i : Int) (z1N : List Z4) (z1r : List Int) : Option Z5 :=
 if (decide (x20 < x19)) = true then
 (Z4u x18 x19 x20 z12 z1a z1s z1i z1N z1r)
 else
 (Z4v z12 z1a z1s z1i z1N z1r)
theorem ZbS (x18 : List Z4) x19 x20 b0 b1 z12 z1a z1s z1i z1N z1r ox18 zS zQ zu zn z1Z z23 (z6P : Z1j zu = true) (z5P : Z1j zn = true) (z6Q : Z1j z1Z = true) : Sim Z2g (Z3v x18 x19 x20 z12 z1a z1s z1i z1N z1r) (Zh2 0 (.ptr 1 0) (.ptr 2 0) (Zh ox18 (x18.map Z2)) (iv x19) (iv x20) [(Zo b0 zS zQ), (Zc b1 zu zn), (Zbu z12 z1a z1s z1i z1N z1r z1Z z23)]) := by
 unfold Z3v
 refine zf (Zs8 ..)<|ze<|zq ?_
 refine za (decide (x20 < x19)) ?_ ?_
 ·exact zk (ZbT x18 x19 x20 b0 b1 z12 z1a z1s z1i z1N z1r ox18 zS zQ zu zn z1Z z23 z6P z5P z6Q)
 ·exact zk (ZbU b0 b1 z12 z1a z1s z1i z1N z1r zS zQ zu zn z1Z z23 z6P z5P z6Q)
theorem Z7N x18 x19 x20 z12 z1a z1s z1i z1N z1r {r} (h : Z3v x18 x19 x20 z12 z1a z1s z1i z1N z1r = some r) : Z3x x18 x19 x20 z12 z1a z1s z1i z1N z1r = some r :=
 ZN (fun _ _ ha hb => ru_ Z9c (ha default default .ex .ex .ex .ex .ex .ex .ex rfl rfl rfl) (hb default default .ex .ex .ex .ex .ex .ex .ex rfl rfl rfl)) (fun b0 b1 ox18 zS zQ zu zn z1Z z23 z6P z5P z6Q => ZbS x18 x19 x20 b0 b1 z12 z1a z1s z1i z1N z1r ox18 zS zQ zu zn z1Z z23 z6P z5P z6Q r h)
def Z9x (x0 : List Z1) : Option (List Z1) :=
 Z67 x0 ([] : List Z1) 0
theorem Zi4 (x0 : List Z1) ox0 : Sim Z1B (Z9x x0) (EE 32 [(Zh ox0 (x0.map Zf))] []) := by
 unfold Z9x
 refine zf (ZvO ..)<|ze<|ze<|ze ?_
 exact zk (Zbe x0 ([] : List Z1) 0 ox0 .nl rfl)
theorem Ziz x0 {r} (h : Z9x x0 = some r) : Z9z x0 = some r :=
 ZN (fun _ _ ha hb => ru_ Z80 (ha .ex) (hb .ex)) (fun ox0 => Zi4 x0 ox0 r h)
def Z5Z (x0 x3 : List Z1) (x4 : Int) : Option (List Z1) :=
 Z67 x0 x3 (IntKind.i64.wrap (x4 + 1))
theorem ZaA (x0 x3 : List Z1) x4 ox0 ox3 (hox3 : Z1j ox3 = true) : Sim Z1B (Z5Z x0 x3 x4) (Zjj 0 (Zh ox0 (x0.map Zf)) (Zh ox3 (x3.map Zf)) (iv x4) []) := by
 unfold Z5Z
 refine zf (Zrk ..)<|ze<|zq ?_
 exact zk (Zbe x0 x3 (IntKind.i64.wrap (x4 + 1)) ox0 ox3 hox3)
def Z7D (x0 x3 : List Z1) (x4 : Int) : Option (List Z1) :=
 (lget x0 x4).bind fun a1 =>
 (Z6k a1).bind fun r2 =>
 if r2 = true then
 ((lget x0 x4).bind fun a3 =>
 (lapp x3 ([a3] : List Z1)).bind fun a4 =>
 Z5Z x0 a4 x4)
 else
 ((lapp x3 ([(Z1.mk 0 0 0 0 ([] : List Zb))] : List Z1)).bind fun a5 =>
 Z5Z x0 a5 x4)
theorem ZfI (x0 x3 : List Z1) x4 ox0 ox3 (hox3 : Z1j ox3 = true) : Sim Z1B (Z7D x0 x3 x4) (Zmh 0 (Zh ox0 (x0.map Zf)) (Zh ox3 (x3.map Zf)) (iv x4) []) := by
 unfold Z7D
 refine zf (Zrl ..)<|ze<|zi fun a1 ha1 => zp (.cptr (ZP a1 .sh)) (et_ (Z1h (o := (shrO ox0)) (k := .i64) (n := 5) (e := Zf) (cs := Z2n) (fun _ => rfl) (fun _ => rfl) (by decide) ha1))<|zq<|zi fun r2 hr2 => ?_
 obtain ⟨_, er2, _, rfl⟩ := Zeo a1 .sh r2 hr2
 refine zc [] (bv r2) [] er2 ?_
 refine za r2 ?_ ?_
 ·refine ze<|zi fun a3 ha3 => zp (.cptr (ZP a3 .sh)) (et_ (Z1h (o := (shrO ox0)) (k := .i64) (n := 5) (e := Zf) (cs := Z2n) (fun _ => rfl) (fun _ => rfl) (by decide) ha3))<|zq<|zq<|zi fun a4 ha4 => zp (Zh .un (a4.map Zf)) (Eq.trans (by kernel_rfl) <| Za1 (n := 5) (o := ox3) (o' := .ex) (e := Zf) (ys := ([a3] : List Z1)) (fun _ => rfl) (by decide) hox3 ha4) ?_
  exact zk (ZaA x0 a4 x4 ox0 .un rfl)
 ·refine ze<|zq<|zq<|zi fun a5 ha5 => zp (Zh .un (a5.map Zf)) (Eq.trans (by kernel_rfl) <| Za1 (n := 5) (o := ox3) (o' := .ex) (e := Zf) (ys := ([Zoa] : List Z1)) (fun _ => rfl) (by decide) hox3 ha5) ?_
  exact zk (ZaA x0 a5 x4 ox0 .un rfl)
def Z7E (x3 : List Z1) : Option (List Z1) :=
 some x3
theorem ZfJ (x3 : List Z1) ox3 (hox3 : Z1j ox3 = true) : Sim Z1B (Z7E x3) (Zmi 0 (Zh ox3 (x3.map Zf)) []) := by
 unfold Z7E
 refine zf (Zrm ..)<|ze ?_
 exact zr ((Zh .sh (x3.map Zf)), []) ⟨_, rfl⟩
def Z5Y (x0 x3 : List Z1) (x4 : Int) : Option (List Z1) :=
 if (decide (x4 < (x0.length : Int))) = true then
 (Z7D x0 x3 x4)
 else
 (Z7E x3)
theorem ZfH (x0 x3 : List Z1) x4 ox0 ox3 (hox3 : Z1j ox3 = true) : Sim Z1B (Z5Y x0 x3 x4) (ZgL 0 (Zh ox0 (x0.map Zf)) (Zh ox3 (x3.map Zf)) (iv x4) []) := by
 unfold Z5Y
 refine zf (Zrj ..)<|ze<|zp (iv (x0.length : Int)) (et_ (ZU (P := PP) (t := 28) (d := 44) (by kernel_rfl) Zf (shrO ox0) x0))<|zq ?_
 refine za (decide (x4 < (x0.length : Int))) ?_ ?_
 ·exact zk (ZfI x0 x3 x4 ox0 ox3 hox3)
 ·exact zk (ZfJ x3 ox3 hox3)
theorem Zbd x0 x3 x4 {r} (h : Z5Y x0 x3 x4 = some r) : Z67 x0 x3 x4 = some r :=
 ZN (fun _ _ ha hb => ru_ Z80 (ha .ex .ex rfl) (hb .ex .ex rfl)) (fun ox0 ox3 hox3 => ZfH x0 x3 x4 ox0 ox3 hox3 r h)
def Z1l : Option Bool :=
 some false
theorem Z1q : Sim Z6 Z1l (Z8j 0 []) := by
 unfold Z1l
 refine zf (ZrI ..)<|ze ?_
 exact zr ((bv false), []) ⟨_, rfl⟩
def Z4U (b0 : Z1) : Option Bool :=
 Z2T 0 b0
theorem Zcz b0 zj : Sim Z6 (Z4U b0) (ZmF 0 (.ptr 0 0) [(ZI b0 zj)]) := by
 unfold Z4U
 refine zf (ZrJ ..)<|ze ?_
 exact zk (Z8c 0 b0 zj)
def Z6g (x0 : Z1) : Option Bool :=
 if (decide (x0.View < 0)) = true then
 Z1l
 else
 (if (decide (1099511627776 < x0.View)) = true then
 Z1l
 else
 (if (decide (x0.Normal < 0)) = true then
 Z1l
 else
 (if (decide (x0.View < x0.Normal)) = true then
 Z1l
 else
 (if (decide (64 < (x0.Log.length : Int))) = true then
 Z1l
 else
 (if (decide (x0.Commit < 0)) = true then
 Z1l
 else
 (if (decide ((x0.Log.length : Int) < x0.Commit)) = true then
 Z1l
 else
 (if (decide (x0.Active < 0)) = true then
 Z1l
 else
 (if (decide (64 < x0.Active)) = true then
 Z1l
 else
 (Z4U x0)))))))))
theorem ZdT x0 zl : Sim Z6 (Z6g x0) (EE 50 [(pA_ (ZP x0 zl))] []) := by
 unfold Z6g
 refine zf (Zw9 ..)<|ze<|zx (.ptr 0 0) [(ZI x0 zl)]<|ze<|zq<|zq<|zq ?_
 refine za (decide (x0.View < 0)) ?_ ?_
 ·exact zk Z1q
 ·refine zq<|zq<|zq ?_
  refine za (decide (1099511627776 < x0.View)) ?_ ?_
  ·exact zk Z1q
  ·refine zq<|zq<|zq ?_
   refine za (decide (x0.Normal < 0)) ?_ ?_
   ·exact zk Z1q
   ·refine zq<|zq<|zq<|zq<|zq ?_
    refine za (decide (x0.View < x0.Normal)) ?_ ?_
    ·exact zk Z1q
    ·refine zq<|zq<|zp (iv (x0.Log.length : Int)) (et_ (ZU (P := PP) (t := 42) (d := 95) (by kernel_rfl) Zg (shrO zl) x0.Log))<|zq ?_
     refine za (decide (64 < (x0.Log.length : Int))) ?_ ?_
     ·exact zk Z1q
     ·refine zq<|zq<|zq ?_
      refine za (decide (x0.Commit < 0)) ?_ ?_
      ·exact zk Z1q
      ·refine zq<|zq<|zq<|zq<|zp (iv (x0.Log.length : Int)) (et_ (ZU (P := PP) (t := 42) (d := 95) (by kernel_rfl) Zg (shrO zl) x0.Log))<|zq ?_
       refine za (decide ((x0.Log.length : Int) < x0.Commit)) ?_ ?_
       ·exact zk Z1q
       ·refine zq<|zq<|zq ?_
        refine za (decide (x0.Active < 0)) ?_ ?_
        ·exact zk Z1q
        ·refine zq<|zq<|zq ?_
         refine za (decide (64 < x0.Active)) ?_ ?_
         ·exact zk Z1q
         ·exact zk (Zcz x0 zl)
theorem Zen x0 {r} (h : Z6g x0 = some r) : Z6k x0 = some r :=
 ZN (fun _ _ ha hb => ru_ ZK (ha .ex) (hb .ex)) (fun zl => ZdT x0 zl r h)
def Z4V (x3 : Int) (b0 : Z1) : Option Bool :=
 Z2T (IntKind.i64.wrap (x3 + 1)) b0
theorem ZcA x3 b0 zj : Sim Z6 (Z4V x3 b0) (ZmG 0 (.ptr 0 0) (iv x3) [(ZI b0 zj)]) := by
 unfold Z4V
 refine zf (ZrK ..)<|ze<|zq ?_
 exact zk (Z8c (IntKind.i64.wrap (x3 + 1)) b0 zj)
def Z4W (x3 : Int) (b0 : Z1) : Option Bool :=
 (lget b0.Log x3).bind fun a1 =>
 (Z6i a1).bind fun r2 =>
 if (!r2) = true then
 (some false)
 else
 (Z4V x3 b0)
theorem ZcB x3 b0 zj : Sim Z6 (Z4W x3 b0) (ZmH 0 (.ptr 0 0) (iv x3) [(ZI b0 zj)]) := by
 unfold Z4W
 refine zf (ZrL ..)<|ze<|zq<|zq<|zi fun a1 ha1 => zp (.cptr (Z1f a1 .sh .sh)) (et_ (Z1h (o := (shrO zj)) (k := .i64) (n := 9) (e := Zg) (cs := Z1m) (fun _ => rfl) (fun _ => rfl) (by decide) ha1))<|zq<|zi fun r2 hr2 => ?_
 obtain ⟨_, er2, _, rfl⟩ := Zem a1 .sh .sh r2 hr2
 refine zc [] (bv r2) [(ZI b0 zj)] er2<|zq ?_
 refine za (!r2) ?_ ?_
 ·refine ze ?_
  exact zr ((bv false), [(ZI b0 zj)]) ⟨_, rfl⟩
 ·exact zk (ZcA x3 b0 zj)
def Z4X : Option Bool :=
 some true
theorem ZcC : Sim Z6 Z4X (ZmI 0 []) := by
 unfold Z4X
 refine zf (ZrM ..)<|ze ?_
 exact zr ((bv true), []) ⟨_, rfl⟩
def Z3K (x3 : Int) (b0 : Z1) : Option Bool :=
 if (decide (x3 < (b0.Log.length : Int))) = true then
 (Z4W x3 b0)
 else
 Z4X
theorem Zcy x3 b0 zj : Sim Z6 (Z3K x3 b0) (ZgT 0 (.ptr 0 0) (iv x3) [(ZI b0 zj)]) := by
 unfold Z3K
 refine zf (ZrH ..)<|ze<|zq<|zq<|zp (iv (b0.Log.length : Int)) (et_ (ZU (P := PP) (t := 42) (d := 95) (by kernel_rfl) Zg (shrO zj) b0.Log))<|zq ?_
 refine za (decide (x3 < (b0.Log.length : Int))) ?_ ?_
 ·exact zk (ZcB x3 b0 zj)
 ·exact zk ZcC
theorem Z8b x3 b0 {r} (h : Z3K x3 b0 = some r) : Z2T x3 b0 = some r :=
 ZN (fun _ _ ha hb => ru_ ZK (ha .ex) (hb .ex)) (fun zj => Zcy x3 b0 zj r h)
def Z1X : Option Bool :=
 some false
theorem Z2I : Sim Z6 Z1X (Zdo 0 []) := by
 unfold Z1X
 refine zf (Zse ..)<|ze ?_
 exact zr ((bv false), []) ⟨_, rfl⟩
def Z2m : Option Bool :=
 some false
theorem Z3U : Sim Z6 Z2m (ZeL 0 []) := by
 unfold Z2m
 refine zf (Zsg ..)<|ze ?_
 exact zr ((bv false), []) ⟨_, rfl⟩
def Z4R (b1 : Z5) : Option Bool :=
 Z2o 0 b1
theorem Zcv b0 b1 zB zy zu zn : Sim Z6 (Z4R b1) (Zn7 0 (.ptr 1 0) [(ZM b0 zB zy), (Zc b1 zu zn)]) := by
 unfold Z4R
 refine zf (Zsh ..)<|ze ?_
 exact zk (Z8a 0 b0 b1 zB zy zu zn)
def Z4Q (b1 : Z5) : Option Bool :=
 (Z2y b1.Default (-1) 1099511627776).bind fun r1 =>
 if (!r1) = true then
 Z2m
 else
 ((Z2y b1.Closed (-1) 1099511627776).bind fun r2 =>
 if (!r2) = true then
 Z2m
 else
 ((Z2y b1.Fuel (-1) 1099511627776).bind fun r3 =>
 if (!r3) = true then
 Z2m
 else
 ((Z2y b1.Stack (-1) 1099511627776).bind fun r4 =>
 if (!r4) = true then
 Z2m
 else
 (Z4R b1))))
theorem Zcu b0 b1 zB zy zu zn : Sim Z6 (Z4Q b1) (Zn6 0 (.ptr 1 0) [(ZM b0 zB zy), (Zc b1 zu zn)]) := by
 unfold Z4Q
 refine zf (Zsf ..)<|ze<|zq<|zq<|zi fun r1 hr1 => ?_
 obtain ⟨_, er1, _, rfl⟩ := Z2V b1.Default (-1) 1099511627776 r1 hr1
 refine zc [] (bv r1) [(ZM b0 zB zy), (Zc b1 zu zn)] er1<|zq ?_
 refine za (!r1) ?_ ?_
 ·exact zk Z3U
 ·refine zq<|zq<|zi fun r2 hr2 => ?_
  obtain ⟨_, er2, _, rfl⟩ := Z2V b1.Closed (-1) 1099511627776 r2 hr2
  refine zc [] (bv r2) [(ZM b0 zB zy), (Zc b1 zu zn)] er2<|zq ?_
  refine za (!r2) ?_ ?_
  ·exact zk Z3U
  ·refine zq<|zq<|zi fun r3 hr3 => ?_
   obtain ⟨_, er3, _, rfl⟩ := Z2V b1.Fuel (-1) 1099511627776 r3 hr3
   refine zc [] (bv r3) [(ZM b0 zB zy), (Zc b1 zu zn)] er3<|zq ?_
   refine za (!r3) ?_ ?_
   ·exact zk Z3U
   ·refine zq<|zq<|zi fun r4 hr4 => ?_
    obtain ⟨_, er4, _, rfl⟩ := Z2V b1.Stack (-1) 1099511627776 r4 hr4
    refine zc [] (bv r4) [(ZM b0 zB zy), (Zc b1 zu zn)] er4<|zq ?_
    refine za (!r4) ?_ ?_
    ·exact zk Z3U
    ·exact zk (Zcv b0 b1 zB zy zu zn)
def Z6f (x0 : Zb) : Option Bool :=
 (Z2y x0.View 0 1099511627776).bind fun r1 =>
 if (!r1) = true then
 Z1X
 else
 ((Z2y x0.Client 1 1099511627776).bind fun r2 =>
 if (!r2) = true then
 Z1X
 else
 ((Z2y x0.Request 1 1099511627776).bind fun r3 =>
 if (!r3) = true then
 Z1X
 else
 (if (decide (16 < (x0.Delta.Put.length : Int))) = true then
 Z1X
 else
 (if (decide (16 < (x0.Delta.Drop.length : Int))) = true then
 Z1X
 else
 (Z4Q x0.Delta)))))
theorem ZdS x0 z9 z7 : Sim Z6 (Z6f x0) (EE 68 [(pA_ (Z1f x0 z9 z7))] []) := by
 unfold Z6f
 refine zf (Zwv ..)<|ze<|zx (.ptr 0 0) [(ZM x0 z9 z7)]<|ze<|zq<|zq<|zz (.ptr 1 0) [(ZM x0 z9 z7), (Zc ZkZ .nl .nl)]<|zt [(ZM x0 z9 z7), (Zc x0.Delta (shrO z9) (shrO z7))]<|ze<|zq<|zq<|zi fun r1 hr1 => ?_
 obtain ⟨_, er1, _, rfl⟩ := Z2V x0.View 0 1099511627776 r1 hr1
 refine zc [] (bv r1) [(ZM x0 z9 z7), (Zc x0.Delta (shrO z9) (shrO z7))] er1<|zq ?_
 refine za (!r1) ?_ ?_
 ·exact zk Z2I
 ·refine zq<|zq<|zi fun r2 hr2 => ?_
  obtain ⟨_, er2, _, rfl⟩ := Z2V x0.Client 1 1099511627776 r2 hr2
  refine zc [] (bv r2) [(ZM x0 z9 z7), (Zc x0.Delta (shrO z9) (shrO z7))] er2<|zq ?_
  refine za (!r2) ?_ ?_
  ·exact zk Z2I
  ·refine zq<|zq<|zi fun r3 hr3 => ?_
   obtain ⟨_, er3, _, rfl⟩ := Z2V x0.Request 1 1099511627776 r3 hr3
   refine zc [] (bv r3) [(ZM x0 z9 z7), (Zc x0.Delta (shrO z9) (shrO z7))] er3<|zq ?_
   refine za (!r3) ?_ ?_
   ·exact zk Z2I
   ·refine zq<|zq<|zp (iv (x0.Delta.Put.length : Int)) (et_ (ZU (P := PP) (t := 53) (d := 103) (by kernel_rfl) Z2 (shrO (shrO z9)) x0.Delta.Put))<|zq ?_
    refine za (decide (16 < (x0.Delta.Put.length : Int))) ?_ ?_
    ·exact zk Z2I
    ·refine zq<|zq<|zp (iv (x0.Delta.Drop.length : Int)) (et_ (ZU (P := PP) (t := 77) (d := 3) (by kernel_rfl) (eI .i64) (shrO (shrO z7)) x0.Delta.Drop))<|zq ?_
     refine za (decide (16 < (x0.Delta.Drop.length : Int))) ?_ ?_
     ·exact zk Z2I
     ·exact zk (Zcu x0 x0.Delta z9 z7 (shrO z9) (shrO z7))
theorem Zel x0 {r} (h : Z6f x0 = some r) : Z6i x0 = some r :=
 ZN (fun _ _ ha hb => ru_ ZK (ha .ex .ex) (hb .ex .ex)) (fun z9 z7 => ZdS x0 z9 z7 r h)
def Z4S (x4 : Int) (b1 : Z5) : Option Bool :=
 Z2o (IntKind.i64.wrap (x4 + 1)) b1
theorem Zcw x4 b0 b1 zB zy zu zn : Sim Z6 (Z4S x4 b1) (Zn8 0 (.ptr 1 0) (iv x4) [(ZM b0 zB zy), (Zc b1 zu zn)]) := by
 unfold Z4S
 refine zf (Zsi ..)<|ze<|zq ?_
 exact zk (Z8a (IntKind.i64.wrap (x4 + 1)) b0 b1 zB zy zu zn)
def Z4T (x4 : Int) (b1 : Z5) : Option Bool :=
 (lget b1.Put x4).bind fun a1 =>
 (Z6H a1).bind fun r2 =>
 if (!r2) = true then
 (some false)
 else
 (Z4S x4 b1)
theorem Zcx x4 b0 b1 zB zy zu zn : Sim Z6 (Z4T x4 b1) (Zn9 0 (.ptr 1 0) (iv x4) [(ZM b0 zB zy), (Zc b1 zu zn)]) := by
 unfold Z4T
 refine zf (Zsj ..)<|ze<|zq<|zq<|zi fun a1 ha1 => zp (.cptr (ZJ a1)) (et_ (Z1h (o := (shrO zu)) (k := .i64) (n := 5) (e := Z2) (cs := Z1o) (fun _ => rfl) (fun _ => rfl) (by decide) ha1))<|zq<|zi fun r2 hr2 => ?_
 obtain ⟨_, er2, _, rfl⟩ := ZeW a1 r2 hr2
 refine zc [] (bv r2) [(ZM b0 zB zy), (Zc b1 zu zn)] er2<|zq ?_
 refine za (!r2) ?_ ?_
 ·refine ze ?_
  exact zr ((bv false), [(ZM b0 zB zy), (Zc b1 zu zn)]) ⟨_, rfl⟩
 ·exact zk (Zcw x4 b0 b1 zB zy zu zn)
def Z4x (b1 : Z5) : Option Bool :=
 Z3y 0 b1
theorem Zc0 b0 b1 zB zy zu zn : Sim Z6 (Z4x b1) (ZkD 0 (.ptr 1 0) [(ZM b0 zB zy), (Zc b1 zu zn)]) := by
 unfold Z4x
 refine zf (ZpJ ..)<|ze ?_
 exact zk (Z7Q 0 b0 b1 zB zy zu zn)
def Z3J (x4 : Int) (b1 : Z5) : Option Bool :=
 if (decide (x4 < (b1.Put.length : Int))) = true then
 (Z4T x4 b1)
 else
 (Z4x b1)
theorem Zct x4 b0 b1 zB zy zu zn : Sim Z6 (Z3J x4 b1) (Zh3 0 (.ptr 1 0) (iv x4) [(ZM b0 zB zy), (Zc b1 zu zn)]) := by
 unfold Z3J
 refine zf (Zsd ..)<|ze<|zq<|zq<|zp (iv (b1.Put.length : Int)) (et_ (ZU (P := PP) (t := 53) (d := 103) (by kernel_rfl) Z2 (shrO zu) b1.Put))<|zq ?_
 refine za (decide (x4 < (b1.Put.length : Int))) ?_ ?_
 ·exact zk (Zcx x4 b0 b1 zB zy zu zn)
 ·exact zk (Zc0 b0 b1 zB zy zu zn)
theorem Z89 x4 b1 {r} (h : Z3J x4 b1 = some r) : Z2o x4 b1 = some r :=
 ZN (fun _ _ ha hb => ru_ ZK (ha default .ex .ex .ex .ex) (hb default .ex .ex .ex .ex)) (fun b0 zB zy zu zn => Zct x4 b0 b1 zB zy zu zn r h)
def Z4y (x5 : Int) (b1 : Z5) : Option Bool :=
 Z3y (IntKind.i64.wrap (x5 + 1)) b1
theorem Zc1 x5 b0 b1 zB zy zu zn : Sim Z6 (Z4y x5 b1) (ZkE 0 (.ptr 1 0) (iv x5) [(ZM b0 zB zy), (Zc b1 zu zn)]) := by
 unfold Z4y
 refine zf (ZpK ..)<|ze<|zq ?_
 exact zk (Z7Q (IntKind.i64.wrap (x5 + 1)) b0 b1 zB zy zu zn)
def Z4z (x5 : Int) (b1 : Z5) : Option Bool :=
 (lget b1.Drop x5).bind fun a1 =>
 (Z2y a1 1 1099511627776).bind fun r2 =>
 if (!r2) = true then
 (some false)
 else
 (Z4y x5 b1)
theorem Zc2 x5 b0 b1 zB zy zu zn : Sim Z6 (Z4z x5 b1) (ZkF 0 (.ptr 1 0) (iv x5) [(ZM b0 zB zy), (Zc b1 zu zn)]) := by
 unfold Z4z
 refine zf (ZpL ..)<|ze<|zq<|zq<|zi fun a1 ha1 => zp (.cptr [(.v (.int .i64 a1))]) (et_ (Z1h (o := (shrO zn)) (k := .i64) (n := 1) (e := (eI .i64)) (cs := (fun a => [(eI .i64) a])) (fun _ => rfl) (fun _ => rfl) (by decide) ha1))<|zq<|zi fun r2 hr2 => ?_
 obtain ⟨_, er2, _, rfl⟩ := Z2V a1 1 1099511627776 r2 hr2
 refine zc [] (bv r2) [(ZM b0 zB zy), (Zc b1 zu zn)] er2<|zq ?_
 refine za (!r2) ?_ ?_
 ·refine ze ?_
  exact zr ((bv false), [(ZM b0 zB zy), (Zc b1 zu zn)]) ⟨_, rfl⟩
 ·exact zk (Zc1 x5 b0 b1 zB zy zu zn)
def Z4A : Option Bool :=
 some true
theorem Zc3 : Sim Z6 Z4A (ZkG 0 []) := by
 unfold Z4A
 refine zf (ZpM ..)<|ze ?_
 exact zr ((bv true), []) ⟨_, rfl⟩
def Z3w (x5 : Int) (b1 : Z5) : Option Bool :=
 if (decide (x5 < (b1.Drop.length : Int))) = true then
 (Z4z x5 b1)
 else
 Z4A
theorem ZbZ x5 b0 b1 zB zy zu zn : Sim Z6 (Z3w x5 b1) (ZeK 0 (.ptr 1 0) (iv x5) [(ZM b0 zB zy), (Zc b1 zu zn)]) := by
 unfold Z3w
 refine zf (ZpI ..)<|ze<|zq<|zq<|zp (iv (b1.Drop.length : Int)) (et_ (ZU (P := PP) (t := 77) (d := 3) (by kernel_rfl) (eI .i64) (shrO zn) b1.Drop))<|zq ?_
 refine za (decide (x5 < (b1.Drop.length : Int))) ?_ ?_
 ·exact zk (Zc2 x5 b0 b1 zB zy zu zn)
 ·exact zk Zc3
theorem Z7P x5 b1 {r} (h : Z3w x5 b1 = some r) : Z3y x5 b1 = some r :=
 ZN (fun _ _ ha hb => ru_ ZK (ha default .ex .ex .ex .ex) (hb default .ex .ex .ex .ex)) (fun b0 zB zy zu zn => ZbZ x5 b0 b1 zB zy zu zn r h)
end Go.Proofs.YtiigbcahdaoedaaGreatDoor.N2
end
