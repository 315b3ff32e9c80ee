/- More of the functions' typed texts. No condition. -/
import Derived.Test.YteoeggbihfnbfaaGreatDoorTypA

noncomputable section
set_option linter.unusedSimpArgs false
set_option linter.unusedVariables false
namespace Go.Proofs.YteoeggbihfnbfaaGreatDoor.N2
open Go Go.Abs
set_option linter.unusedVariables false
set_option maxRecDepth 100000
def Z8r  : Option (Bool) :=
 some (false)
theorem Zeh  : Sim (Z6h) (Z8r) (ZrS 0  []) := by
 unfold Z8r
 refine zf (ZC1 ..)<|ze ?_
 exact zr ((bv false), []) ⟨_, rfl⟩
def Z3Q (b0 : Z7) : Option (Bool) :=
 (Z5w b0.Kids).bind fun r1 =>
 some (!r1)
theorem ZaD b0 z1T z1D : Sim (Z6h) (Z3Q b0) (ZoD 0 (.ptr 0 0) [(Zv b0 z1T z1D)]) := by
 unfold Z3Q
 refine zf (ZC2 ..)<|ze<|zq<|zq<|zi fun r1 hr1 => ?_
 obtain ⟨qr1, er1, exr1, rfl⟩ := Zej b0.Kids .sh r1 hr1
 refine zc [] (bv r1) [(Zv b0 z1T z1D)] er1<|zq ?_
 exact zr ((bv (!r1)), [(Zv b0 z1T z1D)]) ⟨_, rfl⟩
def Z8q (b0 : Z7) : Option (Bool) :=
 (lget b0.Kids 0).bind fun a1 =>
 (Z3F a1).bind fun r2 =>
 if (decide (r2.2 < 0)) = true then
 (Z8r)
 else
 (if (decide (32 < r2.2)) = true then
 (Z8r)
 else
 (Z3Q b0))
theorem Zlg b0 z1T z1D : Sim (Z6h) (Z8q b0) (Zw8 0 (.ptr 0 0) [(Zv b0 z1T z1D)]) := by
 unfold Z8q
 refine zf (ZC0 ..)<|ze<|zq<|zq<|zi fun a1 ha1 => ?_
 refine zo (.cptr (ZJ a1 .sh .sh)) ?_ (Eq.trans (by kernel_rfl) (Z3X (o := (shrO z1D)) (k := .i64) (n := 7) (e := ZV) (cs := Z37) Z6c (fun _ => rfl) (by decide) ha1))
 refine zq<|zi fun r2 hr2 => ?_
 obtain ⟨qr2, er2, exr2, rfl⟩ := Z87 a1 .sh .sh r2 hr2
 refine zc [] (.p (.tup [(.v (.int .i64 r2.1)), (.v (.int .i64 r2.2))])) [(Zv b0 z1T z1D)] er2<|zq<|zq<|ze<|zq ?_
 refine za (decide (r2.2 < 0)) ?_ ?_
 ·exact zk (Zeh )
 ·refine zq ?_
  refine za (decide (32 < r2.2)) ?_ ?_
  ·exact zk (Zeh )
  ·exact zk (ZaD b0 z1T z1D)
def Zcn (x0 : Z7) : Option (Bool) :=
 if (x0.Kind == 7) = true then
 (if (decide (2 ≤ x0.Mode)) = true then
 (Z8q x0)
 else
 (Z3Q x0))
 else
 (Z3Q x0)
theorem Zor x0 z1U z1A : Sim (Z6h) (Zcn x0) (EE 71 [(.p (.agg (ZJ x0 z1U z1A)))] []) := by
 unfold Zcn
 refine zf (ZHr ..)<|ze<|zx (.ptr 0 0) [(Zv x0 z1U z1A)]<|ze<|zq<|zq<|zq ?_
 refine za (x0.Kind == 7) ?_ ?_
 ·refine zq<|zq<|zq ?_
  refine za (decide (2 ≤ x0.Mode)) ?_ ?_
  ·exact zk (Zlg x0 z1U z1A)
  ·exact zk (ZaD x0 z1U z1A)
 ·exact zk (ZaD x0 z1U z1A)
theorem ZoR (x0 : Z7) {r} (h : Zcn x0 = some r) : Z4s x0 = some r :=
 Z1f (fun _ _ ha hb => RRun.uniq ZpV (ha .ex .ex) (hb .ex .ex)) (fun z1U z1A => Zor x0 z1U z1A r h)
def Z7E (x2 x3 : Int) : Option (Int × Int) :=
 some (x2, x3)
theorem Z8M x2 x3 : Sim (Z3h) (Z7E x2 x3) (Zjg 0 (iv x2) (iv x3) []) := by
 unfold Z7E
 refine zf (ZAy ..)<|ze ?_
 exact zr ((.p (.tup [(.v (.int .i64 x2)), (.v (.int .i64 x3))])), []) ⟨_, rfl⟩
def ZeB (x0 : Z7) : Option (Int × Int) :=
 if (x0.Kind == 1) = true then
 (some (1, 1))
 else
 (if (x0.Kind == 6) = true then
 (some (0, (-1)))
 else
 (if (x0.Kind == 2) = true then
 (Z9F 0 0 x0.Kids (x0.Kids.length : Int) 0)
 else
 (if (x0.Kind == 3) = true then
 (Z93 1048576 0 x0.Kids (x0.Kids.length : Int) 0)
 else
 (if (x0.Kind == 4) = true then
 ((lget x0.Kids 0).bind fun a1 =>
 (Z3F a1).bind fun r2 =>
 (Zc6 r2.2 x0.Hi).bind fun r3 =>
 some ((min (IntKind.i64.wrap (r2.1 * x0.Lo)) 1048576), r3))
 else
 (if (x0.Kind == 5) = true then
 (if (x0.Kind == 5) = true then
 ((lget x0.Kids 0).bind fun a4 =>
 (Z3F a4).bind fun r5 =>
 some (r5.1, r5.2))
 else
 (Z7E 0 0))
 else
 (if (x0.Kind == 8) = true then
 ((lget x0.Kids 0).bind fun a6 =>
 (Z3F a6).bind fun r7 =>
 some (r7.1, r7.2))
 else
 (Z7E 0 0)))))))
theorem Zq6 x0 z1U z1A : Sim (Z3h) (ZeB x0) (EE 93 [(.p (.agg (ZJ x0 z1U z1A)))] []) := by
 unfold ZeB
 refine zf (ZHI ..)<|ze<|zx (.ptr 0 0) [(Zv x0 z1U z1A)]<|ze<|zq<|zq<|ze<|zq ?_
 refine za (x0.Kind == 1) ?_ ?_
 ·refine ze ?_
  exact zr ((.p (.tup [(.v (.int .i64 1)), (.v (.int .i64 1))])), [(Zv x0 z1U z1A)]) ⟨_, rfl⟩
 ·refine ze<|zq ?_
  refine za (x0.Kind == 6) ?_ ?_
  ·refine ze ?_
   exact zr ((.p (.tup [(.v (.int .i64 0)), (.v (.int .i64 (-1)))])), [(Zv x0 z1U z1A)]) ⟨_, rfl⟩
  ·refine ze<|zq ?_
   refine za (x0.Kind == 2) ?_ ?_
   ·refine ze<|zq<|zq ?_
    refine zo (iv (x0.Kids.length : Int)) ?_ (Eq.trans (by kernel_rfl) (Z30 (P := PP) (t := 96) (d := 98) (by kernel_rfl) ZV (shrO z1A) x0.Kids))
    exact zk (Zgx 0 0 x0.Kids (x0.Kids.length : Int) 0 (shrO z1A))
   ·refine ze<|zq ?_
    refine za (x0.Kind == 3) ?_ ?_
    ·refine ze<|ze<|zq<|zq ?_
     refine zo (iv (x0.Kids.length : Int)) ?_ (Eq.trans (by kernel_rfl) (Z30 (P := PP) (t := 96) (d := 98) (by kernel_rfl) ZV (shrO z1A) x0.Kids))
     exact zk (ZfR 1048576 0 x0.Kids (x0.Kids.length : Int) 0 (shrO z1A))
    ·refine ze<|zq ?_
     refine za (x0.Kind == 4) ?_ ?_
     ·refine ze<|zq<|zq<|zi fun a1 ha1 => ?_
      refine zo (.cptr (ZJ a1 .sh .sh)) ?_ (Eq.trans (by kernel_rfl) (Z3X (o := (shrO z1A)) (k := .i64) (n := 7) (e := ZV) (cs := Z37) Z6c (fun _ => rfl) (by decide) ha1))
      refine zq<|zi fun r2 hr2 => ?_
      obtain ⟨qr2, er2, exr2, rfl⟩ := Z87 a1 .sh .sh r2 hr2
      refine zc [] (.p (.tup [(.v (.int .i64 r2.1)), (.v (.int .i64 r2.2))])) [(Zv x0 z1U z1A)] er2<|zq<|zq<|ze<|zq<|zq<|zq ?_
      refine zo (iv (min (IntKind.i64.wrap (r2.1 * x0.Lo)) 1048576)) ?_ (ZcZ _ _)
      refine zq<|zq<|zi fun r3 hr3 => ?_
      obtain ⟨qr3, er3, exr3, rfl⟩ := Zr7 r2.2 x0.Hi r3 hr3
      refine zc [] (iv r3) [(Zv x0 z1U z1A)] er3<|zg ?_
      exact zr ((.p (.tup [(.v (.int .i64 (min (IntKind.i64.wrap (r2.1 * x0.Lo)) 1048576))), (.v (.int .i64 r3))])), [(Zv x0 z1U z1A)]) ⟨_, rfl⟩
     ·refine ze<|zq ?_
      refine za (x0.Kind == 5) ?_ ?_
      ·refine za (x0.Kind == 5) ?_ ?_
       ·refine ze<|zq<|zq<|zi fun a4 ha4 => ?_
        refine zo (.cptr (ZJ a4 .sh .sh)) ?_ (Eq.trans (by kernel_rfl) (Z3X (o := (shrO z1A)) (k := .i64) (n := 7) (e := ZV) (cs := Z37) Z6c (fun _ => rfl) (by decide) ha4))
        refine zq<|zi fun r5 hr5 => ?_
        obtain ⟨qr5, er5, exr5, rfl⟩ := Z87 a4 .sh .sh r5 hr5
        refine zc [] (.p (.tup [(.v (.int .i64 r5.1)), (.v (.int .i64 r5.2))])) [(Zv x0 z1U z1A)] er5<|zq<|zq ?_
        exact zr ((.p (.tup [(.v (.int .i64 r5.1)), (.v (.int .i64 r5.2))])), [(Zv x0 z1U z1A)]) ⟨_, rfl⟩
       ·exact zk (Z8M 0 0)
      ·refine ze<|zq ?_
       refine za (x0.Kind == 8) ?_ ?_
       ·refine ze<|zq<|zq<|zi fun a6 ha6 => ?_
        refine zo (.cptr (ZJ a6 .sh .sh)) ?_ (Eq.trans (by kernel_rfl) (Z3X (o := (shrO z1A)) (k := .i64) (n := 7) (e := ZV) (cs := Z37) Z6c (fun _ => rfl) (by decide) ha6))
        refine zq<|zi fun r7 hr7 => ?_
        obtain ⟨qr7, er7, exr7, rfl⟩ := Z87 a6 .sh .sh r7 hr7
        refine zc [] (.p (.tup [(.v (.int .i64 r7.1)), (.v (.int .i64 r7.2))])) [(Zv x0 z1U z1A)] er7<|zq<|zq ?_
        exact zr ((.p (.tup [(.v (.int .i64 r7.1)), (.v (.int .i64 r7.2))])), [(Zv x0 z1U z1A)]) ⟨_, rfl⟩
       ·exact zk (Z8M 0 0)
theorem Zr4 (x0 : Z7) {r} (h : ZeB x0 = some r) : Z3F x0 = some r :=
 Z1f (fun _ _ ha hb => RRun.uniq ZfC (ha .ex .ex) (hb .ex .ex)) (fun z1U z1A => Zq6 x0 z1U z1A r h)
def ZbK (x2 x3 : Int) (x23 : List Z7) (x24 x25 : Int) : Option (Int × Int) :=
 (lget x23 x25).bind fun a1 =>
 (Z3F a1).bind fun r2 =>
 (Zhj x3 r2.2).bind fun r3 =>
 Z9F (min (IntKind.i64.wrap (x2 + r2.1)) 1048576) r3 x23 x24 (IntKind.i64.wrap (x25 + 1))
theorem Zny x2 x3 (x23 : List Z7) x24 x25 ox23 : Sim (Z3h) (ZbK x2 x3 x23 x24 x25) (Zwr 0 (iv x2) (iv x3) (.p (.lst ox23 (x23.map ZV))) (iv x24) (iv x25) []) := by
 unfold ZbK
 refine zf (ZCo ..)<|ze<|zi fun a1 ha1 => ?_
 refine zo (.cptr (ZJ a1 .sh .sh)) ?_ (Eq.trans (by kernel_rfl) (Z3X (o := ox23) (k := .i64) (n := 7) (e := ZV) (cs := Z37) Z6c (fun _ => rfl) (by decide) ha1))
 refine zq<|zz (.ptr 0 0) [(Zv (Z7.mk 0 0 0 0 0 ([] : List Zc) ([] : List Z7)) .nl .nl)]<|zt [(Zv a1 .sh .sh)]<|ze<|zq<|zi fun r2 hr2 => ?_
 obtain ⟨qr2, er2, exr2, rfl⟩ := Z87 a1 .sh .sh r2 hr2
 refine zc [] (.p (.tup [(.v (.int .i64 r2.1)), (.v (.int .i64 r2.2))])) [(Zv a1 .sh .sh)] er2<|zq<|zq<|ze<|zq ?_
 refine zo (iv (min (IntKind.i64.wrap (x2 + r2.1)) 1048576)) ?_ (ZcZ _ _)
 refine zi fun r3 hr3 => ?_
 obtain ⟨qr3, er3, exr3, rfl⟩ := Zun x3 r2.2 r3 hr3
 refine zc [] (iv r3) [(Zv a1 .sh .sh)] er3<|ze<|zq ?_
 exact zk (Zgx (min (IntKind.i64.wrap (x2 + r2.1)) 1048576) r3 x23 x24 (IntKind.i64.wrap (x25 + 1)) ox23)
def Z9x (x2 x3 : Int) (x23 : List Z7) (x24 x25 : Int) : Option (Int × Int) :=
 if (decide (x25 < x24)) = true then
 (ZbK x2 x3 x23 x24 x25)
 else
 (Z7E x2 x3)
theorem Znx x2 x3 (x23 : List Z7) x24 x25 ox23 : Sim (Z3h) (Z9x x2 x3 x23 x24 x25) (ZlS 0 (iv x2) (iv x3) (.p (.lst ox23 (x23.map ZV))) (iv x24) (iv x25) []) := by
 unfold Z9x
 refine zf (ZCn ..)<|ze<|zq ?_
 refine za (decide (x25 < x24)) ?_ ?_
 ·exact zk (Zny x2 x3 x23 x24 x25 ox23)
 ·exact zk (Z8M x2 x3)
theorem Zgw (x2 x3 : Int) (x23 : List Z7) (x24 x25 : Int) {r} (h : Z9x x2 x3 x23 x24 x25 = some r) : Z9F x2 x3 x23 x24 x25 = some r :=
 Z1f (fun _ _ ha hb => RRun.uniq ZfC (ha .ex) (hb .ex)) (fun ox23 => Znx x2 x3 x23 x24 x25 ox23 r h)
def Z91 (x2 x3 : Int) (x45 : List Z7) (x46 x47 : Int) : Option (Int × Int) :=
 Z93 x2 x3 x45 x46 (IntKind.i64.wrap (x47 + 1))
theorem Zfk x2 x3 (x45 : List Z7) x46 x47 ox45 : Sim (Z3h) (Z91 x2 x3 x45 x46 x47) (ZpK 0 (iv x2) (iv x3) (.p (.lst ox45 (x45.map ZV))) (iv x46) (iv x47) []) := by
 unfold Z91
 refine zf (ZAx ..)<|ze<|zq ?_
 exact zk (ZfR x2 x3 x45 x46 (IntKind.i64.wrap (x47 + 1)) ox45)
def Z90 (x2 : Int) (x45 : List Z7) (x46 x47 : Int) : Option (Int × Int) :=
 Z91 x2 (-1) x45 x46 x47
theorem Zfj x2 (x45 : List Z7) x46 x47 ox45 : Sim (Z3h) (Z90 x2 x45 x46 x47) (ZpJ 0 (iv x2) (.p (.lst ox45 (x45.map ZV))) (iv x46) (iv x47) []) := by
 unfold Z90
 refine zf (ZAv ..)<|ze ?_
 exact zk (Zfk x2 (-1) x45 x46 x47 ox45)
def ZaS (x2 x3 x11 : Int) (x45 : List Z7) (x46 x47 : Int) : Option (Int × Int) :=
 Z91 x2 (max x3 x11) x45 x46 x47
theorem Zme x2 x3 x11 (x45 : List Z7) x46 x47 ox45 : Sim (Z3h) (ZaS x2 x3 x11 x45 x46 x47) (Zuh 0 (iv x2) (iv x3) (iv x11) (.p (.lst ox45 (x45.map ZV))) (iv x46) (iv x47) []) := by
 unfold ZaS
 refine zf (ZAw ..)<|ze ?_
 refine zo (iv (max x3 x11)) ?_ (Zpj _ _)
 exact zk (Zfk x2 (max x3 x11) x45 x46 x47 ox45)
def ZaR (x2 x3 : Int) (x45 : List Z7) (x46 x47 : Int) : Option (Int × Int) :=
 (lget x45 x47).bind fun a1 =>
 (Z3F a1).bind fun r2 =>
 if (decide (r2.2 < 0)) = true then
 (Z90 (min x2 r2.1) x45 x46 x47)
 else
 (if (decide (x3 < 0)) = true then
 (Z90 (min x2 r2.1) x45 x46 x47)
 else
 (ZaS (min x2 r2.1) x3 r2.2 x45 x46 x47))
theorem Zmd x2 x3 (x45 : List Z7) x46 x47 ox45 : Sim (Z3h) (ZaR x2 x3 x45 x46 x47) (Zug 0 (iv x2) (iv x3) (.p (.lst ox45 (x45.map ZV))) (iv x46) (iv x47) []) := by
 unfold ZaR
 refine zf (ZAu ..)<|ze<|zi fun a1 ha1 => ?_
 refine zo (.cptr (ZJ a1 .sh .sh)) ?_ (Eq.trans (by kernel_rfl) (Z3X (o := ox45) (k := .i64) (n := 7) (e := ZV) (cs := Z37) Z6c (fun _ => rfl) (by decide) ha1))
 refine zq<|zz (.ptr 0 0) [(Zv (Z7.mk 0 0 0 0 0 ([] : List Zc) ([] : List Z7)) .nl .nl)]<|zt [(Zv a1 .sh .sh)]<|ze<|zq<|zi fun r2 hr2 => ?_
 obtain ⟨qr2, er2, exr2, rfl⟩ := Z87 a1 .sh .sh r2 hr2
 refine zc [] (.p (.tup [(.v (.int .i64 r2.1)), (.v (.int .i64 r2.2))])) [(Zv a1 .sh .sh)] er2<|zq<|zq<|ze ?_
 refine zo (iv (min x2 r2.1)) ?_ (ZcZ _ _)
 refine ze<|zq ?_
 refine za (decide (r2.2 < 0)) ?_ ?_
 ·exact zk (Zfj (min x2 r2.1) x45 x46 x47 ox45)
 ·refine zq ?_
  refine za (decide (x3 < 0)) ?_ ?_
  ·exact zk (Zfj (min x2 r2.1) x45 x46 x47 ox45)
  ·exact zk (Zme (min x2 r2.1) x3 r2.2 x45 x46 x47 ox45)
def Z8Z (x2 x3 : Int) (x45 : List Z7) (x46 x47 : Int) : Option (Int × Int) :=
 if (decide (x47 < x46)) = true then
 (ZaR x2 x3 x45 x46 x47)
 else
 (Z7E x2 x3)
theorem Zmc x2 x3 (x45 : List Z7) x46 x47 ox45 : Sim (Z3h) (Z8Z x2 x3 x45 x46 x47) (Zjf 0 (iv x2) (iv x3) (.p (.lst ox45 (x45.map ZV))) (iv x46) (iv x47) []) := by
 unfold Z8Z
 refine zf (ZAt ..)<|ze<|zq ?_
 refine za (decide (x47 < x46)) ?_ ?_
 ·exact zk (Zmd x2 x3 x45 x46 x47 ox45)
 ·exact zk (Z8M x2 x3)
theorem ZfQ (x2 x3 : Int) (x45 : List Z7) (x46 x47 : Int) {r} (h : Z8Z x2 x3 x45 x46 x47 = some r) : Z93 x2 x3 x45 x46 x47 = some r :=
 Z1f (fun _ _ ha hb => RRun.uniq ZfC (ha .ex) (hb .ex)) (fun ox45 => Zmc x2 x3 x45 x46 x47 ox45 r h)
def Z9y  : Option (Int) :=
 some (0)
theorem ZfS  : Sim (Z6E) (Z9y) (Zpp 0  []) := by
 unfold Z9y
 refine zf (Zz0 ..)<|ze ?_
 exact zr ((iv 0), []) ⟨_, rfl⟩
def Z9z  : Option (Int) :=
 some (-1)
theorem ZfT  : Sim (Z6E) (Z9z) (Zpq 0  []) := by
 unfold Z9z
 refine zf (Zz2 ..)<|ze ?_
 exact zr ((iv (-1)), []) ⟨_, rfl⟩
def ZbM (x0 x1 : Int) : Option (Int) :=
 (ZcM (IntKind.i64.wrap (x0 * x1))).bind fun r1 =>
 some (r1)
theorem ZnC x0 x1 : Sim (Z6E) (ZbM x0 x1) (ZsP 0 (iv x0) (iv x1) []) := by
 unfold ZbM
 refine zf (Zz3 ..)<|ze<|zq<|zi fun r1 hr1 => ?_
 obtain ⟨qr1, er1, exr1, rfl⟩ := Zky (IntKind.i64.wrap (x0 * x1)) r1 hr1
 refine zc [] (iv r1) [] er1 ?_
 exact zr ((iv r1), []) ⟨_, rfl⟩
def ZbL (x0 x1 : Int) : Option (Int) :=
 if (decide (x0 < 0)) = true then
 (Z9z)
 else
 (if (decide (x1 < 0)) = true then
 (Z9z)
 else
 (ZbM x0 x1))
theorem ZnB x0 x1 : Sim (Z6E) (ZbL x0 x1) (ZsO 0 (iv x0) (iv x1) []) := by
 unfold ZbL
 refine zf (Zz1 ..)<|ze<|zq ?_
 refine za (decide (x0 < 0)) ?_ ?_
 ·exact zk (ZfT )
 ·refine zq ?_
  refine za (decide (x1 < 0)) ?_ ?_
  ·exact zk (ZfT )
  ·exact zk (ZnC x0 x1)
def ZeC (x0 x1 : Int) : Option (Int) :=
 if (x0 == 0) = true then
 (Z9y)
 else
 (if (x1 == 0) = true then
 (Z9y)
 else
 (ZbL x0 x1))
theorem Zq7 x0 x1 : Sim (Z6E) (ZeC x0 x1) (EE 108 [(iv x0), (iv x1)] []) := by
 unfold ZeC
 refine zf (ZEI ..)<|ze<|ze<|zq ?_
 refine za (x0 == 0) ?_ ?_
 ·exact zk (ZfS )
 ·refine zq ?_
  refine za (x1 == 0) ?_ ?_
  ·exact zk (ZfS )
  ·exact zk (ZnB x0 x1)
theorem Zr6 (x0 x1 : Int) {r} (h : ZeC x0 x1 = some r) : Zc6 x0 x1 = some r :=
 Z1f (fun _ _ ha hb => RRun.uniq Zrw (ha ) (hb )) (Zq7 x0 x1 r h)
def Zco (x0 : Int) : Option (Int) :=
 some (x0)
theorem Zos x0 : Sim (Zb6) (Zco x0) (Zt4 0 (iv x0) []) := by
 unfold Zco
 refine zf (Zzm ..)<|ze ?_
 exact zr ((iv x0), []) ⟨_, rfl⟩
def ZfG (x0 : Int) : Option (Int) :=
 if (decide (1048576 < x0)) = true then
 (some (-1))
 else
 (Zco x0)
theorem Zr5 x0 : Sim (Zb6) (ZfG x0) (EE 134 [(iv x0)] []) := by
 unfold ZfG
 refine zf (ZF6 ..)<|ze<|ze<|zq ?_
 refine za (decide (1048576 < x0)) ?_ ?_
 ·refine ze ?_
  exact zr ((iv (-1)), []) ⟨_, rfl⟩
 ·exact zk (Zos x0)
theorem Zs8 (x0 : Int) {r} (h : ZfG x0 = some r) : ZcM x0 = some r :=
 Z1f (fun _ _ ha hb => RRun.uniq ZsG (ha ) (hb )) (Zr5 x0 r h)
def Zbc  : Option (Int) :=
 some (-1)
theorem ZhP  : Sim (Zaz) (Zbc) (Zpo 0  []) := by
 unfold Zbc
 refine zf (ZyY ..)<|ze ?_
 exact zr ((iv (-1)), []) ⟨_, rfl⟩
def Zd8 (x0 x1 : Int) : Option (Int) :=
 (ZcM (IntKind.i64.wrap (x0 + x1))).bind fun r1 =>
 some (r1)
theorem ZoS x0 x1 : Sim (Zaz) (Zd8 x0 x1) (ZsL 0 (iv x0) (iv x1) []) := by
 unfold Zd8
 refine zf (ZyZ ..)<|ze<|zq<|zi fun r1 hr1 => ?_
 obtain ⟨qr1, er1, exr1, rfl⟩ := Zky (IntKind.i64.wrap (x0 + x1)) r1 hr1
 refine zc [] (iv r1) [] er1 ?_
 exact zr ((iv r1), []) ⟨_, rfl⟩
def Zhf (x0 x1 : Int) : Option (Int) :=
 if (decide (x0 < 0)) = true then
 (Zbc)
 else
 (if (decide (x1 < 0)) = true then
 (Zbc)
 else
 (Zd8 x0 x1))
theorem Zs9 x0 x1 : Sim (Zaz) (Zhf x0 x1) (EE 107 [(iv x0), (iv x1)] []) := by
 unfold Zhf
 refine zf (ZEG ..)<|ze<|ze<|zq ?_
 refine za (decide (x0 < 0)) ?_ ?_
 ·exact zk (ZhP )
 ·refine zq ?_
  refine za (decide (x1 < 0)) ?_ ?_
  ·exact zk (ZhP )
  ·exact zk (ZoS x0 x1)
theorem Zum (x0 x1 : Int) {r} (h : Zhf x0 x1 = some r) : Zhj x0 x1 = some r :=
 Z1f (fun _ _ ha hb => RRun.uniq ZuW (ha ) (hb )) (Zs9 x0 x1 r h)
def Z5o (x0 : List Z7) : Option (Bool) :=
 (Z6n x0).bind fun r1 =>
 some (decide (0 ≤ r1))
theorem ZdK (x0 : List Z7) ox0 : Sim (Z4k) (Z5o x0) (EE 94 [(.p (.lst ox0 (x0.map ZV))), (.clo 95 [] [])] []) := by
 unfold Z5o
 refine zf (ZHM ..)<|ze<|ze<|zi fun r1 hr1 => ?_
 obtain ⟨qr1, er1, exr1, rfl⟩ := ZfV x0 .sh r1 hr1
 refine zc [] (iv r1) [] er1<|zq ?_
 exact zr ((bv (decide (0 ≤ r1))), []) ⟨_, rfl⟩
theorem Zei (x0 : List Z7) {r} (h : Z5o x0 = some r) : Z5w x0 = some r :=
 Z1f (fun _ _ ha hb => RRun.uniq ZeL (ha .ex) (hb .ex)) (fun ox0 => ZdK x0 ox0 r h)
def Z6j (x0 : List Z7) : Option (Int) :=
 Z4t x0 (x0.length : Int) 0
theorem Zfr (x0 : List Z7) ox0 : Sim (Z2m) (Z6j x0) (EE 109 [(.p (.lst ox0 (x0.map ZV))), (.clo 95 [] [])] []) := by
 unfold Z6j
 refine zf (ZEK ..)<|ze<|ze ?_
 refine zo (iv (x0.length : Int)) ?_ (Eq.trans (by kernel_rfl) (Z30 (P := PP) (t := 96) (d := 98) (by kernel_rfl) ZV (shrO ox0) x0))
 exact zk (Z9g x0 (x0.length : Int) 0 ox0)
theorem ZfU (x0 : List Z7) {r} (h : Z6j x0 = some r) : Z6n x0 = some r :=
 Z1f (fun _ _ ha hb => RRun.uniq ZaE (ha .ex) (hb .ex)) (fun ox0 => Zfr x0 ox0 r h)
def Z5r (x0 : List Z7) (x7 x8 : Int) : Option (Int) :=
 Z4t x0 x7 (IntKind.i64.wrap (x8 + 1))
theorem ZdT (x0 : List Z7) x7 x8 ox0 : Sim (Z2m) (Z5r x0 x7 x8) (ZsT 0 (.p (.lst ox0 (x0.map ZV))) (.clo 95 [] []) (iv x7) (iv x8) []) := by
 unfold Z5r
 refine zf (Zz6 ..)<|ze<|zq ?_
 exact zk (Z9g x0 x7 (IntKind.i64.wrap (x8 + 1)) ox0)
def Z4n (x0 : List Z7) (x7 x8 : Int) : Option (Int) :=
 (lget x0 x8).bind fun a1 =>
 (Zb0 a1).bind fun r2 =>
 if (r2) = true then
 (some (x8))
 else
 (Z5r x0 x7 x8)
theorem ZdS (x0 : List Z7) x7 x8 ox0 : Sim (Z2m) (Z4n x0 x7 x8) (ZsS 0 (.p (.lst ox0 (x0.map ZV))) (.clo 95 [] []) (iv x7) (iv x8) []) := by
 unfold Z4n
 refine zf (Zz5 ..)<|ze<|ze<|zi fun a1 ha1 => ?_
 refine zo (.cptr (ZJ a1 .sh .sh)) ?_ (Eq.trans (by kernel_rfl) (Z3X (o := (shrO ox0)) (k := .i64) (n := 7) (e := ZV) (cs := Z37) Z6c (fun _ => rfl) (by decide) ha1))
 refine zq<|zi fun r2 hr2 => ?_
 obtain ⟨qr2, er2, exr2, rfl⟩ := ZnA a1 .sh .sh r2 hr2
 refine zv [] (bv r2) [] er2 ?_
 refine za r2 ?_ ?_
 ·refine ze ?_
  exact zr ((iv x8), []) ⟨_, rfl⟩
 ·exact zk (ZdT x0 x7 x8 ox0)
def Z7s  : Option (Int) :=
 some (-1)
theorem ZdU  : Sim (Z2m) (Z7s) (ZsU 0  []) := by
 unfold Z7s
 refine zf (Zz7 ..)<|ze ?_
 exact zr ((iv (-1)), []) ⟨_, rfl⟩
def Z3A (x0 : List Z7) (x7 x8 : Int) : Option (Int) :=
 if (decide (x8 < x7)) = true then
 (Z4n x0 x7 x8)
 else
 (Z7s)
theorem ZdR (x0 : List Z7) x7 x8 ox0 : Sim (Z2m) (Z3A x0 x7 x8) (ZiY 0 (.p (.lst ox0 (x0.map ZV))) (.clo 95 [] []) (iv x7) (iv x8) []) := by
 unfold Z3A
 refine zf (Zz4 ..)<|ze<|zq ?_
 refine za (decide (x8 < x7)) ?_ ?_
 ·exact zk (ZdS x0 x7 x8 ox0)
 ·exact zk (ZdU )
theorem Z6y (x0 : List Z7) (x7 x8 : Int) {r} (h : Z3A x0 x7 x8 = some r) : Z4t x0 x7 x8 = some r :=
 Z1f (fun _ _ ha hb => RRun.uniq ZaE (ha .ex) (hb .ex)) (fun ox0 => ZdR x0 x7 x8 ox0 r h)
def ZaT (x0 : Z7) : Option (Bool) :=
 (Z4s x0).bind fun r1 =>
 some (!r1)
theorem Zmf x0 z1U z1A : Sim (Z8V) (ZaT x0) (EE 95 [(.p (.agg (ZJ x0 z1U z1A)))] []) := by
 unfold ZaT
 refine zf (ZHN ..)<|ze<|zx (.ptr 0 0) [(Zv x0 z1U z1A)]<|ze<|zq<|zi fun r1 hr1 => ?_
 obtain ⟨qr1, er1, exr1, rfl⟩ := ZhO x0 .sh .sh r1 hr1
 refine zc [] (bv r1) [(Zv x0 z1U z1A)] er1<|zq ?_
 exact zr ((bv (!r1)), [(Zv x0 z1U z1A)]) ⟨_, rfl⟩
theorem Znz (x0 : Z7) {r} (h : ZaT x0 = some r) : Zb0 x0 = some r :=
 Z1f (fun _ _ ha hb => RRun.uniq Zof (ha .ex .ex) (hb .ex .ex)) (fun z1U z1A => Zmf x0 z1U z1A r h)
def Zjo (x0 : Z7) : Option (Int) :=
 Z6m 0 x0.Kids (x0.Kids.length : Int) 0 x0
theorem Zr3 x0 z1U z1A : Sim (Z52) (Zjo x0) (EE 72 [(.p (.agg (ZJ x0 z1U z1A)))] []) := by
 unfold Zjo
 refine zf (ZHs ..)<|ze<|zx (.ptr 0 0) [(Zv x0 z1U z1A)]<|ze<|ze<|zq<|zq ?_
 refine zo (iv (x0.Kids.length : Int)) ?_ (Eq.trans (by kernel_rfl) (Z30 (P := PP) (t := 96) (d := 98) (by kernel_rfl) ZV (shrO z1A) x0.Kids))
 exact zk (ZhN 0 x0.Kids (x0.Kids.length : Int) 0 x0 (shrO z1A) z1U z1A)
theorem ZfP (x0 : Z7) {r} (h : Zjo x0 = some r) : Z5Y x0 = some r :=
 Z1f (fun _ _ ha hb => RRun.uniq Zlz (ha .ex .ex) (hb .ex .ex)) (fun z1U z1A => Zr3 x0 z1U z1A r h)
def Zcm (x3 : Int) (x8 : List Z7) (x9 x10 : Int) (b0 : Z7) : Option (Int) :=
 (lget x8 x10).bind fun a1 =>
 (Z5Y a1).bind fun r2 =>
 Z6m (min (IntKind.i64.wrap (x3 + r2)) 1048576) x8 x9 (IntKind.i64.wrap (x10 + 1)) b0
theorem Zop x3 (x8 : List Z7) x9 x10 b0 ox8 z1T z1D : Sim (Z52) (Zcm x3 x8 x9 x10 b0) (Zwa 0 (.ptr 0 0) (iv x3) (.p (.lst ox8 (x8.map ZV))) (iv x9) (iv x10) [(Zv b0 z1T z1D)]) := by
 unfold Zcm
 refine zf (ZC4 ..)<|ze<|zi fun a1 ha1 => ?_
 refine zo (.cptr (ZJ a1 .sh .sh)) ?_ (Eq.trans (by kernel_rfl) (Z3X (o := ox8) (k := .i64) (n := 7) (e := ZV) (cs := Z37) Z6c (fun _ => rfl) (by decide) ha1))
 refine zq<|zz (.ptr 1 0) [(Zv b0 z1T z1D), (Zv (Z7.mk 0 0 0 0 0 ([] : List Zc) ([] : List Z7)) .nl .nl)]<|zt [(Zv b0 z1T z1D), (Zv a1 .sh .sh)]<|ze<|zq<|zi fun r2 hr2 => ?_
 obtain ⟨qr2, er2, exr2, rfl⟩ := Zkx a1 .sh .sh r2 hr2
 refine zc [] (iv r2) [(Zv b0 z1T z1D), (Zv a1 .sh .sh)] er2<|zq ?_
 refine zo (iv (min (IntKind.i64.wrap (x3 + r2)) 1048576)) ?_ (ZcZ _ _)
 refine ze<|zq ?_
 exact zk (ZhN (min (IntKind.i64.wrap (x3 + r2)) 1048576) x8 x9 (IntKind.i64.wrap (x10 + 1)) b0 ox8 z1T z1D)
def Z1F (x3 : Int) : Option (Int) :=
 some (min x3 1048576)
theorem Z1I x3 : Sim (Z52) (Z1F x3) (Z4h 0 (iv x3) []) := by
 unfold Z1F
 refine zf (ZAp ..)<|ze ?_
 refine zo (iv (min x3 1048576)) ?_ (ZcZ _ _)
 exact zr ((iv (min x3 1048576)), []) ⟨_, rfl⟩
def Z1P (x3 : Int) (b0 : Z7) : Option (Int) :=
 if (b0.Mode == 2) = true then
 (Z1F (IntKind.i64.wrap (x3 + 2)))
 else
 (Z1F x3)
theorem Z1Y x3 b0 z1T z1D : Sim (Z52) (Z1P x3 b0) (Z5C 0 (.ptr 0 0) (iv x3) [(Zv b0 z1T z1D)]) := by
 unfold Z1P
 refine zf (ZAo ..)<|ze<|zq<|zq<|zq ?_
 refine za (b0.Mode == 2) ?_ ?_
 ·refine ze<|zq ?_
  exact zk (Z1I (IntKind.i64.wrap (x3 + 2)))
 ·exact zk (Z1I x3)
def Z5n (x3 : Int) (b0 : Z7) : Option (Int) :=
 if (b0.Kind == 1) = true then
 (if (b0.Kind == 1) = true then
 (some (1))
 else
 (if (b0.Kind == 3) = true then
 (Z1F ((IntKind.i64.wrap (x3 + (IntKind.i64.wrap (2 * (IntKind.i64.wrap ((b0.Kids.length : Int) - 1))))))))
 else
 (if (b0.Kind == 5) = true then
 (if (b0.Kind == 5) = true then
 (Z1F (IntKind.i64.wrap (x3 + 2)))
 else
 (if (b0.Kind == 4) = true then
 (if (decide (b0.Hi < 0)) = true then
 (Z1P (IntKind.i64.wrap ((IntKind.i64.wrap (b0.Lo * x3)) + (IntKind.i64.wrap (x3 + 4)))) b0)
 else
 (Z1P ((IntKind.i64.wrap ((IntKind.i64.wrap (b0.Lo * x3)) + (IntKind.i64.wrap ((IntKind.i64.wrap (b0.Hi - b0.Lo)) * (IntKind.i64.wrap (x3 + 1))))))) b0))
 else
 (Z1F x3)))
 else
 (if (b0.Kind == 7) = true then
 (if (b0.Kind == 7) = true then
 (Z1F (IntKind.i64.wrap (x3 + 2)))
 else
 (if (b0.Kind == 4) = true then
 (if (decide (b0.Hi < 0)) = true then
 (Z1P (IntKind.i64.wrap ((IntKind.i64.wrap (b0.Lo * x3)) + (IntKind.i64.wrap (x3 + 4)))) b0)
 else
 (Z1P ((IntKind.i64.wrap ((IntKind.i64.wrap (b0.Lo * x3)) + (IntKind.i64.wrap ((IntKind.i64.wrap (b0.Hi - b0.Lo)) * (IntKind.i64.wrap (x3 + 1))))))) b0))
 else
 (Z1F x3)))
 else
 (if (b0.Kind == 8) = true then
 (Z1F (IntKind.i64.wrap (x3 + 2)))
 else
 (if (b0.Kind == 4) = true then
 (if (decide (b0.Hi < 0)) = true then
 (Z1P (IntKind.i64.wrap ((IntKind.i64.wrap (b0.Lo * x3)) + (IntKind.i64.wrap (x3 + 4)))) b0)
 else
 (Z1P ((IntKind.i64.wrap ((IntKind.i64.wrap (b0.Lo * x3)) + (IntKind.i64.wrap ((IntKind.i64.wrap (b0.Hi - b0.Lo)) * (IntKind.i64.wrap (x3 + 1))))))) b0))
 else
 (Z1F x3)))))))
 else
 (if (b0.Kind == 6) = true then
 (if (b0.Kind == 6) = true then
 (some (1))
 else
 (if (b0.Kind == 3) = true then
 (Z1F ((IntKind.i64.wrap (x3 + (IntKind.i64.wrap (2 * (IntKind.i64.wrap ((b0.Kids.length : Int) - 1))))))))
 else
 (if (b0.Kind == 5) = true then
 (if (b0.Kind == 5) = true then
 (Z1F (IntKind.i64.wrap (x3 + 2)))
 else
 (if (b0.Kind == 4) = true then
 (if (decide (b0.Hi < 0)) = true then
 (Z1P (IntKind.i64.wrap ((IntKind.i64.wrap (b0.Lo * x3)) + (IntKind.i64.wrap (x3 + 4)))) b0)
 else
 (Z1P ((IntKind.i64.wrap ((IntKind.i64.wrap (b0.Lo * x3)) + (IntKind.i64.wrap ((IntKind.i64.wrap (b0.Hi - b0.Lo)) * (IntKind.i64.wrap (x3 + 1))))))) b0))
 else
 (Z1F x3)))
 else
 (if (b0.Kind == 7) = true then
 (if (b0.Kind == 7) = true then
 (Z1F (IntKind.i64.wrap (x3 + 2)))
 else
 (if (b0.Kind == 4) = true then
 (if (decide (b0.Hi < 0)) = true then
 (Z1P (IntKind.i64.wrap ((IntKind.i64.wrap (b0.Lo * x3)) + (IntKind.i64.wrap (x3 + 4)))) b0)
 else
 (Z1P ((IntKind.i64.wrap ((IntKind.i64.wrap (b0.Lo * x3)) + (IntKind.i64.wrap ((IntKind.i64.wrap (b0.Hi - b0.Lo)) * (IntKind.i64.wrap (x3 + 1))))))) b0))
 else
 (Z1F x3)))
 else
 (if (b0.Kind == 8) = true then
 (Z1F (IntKind.i64.wrap (x3 + 2)))
 else
 (if (b0.Kind == 4) = true then
 (if (decide (b0.Hi < 0)) = true then
 (Z1P (IntKind.i64.wrap ((IntKind.i64.wrap (b0.Lo * x3)) + (IntKind.i64.wrap (x3 + 4)))) b0)
 else
 (Z1P ((IntKind.i64.wrap ((IntKind.i64.wrap (b0.Lo * x3)) + (IntKind.i64.wrap ((IntKind.i64.wrap (b0.Hi - b0.Lo)) * (IntKind.i64.wrap (x3 + 1))))))) b0))
 else
 (Z1F x3)))))))
 else
 (if (b0.Kind == 9) = true then
 (some (1))
 else
 (if (b0.Kind == 3) = true then
 (Z1F ((IntKind.i64.wrap (x3 + (IntKind.i64.wrap (2 * (IntKind.i64.wrap ((b0.Kids.length : Int) - 1))))))))
 else
 (if (b0.Kind == 5) = true then
 (if (b0.Kind == 5) = true then
 (Z1F (IntKind.i64.wrap (x3 + 2)))
 else
 (if (b0.Kind == 4) = true then
 (if (decide (b0.Hi < 0)) = true then
 (Z1P (IntKind.i64.wrap ((IntKind.i64.wrap (b0.Lo * x3)) + (IntKind.i64.wrap (x3 + 4)))) b0)
 else
 (Z1P ((IntKind.i64.wrap ((IntKind.i64.wrap (b0.Lo * x3)) + (IntKind.i64.wrap ((IntKind.i64.wrap (b0.Hi - b0.Lo)) * (IntKind.i64.wrap (x3 + 1))))))) b0))
 else
 (Z1F x3)))
 else
 (if (b0.Kind == 7) = true then
 (if (b0.Kind == 7) = true then
 (Z1F (IntKind.i64.wrap (x3 + 2)))
 else
 (if (b0.Kind == 4) = true then
 (if (decide (b0.Hi < 0)) = true then
 (Z1P (IntKind.i64.wrap ((IntKind.i64.wrap (b0.Lo * x3)) + (IntKind.i64.wrap (x3 + 4)))) b0)
 else
 (Z1P ((IntKind.i64.wrap ((IntKind.i64.wrap (b0.Lo * x3)) + (IntKind.i64.wrap ((IntKind.i64.wrap (b0.Hi - b0.Lo)) * (IntKind.i64.wrap (x3 + 1))))))) b0))
 else
 (Z1F x3)))
 else
 (if (b0.Kind == 8) = true then
 (Z1F (IntKind.i64.wrap (x3 + 2)))
 else
 (if (b0.Kind == 4) = true then
 (if (decide (b0.Hi < 0)) = true then
 (Z1P (IntKind.i64.wrap ((IntKind.i64.wrap (b0.Lo * x3)) + (IntKind.i64.wrap (x3 + 4)))) b0)
 else
 (Z1P ((IntKind.i64.wrap ((IntKind.i64.wrap (b0.Lo * x3)) + (IntKind.i64.wrap ((IntKind.i64.wrap (b0.Hi - b0.Lo)) * (IntKind.i64.wrap (x3 + 1))))))) b0))
 else
 (Z1F x3))))))))
theorem Zoq x3 b0 z1T z1D : Sim (Z52) (Z5n x3 b0) (Zwb 0 (.ptr 0 0) (iv x3) [(Zv b0 z1T z1D)]) := by
 unfold Z5n
 refine zf (ZC5 ..)<|ze<|zq<|zq<|ze<|zq ?_
 refine za (b0.Kind == 1) ?_ ?_
 ·refine za (b0.Kind == 1) ?_ ?_
  ·refine ze ?_
   exact zr ((iv 1), [(Zv b0 z1T z1D)]) ⟨_, rfl⟩
  ·refine ze<|zq ?_
   refine za (b0.Kind == 3) ?_ ?_
   ·refine ze<|zq<|zq ?_
    refine zo (iv (b0.Kids.length : Int)) ?_ (Eq.trans (by kernel_rfl) (Z30 (P := PP) (t := 96) (d := 98) (by kernel_rfl) ZV (shrO z1D) b0.Kids))
    refine zq<|zq<|zq ?_
    exact zk (Z1I ((IntKind.i64.wrap (x3 + (IntKind.i64.wrap (2 * (IntKind.i64.wrap ((b0.Kids.length : Int) - 1))))))))
   ·refine ze<|zq ?_
    refine za (b0.Kind == 5) ?_ ?_
    ·refine za (b0.Kind == 5) ?_ ?_
     ·refine ze<|zq ?_
      exact zk (Z1I (IntKind.i64.wrap (x3 + 2)))
     ·refine ze<|zq ?_
      refine za (b0.Kind == 4) ?_ ?_
      ·refine ze<|ze<|zq<|zq<|zq<|ze<|zq<|zq<|zq ?_
       refine za (decide (b0.Hi < 0)) ?_ ?_
       ·refine ze<|zq<|zq ?_
        exact zk (Z1Y (IntKind.i64.wrap ((IntKind.i64.wrap (b0.Lo * x3)) + (IntKind.i64.wrap (x3 + 4)))) b0 z1T z1D)
       ·refine ze<|zq<|zq<|zq<|zq<|zq<|zq<|zq<|zq ?_
        exact zk (Z1Y ((IntKind.i64.wrap ((IntKind.i64.wrap (b0.Lo * x3)) + (IntKind.i64.wrap ((IntKind.i64.wrap (b0.Hi - b0.Lo)) * (IntKind.i64.wrap (x3 + 1))))))) b0 z1T z1D)
      ·exact zk (Z1I x3)
    ·refine ze<|zq ?_
     refine za (b0.Kind == 7) ?_ ?_
     ·refine za (b0.Kind == 7) ?_ ?_
      ·refine ze<|zq ?_
       exact zk (Z1I (IntKind.i64.wrap (x3 + 2)))
      ·refine ze<|zq ?_
       refine za (b0.Kind == 4) ?_ ?_
       ·refine ze<|ze<|zq<|zq<|zq<|ze<|zq<|zq<|zq ?_
        refine za (decide (b0.Hi < 0)) ?_ ?_
        ·refine ze<|zq<|zq ?_
         exact zk (Z1Y (IntKind.i64.wrap ((IntKind.i64.wrap (b0.Lo * x3)) + (IntKind.i64.wrap (x3 + 4)))) b0 z1T z1D)
        ·refine ze<|zq<|zq<|zq<|zq<|zq<|zq<|zq<|zq ?_
         exact zk (Z1Y ((IntKind.i64.wrap ((IntKind.i64.wrap (b0.Lo * x3)) + (IntKind.i64.wrap ((IntKind.i64.wrap (b0.Hi - b0.Lo)) * (IntKind.i64.wrap (x3 + 1))))))) b0 z1T z1D)
       ·exact zk (Z1I x3)
     ·refine ze<|zq ?_
      refine za (b0.Kind == 8) ?_ ?_
      ·refine ze<|zq ?_
       exact zk (Z1I (IntKind.i64.wrap (x3 + 2)))
      ·refine ze<|zq ?_
       refine za (b0.Kind == 4) ?_ ?_
       ·refine ze<|ze<|zq<|zq<|zq<|ze<|zq<|zq<|zq ?_
        refine za (decide (b0.Hi < 0)) ?_ ?_
        ·refine ze<|zq<|zq ?_
         exact zk (Z1Y (IntKind.i64.wrap ((IntKind.i64.wrap (b0.Lo * x3)) + (IntKind.i64.wrap (x3 + 4)))) b0 z1T z1D)
        ·refine ze<|zq<|zq<|zq<|zq<|zq<|zq<|zq<|zq ?_
         exact zk (Z1Y ((IntKind.i64.wrap ((IntKind.i64.wrap (b0.Lo * x3)) + (IntKind.i64.wrap ((IntKind.i64.wrap (b0.Hi - b0.Lo)) * (IntKind.i64.wrap (x3 + 1))))))) b0 z1T z1D)
       ·exact zk (Z1I x3)
 ·refine ze<|zq ?_
  refine za (b0.Kind == 6) ?_ ?_
  ·refine za (b0.Kind == 6) ?_ ?_
   ·refine ze ?_
    exact zr ((iv 1), [(Zv b0 z1T z1D)]) ⟨_, rfl⟩
   ·refine ze<|zq ?_
    refine za (b0.Kind == 3) ?_ ?_
    ·refine ze<|zq<|zq ?_
     refine zo (iv (b0.Kids.length : Int)) ?_ (Eq.trans (by kernel_rfl) (Z30 (P := PP) (t := 96) (d := 98) (by kernel_rfl) ZV (shrO z1D) b0.Kids))
     refine zq<|zq<|zq ?_
     exact zk (Z1I ((IntKind.i64.wrap (x3 + (IntKind.i64.wrap (2 * (IntKind.i64.wrap ((b0.Kids.length : Int) - 1))))))))
    ·refine ze<|zq ?_
     refine za (b0.Kind == 5) ?_ ?_
     ·refine za (b0.Kind == 5) ?_ ?_
      ·refine ze<|zq ?_
       exact zk (Z1I (IntKind.i64.wrap (x3 + 2)))
      ·refine ze<|zq ?_
       refine za (b0.Kind == 4) ?_ ?_
       ·refine ze<|ze<|zq<|zq<|zq<|ze<|zq<|zq<|zq ?_
        refine za (decide (b0.Hi < 0)) ?_ ?_
        ·refine ze<|zq<|zq ?_
         exact zk (Z1Y (IntKind.i64.wrap ((IntKind.i64.wrap (b0.Lo * x3)) + (IntKind.i64.wrap (x3 + 4)))) b0 z1T z1D)
        ·refine ze<|zq<|zq<|zq<|zq<|zq<|zq<|zq<|zq ?_
         exact zk (Z1Y ((IntKind.i64.wrap ((IntKind.i64.wrap (b0.Lo * x3)) + (IntKind.i64.wrap ((IntKind.i64.wrap (b0.Hi - b0.Lo)) * (IntKind.i64.wrap (x3 + 1))))))) b0 z1T z1D)
       ·exact zk (Z1I x3)
     ·refine ze<|zq ?_
      refine za (b0.Kind == 7) ?_ ?_
      ·refine za (b0.Kind == 7) ?_ ?_
       ·refine ze<|zq ?_
        exact zk (Z1I (IntKind.i64.wrap (x3 + 2)))
       ·refine ze<|zq ?_
        refine za (b0.Kind == 4) ?_ ?_
        ·refine ze<|ze<|zq<|zq<|zq<|ze<|zq<|zq<|zq ?_
         refine za (decide (b0.Hi < 0)) ?_ ?_
         ·refine ze<|zq<|zq ?_
          exact zk (Z1Y (IntKind.i64.wrap ((IntKind.i64.wrap (b0.Lo * x3)) + (IntKind.i64.wrap (x3 + 4)))) b0 z1T z1D)
         ·refine ze<|zq<|zq<|zq<|zq<|zq<|zq<|zq<|zq ?_
          exact zk (Z1Y ((IntKind.i64.wrap ((IntKind.i64.wrap (b0.Lo * x3)) + (IntKind.i64.wrap ((IntKind.i64.wrap (b0.Hi - b0.Lo)) * (IntKind.i64.wrap (x3 + 1))))))) b0 z1T z1D)
        ·exact zk (Z1I x3)
      ·refine ze<|zq ?_
       refine za (b0.Kind == 8) ?_ ?_
       ·refine ze<|zq ?_
        exact zk (Z1I (IntKind.i64.wrap (x3 + 2)))
       ·refine ze<|zq ?_
        refine za (b0.Kind == 4) ?_ ?_
        ·refine ze<|ze<|zq<|zq<|zq<|ze<|zq<|zq<|zq ?_
         refine za (decide (b0.Hi < 0)) ?_ ?_
         ·refine ze<|zq<|zq ?_
          exact zk (Z1Y (IntKind.i64.wrap ((IntKind.i64.wrap (b0.Lo * x3)) + (IntKind.i64.wrap (x3 + 4)))) b0 z1T z1D)
         ·refine ze<|zq<|zq<|zq<|zq<|zq<|zq<|zq<|zq ?_
          exact zk (Z1Y ((IntKind.i64.wrap ((IntKind.i64.wrap (b0.Lo * x3)) + (IntKind.i64.wrap ((IntKind.i64.wrap (b0.Hi - b0.Lo)) * (IntKind.i64.wrap (x3 + 1))))))) b0 z1T z1D)
        ·exact zk (Z1I x3)
  ·refine ze<|zq ?_
   refine za (b0.Kind == 9) ?_ ?_
   ·refine ze ?_
    exact zr ((iv 1), [(Zv b0 z1T z1D)]) ⟨_, rfl⟩
   ·refine ze<|zq ?_
    refine za (b0.Kind == 3) ?_ ?_
    ·refine ze<|zq<|zq ?_
     refine zo (iv (b0.Kids.length : Int)) ?_ (Eq.trans (by kernel_rfl) (Z30 (P := PP) (t := 96) (d := 98) (by kernel_rfl) ZV (shrO z1D) b0.Kids))
     refine zq<|zq<|zq ?_
     exact zk (Z1I ((IntKind.i64.wrap (x3 + (IntKind.i64.wrap (2 * (IntKind.i64.wrap ((b0.Kids.length : Int) - 1))))))))
    ·refine ze<|zq ?_
     refine za (b0.Kind == 5) ?_ ?_
     ·refine za (b0.Kind == 5) ?_ ?_
      ·refine ze<|zq ?_
       exact zk (Z1I (IntKind.i64.wrap (x3 + 2)))
      ·refine ze<|zq ?_
       refine za (b0.Kind == 4) ?_ ?_
       ·refine ze<|ze<|zq<|zq<|zq<|ze<|zq<|zq<|zq ?_
        refine za (decide (b0.Hi < 0)) ?_ ?_
        ·refine ze<|zq<|zq ?_
         exact zk (Z1Y (IntKind.i64.wrap ((IntKind.i64.wrap (b0.Lo * x3)) + (IntKind.i64.wrap (x3 + 4)))) b0 z1T z1D)
        ·refine ze<|zq<|zq<|zq<|zq<|zq<|zq<|zq<|zq ?_
         exact zk (Z1Y ((IntKind.i64.wrap ((IntKind.i64.wrap (b0.Lo * x3)) + (IntKind.i64.wrap ((IntKind.i64.wrap (b0.Hi - b0.Lo)) * (IntKind.i64.wrap (x3 + 1))))))) b0 z1T z1D)
       ·exact zk (Z1I x3)
     ·refine ze<|zq ?_
      refine za (b0.Kind == 7) ?_ ?_
      ·refine za (b0.Kind == 7) ?_ ?_
       ·refine ze<|zq ?_
        exact zk (Z1I (IntKind.i64.wrap (x3 + 2)))
       ·refine ze<|zq ?_
        refine za (b0.Kind == 4) ?_ ?_
        ·refine ze<|ze<|zq<|zq<|zq<|ze<|zq<|zq<|zq ?_
         refine za (decide (b0.Hi < 0)) ?_ ?_
         ·refine ze<|zq<|zq ?_
          exact zk (Z1Y (IntKind.i64.wrap ((IntKind.i64.wrap (b0.Lo * x3)) + (IntKind.i64.wrap (x3 + 4)))) b0 z1T z1D)
         ·refine ze<|zq<|zq<|zq<|zq<|zq<|zq<|zq<|zq ?_
          exact zk (Z1Y ((IntKind.i64.wrap ((IntKind.i64.wrap (b0.Lo * x3)) + (IntKind.i64.wrap ((IntKind.i64.wrap (b0.Hi - b0.Lo)) * (IntKind.i64.wrap (x3 + 1))))))) b0 z1T z1D)
        ·exact zk (Z1I x3)
      ·refine ze<|zq ?_
       refine za (b0.Kind == 8) ?_ ?_
       ·refine ze<|zq ?_
        exact zk (Z1I (IntKind.i64.wrap (x3 + 2)))
       ·refine ze<|zq ?_
        refine za (b0.Kind == 4) ?_ ?_
        ·refine ze<|ze<|zq<|zq<|zq<|ze<|zq<|zq<|zq ?_
         refine za (decide (b0.Hi < 0)) ?_ ?_
         ·refine ze<|zq<|zq ?_
          exact zk (Z1Y (IntKind.i64.wrap ((IntKind.i64.wrap (b0.Lo * x3)) + (IntKind.i64.wrap (x3 + 4)))) b0 z1T z1D)
         ·refine ze<|zq<|zq<|zq<|zq<|zq<|zq<|zq<|zq ?_
          exact zk (Z1Y ((IntKind.i64.wrap ((IntKind.i64.wrap (b0.Lo * x3)) + (IntKind.i64.wrap ((IntKind.i64.wrap (b0.Hi - b0.Lo)) * (IntKind.i64.wrap (x3 + 1))))))) b0 z1T z1D)
        ·exact zk (Z1I x3)
def Zam (x3 : Int) (x8 : List Z7) (x9 x10 : Int) (b0 : Z7) : Option (Int) :=
 if (decide (x10 < x9)) = true then
 (Zcm x3 x8 x9 x10 b0)
 else
 (Z5n x3 b0)
theorem Zoo x3 (x8 : List Z7) x9 x10 b0 ox8 z1T z1D : Sim (Z52) (Zam x3 x8 x9 x10 b0) (ZlO 0 (.ptr 0 0) (iv x3) (.p (.lst ox8 (x8.map ZV))) (iv x9) (iv x10) [(Zv b0 z1T z1D)]) := by
 unfold Zam
 refine zf (ZC3 ..)<|ze<|zq ?_
 refine za (decide (x10 < x9)) ?_ ?_
 ·exact zk (Zop x3 x8 x9 x10 b0 ox8 z1T z1D)
 ·exact zk (Zoq x3 b0 z1T z1D)
theorem ZhM (x3 : Int) (x8 : List Z7) (x9 x10 : Int) (b0 : Z7) {r} (h : Zam x3 x8 x9 x10 b0 = some r) : Z6m x3 x8 x9 x10 b0 = some r :=
 Z1f (fun _ _ ha hb => RRun.uniq Zlz (ha .ex .ex .ex) (hb .ex .ex .ex)) (fun ox8 z1T z1D => Zoo x3 x8 x9 x10 b0 ox8 z1T z1D r h)
def Zan (b0 : ZD) : Option (ZI) :=
 Z8y b0.Rules (b0.Rules.length : Int) 0
theorem Zli b0 b1 zB : Sim (Z3Y) (Zan b0) (ZvB 0 (.ptr 0 0) (.ptr 1 0) [(Zo b0 zB), (ZM b1)]) := by
 unfold Zan
 refine zf (ZBt ..)<|ze<|zq<|zq ?_
 refine zo (iv (b0.Rules.length : Int)) ?_ (Eq.trans (by kernel_rfl) (Z30 (P := PP) (t := 22) (d := 43) (by kernel_rfl) ZF (shrO zB) b0.Rules))
 exact zk (Zfm b0.Rules (b0.Rules.length : Int) 0 b0 b1 (shrO zB) zB)
def Zcp (x0 : ZD) : Option (ZI) :=
 (Z9E x0).bind fun r1 =>
 if (!r1) = true then
 (some (ZI.mk 10 0 0))
 else
 (Zan x0)
theorem Zov x0 zZ : Sim (Z3Y) (Zcp x0) (EE 16 [(.p (.agg (Z1h x0 zZ)))] []) := by
 unfold Zcp
 refine zf (ZGP ..)<|ze<|zx (.ptr 0 0) [(Zo x0 zZ)]<|zz (.ptr 1 0) [(Zo x0 zZ), (ZM (ZI.mk 0 0 0))]<|ze<|zq<|zi fun r1 hr1 => ?_
 obtain ⟨qr1, er1, exr1, rfl⟩ := Zgu x0 .sh r1 hr1
 refine zc [] (bv r1) [(Zo x0 zZ), (ZM (ZI.mk 0 0 0))] er1<|zq ?_
 refine za (!r1) ?_ ?_
 ·refine ze<|zq<|zt [(Zo x0 zZ), (ZM (ZI.mk 10 0 0))] ?_
  exact zr ((.p (.agg (Z1d (ZI.mk 10 0 0)))), [(Zo x0 zZ), (ZM (ZI.mk 10 0 0))]) ⟨_, rfl⟩
 ·exact zk (Zli x0 (ZI.mk 0 0 0) zZ)
theorem ZoV (x0 : ZD) {r} (h : Zcp x0 = some r) : Z7A x0 = some r :=
 Z1f (fun _ _ ha hb => RRun.uniq Zik (ha .ex) (hb .ex)) (fun zZ => Zov x0 zZ r h)
def Z9V (x11 : List Zp) (x12 x13 : Int) : Option (ZI) :=
 Z8y x11 x12 (IntKind.i64.wrap (x13 + 1))
theorem Zkn (x11 : List Zp) x12 x13 b0 b1 ox11 zB : Sim (Z3Y) (Z9V x11 x12 x13) (Ztq 0 (.ptr 1 0) (.p (.lst ox11 (x11.map ZF))) (iv x12) (iv x13) [(Zo b0 zB), (ZM b1)]) := by
 unfold Z9V
 refine zf (ZzD ..)<|ze<|zq ?_
 exact zk (Zfm x11 x12 (IntKind.i64.wrap (x13 + 1)) b0 b1 ox11 zB)
def Zao (x11 : List Zp) (x12 x13 : Int) : Option (ZI) :=
 (lget x11 x13).bind fun a1 =>
 (Z4H a1.Pattern).bind fun r2 =>
 if (r2.Code != 0) = true then
 (some (ZI.mk r2.Code a1.ID r2.At))
 else
 (Z9V x11 x12 x13)
theorem Zlj (x11 : List Zp) x12 x13 b0 b1 ox11 zB : Sim (Z3Y) (Zao x11 x12 x13) (ZvC 0 (.ptr 1 0) (.p (.lst ox11 (x11.map ZF))) (iv x12) (iv x13) [(Zo b0 zB), (ZM b1)]) := by
 unfold Zao
 refine zf (ZBu ..)<|ze<|zi fun a1 ha1 => ?_
 refine zo (.cptr (Z1r a1)) ?_ (Eq.trans (by kernel_rfl) (Z3X (o := ox11) (k := .i64) (n := 5) (e := ZF) (cs := Z53) (fun _ => rfl) (fun _ => rfl) (by decide) ha1))
 refine zq<|zz (.ptr 2 0) [(Zo b0 zB), (ZM b1), (ZW (Zp.mk 0 0 0 0 (ByteArray.mk #[])))]<|zt [(Zo b0 zB), (ZM b1), (ZW a1)]<|ze<|zq<|zq<|zi fun r2 hr2 => ?_
 obtain ⟨qr2, er2, exr2, rfl⟩ := ZbV a1.Pattern r2 hr2
 refine zc [] (.p (.agg (Z1d r2))) [(Zo b0 zB), (ZM b1), (ZW a1)] er2<|zz (.ptr 3 0) [(Zo b0 zB), (ZM b1), (ZW a1), (ZM (ZI.mk 0 0 0))]<|zt [(Zo b0 zB), (ZM b1), (ZW a1), (ZM r2)]<|ze<|zq<|zq<|zq ?_
 refine za (r2.Code != 0) ?_ ?_
 ·refine ze<|zq<|zq<|zq<|zt [(Zo b0 zB), (ZM b1), (ZW a1), (ZM (ZI.mk r2.Code a1.ID r2.At))]<|ze<|zq<|zt [(Zo b0 zB), (ZM (ZI.mk r2.Code a1.ID r2.At)), (ZW a1), (ZM (ZI.mk r2.Code a1.ID r2.At))] ?_
  exact zr ((.p (.agg (Z1d (ZI.mk r2.Code a1.ID r2.At)))), [(Zo b0 zB), (ZM (ZI.mk r2.Code a1.ID r2.At)), (ZW a1), (ZM (ZI.mk r2.Code a1.ID r2.At))]) ⟨_, rfl⟩
 ·exact zk (Zkn x11 x12 x13 b0 b1 ox11 zB)
def Z9W  : Option (ZI) :=
 some (ZI.mk 0 0 0)
theorem Zko b0 b1 zB : Sim (Z3Y) (Z9W) (Ztr 0 (.ptr 1 0) [(Zo b0 zB), (ZM b1)]) := by
 unfold Z9W
 refine zf (ZzE ..)<|ze<|zq<|zt [(Zo b0 zB), (ZM (ZI.mk 0 0 0))] ?_
 exact zr ((.p (.agg (Z1d (ZI.mk 0 0 0)))), [(Zo b0 zB), (ZM (ZI.mk 0 0 0))]) ⟨_, rfl⟩
def Z8s (x11 : List Zp) (x12 x13 : Int) : Option (ZI) :=
 if (decide (x13 < x12)) = true then
 (Zao x11 x12 x13)
 else
 (Z9W)
theorem Zlh (x11 : List Zp) x12 x13 b0 b1 ox11 zB : Sim (Z3Y) (Z8s x11 x12 x13) (ZlG 0 (.ptr 1 0) (.p (.lst ox11 (x11.map ZF))) (iv x12) (iv x13) [(Zo b0 zB), (ZM b1)]) := by
 unfold Z8s
 refine zf (ZBs ..)<|ze<|zq ?_
 refine za (decide (x13 < x12)) ?_ ?_
 ·exact zk (Zlj x11 x12 x13 b0 b1 ox11 zB)
 ·exact zk (Zko b0 b1 zB)
theorem Zfl (x11 : List Zp) (x12 x13 : Int) {r} (h : Z8s x11 x12 x13 = some r) : Z8y x11 x12 x13 = some r :=
 Z1f (fun _ _ ha hb => RRun.uniq Zik (ha default default .ex .ex) (hb default default .ex .ex)) (fun b0 b1 ox11 zB => Zlh x11 x12 x13 b0 b1 ox11 zB r h)
def Z7U  : Option (Bool) :=
 some (false)
theorem ZdC  : Sim (Z2V) (Z7U) (ZrK 0  []) := by
 unfold Z7U
 refine zf (ZBw ..)<|ze ?_
 exact zr ((bv false), []) ⟨_, rfl⟩
def Z9O (b0 : ZD) : Option (Bool) :=
 Z7Y 0 b0.Rules (b0.Rules.length : Int) 0
theorem Zkf b0 zB : Sim (Z2V) (Z9O b0) (ZvJ 0 (.ptr 0 0) [(Zo b0 zB)]) := by
 unfold Z9O
 refine zf (ZBx ..)<|ze<|ze<|zq<|zq ?_
 refine zo (iv (b0.Rules.length : Int)) ?_ (Eq.trans (by kernel_rfl) (Z30 (P := PP) (t := 22) (d := 43) (by kernel_rfl) ZF (shrO zB) b0.Rules))
 exact zk (Zef 0 b0.Rules (b0.Rules.length : Int) 0 (shrO zB))
def ZbH (x0 : ZD) : Option (Bool) :=
 (Z7Z x0).bind fun r1 =>
 if (!r1) = true then
 (Z7U)
 else
 (if (decide (16 < (x0.Rules.length : Int))) = true then
 (Z7U)
 else
 (Z9O x0))
theorem Zno x0 zZ : Sim (Z2V) (ZbH x0) (EE 20 [(.p (.agg (Z1h x0 zZ)))] []) := by
 unfold ZbH
 refine zf (ZGR ..)<|ze<|zx (.ptr 0 0) [(Zo x0 zZ)]<|ze<|zq<|zi fun r1 hr1 => ?_
 obtain ⟨qr1, er1, exr1, rfl⟩ := Zeg x0 .sh r1 hr1
 refine zc [] (bv r1) [(Zo x0 zZ)] er1<|zq ?_
 refine za (!r1) ?_ ?_
 ·exact zk (ZdC )
 ·refine zq<|zq ?_
  refine zo (iv (x0.Rules.length : Int)) ?_ (Eq.trans (by kernel_rfl) (Z30 (P := PP) (t := 22) (d := 43) (by kernel_rfl) ZF (shrO zZ) x0.Rules))
  refine zq ?_
  refine za (decide (16 < (x0.Rules.length : Int))) ?_ ?_
  ·exact zk (ZdC )
  ·exact zk (Zkf x0 zZ)
theorem Zom (x0 : ZD) {r} (h : ZbH x0 = some r) : Z9E x0 = some r :=
 Z1f (fun _ _ ha hb => RRun.uniq Zhm (ha .ex) (hb .ex)) (fun zZ => Zno x0 zZ r h)
def Z7V  : Option (Bool) :=
 some (false)
theorem ZdD  : Sim (Z2V) (Z7V) (ZrL 0  []) := by
 unfold Z7V
 refine zf (ZBz ..)<|ze ?_
 exact zr ((bv false), []) ⟨_, rfl⟩
def Z99 (x3 : Int) (x16 : List Zp) (x17 x18 : Int) : Option (Bool) :=
 Z7Y x3 x16 x17 (IntKind.i64.wrap (x18 + 1))
theorem ZjJ x3 (x16 : List Zp) x17 x18 ox16 : Sim (Z2V) (Z99 x3 x16 x17 x18) (ZtR 0 (iv x3) (.p (.lst ox16 (x16.map ZF))) (iv x17) (iv x18) []) := by
 unfold Z99
 refine zf (ZA1 ..)<|ze<|zq ?_
 exact zk (Zef x3 x16 x17 (IntKind.i64.wrap (x18 + 1)) ox16)
def Z9Q (x16 : List Zp) (x17 x18 : Int) (b0 : Zp) : Option (Bool) :=
 Z99 b0.ID x16 x17 x18
theorem Zkh (x16 : List Zp) x17 x18 b0 ox16 : Sim (Z2V) (Z9Q x16 x17 x18 b0) (ZvL 0 (.ptr 0 0) (.p (.lst ox16 (x16.map ZF))) (iv x17) (iv x18) [(ZW b0)]) := by
 unfold Z9Q
 refine zf (ZBA ..)<|ze<|zq<|zq ?_
 exact zk (ZjJ b0.ID x16 x17 x18 ox16)
def Z9P (x3 : Int) (x16 : List Zp) (x17 x18 : Int) : Option (Bool) :=
 (lget x16 x18).bind fun a1 =>
 (Z7H a1).bind fun r2 =>
 if (!r2) = true then
 (Z7V)
 else
 (if (decide (a1.ID ≤ x3)) = true then
 (Z7V)
 else
 (Z9Q x16 x17 x18 a1))
theorem Zkg x3 (x16 : List Zp) x17 x18 ox16 : Sim (Z2V) (Z9P x3 x16 x17 x18) (ZvK 0 (iv x3) (.p (.lst ox16 (x16.map ZF))) (iv x17) (iv x18) []) := by
 unfold Z9P
 refine zf (ZBy ..)<|ze<|zi fun a1 ha1 => ?_
 refine zo (.cptr (Z1r a1)) ?_ (Eq.trans (by kernel_rfl) (Z3X (o := ox16) (k := .i64) (n := 5) (e := ZF) (cs := Z53) (fun _ => rfl) (fun _ => rfl) (by decide) ha1))
 refine zq<|zz (.ptr 0 0) [(ZW (Zp.mk 0 0 0 0 (ByteArray.mk #[])))]<|zt [(ZW a1)]<|ze<|zq<|zi fun r2 hr2 => ?_
 obtain ⟨qr2, er2, exr2, rfl⟩ := ZbS a1 r2 hr2
 refine zc [] (bv r2) [(ZW a1)] er2<|zq ?_
 refine za (!r2) ?_ ?_
 ·exact zk (ZdD )
 ·refine zq<|zq<|zq ?_
  refine za (decide (a1.ID ≤ x3)) ?_ ?_
  ·exact zk (ZdD )
  ·exact zk (Zkh x16 x17 x18 a1 ox16)
def ZbI  : Option (Bool) :=
 some (true)
theorem ZjK  : Sim (Z2V) (ZbI) (ZtS 0  []) := by
 unfold ZbI
 refine zf (ZA2 ..)<|ze ?_
 exact zr ((bv true), []) ⟨_, rfl⟩
def Z7T (x3 : Int) (x16 : List Zp) (x17 x18 : Int) : Option (Bool) :=
 if (decide (x18 < x17)) = true then
 (Z9P x3 x16 x17 x18)
 else
 (ZbI)
theorem Zke x3 (x16 : List Zp) x17 x18 ox16 : Sim (Z2V) (Z7T x3 x16 x17 x18) (ZlJ 0 (iv x3) (.p (.lst ox16 (x16.map ZF))) (iv x17) (iv x18) []) := by
 unfold Z7T
 refine zf (ZBv ..)<|ze<|zq ?_
 refine za (decide (x18 < x17)) ?_ ?_
 ·exact zk (Zkg x3 x16 x17 x18 ox16)
 ·exact zk (ZjK )
theorem Zee (x3 : Int) (x16 : List Zp) (x17 x18 : Int) {r} (h : Z7T x3 x16 x17 x18 = some r) : Z7Y x3 x16 x17 x18 = some r :=
 Z1f (fun _ _ ha hb => RRun.uniq Zhm (ha .ex) (hb .ex)) (fun ox16 => Zke x3 x16 x17 x18 ox16 r h)
def Z9R (x0 : ZD) : Option (Bool) :=
 if (decide (0 ≤ x0.Default)) = true then
 (if (decide (x0.Default ≤ 255)) = true then
 (if (decide (0 ≤ x0.Closed)) = true then
 (if (decide (x0.Closed ≤ 255)) = true then
 (if (decide (1 ≤ x0.Fuel)) = true then
 (if (decide (x0.Fuel ≤ 1048576)) = true then
 (if (decide (0 ≤ x0.Stack)) = true then
 (some (decide (x0.Stack ≤ 4096)))
 else
 (some (false)))
 else
 (some (false)))
 else
 (some (false)))
 else
 (some (false)))
 else
 (some (false)))
 else
 (some (false)))
 else
 (some (false))
theorem Zki x0 zZ : Sim (Z7P) (Z9R x0) (EE 46 [(.p (.agg (Z1h x0 zZ)))] []) := by
 unfold Z9R
 refine zf (ZHa ..)<|ze<|zx (.ptr 0 0) [(Zo x0 zZ)]<|ze<|zq<|zq<|zq ?_
 refine za (decide (0 ≤ x0.Default)) ?_ ?_
 ·refine zq<|zq<|zq ?_
  refine za (decide (x0.Default ≤ 255)) ?_ ?_
  ·refine zq<|zq<|zq ?_
   refine za (decide (0 ≤ x0.Closed)) ?_ ?_
   ·refine zq<|zq<|zq ?_
    refine za (decide (x0.Closed ≤ 255)) ?_ ?_
    ·refine zq<|zq<|zq ?_
     refine za (decide (1 ≤ x0.Fuel)) ?_ ?_
     ·refine zq<|zq<|zq ?_
      refine za (decide (x0.Fuel ≤ 1048576)) ?_ ?_
      ·refine zq<|zq<|zq ?_
       refine za (decide (0 ≤ x0.Stack)) ?_ ?_
       ·refine zq<|zq<|zq ?_
        exact zr ((bv (decide (x0.Stack ≤ 4096))), [(Zo x0 zZ)]) ⟨_, rfl⟩
       ·exact zr ((bv false), [(Zo x0 zZ)]) ⟨_, rfl⟩
      ·exact zr ((bv false), [(Zo x0 zZ)]) ⟨_, rfl⟩
     ·exact zr ((bv false), [(Zo x0 zZ)]) ⟨_, rfl⟩
    ·exact zr ((bv false), [(Zo x0 zZ)]) ⟨_, rfl⟩
   ·exact zr ((bv false), [(Zo x0 zZ)]) ⟨_, rfl⟩
  ·exact zr ((bv false), [(Zo x0 zZ)]) ⟨_, rfl⟩
 ·exact zr ((bv false), [(Zo x0 zZ)]) ⟨_, rfl⟩
theorem Zld (x0 : ZD) {r} (h : Z9R x0 = some r) : Z7Z x0 = some r :=
 Z1f (fun _ _ ha hb => RRun.uniq Zlx (ha .ex) (hb .ex)) (fun zZ => Zki x0 zZ r h)
def ZaN (x0 : Zp) : Option (Bool) :=
 if (decide (1 ≤ x0.ID)) = true then
 (if (decide (x0.ID ≤ 1099511627776)) = true then
 (if (decide (0 ≤ x0.Priority)) = true then
 (if (decide (x0.Priority ≤ 1000)) = true then
 (if (decide (0 ≤ x0.Action)) = true then
 (if (decide (x0.Action ≤ 255)) = true then
 (if (decide (1 ≤ x0.Scope)) = true then
 (if (decide (x0.Scope ≤ 65535)) = true then
 (some (decide ((x0.Pattern.size : Int) ≤ 256)))
 else
 (some (false)))
 else
 (some (false)))
 else
 (some (false)))
 else
 (some (false)))
 else
 (some (false)))
 else
 (some (false)))
 else
 (some (false)))
 else
 (some (false))
theorem Zm4 x0 : Sim (Z8R) (ZaN x0) (EE 27 [(.p (.agg (Z1r x0)))] []) := by
 unfold ZaN
 refine zf (ZH6 ..)<|ze<|zx (.ptr 0 0) [(ZW x0)]<|ze<|zq<|zq<|zq ?_
 refine za (decide (1 ≤ x0.ID)) ?_ ?_
 ·refine zq<|zq<|zq ?_
  refine za (decide (x0.ID ≤ 1099511627776)) ?_ ?_
  ·refine zq<|zq<|zq ?_
   refine za (decide (0 ≤ x0.Priority)) ?_ ?_
   ·refine zq<|zq<|zq ?_
    refine za (decide (x0.Priority ≤ 1000)) ?_ ?_
    ·refine zq<|zq<|zq ?_
     refine za (decide (0 ≤ x0.Action)) ?_ ?_
     ·refine zq<|zq<|zq ?_
      refine za (decide (x0.Action ≤ 255)) ?_ ?_
      ·refine zq<|zq<|zq ?_
       refine za (decide (1 ≤ x0.Scope)) ?_ ?_
       ·refine zq<|zq<|zq ?_
        refine za (decide (x0.Scope ≤ 65535)) ?_ ?_
        ·refine zq<|zq<|zq<|zq ?_
         exact zr ((bv (decide ((x0.Pattern.size : Int) ≤ 256))), [(ZW x0)]) ⟨_, rfl⟩
        ·exact zr ((bv false), [(ZW x0)]) ⟨_, rfl⟩
       ·exact zr ((bv false), [(ZW x0)]) ⟨_, rfl⟩
      ·exact zr ((bv false), [(ZW x0)]) ⟨_, rfl⟩
     ·exact zr ((bv false), [(ZW x0)]) ⟨_, rfl⟩
    ·exact zr ((bv false), [(ZW x0)]) ⟨_, rfl⟩
   ·exact zr ((bv false), [(ZW x0)]) ⟨_, rfl⟩
  ·exact zr ((bv false), [(ZW x0)]) ⟨_, rfl⟩
 ·exact zr ((bv false), [(ZW x0)]) ⟨_, rfl⟩
theorem Znn (x0 : Zp) {r} (h : ZaN x0 = some r) : Z7H x0 = some r :=
 Z1f (fun _ _ ha hb => RRun.uniq Zob (ha ) (hb )) (Zm4 x0 r h)
def Z8H (x0 : ZD) (x1 : ZX) : Option (Bool) :=
 Z3v (S91.mk x0.Rules x1.Put) 0 x1
theorem ZiB x0 x1 zZ z2e z29 : Sim (Z1Z) (Z8H x0 x1) (EE 15 [(.p (.agg (Z1h x0 zZ))), (.p (.agg (Z3q x1 z2e z29)))] []) := by
 unfold Z8H
 refine zf (ZGM ..)<|ze<|zx (.ptr 0 0) [(Zo x0 zZ)]<|zx (.ptr 1 0) [(Zo x0 zZ), (ZN x1 z2e z29)]<|ze<|zq<|zq<|zq<|zq<|zq ?_
 exact zk (Zbo (S91.mk x0.Rules x1.Put) 0 x0 x1 (shrO (shrO zZ)) (shrO (shrO z2e)) zZ z2e z29)
theorem Zjx (x0 : ZD) (x1 : ZX) {r} (h : Z8H x0 x1 = some r) : Z8K x0 x1 = some r :=
 Z1f (fun _ _ ha hb => RRun.uniq Za2 (ha .ex .ex .ex) (hb .ex .ex .ex)) (fun zZ z2e z29 => ZiB x0 x1 zZ z2e z29 r h)
def Z7h (x6 : List Zp) (x13 : S91) (x14 : Int) (b1 : ZX) : Option (Bool) :=
 Z5W x13 x14 x6 (x6.length : Int) 0 b1
theorem ZgK (x6 : List Zp) x13 x14 b0 b1 ox6 z2M z2N zB zT zP : Sim (Z1Z) (Z7h x6 x13 x14 b1) (Zvy 0 (.ptr 1 0) (.p (.lst ox6 (x6.map ZF))) (.p (.agg (ZeH x13 z2M z2N))) (iv x14) [(Zo b0 zB), (ZN b1 zT zP)]) := by
 unfold Z7h
 refine zf (ZBp ..)<|ze ?_
 refine zo (iv (x6.length : Int)) ?_ (Eq.trans (by kernel_rfl) (Z30 (P := PP) (t := 22) (d := 43) (by kernel_rfl) ZF (shrO ox6) x6))
 exact zk (Zbp x13 x14 x6 (x6.length : Int) 0 b0 b1 z2M z2N (shrO ox6) zB zT zP)
def Z5Q (x13 : S91) (x14 : Int) (b1 : ZX) : Option (Bool) :=
 (lget ([x13.c0, x13.c1] : List (List Zp)) x14).bind fun a1 =>
 if (decide (20 < (a1.length : Int))) = true then
 (some (false))
 else
 (Z7h a1 x13 x14 b1)
theorem ZgJ x13 x14 b0 b1 z2M z2N zB zT zP : Sim (Z1Z) (Z5Q x13 x14 b1) (Zvx 0 (.ptr 1 0) (.p (.agg (ZeH x13 z2M z2N))) (iv x14) [(Zo b0 zB), (ZN b1 zT zP)]) := by
 unfold Z5Q
 refine zf (ZBo ..)<|ze<|zi fun a1 ha1 => ?_
 refine zo (.p (.lst (lown [z2M, z2N] x14) (a1.map ZF))) ?_ (Eq.trans (b := xat PP 91 (.p (.agg (List.zipWith (fun o x => PV.lst o (x.map ZF)) [z2M, z2N] ([x13.c0, x13.c1] : List (List Zp))))) (.p (.v (.int .i64 x14)))) (by kernel_rfl) (ZEh (P := PP) (t := 91) (ee := ZF) (m := 2) (k := .i64) (e := 22) (by kernel_rfl) (by kernel_rfl) (by kernel_rfl) (by kernel_rfl) ha1))
 refine ze ?_
 refine zo (iv (a1.length : Int)) ?_ (Eq.trans (by kernel_rfl) (Z30 (P := PP) (t := 22) (d := 43) (by kernel_rfl) ZF (shrO (shrO (lown [z2M, z2N] x14))) a1))
 refine zq ?_
 refine za (decide (20 < (a1.length : Int))) ?_ ?_
 ·refine ze ?_
  exact zr ((bv false), [(Zo b0 zB), (ZN b1 zT zP)]) ⟨_, rfl⟩
 ·exact zk (ZgK a1 x13 x14 b0 b1 (shrO (lown [z2M, z2N] x14)) z2M z2N zB zT zP)
def Z78 (b1 : ZX) : Option (Bool) :=
 some (decide ((b1.Drop.length : Int) ≤ 40))
theorem Zgf b0 b1 zB zT zP : Sim (Z1Z) (Z78 b1) (Zto 0 (.ptr 1 0) [(Zo b0 zB), (ZN b1 zT zP)]) := by
 unfold Z78
 refine zf (ZzC ..)<|ze<|zq<|zq ?_
 refine zo (iv (b1.Drop.length : Int)) ?_ (Eq.trans (by kernel_rfl) (Z30 (P := PP) (t := 27) (d := 3) (by kernel_rfl) (eI .i64) (shrO zP) b1.Drop))
 refine zq ?_
 exact zr ((bv (decide ((b1.Drop.length : Int) ≤ 40))), [(Zo b0 zB), (ZN b1 zT zP)]) ⟨_, rfl⟩
def Z4K (x13 : S91) (x14 : Int) (b1 : ZX) : Option (Bool) :=
 if (decide (x14 < 2)) = true then
 (Z5Q x13 x14 b1)
 else
 (Z78 b1)
theorem ZgH x13 x14 b0 b1 z2M z2N zB zT zP : Sim (Z1Z) (Z4K x13 x14 b1) (ZlE 0 (.ptr 1 0) (.p (.agg (ZeH x13 z2M z2N))) (iv x14) [(Zo b0 zB), (ZN b1 zT zP)]) := by
 unfold Z4K
 refine zf (ZBm ..)<|ze<|zq ?_
 refine za (decide (x14 < 2)) ?_ ?_
 ·exact zk (ZgJ x13 x14 b0 b1 z2M z2N zB zT zP)
 ·exact zk (Zgf b0 b1 zB zT zP)
theorem Z8v (x13 : S91) (x14 : Int) (b1 : ZX) {r} (h : Z4K x13 x14 b1 = some r) : Z3v x13 x14 b1 = some r :=
 Z1f (fun _ _ ha hb => RRun.uniq Za2 (ha default .ex .ex .ex .ex .ex) (hb default .ex .ex .ex .ex .ex)) (fun b0 z2M z2N zB zT zP => ZgH x13 x14 b0 b1 z2M z2N zB zT zP r h)
def Z76 (x13 : S91) (x14 : Int) (x20 : List Zp) (x21 x22 : Int) (b1 : ZX) : Option (Bool) :=
 Z5W x13 x14 x20 x21 (IntKind.i64.wrap (x22 + 1)) b1
theorem Zgd x13 x14 (x20 : List Zp) x21 x22 b0 b1 z2M z2N ox20 zB zT zP : Sim (Z1Z) (Z76 x13 x14 x20 x21 x22 b1) (Ztm 0 (.ptr 1 0) (.p (.agg (ZeH x13 z2M z2N))) (iv x14) (.p (.lst ox20 (x20.map ZF))) (iv x21) (iv x22) [(Zo b0 zB), (ZN b1 zT zP)]) := by
 unfold Z76
 refine zf (ZzA ..)<|ze<|zq ?_
 exact zk (Zbp x13 x14 x20 x21 (IntKind.i64.wrap (x22 + 1)) b0 b1 z2M z2N ox20 zB zT zP)
def Z5R (x13 : S91) (x14 : Int) (x20 : List Zp) (x21 x22 : Int) (b1 : ZX) : Option (Bool) :=
 (lget x20 x22).bind fun a1 =>
 if (decide (300 < (a1.Pattern.size : Int))) = true then
 (some (false))
 else
 (Z76 x13 x14 x20 x21 x22 b1)
theorem ZgL x13 x14 (x20 : List Zp) x21 x22 b0 b1 z2M z2N ox20 zB zT zP : Sim (Z1Z) (Z5R x13 x14 x20 x21 x22 b1) (Zvz 0 (.ptr 1 0) (.p (.agg (ZeH x13 z2M z2N))) (iv x14) (.p (.lst ox20 (x20.map ZF))) (iv x21) (iv x22) [(Zo b0 zB), (ZN b1 zT zP)]) := by
 unfold Z5R
 refine zf (ZBq ..)<|ze<|zi fun a1 ha1 => ?_
 refine zo (.cptr (Z1r a1)) ?_ (Eq.trans (by kernel_rfl) (Z3X (o := ox20) (k := .i64) (n := 5) (e := ZF) (cs := Z53) (fun _ => rfl) (fun _ => rfl) (by decide) ha1))
 refine zq<|zz (.ptr 2 0) [(Zo b0 zB), (ZN b1 zT zP), (ZW (Zp.mk 0 0 0 0 (ByteArray.mk #[])))]<|zt [(Zo b0 zB), (ZN b1 zT zP), (ZW a1)]<|ze<|zq<|zq<|zq<|zq ?_
 refine za (decide (300 < (a1.Pattern.size : Int))) ?_ ?_
 ·refine ze ?_
  exact zr ((bv false), [(Zo b0 zB), (ZN b1 zT zP), (ZW a1)]) ⟨_, rfl⟩
 ·exact zk (Zgd x13 x14 x20 x21 x22 b0 b1 z2M z2N ox20 zB zT zP)
def Z77 (x13 : S91) (x14 : Int) (b1 : ZX) : Option (Bool) :=
 Z3v x13 (IntKind.i64.wrap (x14 + 1)) b1
theorem Zge x13 x14 b0 b1 z2M z2N zB zT zP : Sim (Z1Z) (Z77 x13 x14 b1) (Ztn 0 (.ptr 1 0) (.p (.agg (ZeH x13 z2M z2N))) (iv x14) [(Zo b0 zB), (ZN b1 zT zP)]) := by
 unfold Z77
 refine zf (ZzB ..)<|ze<|zq ?_
 exact zk (Zbo x13 (IntKind.i64.wrap (x14 + 1)) b0 b1 z2M z2N zB zT zP)
def Z4L (x13 : S91) (x14 : Int) (x20 : List Zp) (x21 x22 : Int) (b1 : ZX) : Option (Bool) :=
 if (decide (x22 < x21)) = true then
 (Z5R x13 x14 x20 x21 x22 b1)
 else
 (Z77 x13 x14 b1)
theorem ZgI x13 x14 (x20 : List Zp) x21 x22 b0 b1 z2M z2N ox20 zB zT zP : Sim (Z1Z) (Z4L x13 x14 x20 x21 x22 b1) (ZlF 0 (.ptr 1 0) (.p (.agg (ZeH x13 z2M z2N))) (iv x14) (.p (.lst ox20 (x20.map ZF))) (iv x21) (iv x22) [(Zo b0 zB), (ZN b1 zT zP)]) := by
 unfold Z4L
 refine zf (ZBn ..)<|ze<|zq ?_
 refine za (decide (x22 < x21)) ?_ ?_
 ·exact zk (ZgL x13 x14 x20 x21 x22 b0 b1 z2M z2N ox20 zB zT zP)
 ·exact zk (Zge x13 x14 b0 b1 z2M z2N zB zT zP)
theorem Z8w (x13 : S91) (x14 : Int) (x20 : List Zp) (x21 x22 : Int) (b1 : ZX) {r} (h : Z4L x13 x14 x20 x21 x22 b1 = some r) : Z5W x13 x14 x20 x21 x22 b1 = some r :=
 Z1f (fun _ _ ha hb => RRun.uniq Za2 (ha default .ex .ex .ex .ex .ex .ex) (hb default .ex .ex .ex .ex .ex .ex)) (fun b0 z2M z2N ox20 zB zT zP => ZgI x13 x14 x20 x21 x22 b0 b1 z2M z2N ox20 zB zT zP r h)
end Go.Proofs.YteoeggbihfnbfaaGreatDoor.N2
end
noncomputable section
set_option linter.unusedSimpArgs false
set_option linter.unusedVariables false
namespace Go.Proofs.YteoeggbihfnbfaaGreatDoor.N2
open Go Go.Abs
set_option linter.unusedVariables false
set_option maxRecDepth 100000
def Z9U (b4 : ZD) : Option (ZD × ZI) :=
 some (b4, (ZI.mk 0 0 0))
theorem Zkm b0 b1 b2 b3 b4 zB zT zP zO z4E (z1u : ZR zO = true) : Sim (Z6I) (Z9U b4) (ZvR 0 (.ptr 2 0) (.ptr 3 0) (.ptr 4 0) [(Zo b0 zB), (ZN b1 zT zP), (Zo b2 zO), (ZM b3), (Zo b4 z4E)]) := by
 unfold Z9U
 refine zf (ZBG ..)<|ze<|zq<|zq<|zt [(Zo b0 zB), (ZN b1 zT zP), (Zo b4 (shrO z4E)), (ZM b3), (Zo b4 z4E)]<|zt [(Zo b0 zB), (ZN b1 zT zP), (Zo b4 (shrO z4E)), (ZM (ZI.mk 0 0 0)), (Zo b4 z4E)] ?_
 exact zr ((.p (.tup [(.agg (Z1h b4 .sh)), (.agg (Z1d (ZI.mk 0 0 0)))])), [(Zo b0 zB), (ZN b1 zT zP), (Zo b4 (shrO z4E)), (ZM (ZI.mk 0 0 0)), (Zo b4 z4E)]) ⟨_, rfl⟩
def Z9T (b4 : ZD) : Option (ZD × ZI) :=
 (Z7A b4).bind fun r1 =>
 if (r1.Code != 0) = true then
 (some ((ZD.mk 0 0 0 0 ([] : List Zp)), r1))
 else
 (Z9U b4)
theorem Zkl b0 b1 b2 b3 b4 zB zT zP zO z4E (z1u : ZR zO = true) : Sim (Z6I) (Z9T b4) (ZvQ 0 (.ptr 2 0) (.ptr 3 0) (.ptr 4 0) [(Zo b0 zB), (ZN b1 zT zP), (Zo b2 zO), (ZM b3), (Zo b4 z4E)]) := by
 unfold Z9T
 refine zf (ZBF ..)<|ze<|zq<|zi fun r1 hr1 => ?_
 obtain ⟨qr1, er1, exr1, rfl⟩ := Zav b4 .sh r1 hr1
 refine zc [] (.p (.agg (Z1d r1))) [(Zo b0 zB), (ZN b1 zT zP), (Zo b2 zO), (ZM b3), (Zo b4 z4E)] er1<|zz (.ptr 5 0) [(Zo b0 zB), (ZN b1 zT zP), (Zo b2 zO), (ZM b3), (Zo b4 z4E), (ZM (ZI.mk 0 0 0))]<|zt [(Zo b0 zB), (ZN b1 zT zP), (Zo b2 zO), (ZM b3), (Zo b4 z4E), (ZM r1)]<|ze<|zq<|zq<|zq ?_
 refine za (r1.Code != 0) ?_ ?_
 ·refine ze<|zq<|zq<|zt [(Zo b0 zB), (ZN b1 zT zP), (Zo (ZD.mk 0 0 0 0 ([] : List Zp)) .nl), (ZM b3), (Zo b4 z4E), (ZM r1)]<|zt [(Zo b0 zB), (ZN b1 zT zP), (Zo (ZD.mk 0 0 0 0 ([] : List Zp)) .nl), (ZM r1), (Zo b4 z4E), (ZM r1)]<|zg ?_
  exact zr ((.p (.tup [(.agg (Z1h (ZD.mk 0 0 0 0 ([] : List Zp)) .sh)), (.agg (Z1d r1))])), [(Zo b0 zB), (ZN b1 zT zP), (Zo (ZD.mk 0 0 0 0 ([] : List Zp)) .nl), (ZM r1), (Zo b4 z4E), (ZM r1)]) ⟨_, rfl⟩
 ·exact zk (Zkm b0 b1 b2 b3 b4 zB zT zP zO z4E z1u)
def ZbN (x0 : ZD) (x1 : ZX) : Option (ZD × ZI) :=
 (ZcJ x0 x1).bind fun r1 =>
 if (r1.2 != 0) = true then
 (some ((ZD.mk 0 0 0 0 ([] : List Zp)), (ZI.mk r1.2 0 0)))
 else
 (Z9T r1.1)
theorem ZnD x0 x1 zZ z2e z29 : Sim (Z6I) (ZbN x0 x1) (EE 23 [(.p (.agg (Z1h x0 zZ))), (.p (.agg (Z3q x1 z2e z29)))] []) := by
 unfold ZbN
 refine zf (ZH5 ..)<|ze<|zx (.ptr 0 0) [(Zo x0 zZ)]<|zx (.ptr 1 0) [(Zo x0 zZ), (ZN x1 z2e z29)]<|zz (.ptr 2 0) [(Zo x0 zZ), (ZN x1 z2e z29), (Zo (ZD.mk 0 0 0 0 ([] : List Zp)) .nl)]<|zz (.ptr 3 0) [(Zo x0 zZ), (ZN x1 z2e z29), (Zo (ZD.mk 0 0 0 0 ([] : List Zp)) .nl), (ZM (ZI.mk 0 0 0))]<|ze<|zq<|zq<|zi fun r1 hr1 => ?_
 obtain ⟨qr1, er1, exr1, rfl⟩ := Zs6 x0 x1 .sh .sh .sh r1 hr1
 refine zc [] (.p (.tup [(.agg (Z1h r1.1 .sh)), (.v (.int .i64 r1.2))])) [(Zo x0 zZ), (ZN x1 z2e z29), (Zo (ZD.mk 0 0 0 0 ([] : List Zp)) .nl), (ZM (ZI.mk 0 0 0))] er1<|zq<|zq<|zz (.ptr 4 0) [(Zo x0 zZ), (ZN x1 z2e z29), (Zo (ZD.mk 0 0 0 0 ([] : List Zp)) .nl), (ZM (ZI.mk 0 0 0)), (Zo (ZD.mk 0 0 0 0 ([] : List Zp)) .nl)]<|zt [(Zo x0 zZ), (ZN x1 z2e z29), (Zo (ZD.mk 0 0 0 0 ([] : List Zp)) .nl), (ZM (ZI.mk 0 0 0)), (Zo r1.1 .sh)]<|ze<|zq ?_
 refine za (r1.2 != 0) ?_ ?_
 ·refine ze<|zq<|zq<|zt [(Zo x0 zZ), (ZN x1 z2e z29), (Zo (ZD.mk 0 0 0 0 ([] : List Zp)) .nl), (ZM (ZI.mk 0 0 0)), (Zo r1.1 .sh)]<|zt [(Zo x0 zZ), (ZN x1 z2e z29), (Zo (ZD.mk 0 0 0 0 ([] : List Zp)) .nl), (ZM (ZI.mk r1.2 0 0)), (Zo r1.1 .sh)] ?_
  exact zr ((.p (.tup [(.agg (Z1h (ZD.mk 0 0 0 0 ([] : List Zp)) .sh)), (.agg (Z1d (ZI.mk r1.2 0 0)))])), [(Zo x0 zZ), (ZN x1 z2e z29), (Zo (ZD.mk 0 0 0 0 ([] : List Zp)) .nl), (ZM (ZI.mk r1.2 0 0)), (Zo r1.1 .sh)]) ⟨_, rfl⟩
 ·exact zk (Zkl x0 x1 (ZD.mk 0 0 0 0 ([] : List Zp)) (ZI.mk 0 0 0) r1.1 zZ z2e z29 .nl .sh rfl)
theorem Zot (x0 : ZD) (x1 : ZX) {r} (h : ZbN x0 x1 = some r) : ZbT x0 x1 = some r :=
 Z1f (fun _ _ ha hb => RRun.uniq Zow (ha .ex .ex .ex) (hb .ex .ex .ex)) (fun zZ z2e z29 => ZnD x0 x1 zZ z2e z29 r h)
def Zai  : Option (ZD × Int) :=
 some ((ZD.mk 0 0 0 0 ([] : List Zp)), 30)
theorem Zgt b0 b1 b2 zB zT zP zO (z1u : ZR zO = true) : Sim (Z1R) (Zai) (ZrN 0 (.ptr 2 0) [(Zo b0 zB), (ZN b1 zT zP), (Zo b2 zO)]) := by
 unfold Zai
 refine zf (ZBD ..)<|ze<|zq<|zt [(Zo b0 zB), (ZN b1 zT zP), (Zo (ZD.mk 0 0 0 0 ([] : List Zp)) .nl)] ?_
 exact zr ((.p (.tup [(.agg (Z1h (ZD.mk 0 0 0 0 ([] : List Zp)) .sh)), (.v (.int .i64 30))])), [(Zo b0 zB), (ZN b1 zT zP), (Zo (ZD.mk 0 0 0 0 ([] : List Zp)) .nl)]) ⟨_, rfl⟩
def Zby (b0 : ZD) (b1 : ZX) (zH zL zU zQ : Int) : Option (ZD × Int) :=
 Z9A b0.Rules (b0.Rules.length : Int) 0 b1 zH zL zU zQ ([] : List (Int × Zp))
theorem Znb b0 b1 b2 zH zL zU zQ z13 zB zT zP zO z11 (z1u : ZR zO = true) : Sim (Z1R) (Zby b0 b1 zH zL zU zQ) (ZtX 0 (.ptr 0 0) (.ptr 1 0) (.ptr 2 0) (.ptr 3 0) [(Zo b0 zB), (ZN b1 zT zP), (Zo b2 zO), (Zo (ZD.mk zH zL zU zQ z13) z11)]) := by
 unfold Zby
 refine zf (ZA8 ..)<|ze<|zm (.mp 4) [(Zo b0 zB), (ZN b1 zT zP), (Zo b2 zO), (Zo (ZD.mk zH zL zU zQ z13) z11), [(.md (([] : List (Int × Zp)).map (encM ZF)))]]<|ze<|zq<|zq ?_
 refine zo (iv (b0.Rules.length : Int)) ?_ (Eq.trans (by kernel_rfl) (Z30 (P := PP) (t := 22) (d := 43) (by kernel_rfl) ZF (shrO zB) b0.Rules))
 exact zk (Zgm b0.Rules (b0.Rules.length : Int) 0 b0 b1 b2 zH zL zU zQ z13 ([] : List (Int × Zp)) (shrO zB) zB zT zP zO z11 z1u)
def Zbx (b0 : ZD) (b1 : ZX) (zH zL zU zQ : Int) : Option (ZD × Int) :=
 (Zat b1).bind fun r1 =>
 if (r1) = true then
 (some ((ZD.mk 0 0 0 0 ([] : List Zp)), 31))
 else
 (Zby b0 b1 zH zL zU zQ)
theorem Zna b0 b1 b2 zH zL zU zQ z13 zB zT zP zO z11 (z1u : ZR zO = true) : Sim (Z1R) (Zbx b0 b1 zH zL zU zQ) (ZtW 0 (.ptr 0 0) (.ptr 1 0) (.ptr 2 0) (.ptr 3 0) [(Zo b0 zB), (ZN b1 zT zP), (Zo b2 zO), (Zo (ZD.mk zH zL zU zQ z13) z11)]) := by
 unfold Zbx
 refine zf (ZA7 ..)<|ze<|zq<|zi fun r1 hr1 => ?_
 obtain ⟨qr1, er1, exr1, rfl⟩ := Zm3 b1 .sh .sh r1 hr1
 refine zc [] (bv r1) [(Zo b0 zB), (ZN b1 zT zP), (Zo b2 zO), (Zo (ZD.mk zH zL zU zQ z13) z11)] er1 ?_
 refine za r1 ?_ ?_
 ·refine ze<|zq<|zt [(Zo b0 zB), (ZN b1 zT zP), (Zo (ZD.mk 0 0 0 0 ([] : List Zp)) .nl), (Zo (ZD.mk zH zL zU zQ z13) z11)] ?_
  exact zr ((.p (.tup [(.agg (Z1h (ZD.mk 0 0 0 0 ([] : List Zp)) .sh)), (.v (.int .i64 31))])), [(Zo b0 zB), (ZN b1 zT zP), (Zo (ZD.mk 0 0 0 0 ([] : List Zp)) .nl), (Zo (ZD.mk zH zL zU zQ z13) z11)]) ⟨_, rfl⟩
 ·exact zk (Znb b0 b1 b2 zH zL zU zQ z13 zB zT zP zO z11 z1u)
def Zck (b0 : ZD) (b1 : ZX) : Option (ZD × Int) :=
 (ZeF b1.Default b0.Default).bind fun r1 =>
 (ZaZ b1.Closed b0.Closed).bind fun r2 =>
 (ZaY b1.Fuel b0.Fuel).bind fun r3 =>
 (ZaX b1.Stack b0.Stack).bind fun r4 =>
 (Z7Z (ZD.mk r1 r2 r3 r4 b0.Rules)).bind fun r5 =>
 if (!r5) = true then
 (Zai)
 else
 ((Za0 b1.Put).bind fun r6 =>
 if (!r6) = true then
 (Zai)
 else
 (Zbx b0 b1 r1 r2 r3 r4))
theorem Zol b0 b1 b2 zB zT zP zO (z1u : ZR zO = true) : Sim (Z1R) (Zck b0 b1) (ZvP 0 (.ptr 0 0) (.ptr 1 0) (.ptr 2 0) [(Zo b0 zB), (ZN b1 zT zP), (Zo b2 zO)]) := by
 unfold Zck
 refine zf (ZBC ..)<|ze<|zq<|zz (.ptr 3 0) [(Zo b0 zB), (ZN b1 zT zP), (Zo b2 zO), (Zo (ZD.mk 0 0 0 0 ([] : List Zp)) .nl)]<|zt [(Zo b0 zB), (ZN b1 zT zP), (Zo b2 zO), (Zo b0 (shrO zB))]<|ze<|zq<|zq<|zq<|zi fun r1 hr1 => ?_
 obtain ⟨qr1, er1, exr1, rfl⟩ := Zr0 b1.Default b0.Default b0.Closed b0.Fuel b0.Stack b0.Rules (shrO zB) r1 hr1
 refine zc [3] (.p (.tup [])) [(Zo b0 zB), (ZN b1 zT zP), (Zo b2 zO), (Zo (ZD.mk r1 b0.Closed b0.Fuel b0.Stack b0.Rules) (shrO zB))] er1<|ze<|zq<|zq<|zq<|zi fun r2 hr2 => ?_
 obtain ⟨qr2, er2, exr2, rfl⟩ := Znv b1.Closed r1 b0.Closed b0.Fuel b0.Stack b0.Rules (shrO zB) r2 hr2
 refine zc [3] (.p (.tup [])) [(Zo b0 zB), (ZN b1 zT zP), (Zo b2 zO), (Zo (ZD.mk r1 r2 b0.Fuel b0.Stack b0.Rules) (shrO zB))] er2<|ze<|zq<|zq<|zq<|zi fun r3 hr3 => ?_
 obtain ⟨qr3, er3, exr3, rfl⟩ := Znt b1.Fuel r1 r2 b0.Fuel b0.Stack b0.Rules (shrO zB) r3 hr3
 refine zc [3] (.p (.tup [])) [(Zo b0 zB), (ZN b1 zT zP), (Zo b2 zO), (Zo (ZD.mk r1 r2 r3 b0.Stack b0.Rules) (shrO zB))] er3<|ze<|zq<|zq<|zq<|zi fun r4 hr4 => ?_
 obtain ⟨qr4, er4, exr4, rfl⟩ := Znr b1.Stack r1 r2 r3 b0.Stack b0.Rules (shrO zB) r4 hr4
 refine zc [3] (.p (.tup [])) [(Zo b0 zB), (ZN b1 zT zP), (Zo b2 zO), (Zo (ZD.mk r1 r2 r3 r4 b0.Rules) (shrO zB))] er4<|ze<|zq<|zi fun r5 hr5 => ?_
 obtain ⟨qr5, er5, exr5, rfl⟩ := Zeg (ZD.mk r1 r2 r3 r4 b0.Rules) .sh r5 hr5
 refine zc [] (bv r5) [(Zo b0 zB), (ZN b1 zT zP), (Zo b2 zO), (Zo (ZD.mk r1 r2 r3 r4 b0.Rules) (shrO zB))] er5<|zq ?_
 refine za (!r5) ?_ ?_
 ·exact zk (Zgt b0 b1 b2 zB zT zP zO z1u)
 ·refine zq<|zq<|zi fun r6 hr6 => ?_
  obtain ⟨qr6, er6, exr6, rfl⟩ := Zlf b1.Put .sh r6 hr6
  refine zc [] (bv r6) [(Zo b0 zB), (ZN b1 zT zP), (Zo b2 zO), (Zo (ZD.mk r1 r2 r3 r4 b0.Rules) (shrO zB))] er6<|zq ?_
  refine za (!r6) ?_ ?_
  ·exact zk (Zgt b0 b1 b2 zB zT zP zO z1u)
  ·exact zk (Zna b0 b1 b2 r1 r2 r3 r4 b0.Rules zB zT zP zO (shrO zB) z1u)
def ZfF (x0 : ZD) (x1 : ZX) : Option (ZD × Int) :=
 (Z9E x0).bind fun r1 =>
 if (!r1) = true then
 (some ((ZD.mk 0 0 0 0 ([] : List Zp)), 10))
 else
 (Zck x0 x1)
theorem ZqX x0 x1 zZ z2e z29 : Sim (Z1R) (ZfF x0 x1) (EE 22 [(.p (.agg (Z1h x0 zZ))), (.p (.agg (Z3q x1 z2e z29)))] []) := by
 unfold ZfF
 refine zf (ZGY ..)<|ze<|zx (.ptr 0 0) [(Zo x0 zZ)]<|zx (.ptr 1 0) [(Zo x0 zZ), (ZN x1 z2e z29)]<|zz (.ptr 2 0) [(Zo x0 zZ), (ZN x1 z2e z29), (Zo (ZD.mk 0 0 0 0 ([] : List Zp)) .nl)]<|ze<|zq<|zi fun r1 hr1 => ?_
 obtain ⟨qr1, er1, exr1, rfl⟩ := Zgu x0 .sh r1 hr1
 refine zc [] (bv r1) [(Zo x0 zZ), (ZN x1 z2e z29), (Zo (ZD.mk 0 0 0 0 ([] : List Zp)) .nl)] er1<|zq ?_
 refine za (!r1) ?_ ?_
 ·refine ze<|zq<|zt [(Zo x0 zZ), (ZN x1 z2e z29), (Zo (ZD.mk 0 0 0 0 ([] : List Zp)) .nl)] ?_
  exact zr ((.p (.tup [(.agg (Z1h (ZD.mk 0 0 0 0 ([] : List Zp)) .sh)), (.v (.int .i64 10))])), [(Zo x0 zZ), (ZN x1 z2e z29), (Zo (ZD.mk 0 0 0 0 ([] : List Zp)) .nl)]) ⟨_, rfl⟩
 ·exact zk (Zol x0 x1 (ZD.mk 0 0 0 0 ([] : List Zp)) zZ z2e z29 .nl rfl)
theorem Zs5 (x0 : ZD) (x1 : ZX) {r} (h : ZfF x0 x1 = some r) : ZcJ x0 x1 = some r :=
 Z1f (fun _ _ ha hb => RRun.uniq Zb5 (ha .ex .ex .ex) (hb .ex .ex .ex)) (fun zZ z2e z29 => ZqX x0 x1 zZ z2e z29 r h)
def Zbz (x54 : List Zp) (x55 x56 : Int) (b1 : ZX) (zH zL zU zQ : Int) (z1j : List (Int × Zp)) : Option (ZD × Int) :=
 (lget x54 x56).bind fun a1 =>
 Z9A x54 x55 (IntKind.i64.wrap (x56 + 1)) b1 zH zL zU zQ (putM z1j a1.ID a1)
theorem Znc (x54 : List Zp) x55 x56 b0 b1 b2 zH zL zU zQ z13 z1j ox54 zB zT zP zO z11 (z1u : ZR zO = true) : Sim (Z1R) (Zbz x54 x55 x56 b1 zH zL zU zQ z1j) (ZtY 0 (.ptr 1 0) (.ptr 2 0) (.ptr 3 0) (.mp 4) (.p (.lst ox54 (x54.map ZF))) (iv x55) (iv x56) [(Zo b0 zB), (ZN b1 zT zP), (Zo b2 zO), (Zo (ZD.mk zH zL zU zQ z13) z11), [(.md ((z1j).map (encM ZF)))]]) := by
 unfold Zbz
 refine zf (ZA9 ..)<|ze<|zi fun a1 ha1 => ?_
 refine zo (.cptr (Z1r a1)) ?_ (Eq.trans (by kernel_rfl) (Z3X (o := ox54) (k := .i64) (n := 5) (e := ZF) (cs := Z53) (fun _ => rfl) (fun _ => rfl) (by decide) ha1))
 refine zq<|zz (.ptr 5 0) [(Zo b0 zB), (ZN b1 zT zP), (Zo b2 zO), (Zo (ZD.mk zH zL zU zQ z13) z11), [(.md ((z1j).map (encM ZF)))], (ZW (Zp.mk 0 0 0 0 (ByteArray.mk #[])))]<|zt [(Zo b0 zB), (ZN b1 zT zP), (Zo b2 zO), (Zo (ZD.mk zH zL zU zQ z13) z11), [(.md ((z1j).map (encM ZF)))], (ZW a1)]<|ze<|zq<|zq<|zq ?_
 refine Sim.xupd (B2 := [(Zo b0 zB), (ZN b1 zT zP), (Zo b2 zO), (Zo (ZD.mk zH zL zU zQ z13) z11), [(.md ((putM z1j a1.ID a1).map (encM ZF)))], (ZW a1)]) (fun K => Eq.trans (b := xupd PP 110 (.mp 4) (iv a1.ID) (.p (.agg (Z1r a1))) [(Zo b0 zB), (ZN b1 zT zP), (Zo b2 zO), (Zo (ZD.mk zH zL zU zQ z13) z11), [(.md ((z1j).map (encM ZF)))], (ZW a1)] K) (by kernel_rfl) <| Zut (P := PP) (t := 110) (K := K) (B2 := [(Zo b0 zB), (ZN b1 zT zP), (Zo b2 zO), (Zo (ZD.mk zH zL zU zQ z13) z11), [(.md ((putM z1j a1.ID a1).map (encM ZF)))], (ZW a1)]) (e := ZF) (a := a1) (es := z1j) (te := 43) (by kernel_rfl) (by kernel_rfl) (by kernel_rfl) (by kernel_rfl) (by kernel_rfl)) ?_
 refine ze<|zq ?_
 exact zk (Zgm x54 x55 (IntKind.i64.wrap (x56 + 1)) b0 b1 b2 zH zL zU zQ z13 (putM z1j a1.ID a1) ox54 zB zT zP zO z11 z1u)
def Z9t (b1 : ZX) (zH zL zU zQ : Int) (z1j : List (Int × Zp)) : Option (ZD × Int) :=
 Z9B b1.Drop (b1.Drop.length : Int) 0 b1 zH zL zU zQ z1j
theorem Znd b0 b1 b2 zH zL zU zQ z13 z1j zB zT zP zO z11 (z1u : ZR zO = true) : Sim (Z1R) (Z9t b1 zH zL zU zQ z1j) (ZtZ 0 (.ptr 1 0) (.ptr 2 0) (.ptr 3 0) (.mp 4) [(Zo b0 zB), (ZN b1 zT zP), (Zo b2 zO), (Zo (ZD.mk zH zL zU zQ z13) z11), [(.md ((z1j).map (encM ZF)))]]) := by
 unfold Z9t
 refine zf (ZAa ..)<|ze<|zq<|zq ?_
 refine zo (iv (b1.Drop.length : Int)) ?_ (Eq.trans (by kernel_rfl) (Z30 (P := PP) (t := 27) (d := 3) (by kernel_rfl) (eI .i64) (shrO zP) b1.Drop))
 exact zk (Zgo b1.Drop (b1.Drop.length : Int) 0 b0 b1 b2 zH zL zU zQ z13 z1j (shrO zP) zB zT zP zO z11 z1u)
def Z9p (x54 : List Zp) (x55 x56 : Int) (b1 : ZX) (zH zL zU zQ : Int) (z1j : List (Int × Zp)) : Option (ZD × Int) :=
 if (decide (x56 < x55)) = true then
 (Zbz x54 x55 x56 b1 zH zL zU zQ z1j)
 else
 (Z9t b1 zH zL zU zQ z1j)
theorem Zn3 (x54 : List Zp) x55 x56 b0 b1 b2 zH zL zU zQ z13 z1j ox54 zB zT zP zO z11 (z1u : ZR zO = true) : Sim (Z1R) (Z9p x54 x55 x56 b1 zH zL zU zQ z1j) (Zja 0 (.ptr 1 0) (.ptr 2 0) (.ptr 3 0) (.mp 4) (.p (.lst ox54 (x54.map ZF))) (iv x55) (iv x56) [(Zo b0 zB), (ZN b1 zT zP), (Zo b2 zO), (Zo (ZD.mk zH zL zU zQ z13) z11), [(.md ((z1j).map (encM ZF)))]]) := by
 unfold Z9p
 refine zf (ZA3 ..)<|ze<|zq ?_
 refine za (decide (x56 < x55)) ?_ ?_
 ·exact zk (Znc x54 x55 x56 b0 b1 b2 zH zL zU zQ z13 z1j ox54 zB zT zP zO z11 z1u)
 ·exact zk (Znd b0 b1 b2 zH zL zU zQ z13 z1j zB zT zP zO z11 z1u)
theorem Zgl (x54 : List Zp) (x55 x56 : Int) (b1 : ZX) (zH zL zU zQ : Int) (z1j : List (Int × Zp)) {r} (h : Z9p x54 x55 x56 b1 zH zL zU zQ z1j = some r) : Z9A x54 x55 x56 b1 zH zL zU zQ z1j = some r :=
 Z1f (fun _ _ ha hb => RRun.uniq Zb5 (ha default default default .ex .ex .ex .ex .ex .ex rfl) (hb default default default .ex .ex .ex .ex .ex .ex rfl)) (fun b0 b2 z13 ox54 zB zT zP zO z11 z1u => Zn3 x54 x55 x56 b0 b1 b2 zH zL zU zQ z13 z1j ox54 zB zT zP zO z11 z1u r h)
def ZbC (x66 : List Int) (x67 x68 : Int) (b1 : ZX) (zH zL zU zQ : Int) (z1j : List (Int × Zp)) : Option (ZD × Int) :=
 Z9B x66 x67 (IntKind.i64.wrap (x68 + 1)) b1 zH zL zU zQ z1j
theorem Zng (x66 : List Int) x67 x68 b0 b1 b2 zH zL zU zQ z13 z1j ox66 zB zT zP zO z11 (z1u : ZR zO = true) : Sim (Z1R) (ZbC x66 x67 x68 b1 zH zL zU zQ z1j) (Zu2 0 (.ptr 1 0) (.ptr 2 0) (.ptr 3 0) (.mp 4) (.p (.lst ox66 (x66.map (eI .i64)))) (iv x67) (iv x68) [(Zo b0 zB), (ZN b1 zT zP), (Zo b2 zO), (Zo (ZD.mk zH zL zU zQ z13) z11), [(.md ((z1j).map (encM ZF)))]]) := by
 unfold ZbC
 refine zf (ZAd ..)<|ze<|zq ?_
 exact zk (Zgo x66 x67 (IntKind.i64.wrap (x68 + 1)) b0 b1 b2 zH zL zU zQ z13 z1j ox66 zB zT zP zO z11 z1u)
def ZbB (x11 : Int) (x66 : List Int) (x67 x68 : Int) (b1 : ZX) (zH zL zU zQ : Int) (z1j : List (Int × Zp)) : Option (ZD × Int) :=
 ZbC x66 x67 x68 b1 zH zL zU zQ (delM z1j x11)
theorem Znf x11 (x66 : List Int) x67 x68 b0 b1 b2 zH zL zU zQ z13 z1j ox66 zB zT zP zO z11 (z1u : ZR zO = true) : Sim (Z1R) (ZbB x11 x66 x67 x68 b1 zH zL zU zQ z1j) (Zu1 0 (.ptr 1 0) (.ptr 2 0) (.ptr 3 0) (.mp 4) (iv x11) (.p (.lst ox66 (x66.map (eI .i64)))) (iv x67) (iv x68) [(Zo b0 zB), (ZN b1 zT zP), (Zo b2 zO), (Zo (ZD.mk zH zL zU zQ z13) z11), [(.md ((z1j).map (encM ZF)))]]) := by
 unfold ZbB
 refine zf (ZAc ..)<|ze ?_
 refine Sim.xdel (B2 := [(Zo b0 zB), (ZN b1 zT zP), (Zo b2 zO), (Zo (ZD.mk zH zL zU zQ z13) z11), [(.md ((delM z1j x11).map (encM ZF)))]]) (fun K => Eq.trans (b := xdel PP 110 (.mp 4) (iv x11) [(Zo b0 zB), (ZN b1 zT zP), (Zo b2 zO), (Zo (ZD.mk zH zL zU zQ z13) z11), [(.md ((z1j).map (encM ZF)))]] K) (by kernel_rfl) <| ZGz (P := PP) (t := 110) (K := K) (B2 := [(Zo b0 zB), (ZN b1 zT zP), (Zo b2 zO), (Zo (ZD.mk zH zL zU zQ z13) z11), [(.md ((delM z1j x11).map (encM ZF)))]]) (e := ZF) (es := z1j) (te := 43) (by kernel_rfl) (by kernel_rfl) (by kernel_rfl)) ?_
 exact zk (Zng x66 x67 x68 b0 b1 b2 zH zL zU zQ z13 (delM z1j x11) ox66 zB zT zP zO z11 z1u)
def ZbA (x66 : List Int) (x67 x68 : Int) (b1 : ZX) (zH zL zU zQ : Int) (z1j : List (Int × Zp)) : Option (ZD × Int) :=
 (lget x66 x68).bind fun a1 =>
 if (!(getM z1j a1).isSome) = true then
 (some ((ZD.mk 0 0 0 0 ([] : List Zp)), 32))
 else
 (ZbB a1 x66 x67 x68 b1 zH zL zU zQ z1j)
theorem Zne (x66 : List Int) x67 x68 b0 b1 b2 zH zL zU zQ z13 z1j ox66 zB zT zP zO z11 (z1u : ZR zO = true) : Sim (Z1R) (ZbA x66 x67 x68 b1 zH zL zU zQ z1j) (Zu0 0 (.ptr 1 0) (.ptr 2 0) (.ptr 3 0) (.mp 4) (.p (.lst ox66 (x66.map (eI .i64)))) (iv x67) (iv x68) [(Zo b0 zB), (ZN b1 zT zP), (Zo b2 zO), (Zo (ZD.mk zH zL zU zQ z13) z11), [(.md ((z1j).map (encM ZF)))]]) := by
 unfold ZbA
 refine zf (ZAb ..)<|ze<|zi fun a1 ha1 => ?_
 refine zo (.cptr [(.v (.int .i64 a1))]) ?_ (Eq.trans (by kernel_rfl) (Z3X (o := ox66) (k := .i64) (n := 1) (e := (eI .i64)) (cs := (fun a => [(eI .i64) a])) (fun _ => rfl) (fun _ => rfl) (by decide) ha1))
 refine zq<|ze ?_
 refine zo (.p (.tup [(.agg (Z1r ((getM z1j a1).getD (Zp.mk 0 0 0 0 (ByteArray.mk #[]))))), (.v (.bool (getM z1j a1).isSome))])) ?_ (Eq.trans (b := Zgb PP 110 true (.mp 4) (iv a1) [(Zo b0 zB), (ZN b1 zT zP), (Zo b2 zO), (Zo (ZD.mk zH zL zU zQ z13) z11), [(.md ((z1j).map (encM ZF)))]]) (by kernel_rfl) <| (Zrr (e := ZF) (z := (Zp.mk 0 0 0 0 (ByteArray.mk #[]))) (es := z1j) (te := 43) (by kernel_rfl) (by kernel_rfl) (by kernel_rfl) true).trans (by kernel_rfl))
 refine zq<|zq<|zz (.ptr 5 0) [(Zo b0 zB), (ZN b1 zT zP), (Zo b2 zO), (Zo (ZD.mk zH zL zU zQ z13) z11), [(.md ((z1j).map (encM ZF)))], (ZW (Zp.mk 0 0 0 0 (ByteArray.mk #[])))]<|zt [(Zo b0 zB), (ZN b1 zT zP), (Zo b2 zO), (Zo (ZD.mk zH zL zU zQ z13) z11), [(.md ((z1j).map (encM ZF)))], (ZW ((getM z1j a1).getD (Zp.mk 0 0 0 0 (ByteArray.mk #[]))))]<|ze<|zq ?_
 refine za (!(getM z1j a1).isSome) ?_ ?_
 ·refine ze<|zq<|zt [(Zo b0 zB), (ZN b1 zT zP), (Zo (ZD.mk 0 0 0 0 ([] : List Zp)) .nl), (Zo (ZD.mk zH zL zU zQ z13) z11), [(.md ((z1j).map (encM ZF)))], (ZW ((getM z1j a1).getD (Zp.mk 0 0 0 0 (ByteArray.mk #[]))))] ?_
  exact zr ((.p (.tup [(.agg (Z1h (ZD.mk 0 0 0 0 ([] : List Zp)) .sh)), (.v (.int .i64 32))])), [(Zo b0 zB), (ZN b1 zT zP), (Zo (ZD.mk 0 0 0 0 ([] : List Zp)) .nl), (Zo (ZD.mk zH zL zU zQ z13) z11), [(.md ((z1j).map (encM ZF)))], (ZW ((getM z1j a1).getD (Zp.mk 0 0 0 0 (ByteArray.mk #[]))))]) ⟨_, rfl⟩
 ·exact zk (Znf a1 x66 x67 x68 b0 b1 b2 zH zL zU zQ z13 z1j ox66 zB zT zP zO z11 z1u)
def Z9u (b1 : ZX) (zH zL zU zQ : Int) (z1j : List (Int × Zp)) : Option (ZD × Int) :=
 Z9C b1.Put (b1.Put.length : Int) 0 zH zL zU zQ z1j
theorem Znh b0 b1 b2 zH zL zU zQ z13 z1j zB zT zP zO z11 (z1u : ZR zO = true) : Sim (Z1R) (Z9u b1 zH zL zU zQ z1j) (Zu3 0 (.ptr 1 0) (.ptr 2 0) (.ptr 3 0) (.mp 4) [(Zo b0 zB), (ZN b1 zT zP), (Zo b2 zO), (Zo (ZD.mk zH zL zU zQ z13) z11), [(.md ((z1j).map (encM ZF)))]]) := by
 unfold Z9u
 refine zf (ZAe ..)<|ze<|zq<|zq ?_
 refine zo (iv (b1.Put.length : Int)) ?_ (Eq.trans (by kernel_rfl) (Z30 (P := PP) (t := 22) (d := 43) (by kernel_rfl) ZF (shrO zT) b1.Put))
 exact zk (Zgq b1.Put (b1.Put.length : Int) 0 b0 b1 b2 zH zL zU zQ z13 z1j (shrO zT) zB zT zP zO z11 z1u)
def Z9q (x66 : List Int) (x67 x68 : Int) (b1 : ZX) (zH zL zU zQ : Int) (z1j : List (Int × Zp)) : Option (ZD × Int) :=
 if (decide (x68 < x67)) = true then
 (ZbA x66 x67 x68 b1 zH zL zU zQ z1j)
 else
 (Z9u b1 zH zL zU zQ z1j)
theorem Zn5 (x66 : List Int) x67 x68 b0 b1 b2 zH zL zU zQ z13 z1j ox66 zB zT zP zO z11 (z1u : ZR zO = true) : Sim (Z1R) (Z9q x66 x67 x68 b1 zH zL zU zQ z1j) (Zjb 0 (.ptr 1 0) (.ptr 2 0) (.ptr 3 0) (.mp 4) (.p (.lst ox66 (x66.map (eI .i64)))) (iv x67) (iv x68) [(Zo b0 zB), (ZN b1 zT zP), (Zo b2 zO), (Zo (ZD.mk zH zL zU zQ z13) z11), [(.md ((z1j).map (encM ZF)))]]) := by
 unfold Z9q
 refine zf (ZA4 ..)<|ze<|zq ?_
 refine za (decide (x68 < x67)) ?_ ?_
 ·exact zk (Zne x66 x67 x68 b0 b1 b2 zH zL zU zQ z13 z1j ox66 zB zT zP zO z11 z1u)
 ·exact zk (Znh b0 b1 b2 zH zL zU zQ z13 z1j zB zT zP zO z11 z1u)
theorem Zgn (x66 : List Int) (x67 x68 : Int) (b1 : ZX) (zH zL zU zQ : Int) (z1j : List (Int × Zp)) {r} (h : Z9q x66 x67 x68 b1 zH zL zU zQ z1j = some r) : Z9B x66 x67 x68 b1 zH zL zU zQ z1j = some r :=
 Z1f (fun _ _ ha hb => RRun.uniq Zb5 (ha default default default .ex .ex .ex .ex .ex .ex rfl) (hb default default default .ex .ex .ex .ex .ex .ex rfl)) (fun b0 b2 z13 ox66 zB zT zP zO z11 z1u => Zn5 x66 x67 x68 b0 b1 b2 zH zL zU zQ z13 z1j ox66 zB zT zP zO z11 z1u r h)
def ZbD (x85 : List Zp) (x86 x87 zH zL zU zQ : Int) (z1j : List (Int × Zp)) : Option (ZD × Int) :=
 (lget x85 x87).bind fun a1 =>
 Z9C x85 x86 (IntKind.i64.wrap (x87 + 1)) zH zL zU zQ (putM z1j a1.ID a1)
theorem Zni (x85 : List Zp) x86 x87 b0 b1 b2 zH zL zU zQ z13 z1j ox85 zB zT zP zO z11 (z1u : ZR zO = true) : Sim (Z1R) (ZbD x85 x86 x87 zH zL zU zQ z1j) (Zu4 0 (.ptr 2 0) (.ptr 3 0) (.mp 4) (.p (.lst ox85 (x85.map ZF))) (iv x86) (iv x87) [(Zo b0 zB), (ZN b1 zT zP), (Zo b2 zO), (Zo (ZD.mk zH zL zU zQ z13) z11), [(.md ((z1j).map (encM ZF)))]]) := by
 unfold ZbD
 refine zf (ZAf ..)<|ze<|zi fun a1 ha1 => ?_
 refine zo (.cptr (Z1r a1)) ?_ (Eq.trans (by kernel_rfl) (Z3X (o := ox85) (k := .i64) (n := 5) (e := ZF) (cs := Z53) (fun _ => rfl) (fun _ => rfl) (by decide) ha1))
 refine zq<|zz (.ptr 5 0) [(Zo b0 zB), (ZN b1 zT zP), (Zo b2 zO), (Zo (ZD.mk zH zL zU zQ z13) z11), [(.md ((z1j).map (encM ZF)))], (ZW (Zp.mk 0 0 0 0 (ByteArray.mk #[])))]<|zt [(Zo b0 zB), (ZN b1 zT zP), (Zo b2 zO), (Zo (ZD.mk zH zL zU zQ z13) z11), [(.md ((z1j).map (encM ZF)))], (ZW a1)]<|ze<|zq<|zq<|zq ?_
 refine Sim.xupd (B2 := [(Zo b0 zB), (ZN b1 zT zP), (Zo b2 zO), (Zo (ZD.mk zH zL zU zQ z13) z11), [(.md ((putM z1j a1.ID a1).map (encM ZF)))], (ZW a1)]) (fun K => Eq.trans (b := xupd PP 110 (.mp 4) (iv a1.ID) (.p (.agg (Z1r a1))) [(Zo b0 zB), (ZN b1 zT zP), (Zo b2 zO), (Zo (ZD.mk zH zL zU zQ z13) z11), [(.md ((z1j).map (encM ZF)))], (ZW a1)] K) (by kernel_rfl) <| Zut (P := PP) (t := 110) (K := K) (B2 := [(Zo b0 zB), (ZN b1 zT zP), (Zo b2 zO), (Zo (ZD.mk zH zL zU zQ z13) z11), [(.md ((putM z1j a1.ID a1).map (encM ZF)))], (ZW a1)]) (e := ZF) (a := a1) (es := z1j) (te := 43) (by kernel_rfl) (by kernel_rfl) (by kernel_rfl) (by kernel_rfl) (by kernel_rfl)) ?_
 refine ze<|zq ?_
 exact zk (Zgq x85 x86 (IntKind.i64.wrap (x87 + 1)) b0 b1 b2 zH zL zU zQ z13 (putM z1j a1.ID a1) ox85 zB zT zP zO z11 z1u)
def ZbE (zH zL zU zQ : Int) (z1j : List (Int × Zp)) : Option (ZD × Int) :=
 (Z9b).bind fun r1 =>
 (Za4 z1j).bind fun r2 =>
 Z9D r2 (r2.length : Int) 0 zH zL zU zQ ([] : List Zp) z1j
theorem Znk b0 b1 b2 zH zL zU zQ z13 z1j zB zT zP zO z11 (z1u : ZR zO = true) : Sim (Z1R) (ZbE zH zL zU zQ z1j) (Zu6 0 (.ptr 2 0) (.ptr 3 0) (.mp 4) [(Zo b0 zB), (ZN b1 zT zP), (Zo b2 zO), (Zo (ZD.mk zH zL zU zQ z13) z11), [(.md ((z1j).map (encM ZF)))]]) := by
 unfold ZbE
 refine zf (ZAh ..)<|ze<|zq<|zt [(Zo b0 zB), (ZN b1 zT zP), (Zo b2 zO), (Zo (ZD.mk zH zL zU zQ ([] : List Zp)) .nl), [(.md ((z1j).map (encM ZF)))]]<|ze<|zi fun r1 hr1 => ?_
 obtain ⟨qr1, er1, exr1, rfl, _⟩ := Zk4 z1j r1 hr1
 refine zc [4] (.clo 78 [] [(.ptr 5 0)]) [(Zo b0 zB), (ZN b1 zT zP), (Zo b2 zO), (Zo (ZD.mk zH zL zU zQ ([] : List Zp)) .nl), [(.md ((z1j).map (encM ZF)))], [(.mp 4)]] er1<|zi fun r2 hr2 => ?_
 obtain ⟨qr2, er2, exr2, rfl⟩ := Zie z1j r2 hr2
 refine zc [5, 4] (.p (.lst .sh (r2.map (eI .i64)))) [(Zo b0 zB), (ZN b1 zT zP), (Zo b2 zO), (Zo (ZD.mk zH zL zU zQ ([] : List Zp)) .nl), [(.md ((z1j).map (encM ZF)))], [(.mp 4)]] er2 ?_
 refine zo (iv (r2.length : Int)) ?_ (Eq.trans (by kernel_rfl) (Z30 (P := PP) (t := 27) (d := 3) (by kernel_rfl) (eI .i64) .sh r2))
 exact zk (Zgs r2 (r2.length : Int) 0 b0 b1 b2 zH zL zU zQ ([] : List Zp) z1j .sh zB zT zP zO .nl z1u rfl)
def Z9v (zH zL zU zQ : Int) (z1j : List (Int × Zp)) : Option (ZD × Int) :=
 if (decide (16 < (z1j.length : Int))) = true then
 (some ((ZD.mk 0 0 0 0 ([] : List Zp)), 33))
 else
 (ZbE zH zL zU zQ z1j)
theorem Znj b0 b1 b2 zH zL zU zQ z13 z1j zB zT zP zO z11 (z1u : ZR zO = true) : Sim (Z1R) (Z9v zH zL zU zQ z1j) (Zu5 0 (.ptr 2 0) (.ptr 3 0) (.mp 4) [(Zo b0 zB), (ZN b1 zT zP), (Zo b2 zO), (Zo (ZD.mk zH zL zU zQ z13) z11), [(.md ((z1j).map (encM ZF)))]]) := by
 unfold Z9v
 refine zf (ZAg ..)<|ze ?_
 refine zo (iv (z1j.length : Int)) ?_ (Eq.trans (b := Zo2 (.mp 4) [(Zo b0 zB), (ZN b1 zT zP), (Zo b2 zO), (Zo (ZD.mk zH zL zU zQ z13) z11), [(.md ((z1j).map (encM ZF)))]]) (by kernel_rfl) (ZEk (e := ZF) (es := z1j) (by kernel_rfl)))
 refine zq ?_
 refine za (decide (16 < (z1j.length : Int))) ?_ ?_
 ·refine ze<|zq<|zt [(Zo b0 zB), (ZN b1 zT zP), (Zo (ZD.mk 0 0 0 0 ([] : List Zp)) .nl), (Zo (ZD.mk zH zL zU zQ z13) z11), [(.md ((z1j).map (encM ZF)))]] ?_
  exact zr ((.p (.tup [(.agg (Z1h (ZD.mk 0 0 0 0 ([] : List Zp)) .sh)), (.v (.int .i64 33))])), [(Zo b0 zB), (ZN b1 zT zP), (Zo (ZD.mk 0 0 0 0 ([] : List Zp)) .nl), (Zo (ZD.mk zH zL zU zQ z13) z11), [(.md ((z1j).map (encM ZF)))]]) ⟨_, rfl⟩
 ·exact zk (Znk b0 b1 b2 zH zL zU zQ z13 z1j zB zT zP zO z11 z1u)
def Z9r (x85 : List Zp) (x86 x87 zH zL zU zQ : Int) (z1j : List (Int × Zp)) : Option (ZD × Int) :=
 if (decide (x87 < x86)) = true then
 (ZbD x85 x86 x87 zH zL zU zQ z1j)
 else
 (Z9v zH zL zU zQ z1j)
theorem Zn7 (x85 : List Zp) x86 x87 b0 b1 b2 zH zL zU zQ z13 z1j ox85 zB zT zP zO z11 (z1u : ZR zO = true) : Sim (Z1R) (Z9r x85 x86 x87 zH zL zU zQ z1j) (Zjc 0 (.ptr 2 0) (.ptr 3 0) (.mp 4) (.p (.lst ox85 (x85.map ZF))) (iv x86) (iv x87) [(Zo b0 zB), (ZN b1 zT zP), (Zo b2 zO), (Zo (ZD.mk zH zL zU zQ z13) z11), [(.md ((z1j).map (encM ZF)))]]) := by
 unfold Z9r
 refine zf (ZA5 ..)<|ze<|zq ?_
 refine za (decide (x87 < x86)) ?_ ?_
 ·exact zk (Zni x85 x86 x87 b0 b1 b2 zH zL zU zQ z13 z1j ox85 zB zT zP zO z11 z1u)
 ·exact zk (Znj b0 b1 b2 zH zL zU zQ z13 z1j zB zT zP zO z11 z1u)
theorem Zgp (x85 : List Zp) (x86 x87 zH zL zU zQ : Int) (z1j : List (Int × Zp)) {r} (h : Z9r x85 x86 x87 zH zL zU zQ z1j = some r) : Z9C x85 x86 x87 zH zL zU zQ z1j = some r :=
 Z1f (fun _ _ ha hb => RRun.uniq Zb5 (ha default default default default .ex .ex .ex .ex .ex .ex rfl) (hb default default default default .ex .ex .ex .ex .ex .ex rfl)) (fun b0 b1 b2 z13 ox85 zB zT zP zO z11 z1u => Zn7 x85 x86 x87 b0 b1 b2 zH zL zU zQ z13 z1j ox85 zB zT zP zO z11 z1u r h)
def ZbF (x103 : List Int) (x104 x105 zH zL zU zQ : Int) (z13 : List Zp) (z1j : List (Int × Zp)) : Option (ZD × Int) :=
 (lget x103 x105).bind fun a1 =>
 (lapp z13 ([((getM z1j a1).getD (Zp.mk 0 0 0 0 (ByteArray.mk #[])))] : List Zp)).bind fun a2 =>
 Z9D x103 x104 (IntKind.i64.wrap (x105 + 1)) zH zL zU zQ a2 z1j
theorem Znl (x103 : List Int) x104 x105 b0 b1 b2 zH zL zU zQ z13 z1j ox103 zB zT zP zO z11 (z1u : ZR zO = true) (z8i : ZR z11 = true) : Sim (Z1R) (ZbF x103 x104 x105 zH zL zU zQ z13 z1j) (Zu7 0 (.ptr 2 0) (.ptr 3 0) (.mp 4) (.p (.lst ox103 (x103.map (eI .i64)))) (iv x104) (iv x105) [(Zo b0 zB), (ZN b1 zT zP), (Zo b2 zO), (Zo (ZD.mk zH zL zU zQ z13) z11), [(.md ((z1j).map (encM ZF)))]]) := by
 unfold ZbF
 refine zf (ZAi ..)<|ze<|zi fun a1 ha1 => ?_
 refine zo (.cptr [(.v (.int .i64 a1))]) ?_ (Eq.trans (by kernel_rfl) (Z3X (o := ox103) (k := .i64) (n := 1) (e := (eI .i64)) (cs := (fun a => [(eI .i64) a])) (fun _ => rfl) (fun _ => rfl) (by decide) ha1))
 refine zq<|ze<|zq<|zw (.p (.lst z11 (z13.map ZF))) [(Zo b0 zB), (ZN b1 zT zP), (Zo b2 zO), (Zo (ZD.mk zH zL zU zQ z13) (shrO z11)), [(.md ((z1j).map (encM ZF)))]] ?_
 refine zo (.p (.agg (Z1r ((getM z1j a1).getD (Zp.mk 0 0 0 0 (ByteArray.mk #[])))))) ?_ (Eq.trans (b := Zgb PP 110 false (.mp 4) (iv a1) [(Zo b0 zB), (ZN b1 zT zP), (Zo b2 zO), (Zo (ZD.mk zH zL zU zQ z13) (shrO z11)), [(.md ((z1j).map (encM ZF)))]]) (by kernel_rfl) <| (Zrr (e := ZF) (z := (Zp.mk 0 0 0 0 (ByteArray.mk #[]))) (es := z1j) (te := 43) (by kernel_rfl) (by kernel_rfl) (by kernel_rfl) false).trans (by kernel_rfl))
 refine zq<|zi fun a2 ha2 => ?_
 refine zo (.p (.lst .un (a2.map ZF))) ?_ (Eq.trans (by kernel_rfl) <| Zjk (n := 5) (o := z11) (o' := .ex) (e := ZF) (ys := ([((getM z1j a1).getD (Zp.mk 0 0 0 0 (ByteArray.mk #[])))] : List Zp)) (fun _ => rfl) (by decide) z8i ha2)
 refine zq<|zt [(Zo b0 zB), (ZN b1 zT zP), (Zo b2 zO), (Zo (ZD.mk zH zL zU zQ a2) .un), [(.md ((z1j).map (encM ZF)))]]<|ze<|zq ?_
 exact zk (Zgs x103 x104 (IntKind.i64.wrap (x105 + 1)) b0 b1 b2 zH zL zU zQ a2 z1j ox103 zB zT zP zO .un z1u rfl)
def ZbG (zH zL zU zQ : Int) (z13 : List Zp) : Option (ZD × Int) :=
 some ((ZD.mk zH zL zU zQ z13), 0)
theorem Znm b0 b1 b2 zH zL zU zQ z13 zB zT zP zO z11 (z1u : ZR zO = true) (z8i : ZR z11 = true) : Sim (Z1R) (ZbG zH zL zU zQ z13) (Zu8 0 (.ptr 2 0) (.ptr 3 0) [(Zo b0 zB), (ZN b1 zT zP), (Zo b2 zO), (Zo (ZD.mk zH zL zU zQ z13) z11)]) := by
 unfold ZbG
 refine zf (ZAj ..)<|ze<|zq<|zt [(Zo b0 zB), (ZN b1 zT zP), (Zo (ZD.mk zH zL zU zQ z13) (shrO z11)), (Zo (ZD.mk zH zL zU zQ z13) z11)] ?_
 exact zr ((.p (.tup [(.agg (Z1h (ZD.mk zH zL zU zQ z13) .sh)), (.v (.int .i64 0))])), [(Zo b0 zB), (ZN b1 zT zP), (Zo (ZD.mk zH zL zU zQ z13) (shrO z11)), (Zo (ZD.mk zH zL zU zQ z13) z11)]) ⟨_, rfl⟩
def Z9s (x103 : List Int) (x104 x105 zH zL zU zQ : Int) (z13 : List Zp) (z1j : List (Int × Zp)) : Option (ZD × Int) :=
 if (decide (x105 < x104)) = true then
 (ZbF x103 x104 x105 zH zL zU zQ z13 z1j)
 else
 (ZbG zH zL zU zQ z13)
theorem Zn9 (x103 : List Int) x104 x105 b0 b1 b2 zH zL zU zQ z13 z1j ox103 zB zT zP zO z11 (z1u : ZR zO = true) (z8i : ZR z11 = true) : Sim (Z1R) (Z9s x103 x104 x105 zH zL zU zQ z13 z1j) (Zjd 0 (.ptr 2 0) (.ptr 3 0) (.mp 4) (.p (.lst ox103 (x103.map (eI .i64)))) (iv x104) (iv x105) [(Zo b0 zB), (ZN b1 zT zP), (Zo b2 zO), (Zo (ZD.mk zH zL zU zQ z13) z11), [(.md ((z1j).map (encM ZF)))]]) := by
 unfold Z9s
 refine zf (ZA6 ..)<|ze<|zq ?_
 refine za (decide (x105 < x104)) ?_ ?_
 ·exact zk (Znl x103 x104 x105 b0 b1 b2 zH zL zU zQ z13 z1j ox103 zB zT zP zO z11 z1u z8i)
 ·exact zk (Znm b0 b1 b2 zH zL zU zQ z13 zB zT zP zO z11 z1u z8i)
theorem Zgr (x103 : List Int) (x104 x105 zH zL zU zQ : Int) (z13 : List Zp) (z1j : List (Int × Zp)) {r} (h : Z9s x103 x104 x105 zH zL zU zQ z13 z1j = some r) : Z9D x103 x104 x105 zH zL zU zQ z13 z1j = some r :=
 Z1f (fun _ _ ha hb => RRun.uniq Zb5 (ha default default default .ex .ex .ex .ex .ex .ex rfl rfl) (hb default default default .ex .ex .ex .ex .ex .ex rfl rfl)) (fun b0 b1 b2 ox103 zB zT zP zO z11 z1u z8i => Zn9 x103 x104 x105 b0 b1 b2 zH zL zU zQ z13 z1j ox103 zB zT zP zO z11 z1u z8i r h)
def Zez (x1 z1e : Int) : Option (Int) :=
 if (x1 != (-1)) = true then
 (some (x1))
 else
 (some (z1e))
theorem Zq3 x1 z1e z1q z1C z1y z1v zB : Sim (ZbZ z1q z1C z1y z1v zB) (Zez x1 z1e) (EE 49 [(.ptr 0 0), (iv x1)] [(Zo (ZD.mk z1e z1q z1C z1y z1v) zB)]) := by
 unfold Zez
 refine zf (ZrO ..)<|ze<|zq ?_
 refine za (x1 != (-1)) ?_ ?_
 ·refine ze<|zq<|zt [(Zo (ZD.mk x1 z1q z1C z1y z1v) zB)] ?_
  exact zr ((.p (.tup [])), [(Zo (ZD.mk x1 z1q z1C z1y z1v) zB)]) ⟨_, rfl⟩
 ·exact zr ((.p (.tup [])), [(Zo (ZD.mk z1e z1q z1C z1y z1v) zB)]) ⟨_, rfl⟩
theorem ZqZ (x1 z1e : Int) {r} (h : Zez x1 z1e = some r) : ZeF x1 z1e = some r :=
 Z1f (fun _ _ ha hb => RRun.uniq (Zru _ _ _ _ _) (ha default default default default .ex) (hb default default default default .ex)) (fun z1q z1C z1y z1v zB => Zq3 x1 z1e z1q z1C z1y z1v zB r h)
def ZaQ (x1 z1q : Int) : Option (Int) :=
 if (x1 != (-1)) = true then
 (some (x1))
 else
 (some (z1q))
theorem Zma x1 z1e z1q z1C z1y z1v zB : Sim (Z8U z1e z1C z1y z1v zB) (ZaQ x1 z1q) (EE 49 [(.ptr 0 1), (iv x1)] [(Zo (ZD.mk z1e z1q z1C z1y z1v) zB)]) := by
 unfold ZaQ
 refine zf (ZrO ..)<|ze<|zq ?_
 refine za (x1 != (-1)) ?_ ?_
 ·refine ze<|zq<|zt [(Zo (ZD.mk z1e x1 z1C z1y z1v) zB)] ?_
  exact zr ((.p (.tup [])), [(Zo (ZD.mk z1e x1 z1C z1y z1v) zB)]) ⟨_, rfl⟩
 ·exact zr ((.p (.tup [])), [(Zo (ZD.mk z1e z1q z1C z1y z1v) zB)]) ⟨_, rfl⟩
theorem Znu (x1 z1q : Int) {r} (h : ZaQ x1 z1q = some r) : ZaZ x1 z1q = some r :=
 Z1f (fun _ _ ha hb => RRun.uniq (Zoe _ _ _ _ _) (ha default default default default .ex) (hb default default default default .ex)) (fun z1e z1C z1y z1v zB => Zma x1 z1e z1q z1C z1y z1v zB r h)
def ZaP (x1 z1C : Int) : Option (Int) :=
 if (x1 != (-1)) = true then
 (some (x1))
 else
 (some (z1C))
theorem Zm8 x1 z1e z1q z1C z1y z1v zB : Sim (Z8T z1e z1q z1y z1v zB) (ZaP x1 z1C) (EE 49 [(.ptr 0 2), (iv x1)] [(Zo (ZD.mk z1e z1q z1C z1y z1v) zB)]) := by
 unfold ZaP
 refine zf (ZrO ..)<|ze<|zq ?_
 refine za (x1 != (-1)) ?_ ?_
 ·refine ze<|zq<|zt [(Zo (ZD.mk z1e z1q x1 z1y z1v) zB)] ?_
  exact zr ((.p (.tup [])), [(Zo (ZD.mk z1e z1q x1 z1y z1v) zB)]) ⟨_, rfl⟩
 ·exact zr ((.p (.tup [])), [(Zo (ZD.mk z1e z1q z1C z1y z1v) zB)]) ⟨_, rfl⟩
theorem Zns (x1 z1C : Int) {r} (h : ZaP x1 z1C = some r) : ZaY x1 z1C = some r :=
 Z1f (fun _ _ ha hb => RRun.uniq (Zod _ _ _ _ _) (ha default default default default .ex) (hb default default default default .ex)) (fun z1e z1q z1y z1v zB => Zm8 x1 z1e z1q z1C z1y z1v zB r h)
def ZaO (x1 z1y : Int) : Option (Int) :=
 if (x1 != (-1)) = true then
 (some (x1))
 else
 (some (z1y))
theorem Zm6 x1 z1e z1q z1C z1y z1v zB : Sim (Z8S z1e z1q z1C z1v zB) (ZaO x1 z1y) (EE 49 [(.ptr 0 3), (iv x1)] [(Zo (ZD.mk z1e z1q z1C z1y z1v) zB)]) := by
 unfold ZaO
 refine zf (ZrO ..)<|ze<|zq ?_
 refine za (x1 != (-1)) ?_ ?_
 ·refine ze<|zq<|zt [(Zo (ZD.mk z1e z1q z1C x1 z1v) zB)] ?_
  exact zr ((.p (.tup [])), [(Zo (ZD.mk z1e z1q z1C x1 z1v) zB)]) ⟨_, rfl⟩
 ·exact zr ((.p (.tup [])), [(Zo (ZD.mk z1e z1q z1C z1y z1v) zB)]) ⟨_, rfl⟩
theorem Znq (x1 z1y : Int) {r} (h : ZaO x1 z1y = some r) : ZaX x1 z1y = some r :=
 Z1f (fun _ _ ha hb => RRun.uniq (Zoc _ _ _ _ _) (ha default default default default .ex) (hb default default default default .ex)) (fun z1e z1q z1C z1v zB => Zm6 x1 z1e z1q z1C z1y z1v zB r h)
def Z9S (x0 : List Zp) : Option (Bool) :=
 (Z5x x0).bind fun r1 =>
 some (!r1)
theorem Zkj (x0 : List Zp) ox0 : Sim (Z7Q) (Z9S x0) (EE 50 [(.p (.lst ox0 (x0.map ZF))), (.clo 27 [] [])] []) := by
 unfold Z9S
 refine zf (ZHg ..)<|ze<|zx (.ptr 0 0) [[(.clo 27 [] [])]]<|ze<|zi fun r1 hr1 => ?_
 obtain ⟨qr1, er1, exr1, rfl⟩ := Zel x0 .sh r1 hr1
 refine zc [0] (bv r1) [[(.clo 27 [] [])]] er1<|zq ?_
 exact zr ((bv (!r1)), [[(.clo 27 [] [])]]) ⟨_, rfl⟩
theorem Zle (x0 : List Zp) {r} (h : Z9S x0 = some r) : Za0 x0 = some r :=
 Z1f (fun _ _ ha hb => RRun.uniq Zly (ha .ex) (hb .ex)) (fun ox0 => Zkj x0 ox0 r h)
def Z5p (x0 : List Zp) : Option (Bool) :=
 (Z6o x0).bind fun r1 =>
 some (decide (0 ≤ r1))
theorem ZdP (x0 : List Zp) ox0 : Sim (Z4l) (Z5p x0) (EE 57 [(.p (.lst ox0 (x0.map ZF))), (.clo 73 [] [(.ptr 0 0)])] [[(.clo 27 [] [])]]) := by
 unfold Z5p
 refine zf (ZBS ..)<|ze<|ze<|zi fun r1 hr1 => ?_
 obtain ⟨qr1, er1, exr1, rfl⟩ := ZfX x0 .sh r1 hr1
 refine zc [0] (iv r1) [[(.clo 27 [] [])]] er1<|zq ?_
 exact zr ((bv (decide (0 ≤ r1))), [[(.clo 27 [] [])]]) ⟨_, rfl⟩
theorem Zek (x0 : List Zp) {r} (h : Z5p x0 = some r) : Z5x x0 = some r :=
 Z1f (fun _ _ ha hb => RRun.uniq ZeM (ha .ex) (hb .ex)) (fun ox0 => ZdP x0 ox0 r h)
def Z6k (x0 : List Zp) : Option (Int) :=
 Z4u x0 (x0.length : Int) 0
theorem Zfw (x0 : List Zp) ox0 : Sim (Z2n) (Z6k x0) (EE 83 [(.p (.lst ox0 (x0.map ZF))), (.clo 73 [] [(.ptr 0 0)])] [[(.clo 27 [] [])]]) := by
 unfold Z6k
 refine zf (ZC8 ..)<|ze<|ze ?_
 refine zo (iv (x0.length : Int)) ?_ (Eq.trans (by kernel_rfl) (Z30 (P := PP) (t := 22) (d := 43) (by kernel_rfl) ZF (shrO ox0) x0))
 exact zk (Z9h x0 (x0.length : Int) 0 ox0)
theorem ZfW (x0 : List Zp) {r} (h : Z6k x0 = some r) : Z6o x0 = some r :=
 Z1f (fun _ _ ha hb => RRun.uniq ZaF (ha .ex) (hb .ex)) (fun ox0 => Zfw x0 ox0 r h)
def Z5s (x0 : List Zp) (x7 x8 : Int) : Option (Int) :=
 Z4u x0 x7 (IntKind.i64.wrap (x8 + 1))
theorem ZdX (x0 : List Zp) x7 x8 ox0 : Sim (Z2n) (Z5s x0 x7 x8) (ZrW 1 (.p (.lst ox0 (x0.map ZF))) (.clo 73 [] [(.ptr 0 0)]) (iv x7) (iv x8) [[(.clo 27 [] [])]]) := by
 unfold Z5s
 refine zf (Zuy ..)<|ze<|zq ?_
 exact zk (Z9h x0 x7 (IntKind.i64.wrap (x8 + 1)) ox0)
def Z4o (x0 : List Zp) (x7 x8 : Int) : Option (Int) :=
 (lget x0 x8).bind fun a1 =>
 (Z74 a1).bind fun r2 =>
 if (r2) = true then
 (some (x8))
 else
 (Z5s x0 x7 x8)
theorem ZdW (x0 : List Zp) x7 x8 ox0 : Sim (Z2n) (Z4o x0 x7 x8) (ZrV 1 (.p (.lst ox0 (x0.map ZF))) (.clo 73 [] [(.ptr 0 0)]) (iv x7) (iv x8) [[(.clo 27 [] [])]]) := by
 unfold Z4o
 refine zf (Zux ..)<|ze<|ze<|zi fun a1 ha1 => ?_
 refine zo (.cptr (Z1r a1)) ?_ (Eq.trans (by kernel_rfl) (Z3X (o := (shrO ox0)) (k := .i64) (n := 5) (e := ZF) (cs := Z53) (fun _ => rfl) (fun _ => rfl) (by decide) ha1))
 refine zq<|zi fun r2 hr2 => ?_
 obtain ⟨qr2, er2, exr2, rfl⟩ := ZjL a1 r2 hr2
 refine zv [0] (bv r2) [[(.clo 27 [] [])]] er2 ?_
 refine za r2 ?_ ?_
 ·refine ze ?_
  exact zr ((iv x8), [[(.clo 27 [] [])]]) ⟨_, rfl⟩
 ·exact zk (ZdX x0 x7 x8 ox0)
def Z7t  : Option (Int) :=
 some (-1)
theorem ZdY  : Sim (Z2n) (Z7t) (ZrX 1  [[(.clo 27 [] [])]]) := by
 unfold Z7t
 refine zf (Zuz ..)<|ze ?_
 exact zr ((iv (-1)), [[(.clo 27 [] [])]]) ⟨_, rfl⟩
def Z3B (x0 : List Zp) (x7 x8 : Int) : Option (Int) :=
 if (decide (x8 < x7)) = true then
 (Z4o x0 x7 x8)
 else
 (Z7t)
theorem ZdV (x0 : List Zp) x7 x8 ox0 : Sim (Z2n) (Z3B x0 x7 x8) (ZfK 1 (.p (.lst ox0 (x0.map ZF))) (.clo 73 [] [(.ptr 0 0)]) (iv x7) (iv x8) [[(.clo 27 [] [])]]) := by
 unfold Z3B
 refine zf (Zuw ..)<|ze<|zq ?_
 refine za (decide (x8 < x7)) ?_ ?_
 ·exact zk (ZdW x0 x7 x8 ox0)
 ·exact zk (ZdY )
theorem Z6z (x0 : List Zp) (x7 x8 : Int) {r} (h : Z3B x0 x7 x8 = some r) : Z4u x0 x7 x8 = some r :=
 Z1f (fun _ _ ha hb => RRun.uniq ZaF (ha .ex) (hb .ex)) (fun ox0 => ZdV x0 x7 x8 ox0 r h)
def Z6Y (x0 : Zp) : Option (Bool) :=
 (Z7H x0).bind fun r1 =>
 some (!r1)
theorem ZiN x0 : Sim (Z6P) (Z6Y x0) (EE 73 [(.p (.agg (Z1r x0))), (.ptr 0 0)] [[(.clo 27 [] [])]]) := by
 unfold Z6Y
 refine zf (ZHx ..)<|ze<|zx (.ptr 1 0) [[(.clo 27 [] [])], (ZW x0)]<|ze<|zq<|zq<|zi fun r1 hr1 => ?_
 obtain ⟨qr1, er1, exr1, rfl⟩ := ZbS x0 r1 hr1
 refine zv [] (bv r1) [[(.clo 27 [] [])], (ZW x0)] er1<|zq ?_
 exact zr ((bv (!r1)), [[(.clo 27 [] [])], (ZW x0)]) ⟨_, rfl⟩
theorem ZcL (x0 : Zp) {r} (h : Z6Y x0 = some r) : Z74 x0 = some r :=
 Z1f (fun _ _ ha hb => RRun.uniq ZjZ (ha ) (hb )) (ZiN x0 r h)
def Zaj (x0 : ZX) : Option (Bool) :=
 (Z5y x0.Put ([] : List (Int × Bool))).bind fun r1 =>
 if (r1.1) = true then
 (some (true))
 else
 ((Z5M x0.Drop r1.2).bind fun r2 =>
 some (r2.1))
theorem Zl7 x0 z6b z51 : Sim (Z8m) (Zaj x0) (EE 51 [(.p (.agg (Z3q x0 z6b z51)))] []) := by
 unfold Zaj
 refine zf (ZHh ..)<|ze<|zx (.ptr 0 0) [(ZN x0 z6b z51)]<|ze<|zm (.mp 1) [(ZN x0 z6b z51), [(.md (([] : List (Int × Bool)).map (encM eB)))]]<|zz (.ptr 2 0) [(ZN x0 z6b z51), [(.md (([] : List (Int × Bool)).map (encM eB)))], [(.p (.v (.map none)))]]<|zt [(ZN x0 z6b z51), [(.md (([] : List (Int × Bool)).map (encM eB)))], [(.mp 1)]]<|ze<|zz (.ptr 3 0) [(ZN x0 z6b z51), [(.md (([] : List (Int × Bool)).map (encM eB)))], [(.mp 1)], [(.p (.v .nilFunc))]]<|zt [(ZN x0 z6b z51), [(.md (([] : List (Int × Bool)).map (encM eB)))], [(.mp 1)], [(.clo 74 [] [(.ptr 2 0)])]]<|ze<|zq<|zq<|zi fun r1 hr1 => ?_
 obtain ⟨qr1, er1, exr1, rfl⟩ := Zen x0.Put ([] : List (Int × Bool)) .sh r1 hr1
 refine zc [3, 2, 1] (bv r1.1) [(ZN x0 z6b z51), [(.md ((r1.2).map (encM eB)))], [(.mp 1)], [(.clo 74 [] [(.ptr 2 0)])]] er1 ?_
 refine za r1.1 ?_ ?_
 ·exact zr ((bv true), [(ZN x0 z6b z51), [(.md ((r1.2).map (encM eB)))], [(.mp 1)], [(.clo 74 [] [(.ptr 2 0)])]]) ⟨_, rfl⟩
 ·refine zq<|zq<|zq<|zi fun r2 hr2 => ?_
  obtain ⟨qr2, er2, exr2, rfl⟩ := ZeS x0.Drop r1.2 .sh r2 hr2
  refine zc [2, 1] (bv r2.1) [(ZN x0 z6b z51), [(.md ((r2.2).map (encM eB)))], [(.mp 1)], [(.clo 74 [] [(.ptr 2 0)])]] er2 ?_
  exact zr ((bv r2.1), [(ZN x0 z6b z51), [(.md ((r2.2).map (encM eB)))], [(.mp 1)], [(.clo 74 [] [(.ptr 2 0)])]]) ⟨_, rfl⟩
theorem Zm2 (x0 : ZX) {r} (h : Zaj x0 = some r) : Zat x0 = some r :=
 Z1f (fun _ _ ha hb => RRun.uniq ZmC (ha .ex .ex) (hb .ex .ex)) (fun z6b z51 => Zl7 x0 z6b z51 r h)
def Z5q (x0 : List Zp) (z16 : List (Int × Bool)) : Option (Bool × (List (Int × Bool))) :=
 (Z6p x0 z16).bind fun r1 =>
 some ((decide (0 ≤ r1.1)), r1.2)
theorem ZdQ (x0 : List Zp) z16 ox0 : Sim (Z4m) (Z5q x0 z16) (EE 57 [(.p (.lst ox0 (x0.map ZF))), (.clo 75 [] [(.ptr 0 0)])] [[(.clo 74 [] [(.ptr 1 0)])], [(.mp 2)], [(.md ((z16).map (encM eB)))]]) := by
 unfold Z5q
 refine zf (ZBS ..)<|ze<|ze<|zi fun r1 hr1 => ?_
 obtain ⟨qr1, er1, exr1, rfl⟩ := ZfZ x0 z16 .sh r1 hr1
 refine zc [0, 1, 2] (iv r1.1) [[(.clo 74 [] [(.ptr 1 0)])], [(.mp 2)], [(.md ((r1.2).map (encM eB)))]] er1<|zq ?_
 exact zr ((bv (decide (0 ≤ r1.1))), [[(.clo 74 [] [(.ptr 1 0)])], [(.mp 2)], [(.md ((r1.2).map (encM eB)))]]) ⟨_, rfl⟩
theorem Zem (x0 : List Zp) (z16 : List (Int × Bool)) {r} (h : Z5q x0 z16 = some r) : Z5y x0 z16 = some r :=
 Z1f (fun _ _ ha hb => RRun.uniq ZeN (ha .ex) (hb .ex)) (fun ox0 => ZdQ x0 z16 ox0 r h)
def Z6l (x0 : List Zp) (z16 : List (Int × Bool)) : Option (Int × (List (Int × Bool))) :=
 Z4v x0 (x0.length : Int) 0 z16
theorem Zfx (x0 : List Zp) z16 ox0 : Sim (Z2o) (Z6l x0 z16) (EE 83 [(.p (.lst ox0 (x0.map ZF))), (.clo 75 [] [(.ptr 0 0)])] [[(.clo 74 [] [(.ptr 1 0)])], [(.mp 2)], [(.md ((z16).map (encM eB)))]]) := by
 unfold Z6l
 refine zf (ZC8 ..)<|ze<|ze ?_
 refine zo (iv (x0.length : Int)) ?_ (Eq.trans (by kernel_rfl) (Z30 (P := PP) (t := 22) (d := 43) (by kernel_rfl) ZF (shrO ox0) x0))
 exact zk (Z9i x0 (x0.length : Int) 0 z16 ox0)
theorem ZfY (x0 : List Zp) (z16 : List (Int × Bool)) {r} (h : Z6l x0 z16 = some r) : Z6p x0 z16 = some r :=
 Z1f (fun _ _ ha hb => RRun.uniq ZaG (ha .ex) (hb .ex)) (fun ox0 => Zfx x0 z16 ox0 r h)
def Z5t (x0 : List Zp) (x7 x8 : Int) (z16 : List (Int × Bool)) : Option (Int × (List (Int × Bool))) :=
 Z4v x0 x7 (IntKind.i64.wrap (x8 + 1)) z16
theorem Ze1 (x0 : List Zp) x7 x8 z16 ox0 : Sim (Z2o) (Z5t x0 x7 x8 z16) (ZrW 3 (.p (.lst ox0 (x0.map ZF))) (.clo 75 [] [(.ptr 0 0)]) (iv x7) (iv x8) [[(.clo 74 [] [(.ptr 1 0)])], [(.mp 2)], [(.md ((z16).map (encM eB)))]]) := by
 unfold Z5t
 refine zf (Zuy ..)<|ze<|zq ?_
 exact zk (Z9i x0 x7 (IntKind.i64.wrap (x8 + 1)) z16 ox0)
def Z4p (x0 : List Zp) (x7 x8 : Int) (z16 : List (Int × Bool)) : Option (Int × (List (Int × Bool))) :=
 (lget x0 x8).bind fun a1 =>
 (Z7z a1 z16).bind fun r2 =>
 if (r2.1) = true then
 (some (x8, r2.2))
 else
 (Z5t x0 x7 x8 r2.2)
theorem Ze0 (x0 : List Zp) x7 x8 z16 ox0 : Sim (Z2o) (Z4p x0 x7 x8 z16) (ZrV 3 (.p (.lst ox0 (x0.map ZF))) (.clo 75 [] [(.ptr 0 0)]) (iv x7) (iv x8) [[(.clo 74 [] [(.ptr 1 0)])], [(.mp 2)], [(.md ((z16).map (encM eB)))]]) := by
 unfold Z4p
 refine zf (Zux ..)<|ze<|ze<|zi fun a1 ha1 => ?_
 refine zo (.cptr (Z1r a1)) ?_ (Eq.trans (by kernel_rfl) (Z3X (o := (shrO ox0)) (k := .i64) (n := 5) (e := ZF) (cs := Z53) (fun _ => rfl) (fun _ => rfl) (by decide) ha1))
 refine zq<|zi fun r2 hr2 => ?_
 obtain ⟨qr2, er2, exr2, rfl⟩ := ZhK a1 z16 r2 hr2
 refine zv [0, 1, 2] (bv r2.1) [[(.clo 74 [] [(.ptr 1 0)])], [(.mp 2)], [(.md ((r2.2).map (encM eB)))]] er2 ?_
 refine za r2.1 ?_ ?_
 ·refine ze ?_
  exact zr ((iv x8), [[(.clo 74 [] [(.ptr 1 0)])], [(.mp 2)], [(.md ((r2.2).map (encM eB)))]]) ⟨_, rfl⟩
 ·exact zk (Ze1 x0 x7 x8 r2.2 ox0)
def Z7u (z16 : List (Int × Bool)) : Option (Int × (List (Int × Bool))) :=
 some ((-1), z16)
theorem Ze2 z16 : Sim (Z2o) (Z7u z16) (ZrX 3  [[(.clo 74 [] [(.ptr 1 0)])], [(.mp 2)], [(.md ((z16).map (encM eB)))]]) := by
 unfold Z7u
 refine zf (Zuz ..)<|ze ?_
 exact zr ((iv (-1)), [[(.clo 74 [] [(.ptr 1 0)])], [(.mp 2)], [(.md ((z16).map (encM eB)))]]) ⟨_, rfl⟩
def Z3C (x0 : List Zp) (x7 x8 : Int) (z16 : List (Int × Bool)) : Option (Int × (List (Int × Bool))) :=
 if (decide (x8 < x7)) = true then
 (Z4p x0 x7 x8 z16)
 else
 (Z7u z16)
theorem ZdZ (x0 : List Zp) x7 x8 z16 ox0 : Sim (Z2o) (Z3C x0 x7 x8 z16) (ZfK 3 (.p (.lst ox0 (x0.map ZF))) (.clo 75 [] [(.ptr 0 0)]) (iv x7) (iv x8) [[(.clo 74 [] [(.ptr 1 0)])], [(.mp 2)], [(.md ((z16).map (encM eB)))]]) := by
 unfold Z3C
 refine zf (Zuw ..)<|ze<|zq ?_
 refine za (decide (x8 < x7)) ?_ ?_
 ·exact zk (Ze0 x0 x7 x8 z16 ox0)
 ·exact zk (Ze2 z16)
theorem Z6A (x0 : List Zp) (x7 x8 : Int) (z16 : List (Int × Bool)) {r} (h : Z3C x0 x7 x8 z16 = some r) : Z4v x0 x7 x8 z16 = some r :=
 Z1f (fun _ _ ha hb => RRun.uniq ZaG (ha .ex) (hb .ex)) (fun ox0 => ZdZ x0 x7 x8 z16 ox0 r h)
def Z7r (x0 : Zp) (z16 : List (Int × Bool)) : Option (Bool × (List (Int × Bool))) :=
 (Z5X x0.ID z16).bind fun r1 =>
 some (r1.1, r1.2)
theorem Zh1 x0 z16 : Sim (Z5P) (Z7r x0 z16) (EE 75 [(.p (.agg (Z1r x0))), (.ptr 0 0)] [[(.clo 74 [] [(.ptr 1 0)])], [(.mp 2)], [(.md ((z16).map (encM eB)))]]) := by
 unfold Z7r
 refine zf (ZHz ..)<|ze<|zx (.ptr 3 0) [[(.clo 74 [] [(.ptr 1 0)])], [(.mp 2)], [(.md ((z16).map (encM eB)))], (ZW x0)]<|ze<|zq<|zq<|zq<|zi fun r1 hr1 => ?_
 obtain ⟨qr1, er1, exr1, rfl⟩ := Zbr x0.ID z16 r1 hr1
 refine zv [1, 2] (bv r1.1) [[(.clo 74 [] [(.ptr 1 0)])], [(.mp 2)], [(.md ((r1.2).map (encM eB)))], (ZW x0)] er1 ?_
 exact zr ((bv r1.1), [[(.clo 74 [] [(.ptr 1 0)])], [(.mp 2)], [(.md ((r1.2).map (encM eB)))], (ZW x0)]) ⟨_, rfl⟩
theorem ZhJ (x0 : Zp) (z16 : List (Int × Bool)) {r} (h : Z7r x0 z16 = some r) : Z7z x0 z16 = some r :=
 Z1f (fun _ _ ha hb => RRun.uniq Zi7 (ha ) (hb )) (Zh1 x0 z16 r h)
def Z9w (x0 : Int) (z1N : List (Int × Bool)) : Option (Bool × (List (Int × Bool))) :=
 some (((getM z1N x0).getD false), (putM z1N x0 true))
theorem Zh0 x0 z1N : Sim (Z5O) (Z9w x0 z1N) (EE 74 [(iv x0), (.ptr 0 0)] [[(.mp 1)], [(.md ((z1N).map (encM eB)))]]) := by
 unfold Z9w
 refine zf (ZHy ..)<|ze<|ze<|zq ?_
 refine zo (bv ((getM z1N x0).getD false)) ?_ (Eq.trans (b := Zgb PP 152 false (.mp 1) (iv x0) [[(.mp 1)], [(.md ((z1N).map (encM eB)))]]) (by kernel_rfl) <| (Zrr (e := eB) (z := false) (es := z1N) (te := 4) (by kernel_rfl) (by kernel_rfl) (by kernel_rfl) false).trans (by kernel_rfl))
 refine ze<|zq ?_
 refine Sim.xupd (B2 := [[(.mp 1)], [(.md ((putM z1N x0 true).map (encM eB)))]]) (fun K => Eq.trans (b := xupd PP 152 (.mp 1) (iv x0) (bv true) [[(.mp 1)], [(.md ((z1N).map (encM eB)))]] K) (by kernel_rfl) <| Zut (P := PP) (t := 152) (K := K) (B2 := [[(.mp 1)], [(.md ((putM z1N x0 true).map (encM eB)))]]) (e := eB) (a := true) (es := z1N) (te := 4) (by kernel_rfl) (by kernel_rfl) (by kernel_rfl) (by kernel_rfl) (by kernel_rfl)) ?_
 refine ze ?_
 exact zr ((bv ((getM z1N x0).getD false)), [[(.mp 1)], [(.md ((putM z1N x0 true).map (encM eB)))]]) ⟨_, rfl⟩
theorem ZhI (x0 : Int) (z1N : List (Int × Bool)) {r} (h : Z9w x0 z1N = some r) : Z5X x0 z1N = some r :=
 Z1f (fun _ _ ha hb => RRun.uniq Zi6 (ha ) (hb )) (Zh0 x0 z1N r h)
def Z5H (x0 : List Int) (z1N : List (Int × Bool)) : Option (Bool × (List (Int × Bool))) :=
 (Z6G x0 z1N).bind fun r1 =>
 some ((decide (0 ≤ r1.1)), r1.2)
theorem Zeo (x0 : List Int) z1N ox0 : Sim (Z4z) (Z5H x0 z1N) (EE 59 [(.p (.lst ox0 (x0.map (eI .i64)))), (.clo 74 [] [(.ptr 0 0)])] [[(.mp 1)], [(.md ((z1N).map (encM eB)))]]) := by
 unfold Z5H
 refine zf (ZHj ..)<|ze<|ze<|zi fun r1 hr1 => ?_
 obtain ⟨qr1, er1, exr1, rfl⟩ := Zgj x0 z1N .sh r1 hr1
 refine zc [0, 1] (iv r1.1) [[(.mp 1)], [(.md ((r1.2).map (encM eB)))]] er1<|zq ?_
 exact zr ((bv (decide (0 ≤ r1.1))), [[(.mp 1)], [(.md ((r1.2).map (encM eB)))]]) ⟨_, rfl⟩
theorem ZeR (x0 : List Int) (z1N : List (Int × Bool)) {r} (h : Z5H x0 z1N = some r) : Z5M x0 z1N = some r :=
 Z1f (fun _ _ ha hb => RRun.uniq Zfp (ha .ex) (hb .ex)) (fun ox0 => Zeo x0 z1N ox0 r h)
def Z6F (x0 : List Int) (z1N : List (Int × Bool)) : Option (Int × (List (Int × Bool))) :=
 Z4C x0 (x0.length : Int) 0 z1N
theorem Zg0 (x0 : List Int) z1N ox0 : Sim (Z2v) (Z6F x0 z1N) (EE 84 [(.p (.lst ox0 (x0.map (eI .i64)))), (.clo 74 [] [(.ptr 0 0)])] [[(.mp 1)], [(.md ((z1N).map (encM eB)))]]) := by
 unfold Z6F
 refine zf (ZHB ..)<|ze<|ze ?_
 refine zo (iv (x0.length : Int)) ?_ (Eq.trans (by kernel_rfl) (Z30 (P := PP) (t := 27) (d := 3) (by kernel_rfl) (eI .i64) (shrO ox0) x0))
 exact zk (Z9G x0 (x0.length : Int) 0 z1N ox0)
theorem Zgi (x0 : List Int) (z1N : List (Int × Bool)) {r} (h : Z6F x0 z1N = some r) : Z6G x0 z1N = some r :=
 Z1f (fun _ _ ha hb => RRun.uniq Zb7 (ha .ex) (hb .ex)) (fun ox0 => Zg0 x0 z1N ox0 r h)
def Z5I (x0 : List Int) (x7 x8 : Int) (z1N : List (Int × Bool)) : Option (Int × (List (Int × Bool))) :=
 Z4C x0 x7 (IntKind.i64.wrap (x8 + 1)) z1N
theorem Zer (x0 : List Int) x7 x8 z1N ox0 : Sim (Z2v) (Z5I x0 x7 x8 z1N) (Zwi 2 (.p (.lst ox0 (x0.map (eI .i64)))) (.clo 74 [] [(.ptr 0 0)]) (iv x7) (iv x8) [[(.mp 1)], [(.md ((z1N).map (encM eB)))]]) := by
 unfold Z5I
 refine zf (ZCd ..)<|ze<|zq ?_
 exact zk (Z9G x0 x7 (IntKind.i64.wrap (x8 + 1)) z1N ox0)
def Z4B (x0 : List Int) (x7 x8 : Int) (z1N : List (Int × Bool)) : Option (Int × (List (Int × Bool))) :=
 (lget x0 x8).bind fun a1 =>
 (Z5X a1 z1N).bind fun r2 =>
 if (r2.1) = true then
 (some (x8, r2.2))
 else
 (Z5I x0 x7 x8 r2.2)
theorem Zeq (x0 : List Int) x7 x8 z1N ox0 : Sim (Z2v) (Z4B x0 x7 x8 z1N) (Zwh 2 (.p (.lst ox0 (x0.map (eI .i64)))) (.clo 74 [] [(.ptr 0 0)]) (iv x7) (iv x8) [[(.mp 1)], [(.md ((z1N).map (encM eB)))]]) := by
 unfold Z4B
 refine zf (ZCc ..)<|ze<|ze<|zi fun a1 ha1 => ?_
 refine zo (.cptr [(.v (.int .i64 a1))]) ?_ (Eq.trans (by kernel_rfl) (Z3X (o := (shrO ox0)) (k := .i64) (n := 1) (e := (eI .i64)) (cs := (fun a => [(eI .i64) a])) (fun _ => rfl) (fun _ => rfl) (by decide) ha1))
 refine zq<|zi fun r2 hr2 => ?_
 obtain ⟨qr2, er2, exr2, rfl⟩ := Zbr a1 z1N r2 hr2
 refine zv [0, 1] (bv r2.1) [[(.mp 1)], [(.md ((r2.2).map (encM eB)))]] er2 ?_
 refine za r2.1 ?_ ?_
 ·refine ze ?_
  exact zr ((iv x8), [[(.mp 1)], [(.md ((r2.2).map (encM eB)))]]) ⟨_, rfl⟩
 ·exact zk (Zer x0 x7 x8 r2.2 ox0)
def Z7K (z1N : List (Int × Bool)) : Option (Int × (List (Int × Bool))) :=
 some ((-1), z1N)
theorem Zes z1N : Sim (Z2v) (Z7K z1N) (Zwj 2  [[(.mp 1)], [(.md ((z1N).map (encM eB)))]]) := by
 unfold Z7K
 refine zf (ZCe ..)<|ze ?_
 exact zr ((iv (-1)), [[(.mp 1)], [(.md ((z1N).map (encM eB)))]]) ⟨_, rfl⟩
def Z3K (x0 : List Int) (x7 x8 : Int) (z1N : List (Int × Bool)) : Option (Int × (List (Int × Bool))) :=
 if (decide (x8 < x7)) = true then
 (Z4B x0 x7 x8 z1N)
 else
 (Z7K z1N)
theorem Zep (x0 : List Int) x7 x8 z1N ox0 : Sim (Z2v) (Z3K x0 x7 x8 z1N) (ZlP 2 (.p (.lst ox0 (x0.map (eI .i64)))) (.clo 74 [] [(.ptr 0 0)]) (iv x7) (iv x8) [[(.mp 1)], [(.md ((z1N).map (encM eB)))]]) := by
 unfold Z3K
 refine zf (ZCb ..)<|ze<|zq ?_
 refine za (decide (x8 < x7)) ?_ ?_
 ·exact zk (Zeq x0 x7 x8 z1N ox0)
 ·exact zk (Zes z1N)
theorem Z6O (x0 : List Int) (x7 x8 : Int) (z1N : List (Int × Bool)) {r} (h : Z3K x0 x7 x8 z1N = some r) : Z4C x0 x7 x8 z1N = some r :=
 Z1f (fun _ _ ha hb => RRun.uniq Zb7 (ha .ex) (hb .ex)) (fun ox0 => Zep x0 x7 x8 z1N ox0 r h)
end Go.Proofs.YteoeggbihfnbfaaGreatDoor.N2
end
noncomputable section
set_option linter.unusedSimpArgs false
set_option linter.unusedVariables false
namespace Go.Proofs.YteoeggbihfnbfaaGreatDoor.N2
open Go Go.Abs
set_option linter.unusedVariables false
set_option maxRecDepth 100000
def Zbv  : Option (Unit) :=
 some ()
theorem Zjz z1x : Sim (Z7f z1x) (Zbv) (EE 53 [(.mp 0)] [[(.md ((z1x).map (encM ZF)))]]) := by
 unfold Zbv
 refine zf (ZHi ..)<|ze<|zx (.ptr 1 0) [[(.md ((z1x).map (encM ZF)))], [(.mp 0)]]<|ze ?_
 exact zr ((.clo 78 [] [(.ptr 1 0)]), [[(.md ((z1x).map (encM ZF)))], [(.mp 0)]]) ⟨[], rfl, rfl⟩
theorem Zk3  {r} (h : Zbv = some r) : Z9b = some r :=
 Z1f (fun _ _ ha hb => RRun.uniq (ZkO _) (ha default) (hb default)) (fun z1x => Zjz z1x r h)
def Zcl (x0 : ZD) (x1 : Int) : Option (Zp × Bool) :=
 Z8x x1 x0.Rules (x0.Rules.length : Int) 0
theorem Zon x0 x1 zZ : Sim (Z4j) (Zcl x0 x1) (EE 28 [(.p (.agg (Z1h x0 zZ))), (iv x1)] []) := by
 unfold Zcl
 refine zf (ZH7 ..)<|ze<|zx (.ptr 0 0) [(Zo x0 zZ)]<|zz (.ptr 1 0) [(Zo x0 zZ), (ZW (Zp.mk 0 0 0 0 (ByteArray.mk #[])))]<|ze<|zq<|zq ?_
 refine zo (iv (x0.Rules.length : Int)) ?_ (Eq.trans (by kernel_rfl) (Z30 (P := PP) (t := 22) (d := 43) (by kernel_rfl) ZF (shrO zZ) x0.Rules))
 exact zk (Zfi x1 x0.Rules (x0.Rules.length : Int) 0 x0 (Zp.mk 0 0 0 0 (ByteArray.mk #[])) (shrO zZ) zZ)
theorem ZoQ (x0 : ZD) (x1 : Int) {r} (h : Zcl x0 x1 = some r) : Zau x0 x1 = some r :=
 Z1f (fun _ _ ha hb => RRun.uniq Zij (ha .ex) (hb .ex)) (fun zZ => Zon x0 x1 zZ r h)
def Zal (x1 : Int) (x9 : List Zp) (x10 x11 : Int) : Option (Zp × Bool) :=
 Z8x x1 x9 x10 (IntKind.i64.wrap (x11 + 1))
theorem Zlb x1 (x9 : List Zp) x10 x11 b0 b1 ox9 zB : Sim (Z4j) (Zal x1 x9 x10 x11) (ZvV 0 (iv x1) (.ptr 1 0) (.p (.lst ox9 (x9.map ZF))) (iv x10) (iv x11) [(Zo b0 zB), (ZW b1)]) := by
 unfold Zal
 refine zf (ZBK ..)<|ze<|zq ?_
 exact zk (Zfi x1 x9 x10 (IntKind.i64.wrap (x11 + 1)) b0 b1 ox9 zB)
def Zak (x1 : Int) (x9 : List Zp) (x10 x11 : Int) : Option (Zp × Bool) :=
 (lget x9 x11).bind fun a1 =>
 if (a1.ID == x1) = true then
 (some (a1, true))
 else
 (Zal x1 x9 x10 x11)
theorem Zla x1 (x9 : List Zp) x10 x11 b0 b1 ox9 zB : Sim (Z4j) (Zak x1 x9 x10 x11) (ZvU 0 (iv x1) (.ptr 1 0) (.p (.lst ox9 (x9.map ZF))) (iv x10) (iv x11) [(Zo b0 zB), (ZW b1)]) := by
 unfold Zak
 refine zf (ZBJ ..)<|ze<|zi fun a1 ha1 => ?_
 refine zo (.cptr (Z1r a1)) ?_ (Eq.trans (by kernel_rfl) (Z3X (o := ox9) (k := .i64) (n := 5) (e := ZF) (cs := Z53) (fun _ => rfl) (fun _ => rfl) (by decide) ha1))
 refine zq<|zz (.ptr 2 0) [(Zo b0 zB), (ZW b1), (ZW (Zp.mk 0 0 0 0 (ByteArray.mk #[])))]<|zt [(Zo b0 zB), (ZW b1), (ZW a1)]<|ze<|zq<|zq<|zq ?_
 refine za (a1.ID == x1) ?_ ?_
 ·refine ze<|zq<|zt [(Zo b0 zB), (ZW a1), (ZW a1)] ?_
  exact zr ((.p (.tup [(.agg (Z1r a1)), (.v (.bool true))])), [(Zo b0 zB), (ZW a1), (ZW a1)]) ⟨_, rfl⟩
 ·exact zk (Zlb x1 x9 x10 x11 b0 b1 ox9 zB)
def Zcv  : Option (Zp × Bool) :=
 some ((Zp.mk 0 0 0 0 (ByteArray.mk #[])), false)
theorem Zlc b0 b1 zB : Sim (Z4j) (Zcv) (ZvW 0 (.ptr 1 0) [(Zo b0 zB), (ZW b1)]) := by
 unfold Zcv
 refine zf (ZBL ..)<|ze<|zq<|zt [(Zo b0 zB), (ZW (Zp.mk 0 0 0 0 (ByteArray.mk #[])))] ?_
 exact zr ((.p (.tup [(.agg (Z1r (Zp.mk 0 0 0 0 (ByteArray.mk #[])))), (.v (.bool false))])), [(Zo b0 zB), (ZW (Zp.mk 0 0 0 0 (ByteArray.mk #[])))]) ⟨_, rfl⟩
def Z8p (x1 : Int) (x9 : List Zp) (x10 x11 : Int) : Option (Zp × Bool) :=
 if (decide (x11 < x10)) = true then
 (Zak x1 x9 x10 x11)
 else
 (Zcv)
theorem Zl9 x1 (x9 : List Zp) x10 x11 b0 b1 ox9 zB : Sim (Z4j) (Z8p x1 x9 x10 x11) (ZlK 0 (iv x1) (.ptr 1 0) (.p (.lst ox9 (x9.map ZF))) (iv x10) (iv x11) [(Zo b0 zB), (ZW b1)]) := by
 unfold Z8p
 refine zf (ZBI ..)<|ze<|zq ?_
 refine za (decide (x11 < x10)) ?_ ?_
 ·exact zk (Zla x1 x9 x10 x11 b0 b1 ox9 zB)
 ·exact zk (Zlc b0 b1 zB)
theorem Zfh (x1 : Int) (x9 : List Zp) (x10 x11 : Int) {r} (h : Z8p x1 x9 x10 x11 = some r) : Z8x x1 x9 x10 x11 = some r :=
 Z1f (fun _ _ ha hb => RRun.uniq Zij (ha default default .ex .ex) (hb default default .ex .ex)) (fun b0 b1 ox9 zB => Zl9 x1 x9 x10 x11 b0 b1 ox9 zB r h)
end Go.Proofs.YteoeggbihfnbfaaGreatDoor.N2
end
