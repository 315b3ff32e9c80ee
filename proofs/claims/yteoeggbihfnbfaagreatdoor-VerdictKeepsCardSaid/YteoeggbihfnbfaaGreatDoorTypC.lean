/- More of the functions' typed texts. No condition. -/
import Derived.Test.YteoeggbihfnbfaaGreatDoorTypA

noncomputable section
set_option linter.unusedSimpArgs false
set_option linter.unusedVariables false
namespace Go.Proofs.YteoeggbihfnbfaaGreatDoor.N2
open Go Go.Abs
set_option linter.unusedVariables false
set_option maxRecDepth 100000
def Z8i  : Option (Bool) :=
 some (false)
theorem ZdX  : Sim (Z6c) (Z8i) (Zri 0  []) := by
 unfold Z8i
 refine zf (ZBg ..)<|ze ?_
 exact zr ((bv false), []) ⟨_, rfl⟩
def Z3K (b0 : Z7) : Option (Bool) :=
 (Z5o b0.Kids).bind fun r1 =>
 some (!r1)
theorem Zaq b0 z1R z1y : Sim (Z6c) (Z3K b0) (Zo5 0 (.ptr 0 0) [(Zq b0 z1R z1y)]) := by
 unfold Z3K
 refine zf (ZBh ..)<|ze<|zq<|zq<|zi fun r1 hr1 => ?_
 obtain ⟨qr1, er1, exr1, rfl⟩ := ZdZ b0.Kids .sh r1 hr1
 refine zc [] (bv r1) [(Zq b0 z1R z1y)] er1<|zq ?_
 exact zr ((bv (!r1)), [(Zq b0 z1R z1y)]) ⟨_, rfl⟩
def Z8h (b0 : Z7) : Option (Bool) :=
 (lget b0.Kids 0).bind fun a1 =>
 (Z3z a1).bind fun r2 =>
 if (decide (r2.2 < 0)) = true then
 (Z8i)
 else
 (if (decide (32 < r2.2)) = true then
 (Z8i)
 else
 (Z3K b0))
theorem ZkN b0 z1R z1y : Sim (Z6c) (Z8h b0) (Zvy 0 (.ptr 0 0) [(Zq b0 z1R z1y)]) := by
 unfold Z8h
 refine zf (ZBf ..)<|ze<|zq<|zq<|zi fun a1 ha1 => ?_
 refine zo (.cptr (ZG a1 .sh .sh)) ?_ (Eq.trans (by kernel_rfl) (Z40 (o := (shrO z1y)) (k := .i64) (n := 7) (e := ZS) (cs := Z2Z) Z68 (fun _ => rfl) (by decide) ha1))
 refine zq<|zi fun r2 hr2 => ?_
 obtain ⟨qr2, er2, exr2, rfl⟩ := Z80 a1 .sh .sh r2 hr2
 refine zc [] (.p (.tup [(.v (.int .i64 r2.1)), (.v (.int .i64 r2.2))])) [(Zq b0 z1R z1y)] er2<|zq<|zq<|ze<|zq ?_
 refine za (decide (r2.2 < 0)) ?_ ?_
 ·exact zk (ZdX )
 ·refine zq ?_
  refine za (decide (32 < r2.2)) ?_ ?_
  ·exact zk (ZdX )
  ·exact zk (Zaq b0 z1R z1y)
def Zc8 (x0 : Z7) : Option (Bool) :=
 if (x0.Kind == 7) = true then
 (if (decide (2 ≤ x0.Mode)) = true then
 (Z8h x0)
 else
 (Z3K x0))
 else
 (Z3K x0)
theorem ZnS x0 z1S z1u : Sim (Z6c) (Zc8 x0) (EE 71 [(.p (.agg (ZG x0 z1S z1u)))] []) := by
 unfold Zc8
 refine zf (ZGz ..)<|ze<|zx (.ptr 0 0) [(Zq x0 z1S z1u)]<|ze<|zq<|zq<|zq ?_
 refine za (x0.Kind == 7) ?_ ?_
 ·refine zq<|zq<|zq ?_
  refine za (decide (2 ≤ x0.Mode)) ?_ ?_
  ·exact zk (ZkN x0 z1S z1u)
  ·exact zk (Zaq x0 z1S z1u)
 ·exact zk (Zaq x0 z1S z1u)
theorem Zoh (x0 : Z7) {r} (h : Zc8 x0 = some r) : Z4m x0 = some r :=
 Z1a (fun _ _ ha hb => RRun.uniq Zpl (ha .ex .ex) (hb .ex .ex)) (fun z1S z1u => ZnS x0 z1S z1u r h)
def Z7x (x2 x3 : Int) : Option (Int × Int) :=
 some (x2, x3)
theorem Z8A x2 x3 : Sim (Z3a) (Z7x x2 x3) (ZiS 0 (iv x2) (iv x3) []) := by
 unfold Z7x
 refine zf (ZzW ..)<|ze ?_
 exact zr ((.p (.tup [(.v (.int .i64 x2)), (.v (.int .i64 x3))])), []) ⟨_, rfl⟩
def Zeh (x0 : Z7) : Option (Int × Int) :=
 if (x0.Kind == 1) = true then
 (some (1, 1))
 else
 (if (x0.Kind == 6) = true then
 (some (0, (-1)))
 else
 (if (x0.Kind == 2) = true then
 (Z9t 0 0 x0.Kids (x0.Kids.length : Int) 0)
 else
 (if (x0.Kind == 3) = true then
 (Z8S 1048576 0 x0.Kids (x0.Kids.length : Int) 0)
 else
 (if (x0.Kind == 4) = true then
 ((lget x0.Kids 0).bind fun a1 =>
 (Z3z a1).bind fun r2 =>
 (ZbS r2.2 x0.Hi).bind fun r3 =>
 some ((min (IntKind.i64.wrap (r2.1 * x0.Lo)) 1048576), r3))
 else
 (if (x0.Kind == 5) = true then
 (if (x0.Kind == 5) = true then
 ((lget x0.Kids 0).bind fun a4 =>
 (Z3z a4).bind fun r5 =>
 some (r5.1, r5.2))
 else
 (Z7x 0 0))
 else
 (if (x0.Kind == 8) = true then
 ((lget x0.Kids 0).bind fun a6 =>
 (Z3z a6).bind fun r7 =>
 some (r7.1, r7.2))
 else
 (Z7x 0 0)))))))
theorem Zpw x0 z1S z1u : Sim (Z3a) (Zeh x0) (EE 93 [(.p (.agg (ZG x0 z1S z1u)))] []) := by
 unfold Zeh
 refine zf (ZGQ ..)<|ze<|zx (.ptr 0 0) [(Zq x0 z1S z1u)]<|ze<|zq<|zq<|ze<|zq ?_
 refine za (x0.Kind == 1) ?_ ?_
 ·refine ze ?_
  exact zr ((.p (.tup [(.v (.int .i64 1)), (.v (.int .i64 1))])), [(Zq x0 z1S z1u)]) ⟨_, rfl⟩
 ·refine ze<|zq ?_
  refine za (x0.Kind == 6) ?_ ?_
  ·refine ze ?_
   exact zr ((.p (.tup [(.v (.int .i64 0)), (.v (.int .i64 (-1)))])), [(Zq x0 z1S z1u)]) ⟨_, rfl⟩
  ·refine ze<|zq ?_
   refine za (x0.Kind == 2) ?_ ?_
   ·refine ze<|zq<|zq ?_
    refine zo (iv (x0.Kids.length : Int)) ?_ (Eq.trans (by kernel_rfl) (Z3d (P := PP) (t := 96) (d := 98) (by kernel_rfl) ZS (shrO z1u) x0.Kids))
    exact zk (Zgc 0 0 x0.Kids (x0.Kids.length : Int) 0 (shrO z1u))
   ·refine ze<|zq ?_
    refine za (x0.Kind == 3) ?_ ?_
    ·refine ze<|ze<|zq<|zq ?_
     refine zo (iv (x0.Kids.length : Int)) ?_ (Eq.trans (by kernel_rfl) (Z3d (P := PP) (t := 96) (d := 98) (by kernel_rfl) ZS (shrO z1u) x0.Kids))
     exact zk (Zfx 1048576 0 x0.Kids (x0.Kids.length : Int) 0 (shrO z1u))
    ·refine ze<|zq ?_
     refine za (x0.Kind == 4) ?_ ?_
     ·refine ze<|zq<|zq<|zi fun a1 ha1 => ?_
      refine zo (.cptr (ZG a1 .sh .sh)) ?_ (Eq.trans (by kernel_rfl) (Z40 (o := (shrO z1u)) (k := .i64) (n := 7) (e := ZS) (cs := Z2Z) Z68 (fun _ => rfl) (by decide) ha1))
      refine zq<|zi fun r2 hr2 => ?_
      obtain ⟨qr2, er2, exr2, rfl⟩ := Z80 a1 .sh .sh r2 hr2
      refine zc [] (.p (.tup [(.v (.int .i64 r2.1)), (.v (.int .i64 r2.2))])) [(Zq x0 z1S z1u)] er2<|zq<|zq<|ze<|zq<|zq<|zq ?_
      refine zo (iv (min (IntKind.i64.wrap (r2.1 * x0.Lo)) 1048576)) ?_ (ZcJ _ _)
      refine zq<|zq<|zi fun r3 hr3 => ?_
      obtain ⟨qr3, er3, exr3, rfl⟩ := Zqy r2.2 x0.Hi r3 hr3
      refine zc [] (iv r3) [(Zq x0 z1S z1u)] er3<|zg ?_
      exact zr ((.p (.tup [(.v (.int .i64 (min (IntKind.i64.wrap (r2.1 * x0.Lo)) 1048576))), (.v (.int .i64 r3))])), [(Zq x0 z1S z1u)]) ⟨_, rfl⟩
     ·refine ze<|zq ?_
      refine za (x0.Kind == 5) ?_ ?_
      ·refine za (x0.Kind == 5) ?_ ?_
       ·refine ze<|zq<|zq<|zi fun a4 ha4 => ?_
        refine zo (.cptr (ZG a4 .sh .sh)) ?_ (Eq.trans (by kernel_rfl) (Z40 (o := (shrO z1u)) (k := .i64) (n := 7) (e := ZS) (cs := Z2Z) Z68 (fun _ => rfl) (by decide) ha4))
        refine zq<|zi fun r5 hr5 => ?_
        obtain ⟨qr5, er5, exr5, rfl⟩ := Z80 a4 .sh .sh r5 hr5
        refine zc [] (.p (.tup [(.v (.int .i64 r5.1)), (.v (.int .i64 r5.2))])) [(Zq x0 z1S z1u)] er5<|zq<|zq ?_
        exact zr ((.p (.tup [(.v (.int .i64 r5.1)), (.v (.int .i64 r5.2))])), [(Zq x0 z1S z1u)]) ⟨_, rfl⟩
       ·exact zk (Z8A 0 0)
      ·refine ze<|zq ?_
       refine za (x0.Kind == 8) ?_ ?_
       ·refine ze<|zq<|zq<|zi fun a6 ha6 => ?_
        refine zo (.cptr (ZG a6 .sh .sh)) ?_ (Eq.trans (by kernel_rfl) (Z40 (o := (shrO z1u)) (k := .i64) (n := 7) (e := ZS) (cs := Z2Z) Z68 (fun _ => rfl) (by decide) ha6))
        refine zq<|zi fun r7 hr7 => ?_
        obtain ⟨qr7, er7, exr7, rfl⟩ := Z80 a6 .sh .sh r7 hr7
        refine zc [] (.p (.tup [(.v (.int .i64 r7.1)), (.v (.int .i64 r7.2))])) [(Zq x0 z1S z1u)] er7<|zq<|zq ?_
        exact zr ((.p (.tup [(.v (.int .i64 r7.1)), (.v (.int .i64 r7.2))])), [(Zq x0 z1S z1u)]) ⟨_, rfl⟩
       ·exact zk (Z8A 0 0)
theorem Zqv (x0 : Z7) {r} (h : Zeh x0 = some r) : Z3z x0 = some r :=
 Z1a (fun _ _ ha hb => RRun.uniq Zfj (ha .ex .ex) (hb .ex .ex)) (fun z1S z1u => Zpw x0 z1S z1u r h)
def Zby (x2 x3 : Int) (x23 : List Z7) (x24 x25 : Int) : Option (Int × Int) :=
 (lget x23 x25).bind fun a1 =>
 (Z3z a1).bind fun r2 =>
 (ZgZ x3 r2.2).bind fun r3 =>
 Z9t (min (IntKind.i64.wrap (x2 + r2.1)) 1048576) r3 x23 x24 (IntKind.i64.wrap (x25 + 1))
theorem Zn2 x2 x3 (x23 : List Z7) x24 x25 ox23 : Sim (Z3a) (Zby x2 x3 x23 x24 x25) (ZvQ 0 (iv x2) (iv x3) (.p (.lst ox23 (x23.map ZS))) (iv x24) (iv x25) []) := by
 unfold Zby
 refine zf (ZBB ..)<|ze<|zi fun a1 ha1 => ?_
 refine zo (.cptr (ZG a1 .sh .sh)) ?_ (Eq.trans (by kernel_rfl) (Z40 (o := ox23) (k := .i64) (n := 7) (e := ZS) (cs := Z2Z) Z68 (fun _ => rfl) (by decide) ha1))
 refine zq<|zz (.ptr 0 0) [(Zq (Z7.mk 0 0 0 0 0 ([] : List Zc) ([] : List Z7)) .nl .nl)]<|zt [(Zq a1 .sh .sh)]<|ze<|zq<|zi fun r2 hr2 => ?_
 obtain ⟨qr2, er2, exr2, rfl⟩ := Z80 a1 .sh .sh r2 hr2
 refine zc [] (.p (.tup [(.v (.int .i64 r2.1)), (.v (.int .i64 r2.2))])) [(Zq a1 .sh .sh)] er2<|zq<|zq<|ze<|zq ?_
 refine zo (iv (min (IntKind.i64.wrap (x2 + r2.1)) 1048576)) ?_ (ZcJ _ _)
 refine zi fun r3 hr3 => ?_
 obtain ⟨qr3, er3, exr3, rfl⟩ := ZtK x3 r2.2 r3 hr3
 refine zc [] (iv r3) [(Zq a1 .sh .sh)] er3<|ze<|zq ?_
 exact zk (Zgc (min (IntKind.i64.wrap (x2 + r2.1)) 1048576) r3 x23 x24 (IntKind.i64.wrap (x25 + 1)) ox23)
def Z9l (x2 x3 : Int) (x23 : List Z7) (x24 x25 : Int) : Option (Int × Int) :=
 if (decide (x25 < x24)) = true then
 (Zby x2 x3 x23 x24 x25)
 else
 (Z7x x2 x3)
theorem Zn1 x2 x3 (x23 : List Z7) x24 x25 ox23 : Sim (Z3a) (Z9l x2 x3 x23 x24 x25) (Zlo 0 (iv x2) (iv x3) (.p (.lst ox23 (x23.map ZS))) (iv x24) (iv x25) []) := by
 unfold Z9l
 refine zf (ZBA ..)<|ze<|zq ?_
 refine za (decide (x25 < x24)) ?_ ?_
 ·exact zk (Zn2 x2 x3 x23 x24 x25 ox23)
 ·exact zk (Z8A x2 x3)
theorem Zgb (x2 x3 : Int) (x23 : List Z7) (x24 x25 : Int) {r} (h : Z9l x2 x3 x23 x24 x25 = some r) : Z9t x2 x3 x23 x24 x25 = some r :=
 Z1a (fun _ _ ha hb => RRun.uniq Zfj (ha .ex) (hb .ex)) (fun ox23 => Zn1 x2 x3 x23 x24 x25 ox23 r h)
def Z8P (x2 x3 : Int) (x45 : List Z7) (x46 x47 : Int) : Option (Int × Int) :=
 Z8S x2 x3 x45 x46 (IntKind.i64.wrap (x47 + 1))
theorem ZeZ x2 x3 (x45 : List Z7) x46 x47 ox45 : Sim (Z3a) (Z8P x2 x3 x45 x46 x47) (Zp9 0 (iv x2) (iv x3) (.p (.lst ox45 (x45.map ZS))) (iv x46) (iv x47) []) := by
 unfold Z8P
 refine zf (ZzV ..)<|ze<|zq ?_
 exact zk (Zfx x2 x3 x45 x46 (IntKind.i64.wrap (x47 + 1)) ox45)
def Z8O (x2 : Int) (x45 : List Z7) (x46 x47 : Int) : Option (Int × Int) :=
 Z8P x2 (-1) x45 x46 x47
theorem ZeY x2 (x45 : List Z7) x46 x47 ox45 : Sim (Z3a) (Z8O x2 x45 x46 x47) (Zp8 0 (iv x2) (.p (.lst ox45 (x45.map ZS))) (iv x46) (iv x47) []) := by
 unfold Z8O
 refine zf (ZzT ..)<|ze ?_
 exact zk (ZeZ x2 (-1) x45 x46 x47 ox45)
def ZaF (x2 x3 x11 : Int) (x45 : List Z7) (x46 x47 : Int) : Option (Int × Int) :=
 Z8P x2 (max x3 x11) x45 x46 x47
theorem ZlK x2 x3 x11 (x45 : List Z7) x46 x47 ox45 : Sim (Z3a) (ZaF x2 x3 x11 x45 x46 x47) (ZtE 0 (iv x2) (iv x3) (iv x11) (.p (.lst ox45 (x45.map ZS))) (iv x46) (iv x47) []) := by
 unfold ZaF
 refine zf (ZzU ..)<|ze ?_
 refine zo (iv (max x3 x11)) ?_ (ZoH _ _)
 exact zk (ZeZ x2 (max x3 x11) x45 x46 x47 ox45)
def ZaE (x2 x3 : Int) (x45 : List Z7) (x46 x47 : Int) : Option (Int × Int) :=
 (lget x45 x47).bind fun a1 =>
 (Z3z a1).bind fun r2 =>
 if (decide (r2.2 < 0)) = true then
 (Z8O (min x2 r2.1) x45 x46 x47)
 else
 (if (decide (x3 < 0)) = true then
 (Z8O (min x2 r2.1) x45 x46 x47)
 else
 (ZaF (min x2 r2.1) x3 r2.2 x45 x46 x47))
theorem ZlJ x2 x3 (x45 : List Z7) x46 x47 ox45 : Sim (Z3a) (ZaE x2 x3 x45 x46 x47) (ZtD 0 (iv x2) (iv x3) (.p (.lst ox45 (x45.map ZS))) (iv x46) (iv x47) []) := by
 unfold ZaE
 refine zf (ZzS ..)<|ze<|zi fun a1 ha1 => ?_
 refine zo (.cptr (ZG a1 .sh .sh)) ?_ (Eq.trans (by kernel_rfl) (Z40 (o := ox45) (k := .i64) (n := 7) (e := ZS) (cs := Z2Z) Z68 (fun _ => rfl) (by decide) ha1))
 refine zq<|zz (.ptr 0 0) [(Zq (Z7.mk 0 0 0 0 0 ([] : List Zc) ([] : List Z7)) .nl .nl)]<|zt [(Zq a1 .sh .sh)]<|ze<|zq<|zi fun r2 hr2 => ?_
 obtain ⟨qr2, er2, exr2, rfl⟩ := Z80 a1 .sh .sh r2 hr2
 refine zc [] (.p (.tup [(.v (.int .i64 r2.1)), (.v (.int .i64 r2.2))])) [(Zq a1 .sh .sh)] er2<|zq<|zq<|ze ?_
 refine zo (iv (min x2 r2.1)) ?_ (ZcJ _ _)
 refine ze<|zq ?_
 refine za (decide (r2.2 < 0)) ?_ ?_
 ·exact zk (ZeY (min x2 r2.1) x45 x46 x47 ox45)
 ·refine zq ?_
  refine za (decide (x3 < 0)) ?_ ?_
  ·exact zk (ZeY (min x2 r2.1) x45 x46 x47 ox45)
  ·exact zk (ZlK (min x2 r2.1) x3 r2.2 x45 x46 x47 ox45)
def Z8N (x2 x3 : Int) (x45 : List Z7) (x46 x47 : Int) : Option (Int × Int) :=
 if (decide (x47 < x46)) = true then
 (ZaE x2 x3 x45 x46 x47)
 else
 (Z7x x2 x3)
theorem ZlI x2 x3 (x45 : List Z7) x46 x47 ox45 : Sim (Z3a) (Z8N x2 x3 x45 x46 x47) (ZiR 0 (iv x2) (iv x3) (.p (.lst ox45 (x45.map ZS))) (iv x46) (iv x47) []) := by
 unfold Z8N
 refine zf (ZzR ..)<|ze<|zq ?_
 refine za (decide (x47 < x46)) ?_ ?_
 ·exact zk (ZlJ x2 x3 x45 x46 x47 ox45)
 ·exact zk (Z8A x2 x3)
theorem Zfw (x2 x3 : Int) (x45 : List Z7) (x46 x47 : Int) {r} (h : Z8N x2 x3 x45 x46 x47 = some r) : Z8S x2 x3 x45 x46 x47 = some r :=
 Z1a (fun _ _ ha hb => RRun.uniq Zfj (ha .ex) (hb .ex)) (fun ox45 => ZlI x2 x3 x45 x46 x47 ox45 r h)
def Z9m  : Option (Int) :=
 some (0)
theorem Zfy  : Sim (Z6y) (Z9m) (ZoO 0  []) := by
 unfold Z9m
 refine zf (Zyp ..)<|ze ?_
 exact zr ((iv 0), []) ⟨_, rfl⟩
def Z9n  : Option (Int) :=
 some (-1)
theorem Zfz  : Sim (Z6y) (Z9n) (ZoP 0  []) := by
 unfold Z9n
 refine zf (Zyr ..)<|ze ?_
 exact zr ((iv (-1)), []) ⟨_, rfl⟩
def ZbA (x0 x1 : Int) : Option (Int) :=
 (Zcw (IntKind.i64.wrap (x0 * x1))).bind fun r1 =>
 some (r1)
theorem Zn6 x0 x1 : Sim (Z6y) (ZbA x0 x1) (Zsc 0 (iv x0) (iv x1) []) := by
 unfold ZbA
 refine zf (Zys ..)<|ze<|zq<|zi fun r1 hr1 => ?_
 obtain ⟨qr1, er1, exr1, rfl⟩ := Zk9 (IntKind.i64.wrap (x0 * x1)) r1 hr1
 refine zc [] (iv r1) [] er1 ?_
 exact zr ((iv r1), []) ⟨_, rfl⟩
def Zbz (x0 x1 : Int) : Option (Int) :=
 if (decide (x0 < 0)) = true then
 (Z9n)
 else
 (if (decide (x1 < 0)) = true then
 (Z9n)
 else
 (ZbA x0 x1))
theorem Zn5 x0 x1 : Sim (Z6y) (Zbz x0 x1) (Zsb 0 (iv x0) (iv x1) []) := by
 unfold Zbz
 refine zf (Zyq ..)<|ze<|zq ?_
 refine za (decide (x0 < 0)) ?_ ?_
 ·exact zk (Zfz )
 ·refine zq ?_
  refine za (decide (x1 < 0)) ?_ ?_
  ·exact zk (Zfz )
  ·exact zk (Zn6 x0 x1)
def Zei (x0 x1 : Int) : Option (Int) :=
 if (x0 == 0) = true then
 (Z9m)
 else
 (if (x1 == 0) = true then
 (Z9m)
 else
 (Zbz x0 x1))
theorem Zpx x0 x1 : Sim (Z6y) (Zei x0 x1) (EE 108 [(iv x0), (iv x1)] []) := by
 unfold Zei
 refine zf (ZDS ..)<|ze<|ze<|zq ?_
 refine za (x0 == 0) ?_ ?_
 ·exact zk (Zfy )
 ·refine zq ?_
  refine za (x1 == 0) ?_ ?_
  ·exact zk (Zfy )
  ·exact zk (Zn5 x0 x1)
theorem Zqx (x0 x1 : Int) {r} (h : Zei x0 x1 = some r) : ZbS x0 x1 = some r :=
 Z1a (fun _ _ ha hb => RRun.uniq ZqW (ha ) (hb )) (Zpx x0 x1 r h)
def Zc9 (x0 : Int) : Option (Int) :=
 some (x0)
theorem ZnT x0 : Sim (ZaT) (Zc9 x0) (Zsr 0 (iv x0) []) := by
 unfold Zc9
 refine zf (ZyL ..)<|ze ?_
 exact zr ((iv x0), []) ⟨_, rfl⟩
def Zfn (x0 : Int) : Option (Int) :=
 if (decide (1048576 < x0)) = true then
 (some (-1))
 else
 (Zc9 x0)
theorem Zqw x0 : Sim (ZaT) (Zfn x0) (EE 134 [(iv x0)] []) := by
 unfold Zfn
 refine zf (ZEg ..)<|ze<|ze<|zq ?_
 refine za (decide (1048576 < x0)) ?_ ?_
 ·refine ze ?_
  exact zr ((iv (-1)), []) ⟨_, rfl⟩
 ·exact zk (ZnT x0)
theorem Zrv (x0 : Int) {r} (h : Zfn x0 = some r) : Zcw x0 = some r :=
 Z1a (fun _ _ ha hb => RRun.uniq Zs3 (ha ) (hb )) (Zqw x0 r h)
def ZaZ  : Option (Int) :=
 some (-1)
theorem Zht  : Sim (Zam) (ZaZ) (ZoN 0  []) := by
 unfold ZaZ
 refine zf (Zyn ..)<|ze ?_
 exact zr ((iv (-1)), []) ⟨_, rfl⟩
def ZcS (x0 x1 : Int) : Option (Int) :=
 (Zcw (IntKind.i64.wrap (x0 + x1))).bind fun r1 =>
 some (r1)
theorem Zoi x0 x1 : Sim (Zam) (ZcS x0 x1) (Zs8 0 (iv x0) (iv x1) []) := by
 unfold ZcS
 refine zf (Zyo ..)<|ze<|zq<|zi fun r1 hr1 => ?_
 obtain ⟨qr1, er1, exr1, rfl⟩ := Zk9 (IntKind.i64.wrap (x0 + x1)) r1 hr1
 refine zc [] (iv r1) [] er1 ?_
 exact zr ((iv r1), []) ⟨_, rfl⟩
def ZgV (x0 x1 : Int) : Option (Int) :=
 if (decide (x0 < 0)) = true then
 (ZaZ)
 else
 (if (decide (x1 < 0)) = true then
 (ZaZ)
 else
 (ZcS x0 x1))
theorem Zrw x0 x1 : Sim (Zam) (ZgV x0 x1) (EE 107 [(iv x0), (iv x1)] []) := by
 unfold ZgV
 refine zf (ZDQ ..)<|ze<|ze<|zq ?_
 refine za (decide (x0 < 0)) ?_ ?_
 ·exact zk (Zht )
 ·refine zq ?_
  refine za (decide (x1 < 0)) ?_ ?_
  ·exact zk (Zht )
  ·exact zk (Zoi x0 x1)
theorem ZtJ (x0 x1 : Int) {r} (h : ZgV x0 x1 = some r) : ZgZ x0 x1 = some r :=
 Z1a (fun _ _ ha hb => RRun.uniq Zul (ha ) (hb )) (Zrw x0 x1 r h)
def Z5g (x0 : List Z7) : Option (Bool) :=
 (Z6h x0).bind fun r1 =>
 some (decide (0 ≤ r1))
theorem Zdq (x0 : List Z7) ox0 : Sim (Z4e) (Z5g x0) (EE 94 [(.p (.lst ox0 (x0.map ZS))), (.clo 95 [] [])] []) := by
 unfold Z5g
 refine zf (ZGU ..)<|ze<|ze<|zi fun r1 hr1 => ?_
 obtain ⟨qr1, er1, exr1, rfl⟩ := ZfB x0 .sh r1 hr1
 refine zc [] (iv r1) [] er1<|zq ?_
 exact zr ((bv (decide (0 ≤ r1))), []) ⟨_, rfl⟩
theorem ZdY (x0 : List Z7) {r} (h : Z5g x0 = some r) : Z5o x0 = some r :=
 Z1a (fun _ _ ha hb => RRun.uniq Zer (ha .ex) (hb .ex)) (fun ox0 => Zdq x0 ox0 r h)
def Z6d (x0 : List Z7) : Option (Int) :=
 Z4n x0 (x0.length : Int) 0
theorem Zf7 (x0 : List Z7) ox0 : Sim (Z2f) (Z6d x0) (EE 109 [(.p (.lst ox0 (x0.map ZS))), (.clo 95 [] [])] []) := by
 unfold Z6d
 refine zf (ZDU ..)<|ze<|ze ?_
 refine zo (iv (x0.length : Int)) ?_ (Eq.trans (by kernel_rfl) (Z3d (P := PP) (t := 96) (d := 98) (by kernel_rfl) ZS (shrO ox0) x0))
 exact zk (Z94 x0 (x0.length : Int) 0 ox0)
theorem ZfA (x0 : List Z7) {r} (h : Z6d x0 = some r) : Z6h x0 = some r :=
 Z1a (fun _ _ ha hb => RRun.uniq Zar (ha .ex) (hb .ex)) (fun ox0 => Zf7 x0 ox0 r h)
def Z5j (x0 : List Z7) (x7 x8 : Int) : Option (Int) :=
 Z4n x0 x7 (IntKind.i64.wrap (x8 + 1))
theorem Zdz (x0 : List Z7) x7 x8 ox0 : Sim (Z2f) (Z5j x0 x7 x8) (Zsg 0 (.p (.lst ox0 (x0.map ZS))) (.clo 95 [] []) (iv x7) (iv x8) []) := by
 unfold Z5j
 refine zf (Zyv ..)<|ze<|zq ?_
 exact zk (Z94 x0 x7 (IntKind.i64.wrap (x8 + 1)) ox0)
def Z4h (x0 : List Z7) (x7 x8 : Int) : Option (Int) :=
 (lget x0 x8).bind fun a1 =>
 (ZaN a1).bind fun r2 =>
 if (r2) = true then
 (some (x8))
 else
 (Z5j x0 x7 x8)
theorem Zdy (x0 : List Z7) x7 x8 ox0 : Sim (Z2f) (Z4h x0 x7 x8) (Zsf 0 (.p (.lst ox0 (x0.map ZS))) (.clo 95 [] []) (iv x7) (iv x8) []) := by
 unfold Z4h
 refine zf (Zyu ..)<|ze<|ze<|zi fun a1 ha1 => ?_
 refine zo (.cptr (ZG a1 .sh .sh)) ?_ (Eq.trans (by kernel_rfl) (Z40 (o := (shrO ox0)) (k := .i64) (n := 7) (e := ZS) (cs := Z2Z) Z68 (fun _ => rfl) (by decide) ha1))
 refine zq<|zi fun r2 hr2 => ?_
 obtain ⟨qr2, er2, exr2, rfl⟩ := Zn4 a1 .sh .sh r2 hr2
 refine zv [] (bv r2) [] er2 ?_
 refine za r2 ?_ ?_
 ·refine ze ?_
  exact zr ((iv x8), []) ⟨_, rfl⟩
 ·exact zk (Zdz x0 x7 x8 ox0)
def Z7m  : Option (Int) :=
 some (-1)
theorem ZdA  : Sim (Z2f) (Z7m) (Zsh 0  []) := by
 unfold Z7m
 refine zf (Zyw ..)<|ze ?_
 exact zr ((iv (-1)), []) ⟨_, rfl⟩
def Z3u (x0 : List Z7) (x7 x8 : Int) : Option (Int) :=
 if (decide (x8 < x7)) = true then
 (Z4h x0 x7 x8)
 else
 (Z7m)
theorem Zdx (x0 : List Z7) x7 x8 ox0 : Sim (Z2f) (Z3u x0 x7 x8) (ZiA 0 (.p (.lst ox0 (x0.map ZS))) (.clo 95 [] []) (iv x7) (iv x8) []) := by
 unfold Z3u
 refine zf (Zyt ..)<|ze<|zq ?_
 refine za (decide (x8 < x7)) ?_ ?_
 ·exact zk (Zdy x0 x7 x8 ox0)
 ·exact zk (ZdA )
theorem Z6s (x0 : List Z7) (x7 x8 : Int) {r} (h : Z3u x0 x7 x8 = some r) : Z4n x0 x7 x8 = some r :=
 Z1a (fun _ _ ha hb => RRun.uniq Zar (ha .ex) (hb .ex)) (fun ox0 => Zdx x0 x7 x8 ox0 r h)
def ZaG (x0 : Z7) : Option (Bool) :=
 (Z4m x0).bind fun r1 =>
 some (!r1)
theorem ZlL x0 z1S z1u : Sim (Z8K) (ZaG x0) (EE 95 [(.p (.agg (ZG x0 z1S z1u)))] []) := by
 unfold ZaG
 refine zf (ZGV ..)<|ze<|zx (.ptr 0 0) [(Zq x0 z1S z1u)]<|ze<|zq<|zi fun r1 hr1 => ?_
 obtain ⟨qr1, er1, exr1, rfl⟩ := Zhs x0 .sh .sh r1 hr1
 refine zc [] (bv r1) [(Zq x0 z1S z1u)] er1<|zq ?_
 exact zr ((bv (!r1)), [(Zq x0 z1S z1u)]) ⟨_, rfl⟩
theorem Zn3 (x0 : Z7) {r} (h : ZaG x0 = some r) : ZaN x0 = some r :=
 Z1a (fun _ _ ha hb => RRun.uniq ZnH (ha .ex .ex) (hb .ex .ex)) (fun z1S z1u => ZlL x0 z1S z1u r h)
def Zj0 (x0 : Z7) : Option (Int) :=
 Z6g 0 x0.Kids (x0.Kids.length : Int) 0 x0
theorem Zqu x0 z1S z1u : Sim (Z4W) (Zj0 x0) (EE 72 [(.p (.agg (ZG x0 z1S z1u)))] []) := by
 unfold Zj0
 refine zf (ZGA ..)<|ze<|zx (.ptr 0 0) [(Zq x0 z1S z1u)]<|ze<|ze<|zq<|zq ?_
 refine zo (iv (x0.Kids.length : Int)) ?_ (Eq.trans (by kernel_rfl) (Z3d (P := PP) (t := 96) (d := 98) (by kernel_rfl) ZS (shrO z1u) x0.Kids))
 exact zk (Zhr 0 x0.Kids (x0.Kids.length : Int) 0 x0 (shrO z1u) z1S z1u)
theorem Zfv (x0 : Z7) {r} (h : Zj0 x0 = some r) : Z5R x0 = some r :=
 Z1a (fun _ _ ha hb => RRun.uniq Zl6 (ha .ex .ex) (hb .ex .ex)) (fun z1S z1u => Zqu x0 z1S z1u r h)
def Zc7 (x3 : Int) (x8 : List Z7) (x9 x10 : Int) (b0 : Z7) : Option (Int) :=
 (lget x8 x10).bind fun a1 =>
 (Z5R a1).bind fun r2 =>
 Z6g (min (IntKind.i64.wrap (x3 + r2)) 1048576) x8 x9 (IntKind.i64.wrap (x10 + 1)) b0
theorem ZnQ x3 (x8 : List Z7) x9 x10 b0 ox8 z1R z1y : Sim (Z4W) (Zc7 x3 x8 x9 x10 b0) (ZvA 0 (.ptr 0 0) (iv x3) (.p (.lst ox8 (x8.map ZS))) (iv x9) (iv x10) [(Zq b0 z1R z1y)]) := by
 unfold Zc7
 refine zf (ZBj ..)<|ze<|zi fun a1 ha1 => ?_
 refine zo (.cptr (ZG a1 .sh .sh)) ?_ (Eq.trans (by kernel_rfl) (Z40 (o := ox8) (k := .i64) (n := 7) (e := ZS) (cs := Z2Z) Z68 (fun _ => rfl) (by decide) ha1))
 refine zq<|zz (.ptr 1 0) [(Zq b0 z1R z1y), (Zq (Z7.mk 0 0 0 0 0 ([] : List Zc) ([] : List Z7)) .nl .nl)]<|zt [(Zq b0 z1R z1y), (Zq a1 .sh .sh)]<|ze<|zq<|zi fun r2 hr2 => ?_
 obtain ⟨qr2, er2, exr2, rfl⟩ := Zk8 a1 .sh .sh r2 hr2
 refine zc [] (iv r2) [(Zq b0 z1R z1y), (Zq a1 .sh .sh)] er2<|zq ?_
 refine zo (iv (min (IntKind.i64.wrap (x3 + r2)) 1048576)) ?_ (ZcJ _ _)
 refine ze<|zq ?_
 exact zk (Zhr (min (IntKind.i64.wrap (x3 + r2)) 1048576) x8 x9 (IntKind.i64.wrap (x10 + 1)) b0 ox8 z1R z1y)
def Z1A (x3 : Int) : Option (Int) :=
 some (min x3 1048576)
theorem Z1C x3 : Sim (Z4W) (Z1A x3) (Z4c 0 (iv x3) []) := by
 unfold Z1A
 refine zf (ZzQ ..)<|ze ?_
 refine zo (iv (min x3 1048576)) ?_ (ZcJ _ _)
 exact zr ((iv (min x3 1048576)), []) ⟨_, rfl⟩
def Z1M (x3 : Int) (b0 : Z7) : Option (Int) :=
 if (b0.Mode == 2) = true then
 (Z1A (IntKind.i64.wrap (x3 + 2)))
 else
 (Z1A x3)
theorem Z1W x3 b0 z1R z1y : Sim (Z4W) (Z1M x3 b0) (Z5u 0 (.ptr 0 0) (iv x3) [(Zq b0 z1R z1y)]) := by
 unfold Z1M
 refine zf (ZzP ..)<|ze<|zq<|zq<|zq ?_
 refine za (b0.Mode == 2) ?_ ?_
 ·refine ze<|zq ?_
  exact zk (Z1C (IntKind.i64.wrap (x3 + 2)))
 ·exact zk (Z1C x3)
def Z5f (x3 : Int) (b0 : Z7) : Option (Int) :=
 if (b0.Kind == 1) = true then
 (if (b0.Kind == 1) = true then
 (some (1))
 else
 (if (b0.Kind == 3) = true then
 (Z1A ((IntKind.i64.wrap (x3 + (IntKind.i64.wrap (2 * (IntKind.i64.wrap ((b0.Kids.length : Int) - 1))))))))
 else
 (if (b0.Kind == 5) = true then
 (if (b0.Kind == 5) = true then
 (Z1A (IntKind.i64.wrap (x3 + 2)))
 else
 (if (b0.Kind == 4) = true then
 (if (decide (b0.Hi < 0)) = true then
 (Z1M (IntKind.i64.wrap ((IntKind.i64.wrap (b0.Lo * x3)) + (IntKind.i64.wrap (x3 + 4)))) b0)
 else
 (Z1M ((IntKind.i64.wrap ((IntKind.i64.wrap (b0.Lo * x3)) + (IntKind.i64.wrap ((IntKind.i64.wrap (b0.Hi - b0.Lo)) * (IntKind.i64.wrap (x3 + 1))))))) b0))
 else
 (Z1A x3)))
 else
 (if (b0.Kind == 7) = true then
 (if (b0.Kind == 7) = true then
 (Z1A (IntKind.i64.wrap (x3 + 2)))
 else
 (if (b0.Kind == 4) = true then
 (if (decide (b0.Hi < 0)) = true then
 (Z1M (IntKind.i64.wrap ((IntKind.i64.wrap (b0.Lo * x3)) + (IntKind.i64.wrap (x3 + 4)))) b0)
 else
 (Z1M ((IntKind.i64.wrap ((IntKind.i64.wrap (b0.Lo * x3)) + (IntKind.i64.wrap ((IntKind.i64.wrap (b0.Hi - b0.Lo)) * (IntKind.i64.wrap (x3 + 1))))))) b0))
 else
 (Z1A x3)))
 else
 (if (b0.Kind == 8) = true then
 (Z1A (IntKind.i64.wrap (x3 + 2)))
 else
 (if (b0.Kind == 4) = true then
 (if (decide (b0.Hi < 0)) = true then
 (Z1M (IntKind.i64.wrap ((IntKind.i64.wrap (b0.Lo * x3)) + (IntKind.i64.wrap (x3 + 4)))) b0)
 else
 (Z1M ((IntKind.i64.wrap ((IntKind.i64.wrap (b0.Lo * x3)) + (IntKind.i64.wrap ((IntKind.i64.wrap (b0.Hi - b0.Lo)) * (IntKind.i64.wrap (x3 + 1))))))) b0))
 else
 (Z1A x3)))))))
 else
 (if (b0.Kind == 6) = true then
 (if (b0.Kind == 6) = true then
 (some (1))
 else
 (if (b0.Kind == 3) = true then
 (Z1A ((IntKind.i64.wrap (x3 + (IntKind.i64.wrap (2 * (IntKind.i64.wrap ((b0.Kids.length : Int) - 1))))))))
 else
 (if (b0.Kind == 5) = true then
 (if (b0.Kind == 5) = true then
 (Z1A (IntKind.i64.wrap (x3 + 2)))
 else
 (if (b0.Kind == 4) = true then
 (if (decide (b0.Hi < 0)) = true then
 (Z1M (IntKind.i64.wrap ((IntKind.i64.wrap (b0.Lo * x3)) + (IntKind.i64.wrap (x3 + 4)))) b0)
 else
 (Z1M ((IntKind.i64.wrap ((IntKind.i64.wrap (b0.Lo * x3)) + (IntKind.i64.wrap ((IntKind.i64.wrap (b0.Hi - b0.Lo)) * (IntKind.i64.wrap (x3 + 1))))))) b0))
 else
 (Z1A x3)))
 else
 (if (b0.Kind == 7) = true then
 (if (b0.Kind == 7) = true then
 (Z1A (IntKind.i64.wrap (x3 + 2)))
 else
 (if (b0.Kind == 4) = true then
 (if (decide (b0.Hi < 0)) = true then
 (Z1M (IntKind.i64.wrap ((IntKind.i64.wrap (b0.Lo * x3)) + (IntKind.i64.wrap (x3 + 4)))) b0)
 else
 (Z1M ((IntKind.i64.wrap ((IntKind.i64.wrap (b0.Lo * x3)) + (IntKind.i64.wrap ((IntKind.i64.wrap (b0.Hi - b0.Lo)) * (IntKind.i64.wrap (x3 + 1))))))) b0))
 else
 (Z1A x3)))
 else
 (if (b0.Kind == 8) = true then
 (Z1A (IntKind.i64.wrap (x3 + 2)))
 else
 (if (b0.Kind == 4) = true then
 (if (decide (b0.Hi < 0)) = true then
 (Z1M (IntKind.i64.wrap ((IntKind.i64.wrap (b0.Lo * x3)) + (IntKind.i64.wrap (x3 + 4)))) b0)
 else
 (Z1M ((IntKind.i64.wrap ((IntKind.i64.wrap (b0.Lo * x3)) + (IntKind.i64.wrap ((IntKind.i64.wrap (b0.Hi - b0.Lo)) * (IntKind.i64.wrap (x3 + 1))))))) b0))
 else
 (Z1A x3)))))))
 else
 (if (b0.Kind == 9) = true then
 (some (1))
 else
 (if (b0.Kind == 3) = true then
 (Z1A ((IntKind.i64.wrap (x3 + (IntKind.i64.wrap (2 * (IntKind.i64.wrap ((b0.Kids.length : Int) - 1))))))))
 else
 (if (b0.Kind == 5) = true then
 (if (b0.Kind == 5) = true then
 (Z1A (IntKind.i64.wrap (x3 + 2)))
 else
 (if (b0.Kind == 4) = true then
 (if (decide (b0.Hi < 0)) = true then
 (Z1M (IntKind.i64.wrap ((IntKind.i64.wrap (b0.Lo * x3)) + (IntKind.i64.wrap (x3 + 4)))) b0)
 else
 (Z1M ((IntKind.i64.wrap ((IntKind.i64.wrap (b0.Lo * x3)) + (IntKind.i64.wrap ((IntKind.i64.wrap (b0.Hi - b0.Lo)) * (IntKind.i64.wrap (x3 + 1))))))) b0))
 else
 (Z1A x3)))
 else
 (if (b0.Kind == 7) = true then
 (if (b0.Kind == 7) = true then
 (Z1A (IntKind.i64.wrap (x3 + 2)))
 else
 (if (b0.Kind == 4) = true then
 (if (decide (b0.Hi < 0)) = true then
 (Z1M (IntKind.i64.wrap ((IntKind.i64.wrap (b0.Lo * x3)) + (IntKind.i64.wrap (x3 + 4)))) b0)
 else
 (Z1M ((IntKind.i64.wrap ((IntKind.i64.wrap (b0.Lo * x3)) + (IntKind.i64.wrap ((IntKind.i64.wrap (b0.Hi - b0.Lo)) * (IntKind.i64.wrap (x3 + 1))))))) b0))
 else
 (Z1A x3)))
 else
 (if (b0.Kind == 8) = true then
 (Z1A (IntKind.i64.wrap (x3 + 2)))
 else
 (if (b0.Kind == 4) = true then
 (if (decide (b0.Hi < 0)) = true then
 (Z1M (IntKind.i64.wrap ((IntKind.i64.wrap (b0.Lo * x3)) + (IntKind.i64.wrap (x3 + 4)))) b0)
 else
 (Z1M ((IntKind.i64.wrap ((IntKind.i64.wrap (b0.Lo * x3)) + (IntKind.i64.wrap ((IntKind.i64.wrap (b0.Hi - b0.Lo)) * (IntKind.i64.wrap (x3 + 1))))))) b0))
 else
 (Z1A x3))))))))
theorem ZnR x3 b0 z1R z1y : Sim (Z4W) (Z5f x3 b0) (ZvB 0 (.ptr 0 0) (iv x3) [(Zq b0 z1R z1y)]) := by
 unfold Z5f
 refine zf (ZBk ..)<|ze<|zq<|zq<|ze<|zq ?_
 refine za (b0.Kind == 1) ?_ ?_
 ·refine za (b0.Kind == 1) ?_ ?_
  ·refine ze ?_
   exact zr ((iv 1), [(Zq b0 z1R z1y)]) ⟨_, rfl⟩
  ·refine ze<|zq ?_
   refine za (b0.Kind == 3) ?_ ?_
   ·refine ze<|zq<|zq ?_
    refine zo (iv (b0.Kids.length : Int)) ?_ (Eq.trans (by kernel_rfl) (Z3d (P := PP) (t := 96) (d := 98) (by kernel_rfl) ZS (shrO z1y) b0.Kids))
    refine zq<|zq<|zq ?_
    exact zk (Z1C ((IntKind.i64.wrap (x3 + (IntKind.i64.wrap (2 * (IntKind.i64.wrap ((b0.Kids.length : Int) - 1))))))))
   ·refine ze<|zq ?_
    refine za (b0.Kind == 5) ?_ ?_
    ·refine za (b0.Kind == 5) ?_ ?_
     ·refine ze<|zq ?_
      exact zk (Z1C (IntKind.i64.wrap (x3 + 2)))
     ·refine ze<|zq ?_
      refine za (b0.Kind == 4) ?_ ?_
      ·refine ze<|ze<|zq<|zq<|zq<|ze<|zq<|zq<|zq ?_
       refine za (decide (b0.Hi < 0)) ?_ ?_
       ·refine ze<|zq<|zq ?_
        exact zk (Z1W (IntKind.i64.wrap ((IntKind.i64.wrap (b0.Lo * x3)) + (IntKind.i64.wrap (x3 + 4)))) b0 z1R z1y)
       ·refine ze<|zq<|zq<|zq<|zq<|zq<|zq<|zq<|zq ?_
        exact zk (Z1W ((IntKind.i64.wrap ((IntKind.i64.wrap (b0.Lo * x3)) + (IntKind.i64.wrap ((IntKind.i64.wrap (b0.Hi - b0.Lo)) * (IntKind.i64.wrap (x3 + 1))))))) b0 z1R z1y)
      ·exact zk (Z1C x3)
    ·refine ze<|zq ?_
     refine za (b0.Kind == 7) ?_ ?_
     ·refine za (b0.Kind == 7) ?_ ?_
      ·refine ze<|zq ?_
       exact zk (Z1C (IntKind.i64.wrap (x3 + 2)))
      ·refine ze<|zq ?_
       refine za (b0.Kind == 4) ?_ ?_
       ·refine ze<|ze<|zq<|zq<|zq<|ze<|zq<|zq<|zq ?_
        refine za (decide (b0.Hi < 0)) ?_ ?_
        ·refine ze<|zq<|zq ?_
         exact zk (Z1W (IntKind.i64.wrap ((IntKind.i64.wrap (b0.Lo * x3)) + (IntKind.i64.wrap (x3 + 4)))) b0 z1R z1y)
        ·refine ze<|zq<|zq<|zq<|zq<|zq<|zq<|zq<|zq ?_
         exact zk (Z1W ((IntKind.i64.wrap ((IntKind.i64.wrap (b0.Lo * x3)) + (IntKind.i64.wrap ((IntKind.i64.wrap (b0.Hi - b0.Lo)) * (IntKind.i64.wrap (x3 + 1))))))) b0 z1R z1y)
       ·exact zk (Z1C x3)
     ·refine ze<|zq ?_
      refine za (b0.Kind == 8) ?_ ?_
      ·refine ze<|zq ?_
       exact zk (Z1C (IntKind.i64.wrap (x3 + 2)))
      ·refine ze<|zq ?_
       refine za (b0.Kind == 4) ?_ ?_
       ·refine ze<|ze<|zq<|zq<|zq<|ze<|zq<|zq<|zq ?_
        refine za (decide (b0.Hi < 0)) ?_ ?_
        ·refine ze<|zq<|zq ?_
         exact zk (Z1W (IntKind.i64.wrap ((IntKind.i64.wrap (b0.Lo * x3)) + (IntKind.i64.wrap (x3 + 4)))) b0 z1R z1y)
        ·refine ze<|zq<|zq<|zq<|zq<|zq<|zq<|zq<|zq ?_
         exact zk (Z1W ((IntKind.i64.wrap ((IntKind.i64.wrap (b0.Lo * x3)) + (IntKind.i64.wrap ((IntKind.i64.wrap (b0.Hi - b0.Lo)) * (IntKind.i64.wrap (x3 + 1))))))) b0 z1R z1y)
       ·exact zk (Z1C x3)
 ·refine ze<|zq ?_
  refine za (b0.Kind == 6) ?_ ?_
  ·refine za (b0.Kind == 6) ?_ ?_
   ·refine ze ?_
    exact zr ((iv 1), [(Zq b0 z1R z1y)]) ⟨_, rfl⟩
   ·refine ze<|zq ?_
    refine za (b0.Kind == 3) ?_ ?_
    ·refine ze<|zq<|zq ?_
     refine zo (iv (b0.Kids.length : Int)) ?_ (Eq.trans (by kernel_rfl) (Z3d (P := PP) (t := 96) (d := 98) (by kernel_rfl) ZS (shrO z1y) b0.Kids))
     refine zq<|zq<|zq ?_
     exact zk (Z1C ((IntKind.i64.wrap (x3 + (IntKind.i64.wrap (2 * (IntKind.i64.wrap ((b0.Kids.length : Int) - 1))))))))
    ·refine ze<|zq ?_
     refine za (b0.Kind == 5) ?_ ?_
     ·refine za (b0.Kind == 5) ?_ ?_
      ·refine ze<|zq ?_
       exact zk (Z1C (IntKind.i64.wrap (x3 + 2)))
      ·refine ze<|zq ?_
       refine za (b0.Kind == 4) ?_ ?_
       ·refine ze<|ze<|zq<|zq<|zq<|ze<|zq<|zq<|zq ?_
        refine za (decide (b0.Hi < 0)) ?_ ?_
        ·refine ze<|zq<|zq ?_
         exact zk (Z1W (IntKind.i64.wrap ((IntKind.i64.wrap (b0.Lo * x3)) + (IntKind.i64.wrap (x3 + 4)))) b0 z1R z1y)
        ·refine ze<|zq<|zq<|zq<|zq<|zq<|zq<|zq<|zq ?_
         exact zk (Z1W ((IntKind.i64.wrap ((IntKind.i64.wrap (b0.Lo * x3)) + (IntKind.i64.wrap ((IntKind.i64.wrap (b0.Hi - b0.Lo)) * (IntKind.i64.wrap (x3 + 1))))))) b0 z1R z1y)
       ·exact zk (Z1C x3)
     ·refine ze<|zq ?_
      refine za (b0.Kind == 7) ?_ ?_
      ·refine za (b0.Kind == 7) ?_ ?_
       ·refine ze<|zq ?_
        exact zk (Z1C (IntKind.i64.wrap (x3 + 2)))
       ·refine ze<|zq ?_
        refine za (b0.Kind == 4) ?_ ?_
        ·refine ze<|ze<|zq<|zq<|zq<|ze<|zq<|zq<|zq ?_
         refine za (decide (b0.Hi < 0)) ?_ ?_
         ·refine ze<|zq<|zq ?_
          exact zk (Z1W (IntKind.i64.wrap ((IntKind.i64.wrap (b0.Lo * x3)) + (IntKind.i64.wrap (x3 + 4)))) b0 z1R z1y)
         ·refine ze<|zq<|zq<|zq<|zq<|zq<|zq<|zq<|zq ?_
          exact zk (Z1W ((IntKind.i64.wrap ((IntKind.i64.wrap (b0.Lo * x3)) + (IntKind.i64.wrap ((IntKind.i64.wrap (b0.Hi - b0.Lo)) * (IntKind.i64.wrap (x3 + 1))))))) b0 z1R z1y)
        ·exact zk (Z1C x3)
      ·refine ze<|zq ?_
       refine za (b0.Kind == 8) ?_ ?_
       ·refine ze<|zq ?_
        exact zk (Z1C (IntKind.i64.wrap (x3 + 2)))
       ·refine ze<|zq ?_
        refine za (b0.Kind == 4) ?_ ?_
        ·refine ze<|ze<|zq<|zq<|zq<|ze<|zq<|zq<|zq ?_
         refine za (decide (b0.Hi < 0)) ?_ ?_
         ·refine ze<|zq<|zq ?_
          exact zk (Z1W (IntKind.i64.wrap ((IntKind.i64.wrap (b0.Lo * x3)) + (IntKind.i64.wrap (x3 + 4)))) b0 z1R z1y)
         ·refine ze<|zq<|zq<|zq<|zq<|zq<|zq<|zq<|zq ?_
          exact zk (Z1W ((IntKind.i64.wrap ((IntKind.i64.wrap (b0.Lo * x3)) + (IntKind.i64.wrap ((IntKind.i64.wrap (b0.Hi - b0.Lo)) * (IntKind.i64.wrap (x3 + 1))))))) b0 z1R z1y)
        ·exact zk (Z1C x3)
  ·refine ze<|zq ?_
   refine za (b0.Kind == 9) ?_ ?_
   ·refine ze ?_
    exact zr ((iv 1), [(Zq b0 z1R z1y)]) ⟨_, rfl⟩
   ·refine ze<|zq ?_
    refine za (b0.Kind == 3) ?_ ?_
    ·refine ze<|zq<|zq ?_
     refine zo (iv (b0.Kids.length : Int)) ?_ (Eq.trans (by kernel_rfl) (Z3d (P := PP) (t := 96) (d := 98) (by kernel_rfl) ZS (shrO z1y) b0.Kids))
     refine zq<|zq<|zq ?_
     exact zk (Z1C ((IntKind.i64.wrap (x3 + (IntKind.i64.wrap (2 * (IntKind.i64.wrap ((b0.Kids.length : Int) - 1))))))))
    ·refine ze<|zq ?_
     refine za (b0.Kind == 5) ?_ ?_
     ·refine za (b0.Kind == 5) ?_ ?_
      ·refine ze<|zq ?_
       exact zk (Z1C (IntKind.i64.wrap (x3 + 2)))
      ·refine ze<|zq ?_
       refine za (b0.Kind == 4) ?_ ?_
       ·refine ze<|ze<|zq<|zq<|zq<|ze<|zq<|zq<|zq ?_
        refine za (decide (b0.Hi < 0)) ?_ ?_
        ·refine ze<|zq<|zq ?_
         exact zk (Z1W (IntKind.i64.wrap ((IntKind.i64.wrap (b0.Lo * x3)) + (IntKind.i64.wrap (x3 + 4)))) b0 z1R z1y)
        ·refine ze<|zq<|zq<|zq<|zq<|zq<|zq<|zq<|zq ?_
         exact zk (Z1W ((IntKind.i64.wrap ((IntKind.i64.wrap (b0.Lo * x3)) + (IntKind.i64.wrap ((IntKind.i64.wrap (b0.Hi - b0.Lo)) * (IntKind.i64.wrap (x3 + 1))))))) b0 z1R z1y)
       ·exact zk (Z1C x3)
     ·refine ze<|zq ?_
      refine za (b0.Kind == 7) ?_ ?_
      ·refine za (b0.Kind == 7) ?_ ?_
       ·refine ze<|zq ?_
        exact zk (Z1C (IntKind.i64.wrap (x3 + 2)))
       ·refine ze<|zq ?_
        refine za (b0.Kind == 4) ?_ ?_
        ·refine ze<|ze<|zq<|zq<|zq<|ze<|zq<|zq<|zq ?_
         refine za (decide (b0.Hi < 0)) ?_ ?_
         ·refine ze<|zq<|zq ?_
          exact zk (Z1W (IntKind.i64.wrap ((IntKind.i64.wrap (b0.Lo * x3)) + (IntKind.i64.wrap (x3 + 4)))) b0 z1R z1y)
         ·refine ze<|zq<|zq<|zq<|zq<|zq<|zq<|zq<|zq ?_
          exact zk (Z1W ((IntKind.i64.wrap ((IntKind.i64.wrap (b0.Lo * x3)) + (IntKind.i64.wrap ((IntKind.i64.wrap (b0.Hi - b0.Lo)) * (IntKind.i64.wrap (x3 + 1))))))) b0 z1R z1y)
        ·exact zk (Z1C x3)
      ·refine ze<|zq ?_
       refine za (b0.Kind == 8) ?_ ?_
       ·refine ze<|zq ?_
        exact zk (Z1C (IntKind.i64.wrap (x3 + 2)))
       ·refine ze<|zq ?_
        refine za (b0.Kind == 4) ?_ ?_
        ·refine ze<|ze<|zq<|zq<|zq<|ze<|zq<|zq<|zq ?_
         refine za (decide (b0.Hi < 0)) ?_ ?_
         ·refine ze<|zq<|zq ?_
          exact zk (Z1W (IntKind.i64.wrap ((IntKind.i64.wrap (b0.Lo * x3)) + (IntKind.i64.wrap (x3 + 4)))) b0 z1R z1y)
         ·refine ze<|zq<|zq<|zq<|zq<|zq<|zq<|zq<|zq ?_
          exact zk (Z1W ((IntKind.i64.wrap ((IntKind.i64.wrap (b0.Lo * x3)) + (IntKind.i64.wrap ((IntKind.i64.wrap (b0.Hi - b0.Lo)) * (IntKind.i64.wrap (x3 + 1))))))) b0 z1R z1y)
        ·exact zk (Z1C x3)
def Za9 (x3 : Int) (x8 : List Z7) (x9 x10 : Int) (b0 : Z7) : Option (Int) :=
 if (decide (x10 < x9)) = true then
 (Zc7 x3 x8 x9 x10 b0)
 else
 (Z5f x3 b0)
theorem ZnP x3 (x8 : List Z7) x9 x10 b0 ox8 z1R z1y : Sim (Z4W) (Za9 x3 x8 x9 x10 b0) (Zlk 0 (.ptr 0 0) (iv x3) (.p (.lst ox8 (x8.map ZS))) (iv x9) (iv x10) [(Zq b0 z1R z1y)]) := by
 unfold Za9
 refine zf (ZBi ..)<|ze<|zq ?_
 refine za (decide (x10 < x9)) ?_ ?_
 ·exact zk (ZnQ x3 x8 x9 x10 b0 ox8 z1R z1y)
 ·exact zk (ZnR x3 b0 z1R z1y)
theorem Zhq (x3 : Int) (x8 : List Z7) (x9 x10 : Int) (b0 : Z7) {r} (h : Za9 x3 x8 x9 x10 b0 = some r) : Z6g x3 x8 x9 x10 b0 = some r :=
 Z1a (fun _ _ ha hb => RRun.uniq Zl6 (ha .ex .ex .ex) (hb .ex .ex .ex)) (fun ox8 z1R z1y => ZnP x3 x8 x9 x10 b0 ox8 z1R z1y r h)
def Zaa (b0 : Zz) : Option (ZJ) :=
 Z8n b0.Rules (b0.Rules.length : Int) 0
theorem ZkP b0 b1 zB : Sim (Z3R) (Zaa b0) (Zv4 0 (.ptr 0 0) (.ptr 1 0) [(Zv b0 zB), (ZR b1)]) := by
 unfold Zaa
 refine zf (ZAN ..)<|ze<|zq<|zq ?_
 refine zo (iv (b0.Rules.length : Int)) ?_ (Eq.trans (by kernel_rfl) (Z3d (P := PP) (t := 22) (d := 43) (by kernel_rfl) ZC (shrO zB) b0.Rules))
 exact zk (Zf1 b0.Rules (b0.Rules.length : Int) 0 b0 b1 (shrO zB) zB)
def Zca (x0 : Zz) : Option (ZJ) :=
 (Z9s x0).bind fun r1 =>
 if (!r1) = true then
 (some (ZJ.mk 10 0 0))
 else
 (Zaa x0)
theorem ZnW x0 zW : Sim (Z3R) (Zca x0) (EE 16 [(.p (.agg (Z1e x0 zW)))] []) := by
 unfold Zca
 refine zf (ZFZ ..)<|ze<|zx (.ptr 0 0) [(Zv x0 zW)]<|zz (.ptr 1 0) [(Zv x0 zW), (ZR (ZJ.mk 0 0 0))]<|ze<|zq<|zi fun r1 hr1 => ?_
 obtain ⟨qr1, er1, exr1, rfl⟩ := Zga x0 .sh r1 hr1
 refine zc [] (bv r1) [(Zv x0 zW), (ZR (ZJ.mk 0 0 0))] er1<|zq ?_
 refine za (!r1) ?_ ?_
 ·refine ze<|zq<|zt [(Zv x0 zW), (ZR (ZJ.mk 10 0 0))] ?_
  exact zr ((.p (.agg (Z19 (ZJ.mk 10 0 0)))), [(Zv x0 zW), (ZR (ZJ.mk 10 0 0))]) ⟨_, rfl⟩
 ·exact zk (ZkP x0 (ZJ.mk 0 0 0) zW)
theorem Zol (x0 : Zz) {r} (h : Zca x0 = some r) : Z7t x0 = some r :=
 Z1a (fun _ _ ha hb => RRun.uniq ZhX (ha .ex) (hb .ex)) (fun zW => ZnW x0 zW r h)
def Z9J (x11 : List Zw) (x12 x13 : Int) : Option (ZJ) :=
 Z8n x11 x12 (IntKind.i64.wrap (x13 + 1))
theorem ZjZ (x11 : List Zw) x12 x13 b0 b1 ox11 zB : Sim (Z3R) (Z9J x11 x12 x13) (ZsN 0 (.ptr 1 0) (.p (.lst ox11 (x11.map ZC))) (iv x12) (iv x13) [(Zv b0 zB), (ZR b1)]) := by
 unfold Z9J
 refine zf (Zz2 ..)<|ze<|zq ?_
 exact zk (Zf1 x11 x12 (IntKind.i64.wrap (x13 + 1)) b0 b1 ox11 zB)
def Zab (x11 : List Zw) (x12 x13 : Int) : Option (ZJ) :=
 (lget x11 x13).bind fun a1 =>
 (Z5a a1.Pattern).bind fun r2 =>
 if (r2.Code != 0) = true then
 (some (ZJ.mk r2.Code a1.ID r2.At))
 else
 (Z9J x11 x12 x13)
theorem ZkQ (x11 : List Zw) x12 x13 b0 b1 ox11 zB : Sim (Z3R) (Zab x11 x12 x13) (Zv5 0 (.ptr 1 0) (.p (.lst ox11 (x11.map ZC))) (iv x12) (iv x13) [(Zv b0 zB), (ZR b1)]) := by
 unfold Zab
 refine zf (ZAO ..)<|ze<|zi fun a1 ha1 => ?_
 refine zo (.cptr (Z1J a1)) ?_ (Eq.trans (by kernel_rfl) (Z40 (o := ox11) (k := .i64) (n := 5) (e := ZC) (cs := Z5O) (fun _ => rfl) (fun _ => rfl) (by decide) ha1))
 refine zq<|zz (.ptr 2 0) [(Zv b0 zB), (ZR b1), (Z1v (Zw.mk 0 0 0 0 (ByteArray.mk #[])))]<|zt [(Zv b0 zB), (ZR b1), (Z1v a1)]<|ze<|zq<|zq<|zi fun r2 hr2 => ?_
 obtain ⟨qr2, er2, exr2, rfl⟩ := ZfH a1.Pattern r2 hr2
 refine zc [] (.p (.agg (Z19 r2))) [(Zv b0 zB), (ZR b1), (Z1v a1)] er2<|zz (.ptr 3 0) [(Zv b0 zB), (ZR b1), (Z1v a1), (ZR (ZJ.mk 0 0 0))]<|zt [(Zv b0 zB), (ZR b1), (Z1v a1), (ZR r2)]<|ze<|zq<|zq<|zq ?_
 refine za (r2.Code != 0) ?_ ?_
 ·refine ze<|zq<|zq<|zq<|zt [(Zv b0 zB), (ZR b1), (Z1v a1), (ZR (ZJ.mk r2.Code a1.ID r2.At))]<|ze<|zq<|zt [(Zv b0 zB), (ZR (ZJ.mk r2.Code a1.ID r2.At)), (Z1v a1), (ZR (ZJ.mk r2.Code a1.ID r2.At))] ?_
  exact zr ((.p (.agg (Z19 (ZJ.mk r2.Code a1.ID r2.At)))), [(Zv b0 zB), (ZR (ZJ.mk r2.Code a1.ID r2.At)), (Z1v a1), (ZR (ZJ.mk r2.Code a1.ID r2.At))]) ⟨_, rfl⟩
 ·exact zk (ZjZ x11 x12 x13 b0 b1 ox11 zB)
def Z9K  : Option (ZJ) :=
 some (ZJ.mk 0 0 0)
theorem Zk0 b0 b1 zB : Sim (Z3R) (Z9K) (ZsO 0 (.ptr 1 0) [(Zv b0 zB), (ZR b1)]) := by
 unfold Z9K
 refine zf (Zz3 ..)<|ze<|zq<|zt [(Zv b0 zB), (ZR (ZJ.mk 0 0 0))] ?_
 exact zr ((.p (.agg (Z19 (ZJ.mk 0 0 0)))), [(Zv b0 zB), (ZR (ZJ.mk 0 0 0))]) ⟨_, rfl⟩
def Z8j (x11 : List Zw) (x12 x13 : Int) : Option (ZJ) :=
 if (decide (x13 < x12)) = true then
 (Zab x11 x12 x13)
 else
 (Z9K)
theorem ZkO (x11 : List Zw) x12 x13 b0 b1 ox11 zB : Sim (Z3R) (Z8j x11 x12 x13) (Zld 0 (.ptr 1 0) (.p (.lst ox11 (x11.map ZC))) (iv x12) (iv x13) [(Zv b0 zB), (ZR b1)]) := by
 unfold Z8j
 refine zf (ZAM ..)<|ze<|zq ?_
 refine za (decide (x13 < x12)) ?_ ?_
 ·exact zk (ZkQ x11 x12 x13 b0 b1 ox11 zB)
 ·exact zk (Zk0 b0 b1 zB)
theorem Zf0 (x11 : List Zw) (x12 x13 : Int) {r} (h : Z8j x11 x12 x13 = some r) : Z8n x11 x12 x13 = some r :=
 Z1a (fun _ _ ha hb => RRun.uniq ZhX (ha default default .ex .ex) (hb default default .ex .ex)) (fun b0 b1 ox11 zB => ZkO x11 x12 x13 b0 b1 ox11 zB r h)
def Z7M  : Option (Bool) :=
 some (false)
theorem Zdl  : Sim (Z2Q) (Z7M) (Zra 0  []) := by
 unfold Z7M
 refine zf (ZAQ ..)<|ze ?_
 exact zr ((bv false), []) ⟨_, rfl⟩
def Z9C (b0 : Zz) : Option (Bool) :=
 Z7Q 0 b0.Rules (b0.Rules.length : Int) 0
theorem ZjR b0 zB : Sim (Z2Q) (Z9C b0) (Zvc 0 (.ptr 0 0) [(Zv b0 zB)]) := by
 unfold Z9C
 refine zf (ZAR ..)<|ze<|ze<|zq<|zq ?_
 refine zo (iv (b0.Rules.length : Int)) ?_ (Eq.trans (by kernel_rfl) (Z3d (P := PP) (t := 22) (d := 43) (by kernel_rfl) ZC (shrO zB) b0.Rules))
 exact zk (ZdV 0 b0.Rules (b0.Rules.length : Int) 0 (shrO zB))
def Zbv (x0 : Zz) : Option (Bool) :=
 (Z7R x0).bind fun r1 =>
 if (!r1) = true then
 (Z7M)
 else
 (if (decide (16 < (x0.Rules.length : Int))) = true then
 (Z7M)
 else
 (Z9C x0))
theorem ZmT x0 zW : Sim (Z2Q) (Zbv x0) (EE 20 [(.p (.agg (Z1e x0 zW)))] []) := by
 unfold Zbv
 refine zf (ZG1 ..)<|ze<|zx (.ptr 0 0) [(Zv x0 zW)]<|ze<|zq<|zi fun r1 hr1 => ?_
 obtain ⟨qr1, er1, exr1, rfl⟩ := ZdW x0 .sh r1 hr1
 refine zc [] (bv r1) [(Zv x0 zW)] er1<|zq ?_
 refine za (!r1) ?_ ?_
 ·exact zk (Zdl )
 ·refine zq<|zq ?_
  refine zo (iv (x0.Rules.length : Int)) ?_ (Eq.trans (by kernel_rfl) (Z3d (P := PP) (t := 22) (d := 43) (by kernel_rfl) ZC (shrO zW) x0.Rules))
  refine zq ?_
  refine za (decide (16 < (x0.Rules.length : Int))) ?_ ?_
  ·exact zk (Zdl )
  ·exact zk (ZjR x0 zW)
theorem ZnO (x0 : Zz) {r} (h : Zbv x0 = some r) : Z9s x0 = some r :=
 Z1a (fun _ _ ha hb => RRun.uniq Zh2 (ha .ex) (hb .ex)) (fun zW => ZmT x0 zW r h)
def Z7N  : Option (Bool) :=
 some (false)
theorem Zdm  : Sim (Z2Q) (Z7N) (Zrb 0  []) := by
 unfold Z7N
 refine zf (ZAT ..)<|ze ?_
 exact zr ((bv false), []) ⟨_, rfl⟩
def Z8X (x3 : Int) (x16 : List Zw) (x17 x18 : Int) : Option (Bool) :=
 Z7Q x3 x16 x17 (IntKind.i64.wrap (x18 + 1))
theorem Zjk x3 (x16 : List Zw) x17 x18 ox16 : Sim (Z2Q) (Z8X x3 x16 x17 x18) (Zte 0 (iv x3) (.p (.lst ox16 (x16.map ZC))) (iv x17) (iv x18) []) := by
 unfold Z8X
 refine zf (Zzq ..)<|ze<|zq ?_
 exact zk (ZdV x3 x16 x17 (IntKind.i64.wrap (x18 + 1)) ox16)
def Z9E (x16 : List Zw) (x17 x18 : Int) (b0 : Zw) : Option (Bool) :=
 Z8X b0.ID x16 x17 x18
theorem ZjT (x16 : List Zw) x17 x18 b0 ox16 : Sim (Z2Q) (Z9E x16 x17 x18 b0) (Zve 0 (.ptr 0 0) (.p (.lst ox16 (x16.map ZC))) (iv x17) (iv x18) [(Z1v b0)]) := by
 unfold Z9E
 refine zf (ZAU ..)<|ze<|zq<|zq ?_
 exact zk (Zjk b0.ID x16 x17 x18 ox16)
def Z9D (x3 : Int) (x16 : List Zw) (x17 x18 : Int) : Option (Bool) :=
 (lget x16 x18).bind fun a1 =>
 (Z8R a1).bind fun r2 =>
 if (!r2) = true then
 (Z7N)
 else
 (if (decide (a1.ID ≤ x3)) = true then
 (Z7N)
 else
 (Z9E x16 x17 x18 a1))
theorem ZjS x3 (x16 : List Zw) x17 x18 ox16 : Sim (Z2Q) (Z9D x3 x16 x17 x18) (Zvd 0 (iv x3) (.p (.lst ox16 (x16.map ZC))) (iv x17) (iv x18) []) := by
 unfold Z9D
 refine zf (ZAS ..)<|ze<|zi fun a1 ha1 => ?_
 refine zo (.cptr (Z1J a1)) ?_ (Eq.trans (by kernel_rfl) (Z40 (o := ox16) (k := .i64) (n := 5) (e := ZC) (cs := Z5O) (fun _ => rfl) (fun _ => rfl) (by decide) ha1))
 refine zq<|zz (.ptr 0 0) [(Z1v (Zw.mk 0 0 0 0 (ByteArray.mk #[])))]<|zt [(Z1v a1)]<|ze<|zq<|zi fun r2 hr2 => ?_
 obtain ⟨qr2, er2, exr2, rfl⟩ := Zft a1 r2 hr2
 refine zc [] (bv r2) [(Z1v a1)] er2<|zq ?_
 refine za (!r2) ?_ ?_
 ·exact zk (Zdm )
 ·refine zq<|zq<|zq ?_
  refine za (decide (a1.ID ≤ x3)) ?_ ?_
  ·exact zk (Zdm )
  ·exact zk (ZjT x16 x17 x18 a1 ox16)
def Zbw  : Option (Bool) :=
 some (true)
theorem Zjl  : Sim (Z2Q) (Zbw) (Ztf 0  []) := by
 unfold Zbw
 refine zf (Zzr ..)<|ze ?_
 exact zr ((bv true), []) ⟨_, rfl⟩
def Z7L (x3 : Int) (x16 : List Zw) (x17 x18 : Int) : Option (Bool) :=
 if (decide (x18 < x17)) = true then
 (Z9D x3 x16 x17 x18)
 else
 (Zbw)
theorem ZjQ x3 (x16 : List Zw) x17 x18 ox16 : Sim (Z2Q) (Z7L x3 x16 x17 x18) (Zlg 0 (iv x3) (.p (.lst ox16 (x16.map ZC))) (iv x17) (iv x18) []) := by
 unfold Z7L
 refine zf (ZAP ..)<|ze<|zq ?_
 refine za (decide (x18 < x17)) ?_ ?_
 ·exact zk (ZjS x3 x16 x17 x18 ox16)
 ·exact zk (Zjl )
theorem ZdU (x3 : Int) (x16 : List Zw) (x17 x18 : Int) {r} (h : Z7L x3 x16 x17 x18 = some r) : Z7Q x3 x16 x17 x18 = some r :=
 Z1a (fun _ _ ha hb => RRun.uniq Zh2 (ha .ex) (hb .ex)) (fun ox16 => ZjQ x3 x16 x17 x18 ox16 r h)
def Z9F (x0 : Zz) : Option (Bool) :=
 if (decide (0 ≤ x0.Default)) = true then
 (if (decide (x0.Default ≤ 255)) = true then
 (if (decide (0 ≤ x0.Closed)) = true then
 (if (decide (x0.Closed ≤ 255)) = true then
 (if (decide (1 ≤ x0.Fuel)) = true then
 (if (decide (x0.Fuel ≤ 1048576)) = true then
 (if (decide (0 ≤ x0.Stack)) = true then
 (some (decide (x0.Stack ≤ 4096)))
 else
 (some (false)))
 else
 (some (false)))
 else
 (some (false)))
 else
 (some (false)))
 else
 (some (false)))
 else
 (some (false)))
 else
 (some (false))
theorem ZjU x0 zW : Sim (Z7G) (Z9F x0) (EE 46 [(.p (.agg (Z1e x0 zW)))] []) := by
 unfold Z9F
 refine zf (ZGi ..)<|ze<|zx (.ptr 0 0) [(Zv x0 zW)]<|ze<|zq<|zq<|zq ?_
 refine za (decide (0 ≤ x0.Default)) ?_ ?_
 ·refine zq<|zq<|zq ?_
  refine za (decide (x0.Default ≤ 255)) ?_ ?_
  ·refine zq<|zq<|zq ?_
   refine za (decide (0 ≤ x0.Closed)) ?_ ?_
   ·refine zq<|zq<|zq ?_
    refine za (decide (x0.Closed ≤ 255)) ?_ ?_
    ·refine zq<|zq<|zq ?_
     refine za (decide (1 ≤ x0.Fuel)) ?_ ?_
     ·refine zq<|zq<|zq ?_
      refine za (decide (x0.Fuel ≤ 1048576)) ?_ ?_
      ·refine zq<|zq<|zq ?_
       refine za (decide (0 ≤ x0.Stack)) ?_ ?_
       ·refine zq<|zq<|zq ?_
        exact zr ((bv (decide (x0.Stack ≤ 4096))), [(Zv x0 zW)]) ⟨_, rfl⟩
       ·exact zr ((bv false), [(Zv x0 zW)]) ⟨_, rfl⟩
      ·exact zr ((bv false), [(Zv x0 zW)]) ⟨_, rfl⟩
     ·exact zr ((bv false), [(Zv x0 zW)]) ⟨_, rfl⟩
    ·exact zr ((bv false), [(Zv x0 zW)]) ⟨_, rfl⟩
   ·exact zr ((bv false), [(Zv x0 zW)]) ⟨_, rfl⟩
  ·exact zr ((bv false), [(Zv x0 zW)]) ⟨_, rfl⟩
 ·exact zr ((bv false), [(Zv x0 zW)]) ⟨_, rfl⟩
theorem ZkK (x0 : Zz) {r} (h : Z9F x0 = some r) : Z7R x0 = some r :=
 Z1a (fun _ _ ha hb => RRun.uniq Zl4 (ha .ex) (hb .ex)) (fun zW => ZjU x0 zW r h)
def ZaA (x0 : Zw) : Option (Bool) :=
 if (decide (1 ≤ x0.ID)) = true then
 (if (decide (x0.ID ≤ 1099511627776)) = true then
 (if (decide (0 ≤ x0.Priority)) = true then
 (if (decide (x0.Priority ≤ 1000)) = true then
 (if (decide (0 ≤ x0.Action)) = true then
 (if (decide (x0.Action ≤ 255)) = true then
 (if (decide (1 ≤ x0.Scope)) = true then
 (if (decide (x0.Scope ≤ 65535)) = true then
 (some (decide ((x0.Pattern.size : Int) ≤ 256)))
 else
 (some (false)))
 else
 (some (false)))
 else
 (some (false)))
 else
 (some (false)))
 else
 (some (false)))
 else
 (some (false)))
 else
 (some (false)))
 else
 (some (false))
theorem ZlA x0 : Sim (Z8G) (ZaA x0) (EE 27 [(.p (.agg (Z1J x0)))] []) := by
 unfold ZaA
 refine zf (ZGg ..)<|ze<|zx (.ptr 0 0) [(Z1v x0)]<|ze<|zq<|zq<|zq ?_
 refine za (decide (1 ≤ x0.ID)) ?_ ?_
 ·refine zq<|zq<|zq ?_
  refine za (decide (x0.ID ≤ 1099511627776)) ?_ ?_
  ·refine zq<|zq<|zq ?_
   refine za (decide (0 ≤ x0.Priority)) ?_ ?_
   ·refine zq<|zq<|zq ?_
    refine za (decide (x0.Priority ≤ 1000)) ?_ ?_
    ·refine zq<|zq<|zq ?_
     refine za (decide (0 ≤ x0.Action)) ?_ ?_
     ·refine zq<|zq<|zq ?_
      refine za (decide (x0.Action ≤ 255)) ?_ ?_
      ·refine zq<|zq<|zq ?_
       refine za (decide (1 ≤ x0.Scope)) ?_ ?_
       ·refine zq<|zq<|zq ?_
        refine za (decide (x0.Scope ≤ 65535)) ?_ ?_
        ·refine zq<|zq<|zq<|zq ?_
         exact zr ((bv (decide ((x0.Pattern.size : Int) ≤ 256))), [(Z1v x0)]) ⟨_, rfl⟩
        ·exact zr ((bv false), [(Z1v x0)]) ⟨_, rfl⟩
       ·exact zr ((bv false), [(Z1v x0)]) ⟨_, rfl⟩
      ·exact zr ((bv false), [(Z1v x0)]) ⟨_, rfl⟩
     ·exact zr ((bv false), [(Z1v x0)]) ⟨_, rfl⟩
    ·exact zr ((bv false), [(Z1v x0)]) ⟨_, rfl⟩
   ·exact zr ((bv false), [(Z1v x0)]) ⟨_, rfl⟩
  ·exact zr ((bv false), [(Z1v x0)]) ⟨_, rfl⟩
 ·exact zr ((bv false), [(Z1v x0)]) ⟨_, rfl⟩
theorem ZmS (x0 : Zw) {r} (h : ZaA x0 = some r) : Z8R x0 = some r :=
 Z1a (fun _ _ ha hb => RRun.uniq ZnD (ha ) (hb )) (ZlA x0 r h)
def Z8w (x0 : Zz) (x1 : ZL) : Option (Bool) :=
 Z3q (S91.mk x0.Rules x1.Put) 0 x1
theorem Zie x0 x1 zW z1H z1E : Sim (Z1X) (Z8w x0 x1) (EE 15 [(.p (.agg (Z1e x0 zW))), (.p (.agg (Z2J x1 z1H z1E)))] []) := by
 unfold Z8w
 refine zf (ZFW ..)<|ze<|zx (.ptr 0 0) [(Zv x0 zW)]<|zx (.ptr 1 0) [(Zv x0 zW), (ZE x1 z1H z1E)]<|ze<|zq<|zq<|zq<|zq<|zq ?_
 exact zk (Zbd (S91.mk x0.Rules x1.Put) 0 x0 x1 (shrO (shrO zW)) (shrO (shrO z1H)) zW z1H z1E)
theorem Zj8 (x0 : Zz) (x1 : ZL) {r} (h : Z8w x0 x1 = some r) : Z8z x0 x1 = some r :=
 Z1a (fun _ _ ha hb => RRun.uniq Z9Q (ha .ex .ex .ex) (hb .ex .ex .ex)) (fun zW z1H z1E => Zie x0 x1 zW z1H z1E r h)
def Z7b (x6 : List Zw) (x13 : S91) (x14 : Int) (b1 : ZL) : Option (Bool) :=
 Z5P x13 x14 x6 (x6.length : Int) 0 b1
theorem Zgq (x6 : List Zw) x13 x14 b0 b1 ox6 z2F z2G zB zP zH : Sim (Z1X) (Z7b x6 x13 x14 b1) (Zv1 0 (.ptr 1 0) (.p (.lst ox6 (x6.map ZC))) (.p (.agg (Zen x13 z2F z2G))) (iv x14) [(Zv b0 zB), (ZE b1 zP zH)]) := by
 unfold Z7b
 refine zf (ZAJ ..)<|ze ?_
 refine zo (iv (x6.length : Int)) ?_ (Eq.trans (by kernel_rfl) (Z3d (P := PP) (t := 22) (d := 43) (by kernel_rfl) ZC (shrO ox6) x6))
 exact zk (Zbe x13 x14 x6 (x6.length : Int) 0 b0 b1 z2F z2G (shrO ox6) zB zP zH)
def Z5I (x13 : S91) (x14 : Int) (b1 : ZL) : Option (Bool) :=
 (lget ([x13.c0, x13.c1] : List (List Zw)) x14).bind fun a1 =>
 if (decide (20 < (a1.length : Int))) = true then
 (some (false))
 else
 (Z7b a1 x13 x14 b1)
theorem Zgp x13 x14 b0 b1 z2F z2G zB zP zH : Sim (Z1X) (Z5I x13 x14 b1) (Zv0 0 (.ptr 1 0) (.p (.agg (Zen x13 z2F z2G))) (iv x14) [(Zv b0 zB), (ZE b1 zP zH)]) := by
 unfold Z5I
 refine zf (ZAI ..)<|ze<|zi fun a1 ha1 => ?_
 refine zo (.p (.lst (lown [z2F, z2G] x14) (a1.map ZC))) ?_ (Eq.trans (b := xat PP 91 (.p (.agg (List.zipWith (fun o x => PV.lst o (x.map ZC)) [z2F, z2G] ([x13.c0, x13.c1] : List (List Zw))))) (.p (.v (.int .i64 x14)))) (by kernel_rfl) (ZDt (P := PP) (t := 91) (ee := ZC) (m := 2) (k := .i64) (e := 22) (by kernel_rfl) (by kernel_rfl) (by kernel_rfl) (by kernel_rfl) ha1))
 refine ze ?_
 refine zo (iv (a1.length : Int)) ?_ (Eq.trans (by kernel_rfl) (Z3d (P := PP) (t := 22) (d := 43) (by kernel_rfl) ZC (shrO (shrO (lown [z2F, z2G] x14))) a1))
 refine zq ?_
 refine za (decide (20 < (a1.length : Int))) ?_ ?_
 ·refine ze ?_
  exact zr ((bv false), [(Zv b0 zB), (ZE b1 zP zH)]) ⟨_, rfl⟩
 ·exact zk (Zgq a1 x13 x14 b0 b1 (shrO (lown [z2F, z2G] x14)) z2F z2G zB zP zH)
def Z73 (b1 : ZL) : Option (Bool) :=
 some (decide ((b1.Drop.length : Int) ≤ 40))
theorem ZfV b0 b1 zB zP zH : Sim (Z1X) (Z73 b1) (ZsL 0 (.ptr 1 0) [(Zv b0 zB), (ZE b1 zP zH)]) := by
 unfold Z73
 refine zf (Zz1 ..)<|ze<|zq<|zq ?_
 refine zo (iv (b1.Drop.length : Int)) ?_ (Eq.trans (by kernel_rfl) (Z3d (P := PP) (t := 27) (d := 3) (by kernel_rfl) (eI .i64) (shrO zH) b1.Drop))
 refine zq ?_
 exact zr ((bv (decide ((b1.Drop.length : Int) ≤ 40))), [(Zv b0 zB), (ZE b1 zP zH)]) ⟨_, rfl⟩
def Z4E (x13 : S91) (x14 : Int) (b1 : ZL) : Option (Bool) :=
 if (decide (x14 < 2)) = true then
 (Z5I x13 x14 b1)
 else
 (Z73 b1)
theorem Zgn x13 x14 b0 b1 z2F z2G zB zP zH : Sim (Z1X) (Z4E x13 x14 b1) (Zlb 0 (.ptr 1 0) (.p (.agg (Zen x13 z2F z2G))) (iv x14) [(Zv b0 zB), (ZE b1 zP zH)]) := by
 unfold Z4E
 refine zf (ZAG ..)<|ze<|zq ?_
 refine za (decide (x14 < 2)) ?_ ?_
 ·exact zk (Zgp x13 x14 b0 b1 z2F z2G zB zP zH)
 ·exact zk (ZfV b0 b1 zB zP zH)
theorem Z8l (x13 : S91) (x14 : Int) (b1 : ZL) {r} (h : Z4E x13 x14 b1 = some r) : Z3q x13 x14 b1 = some r :=
 Z1a (fun _ _ ha hb => RRun.uniq Z9Q (ha default .ex .ex .ex .ex .ex) (hb default .ex .ex .ex .ex .ex)) (fun b0 z2F z2G zB zP zH => Zgn x13 x14 b0 b1 z2F z2G zB zP zH r h)
def Z71 (x13 : S91) (x14 : Int) (x20 : List Zw) (x21 x22 : Int) (b1 : ZL) : Option (Bool) :=
 Z5P x13 x14 x20 x21 (IntKind.i64.wrap (x22 + 1)) b1
theorem ZfT x13 x14 (x20 : List Zw) x21 x22 b0 b1 z2F z2G ox20 zB zP zH : Sim (Z1X) (Z71 x13 x14 x20 x21 x22 b1) (ZsJ 0 (.ptr 1 0) (.p (.agg (Zen x13 z2F z2G))) (iv x14) (.p (.lst ox20 (x20.map ZC))) (iv x21) (iv x22) [(Zv b0 zB), (ZE b1 zP zH)]) := by
 unfold Z71
 refine zf (ZyZ ..)<|ze<|zq ?_
 exact zk (Zbe x13 x14 x20 x21 (IntKind.i64.wrap (x22 + 1)) b0 b1 z2F z2G ox20 zB zP zH)
def Z5J (x13 : S91) (x14 : Int) (x20 : List Zw) (x21 x22 : Int) (b1 : ZL) : Option (Bool) :=
 (lget x20 x22).bind fun a1 =>
 if (decide (300 < (a1.Pattern.size : Int))) = true then
 (some (false))
 else
 (Z71 x13 x14 x20 x21 x22 b1)
theorem Zgr x13 x14 (x20 : List Zw) x21 x22 b0 b1 z2F z2G ox20 zB zP zH : Sim (Z1X) (Z5J x13 x14 x20 x21 x22 b1) (Zv2 0 (.ptr 1 0) (.p (.agg (Zen x13 z2F z2G))) (iv x14) (.p (.lst ox20 (x20.map ZC))) (iv x21) (iv x22) [(Zv b0 zB), (ZE b1 zP zH)]) := by
 unfold Z5J
 refine zf (ZAK ..)<|ze<|zi fun a1 ha1 => ?_
 refine zo (.cptr (Z1J a1)) ?_ (Eq.trans (by kernel_rfl) (Z40 (o := ox20) (k := .i64) (n := 5) (e := ZC) (cs := Z5O) (fun _ => rfl) (fun _ => rfl) (by decide) ha1))
 refine zq<|zz (.ptr 2 0) [(Zv b0 zB), (ZE b1 zP zH), (Z1v (Zw.mk 0 0 0 0 (ByteArray.mk #[])))]<|zt [(Zv b0 zB), (ZE b1 zP zH), (Z1v a1)]<|ze<|zq<|zq<|zq<|zq ?_
 refine za (decide (300 < (a1.Pattern.size : Int))) ?_ ?_
 ·refine ze ?_
  exact zr ((bv false), [(Zv b0 zB), (ZE b1 zP zH), (Z1v a1)]) ⟨_, rfl⟩
 ·exact zk (ZfT x13 x14 x20 x21 x22 b0 b1 z2F z2G ox20 zB zP zH)
def Z72 (x13 : S91) (x14 : Int) (b1 : ZL) : Option (Bool) :=
 Z3q x13 (IntKind.i64.wrap (x14 + 1)) b1
theorem ZfU x13 x14 b0 b1 z2F z2G zB zP zH : Sim (Z1X) (Z72 x13 x14 b1) (ZsK 0 (.ptr 1 0) (.p (.agg (Zen x13 z2F z2G))) (iv x14) [(Zv b0 zB), (ZE b1 zP zH)]) := by
 unfold Z72
 refine zf (Zz0 ..)<|ze<|zq ?_
 exact zk (Zbd x13 (IntKind.i64.wrap (x14 + 1)) b0 b1 z2F z2G zB zP zH)
def Z4F (x13 : S91) (x14 : Int) (x20 : List Zw) (x21 x22 : Int) (b1 : ZL) : Option (Bool) :=
 if (decide (x22 < x21)) = true then
 (Z5J x13 x14 x20 x21 x22 b1)
 else
 (Z72 x13 x14 b1)
theorem Zgo x13 x14 (x20 : List Zw) x21 x22 b0 b1 z2F z2G ox20 zB zP zH : Sim (Z1X) (Z4F x13 x14 x20 x21 x22 b1) (Zlc 0 (.ptr 1 0) (.p (.agg (Zen x13 z2F z2G))) (iv x14) (.p (.lst ox20 (x20.map ZC))) (iv x21) (iv x22) [(Zv b0 zB), (ZE b1 zP zH)]) := by
 unfold Z4F
 refine zf (ZAH ..)<|ze<|zq ?_
 refine za (decide (x22 < x21)) ?_ ?_
 ·exact zk (Zgr x13 x14 x20 x21 x22 b0 b1 z2F z2G ox20 zB zP zH)
 ·exact zk (ZfU x13 x14 b0 b1 z2F z2G zB zP zH)
theorem Z8m (x13 : S91) (x14 : Int) (x20 : List Zw) (x21 x22 : Int) (b1 : ZL) {r} (h : Z4F x13 x14 x20 x21 x22 b1 = some r) : Z5P x13 x14 x20 x21 x22 b1 = some r :=
 Z1a (fun _ _ ha hb => RRun.uniq Z9Q (ha default .ex .ex .ex .ex .ex .ex) (hb default .ex .ex .ex .ex .ex .ex)) (fun b0 z2F z2G ox20 zB zP zH => Zgo x13 x14 x20 x21 x22 b0 b1 z2F z2G ox20 zB zP zH r h)
end Go.Proofs.YteoeggbihfnbfaaGreatDoor.N2
end
noncomputable section
set_option linter.unusedSimpArgs false
set_option linter.unusedVariables false
namespace Go.Proofs.YteoeggbihfnbfaaGreatDoor.N2
open Go Go.Abs
set_option linter.unusedVariables false
set_option maxRecDepth 100000
def Z9I (b4 : Zz) : Option (Zz × ZJ) :=
 some (b4, (ZJ.mk 0 0 0))
theorem ZjY b0 b1 b2 b3 b4 zB zP zH zO z4z (z1o : ZN zO = true) : Sim (Z6C) (Z9I b4) (Zvk 0 (.ptr 2 0) (.ptr 3 0) (.ptr 4 0) [(Zv b0 zB), (ZE b1 zP zH), (Zv b2 zO), (ZR b3), (Zv b4 z4z)]) := by
 unfold Z9I
 refine zf (ZB0 ..)<|ze<|zq<|zq<|zt [(Zv b0 zB), (ZE b1 zP zH), (Zv b4 (shrO z4z)), (ZR b3), (Zv b4 z4z)]<|zt [(Zv b0 zB), (ZE b1 zP zH), (Zv b4 (shrO z4z)), (ZR (ZJ.mk 0 0 0)), (Zv b4 z4z)] ?_
 exact zr ((.p (.tup [(.agg (Z1e b4 .sh)), (.agg (Z19 (ZJ.mk 0 0 0)))])), [(Zv b0 zB), (ZE b1 zP zH), (Zv b4 (shrO z4z)), (ZR (ZJ.mk 0 0 0)), (Zv b4 z4z)]) ⟨_, rfl⟩
def Z9H (b4 : Zz) : Option (Zz × ZJ) :=
 (Z7t b4).bind fun r1 =>
 if (r1.Code != 0) = true then
 (some ((Zz.mk 0 0 0 0 ([] : List Zw)), r1))
 else
 (Z9I b4)
theorem ZjX b0 b1 b2 b3 b4 zB zP zH zO z4z (z1o : ZN zO = true) : Sim (Z6C) (Z9H b4) (Zvj 0 (.ptr 2 0) (.ptr 3 0) (.ptr 4 0) [(Zv b0 zB), (ZE b1 zP zH), (Zv b2 zO), (ZR b3), (Zv b4 z4z)]) := by
 unfold Z9H
 refine zf (ZAZ ..)<|ze<|zq<|zi fun r1 hr1 => ?_
 obtain ⟨qr1, er1, exr1, rfl⟩ := Zah b4 .sh r1 hr1
 refine zc [] (.p (.agg (Z19 r1))) [(Zv b0 zB), (ZE b1 zP zH), (Zv b2 zO), (ZR b3), (Zv b4 z4z)] er1<|zz (.ptr 5 0) [(Zv b0 zB), (ZE b1 zP zH), (Zv b2 zO), (ZR b3), (Zv b4 z4z), (ZR (ZJ.mk 0 0 0))]<|zt [(Zv b0 zB), (ZE b1 zP zH), (Zv b2 zO), (ZR b3), (Zv b4 z4z), (ZR r1)]<|ze<|zq<|zq<|zq ?_
 refine za (r1.Code != 0) ?_ ?_
 ·refine ze<|zq<|zq<|zt [(Zv b0 zB), (ZE b1 zP zH), (Zv (Zz.mk 0 0 0 0 ([] : List Zw)) .nl), (ZR b3), (Zv b4 z4z), (ZR r1)]<|zt [(Zv b0 zB), (ZE b1 zP zH), (Zv (Zz.mk 0 0 0 0 ([] : List Zw)) .nl), (ZR r1), (Zv b4 z4z), (ZR r1)]<|zg ?_
  exact zr ((.p (.tup [(.agg (Z1e (Zz.mk 0 0 0 0 ([] : List Zw)) .sh)), (.agg (Z19 r1))])), [(Zv b0 zB), (ZE b1 zP zH), (Zv (Zz.mk 0 0 0 0 ([] : List Zw)) .nl), (ZR r1), (Zv b4 z4z), (ZR r1)]) ⟨_, rfl⟩
 ·exact zk (ZjY b0 b1 b2 b3 b4 zB zP zH zO z4z z1o)
def ZbB (x0 : Zz) (x1 : ZL) : Option (Zz × ZJ) :=
 (Zb7 x0 x1).bind fun r1 =>
 if (r1.2 != 0) = true then
 (some ((Zz.mk 0 0 0 0 ([] : List Zw)), (ZJ.mk r1.2 0 0)))
 else
 (Z9H r1.1)
theorem Zn7 x0 x1 zW z1H z1E : Sim (Z6C) (ZbB x0 x1) (EE 23 [(.p (.agg (Z1e x0 zW))), (.p (.agg (Z2J x1 z1H z1E)))] []) := by
 unfold ZbB
 refine zf (ZGf ..)<|ze<|zx (.ptr 0 0) [(Zv x0 zW)]<|zx (.ptr 1 0) [(Zv x0 zW), (ZE x1 z1H z1E)]<|zz (.ptr 2 0) [(Zv x0 zW), (ZE x1 z1H z1E), (Zv (Zz.mk 0 0 0 0 ([] : List Zw)) .nl)]<|zz (.ptr 3 0) [(Zv x0 zW), (ZE x1 z1H z1E), (Zv (Zz.mk 0 0 0 0 ([] : List Zw)) .nl), (ZR (ZJ.mk 0 0 0))]<|ze<|zq<|zq<|zi fun r1 hr1 => ?_
 obtain ⟨qr1, er1, exr1, rfl⟩ := Zk6 x0 x1 .sh .sh .sh r1 hr1
 refine zc [] (.p (.tup [(.agg (Z1e r1.1 .sh)), (.v (.int .i64 r1.2))])) [(Zv x0 zW), (ZE x1 z1H z1E), (Zv (Zz.mk 0 0 0 0 ([] : List Zw)) .nl), (ZR (ZJ.mk 0 0 0))] er1<|zq<|zq<|zz (.ptr 4 0) [(Zv x0 zW), (ZE x1 z1H z1E), (Zv (Zz.mk 0 0 0 0 ([] : List Zw)) .nl), (ZR (ZJ.mk 0 0 0)), (Zv (Zz.mk 0 0 0 0 ([] : List Zw)) .nl)]<|zt [(Zv x0 zW), (ZE x1 z1H z1E), (Zv (Zz.mk 0 0 0 0 ([] : List Zw)) .nl), (ZR (ZJ.mk 0 0 0)), (Zv r1.1 .sh)]<|ze<|zq ?_
 refine za (r1.2 != 0) ?_ ?_
 ·refine ze<|zq<|zq<|zt [(Zv x0 zW), (ZE x1 z1H z1E), (Zv (Zz.mk 0 0 0 0 ([] : List Zw)) .nl), (ZR (ZJ.mk 0 0 0)), (Zv r1.1 .sh)]<|zt [(Zv x0 zW), (ZE x1 z1H z1E), (Zv (Zz.mk 0 0 0 0 ([] : List Zw)) .nl), (ZR (ZJ.mk r1.2 0 0)), (Zv r1.1 .sh)] ?_
  exact zr ((.p (.tup [(.agg (Z1e (Zz.mk 0 0 0 0 ([] : List Zw)) .sh)), (.agg (Z19 (ZJ.mk r1.2 0 0)))])), [(Zv x0 zW), (ZE x1 z1H z1E), (Zv (Zz.mk 0 0 0 0 ([] : List Zw)) .nl), (ZR (ZJ.mk r1.2 0 0)), (Zv r1.1 .sh)]) ⟨_, rfl⟩
 ·exact zk (ZjX x0 x1 (Zz.mk 0 0 0 0 ([] : List Zw)) (ZJ.mk 0 0 0) r1.1 zW z1H z1E .nl .sh rfl)
theorem ZnU (x0 : Zz) (x1 : ZL) {r} (h : ZbB x0 x1 = some r) : ZbG x0 x1 = some r :=
 Z1a (fun _ _ ha hb => RRun.uniq ZnY (ha .ex .ex .ex) (hb .ex .ex .ex)) (fun zW z1H z1E => Zn7 x0 x1 zW z1H z1E r h)
def Za7  : Option (Zz × Int) :=
 some ((Zz.mk 0 0 0 0 ([] : List Zw)), 30)
theorem Zg9 b0 b1 b2 zB zP zH zO (z1o : ZN zO = true) : Sim (Z1P) (Za7) (Zrd 0 (.ptr 2 0) [(Zv b0 zB), (ZE b1 zP zH), (Zv b2 zO)]) := by
 unfold Za7
 refine zf (ZAX ..)<|ze<|zq<|zt [(Zv b0 zB), (ZE b1 zP zH), (Zv (Zz.mk 0 0 0 0 ([] : List Zw)) .nl)] ?_
 exact zr ((.p (.tup [(.agg (Z1e (Zz.mk 0 0 0 0 ([] : List Zw)) .sh)), (.v (.int .i64 30))])), [(Zv b0 zB), (ZE b1 zP zH), (Zv (Zz.mk 0 0 0 0 ([] : List Zw)) .nl)]) ⟨_, rfl⟩
def Zbm (b0 : Zz) (b1 : ZL) (zF zK zQ zM : Int) : Option (Zz × Int) :=
 Z9o b0.Rules (b0.Rules.length : Int) 0 b1 zF zK zQ zM ([] : List (Int × Zw))
theorem ZmG b0 b1 b2 zF zK zQ zM zY zB zP zH zO zV (z1o : ZN zO = true) : Sim (Z1P) (Zbm b0 b1 zF zK zQ zM) (Ztk 0 (.ptr 0 0) (.ptr 1 0) (.ptr 2 0) (.ptr 3 0) [(Zv b0 zB), (ZE b1 zP zH), (Zv b2 zO), (Zv (Zz.mk zF zK zQ zM zY) zV)]) := by
 unfold Zbm
 refine zf (Zzx ..)<|ze<|zm (.mp 4) [(Zv b0 zB), (ZE b1 zP zH), (Zv b2 zO), (Zv (Zz.mk zF zK zQ zM zY) zV), [(.md (([] : List (Int × Zw)).map (encM ZC)))]]<|ze<|zq<|zq ?_
 refine zo (iv (b0.Rules.length : Int)) ?_ (Eq.trans (by kernel_rfl) (Z3d (P := PP) (t := 22) (d := 43) (by kernel_rfl) ZC (shrO zB) b0.Rules))
 exact zk (Zg2 b0.Rules (b0.Rules.length : Int) 0 b0 b1 b2 zF zK zQ zM zY ([] : List (Int × Zw)) (shrO zB) zB zP zH zO zV z1o)
def Zbl (b0 : Zz) (b1 : ZL) (zF zK zQ zM : Int) : Option (Zz × Int) :=
 (Zag b1).bind fun r1 =>
 if (r1) = true then
 (some ((Zz.mk 0 0 0 0 ([] : List Zw)), 31))
 else
 (Zbm b0 b1 zF zK zQ zM)
theorem ZmF b0 b1 b2 zF zK zQ zM zY zB zP zH zO zV (z1o : ZN zO = true) : Sim (Z1P) (Zbl b0 b1 zF zK zQ zM) (Ztj 0 (.ptr 0 0) (.ptr 1 0) (.ptr 2 0) (.ptr 3 0) [(Zv b0 zB), (ZE b1 zP zH), (Zv b2 zO), (Zv (Zz.mk zF zK zQ zM zY) zV)]) := by
 unfold Zbl
 refine zf (Zzw ..)<|ze<|zq<|zi fun r1 hr1 => ?_
 obtain ⟨qr1, er1, exr1, rfl⟩ := Zlz b1 .sh .sh r1 hr1
 refine zc [] (bv r1) [(Zv b0 zB), (ZE b1 zP zH), (Zv b2 zO), (Zv (Zz.mk zF zK zQ zM zY) zV)] er1 ?_
 refine za r1 ?_ ?_
 ·refine ze<|zq<|zt [(Zv b0 zB), (ZE b1 zP zH), (Zv (Zz.mk 0 0 0 0 ([] : List Zw)) .nl), (Zv (Zz.mk zF zK zQ zM zY) zV)] ?_
  exact zr ((.p (.tup [(.agg (Z1e (Zz.mk 0 0 0 0 ([] : List Zw)) .sh)), (.v (.int .i64 31))])), [(Zv b0 zB), (ZE b1 zP zH), (Zv (Zz.mk 0 0 0 0 ([] : List Zw)) .nl), (Zv (Zz.mk zF zK zQ zM zY) zV)]) ⟨_, rfl⟩
 ·exact zk (ZmG b0 b1 b2 zF zK zQ zM zY zB zP zH zO zV z1o)
def Zc6 (b0 : Zz) (b1 : ZL) : Option (Zz × Int) :=
 (Zel b1.Default b0.Default).bind fun r1 =>
 (ZaM b1.Closed b0.Closed).bind fun r2 =>
 (ZaL b1.Fuel b0.Fuel).bind fun r3 =>
 (ZaK b1.Stack b0.Stack).bind fun r4 =>
 (Z7R (Zz.mk r1 r2 r3 r4 b0.Rules)).bind fun r5 =>
 if (!r5) = true then
 (Za7)
 else
 ((Z9O b1.Put).bind fun r6 =>
 if (!r6) = true then
 (Za7)
 else
 (Zbl b0 b1 r1 r2 r3 r4))
theorem ZnN b0 b1 b2 zB zP zH zO (z1o : ZN zO = true) : Sim (Z1P) (Zc6 b0 b1) (Zvi 0 (.ptr 0 0) (.ptr 1 0) (.ptr 2 0) [(Zv b0 zB), (ZE b1 zP zH), (Zv b2 zO)]) := by
 unfold Zc6
 refine zf (ZAW ..)<|ze<|zq<|zz (.ptr 3 0) [(Zv b0 zB), (ZE b1 zP zH), (Zv b2 zO), (Zv (Zz.mk 0 0 0 0 ([] : List Zw)) .nl)]<|zt [(Zv b0 zB), (ZE b1 zP zH), (Zv b2 zO), (Zv b0 (shrO zB))]<|ze<|zq<|zq<|zq<|zi fun r1 hr1 => ?_
 obtain ⟨qr1, er1, exr1, rfl⟩ := Zqr b1.Default b0.Default b0.Closed b0.Fuel b0.Stack b0.Rules (shrO zB) r1 hr1
 refine zc [3] (.p (.tup [])) [(Zv b0 zB), (ZE b1 zP zH), (Zv b2 zO), (Zv (Zz.mk r1 b0.Closed b0.Fuel b0.Stack b0.Rules) (shrO zB))] er1<|ze<|zq<|zq<|zq<|zi fun r2 hr2 => ?_
 obtain ⟨qr2, er2, exr2, rfl⟩ := ZmZ b1.Closed r1 b0.Closed b0.Fuel b0.Stack b0.Rules (shrO zB) r2 hr2
 refine zc [3] (.p (.tup [])) [(Zv b0 zB), (ZE b1 zP zH), (Zv b2 zO), (Zv (Zz.mk r1 r2 b0.Fuel b0.Stack b0.Rules) (shrO zB))] er2<|ze<|zq<|zq<|zq<|zi fun r3 hr3 => ?_
 obtain ⟨qr3, er3, exr3, rfl⟩ := ZmX b1.Fuel r1 r2 b0.Fuel b0.Stack b0.Rules (shrO zB) r3 hr3
 refine zc [3] (.p (.tup [])) [(Zv b0 zB), (ZE b1 zP zH), (Zv b2 zO), (Zv (Zz.mk r1 r2 r3 b0.Stack b0.Rules) (shrO zB))] er3<|ze<|zq<|zq<|zq<|zi fun r4 hr4 => ?_
 obtain ⟨qr4, er4, exr4, rfl⟩ := ZmV b1.Stack r1 r2 r3 b0.Stack b0.Rules (shrO zB) r4 hr4
 refine zc [3] (.p (.tup [])) [(Zv b0 zB), (ZE b1 zP zH), (Zv b2 zO), (Zv (Zz.mk r1 r2 r3 r4 b0.Rules) (shrO zB))] er4<|ze<|zq<|zi fun r5 hr5 => ?_
 obtain ⟨qr5, er5, exr5, rfl⟩ := ZdW (Zz.mk r1 r2 r3 r4 b0.Rules) .sh r5 hr5
 refine zc [] (bv r5) [(Zv b0 zB), (ZE b1 zP zH), (Zv b2 zO), (Zv (Zz.mk r1 r2 r3 r4 b0.Rules) (shrO zB))] er5<|zq ?_
 refine za (!r5) ?_ ?_
 ·exact zk (Zg9 b0 b1 b2 zB zP zH zO z1o)
 ·refine zq<|zq<|zi fun r6 hr6 => ?_
  obtain ⟨qr6, er6, exr6, rfl⟩ := ZkM b1.Put .sh r6 hr6
  refine zc [] (bv r6) [(Zv b0 zB), (ZE b1 zP zH), (Zv b2 zO), (Zv (Zz.mk r1 r2 r3 r4 b0.Rules) (shrO zB))] er6<|zq ?_
  refine za (!r6) ?_ ?_
  ·exact zk (Zg9 b0 b1 b2 zB zP zH zO z1o)
  ·exact zk (ZmF b0 b1 b2 r1 r2 r3 r4 b0.Rules zB zP zH zO (shrO zB) z1o)
def Zfm (x0 : Zz) (x1 : ZL) : Option (Zz × Int) :=
 (Z9s x0).bind fun r1 =>
 if (!r1) = true then
 (some ((Zz.mk 0 0 0 0 ([] : List Zw)), 10))
 else
 (Zc6 x0 x1)
theorem Zqo x0 x1 zW z1H z1E : Sim (Z1P) (Zfm x0 x1) (EE 22 [(.p (.agg (Z1e x0 zW))), (.p (.agg (Z2J x1 z1H z1E)))] []) := by
 unfold Zfm
 refine zf (ZG8 ..)<|ze<|zx (.ptr 0 0) [(Zv x0 zW)]<|zx (.ptr 1 0) [(Zv x0 zW), (ZE x1 z1H z1E)]<|zz (.ptr 2 0) [(Zv x0 zW), (ZE x1 z1H z1E), (Zv (Zz.mk 0 0 0 0 ([] : List Zw)) .nl)]<|ze<|zq<|zi fun r1 hr1 => ?_
 obtain ⟨qr1, er1, exr1, rfl⟩ := Zga x0 .sh r1 hr1
 refine zc [] (bv r1) [(Zv x0 zW), (ZE x1 z1H z1E), (Zv (Zz.mk 0 0 0 0 ([] : List Zw)) .nl)] er1<|zq ?_
 refine za (!r1) ?_ ?_
 ·refine ze<|zq<|zt [(Zv x0 zW), (ZE x1 z1H z1E), (Zv (Zz.mk 0 0 0 0 ([] : List Zw)) .nl)] ?_
  exact zr ((.p (.tup [(.agg (Z1e (Zz.mk 0 0 0 0 ([] : List Zw)) .sh)), (.v (.int .i64 10))])), [(Zv x0 zW), (ZE x1 z1H z1E), (Zv (Zz.mk 0 0 0 0 ([] : List Zw)) .nl)]) ⟨_, rfl⟩
 ·exact zk (ZnN x0 x1 (Zz.mk 0 0 0 0 ([] : List Zw)) zW z1H z1E .nl rfl)
theorem Zrt (x0 : Zz) (x1 : ZL) {r} (h : Zfm x0 x1 = some r) : Zb7 x0 x1 = some r :=
 Z1a (fun _ _ ha hb => RRun.uniq ZaS (ha .ex .ex .ex) (hb .ex .ex .ex)) (fun zW z1H z1E => Zqo x0 x1 zW z1H z1E r h)
def Zbn (x54 : List Zw) (x55 x56 : Int) (b1 : ZL) (zF zK zQ zM : Int) (z1d : List (Int × Zw)) : Option (Zz × Int) :=
 (lget x54 x56).bind fun a1 =>
 Z9o x54 x55 (IntKind.i64.wrap (x56 + 1)) b1 zF zK zQ zM (putM z1d a1.ID a1)
theorem ZmH (x54 : List Zw) x55 x56 b0 b1 b2 zF zK zQ zM zY z1d ox54 zB zP zH zO zV (z1o : ZN zO = true) : Sim (Z1P) (Zbn x54 x55 x56 b1 zF zK zQ zM z1d) (Ztl 0 (.ptr 1 0) (.ptr 2 0) (.ptr 3 0) (.mp 4) (.p (.lst ox54 (x54.map ZC))) (iv x55) (iv x56) [(Zv b0 zB), (ZE b1 zP zH), (Zv b2 zO), (Zv (Zz.mk zF zK zQ zM zY) zV), [(.md ((z1d).map (encM ZC)))]]) := by
 unfold Zbn
 refine zf (Zzy ..)<|ze<|zi fun a1 ha1 => ?_
 refine zo (.cptr (Z1J a1)) ?_ (Eq.trans (by kernel_rfl) (Z40 (o := ox54) (k := .i64) (n := 5) (e := ZC) (cs := Z5O) (fun _ => rfl) (fun _ => rfl) (by decide) ha1))
 refine zq<|zz (.ptr 5 0) [(Zv b0 zB), (ZE b1 zP zH), (Zv b2 zO), (Zv (Zz.mk zF zK zQ zM zY) zV), [(.md ((z1d).map (encM ZC)))], (Z1v (Zw.mk 0 0 0 0 (ByteArray.mk #[])))]<|zt [(Zv b0 zB), (ZE b1 zP zH), (Zv b2 zO), (Zv (Zz.mk zF zK zQ zM zY) zV), [(.md ((z1d).map (encM ZC)))], (Z1v a1)]<|ze<|zq<|zq<|zq ?_
 refine Sim.xupd (B2 := [(Zv b0 zB), (ZE b1 zP zH), (Zv b2 zO), (Zv (Zz.mk zF zK zQ zM zY) zV), [(.md ((putM z1d a1.ID a1).map (encM ZC)))], (Z1v a1)]) (fun K => Eq.trans (b := xupd PP 110 (.mp 4) (iv a1.ID) (.p (.agg (Z1J a1))) [(Zv b0 zB), (ZE b1 zP zH), (Zv b2 zO), (Zv (Zz.mk zF zK zQ zM zY) zV), [(.md ((z1d).map (encM ZC)))], (Z1v a1)] K) (by kernel_rfl) <| ZtQ (P := PP) (t := 110) (K := K) (B2 := [(Zv b0 zB), (ZE b1 zP zH), (Zv b2 zO), (Zv (Zz.mk zF zK zQ zM zY) zV), [(.md ((putM z1d a1.ID a1).map (encM ZC)))], (Z1v a1)]) (e := ZC) (a := a1) (es := z1d) (te := 43) (by kernel_rfl) (by kernel_rfl) (by kernel_rfl) (by kernel_rfl) (by kernel_rfl)) ?_
 refine ze<|zq ?_
 exact zk (Zg2 x54 x55 (IntKind.i64.wrap (x56 + 1)) b0 b1 b2 zF zK zQ zM zY (putM z1d a1.ID a1) ox54 zB zP zH zO zV z1o)
def Z9h (b1 : ZL) (zF zK zQ zM : Int) (z1d : List (Int × Zw)) : Option (Zz × Int) :=
 Z9p b1.Drop (b1.Drop.length : Int) 0 b1 zF zK zQ zM z1d
theorem ZmI b0 b1 b2 zF zK zQ zM zY z1d zB zP zH zO zV (z1o : ZN zO = true) : Sim (Z1P) (Z9h b1 zF zK zQ zM z1d) (Ztm 0 (.ptr 1 0) (.ptr 2 0) (.ptr 3 0) (.mp 4) [(Zv b0 zB), (ZE b1 zP zH), (Zv b2 zO), (Zv (Zz.mk zF zK zQ zM zY) zV), [(.md ((z1d).map (encM ZC)))]]) := by
 unfold Z9h
 refine zf (Zzz ..)<|ze<|zq<|zq ?_
 refine zo (iv (b1.Drop.length : Int)) ?_ (Eq.trans (by kernel_rfl) (Z3d (P := PP) (t := 27) (d := 3) (by kernel_rfl) (eI .i64) (shrO zH) b1.Drop))
 exact zk (Zg4 b1.Drop (b1.Drop.length : Int) 0 b0 b1 b2 zF zK zQ zM zY z1d (shrO zH) zB zP zH zO zV z1o)
def Z9d (x54 : List Zw) (x55 x56 : Int) (b1 : ZL) (zF zK zQ zM : Int) (z1d : List (Int × Zw)) : Option (Zz × Int) :=
 if (decide (x56 < x55)) = true then
 (Zbn x54 x55 x56 b1 zF zK zQ zM z1d)
 else
 (Z9h b1 zF zK zQ zM z1d)
theorem Zmy (x54 : List Zw) x55 x56 b0 b1 b2 zF zK zQ zM zY z1d ox54 zB zP zH zO zV (z1o : ZN zO = true) : Sim (Z1P) (Z9d x54 x55 x56 b1 zF zK zQ zM z1d) (ZiM 0 (.ptr 1 0) (.ptr 2 0) (.ptr 3 0) (.mp 4) (.p (.lst ox54 (x54.map ZC))) (iv x55) (iv x56) [(Zv b0 zB), (ZE b1 zP zH), (Zv b2 zO), (Zv (Zz.mk zF zK zQ zM zY) zV), [(.md ((z1d).map (encM ZC)))]]) := by
 unfold Z9d
 refine zf (Zzs ..)<|ze<|zq ?_
 refine za (decide (x56 < x55)) ?_ ?_
 ·exact zk (ZmH x54 x55 x56 b0 b1 b2 zF zK zQ zM zY z1d ox54 zB zP zH zO zV z1o)
 ·exact zk (ZmI b0 b1 b2 zF zK zQ zM zY z1d zB zP zH zO zV z1o)
theorem Zg1 (x54 : List Zw) (x55 x56 : Int) (b1 : ZL) (zF zK zQ zM : Int) (z1d : List (Int × Zw)) {r} (h : Z9d x54 x55 x56 b1 zF zK zQ zM z1d = some r) : Z9o x54 x55 x56 b1 zF zK zQ zM z1d = some r :=
 Z1a (fun _ _ ha hb => RRun.uniq ZaS (ha default default default .ex .ex .ex .ex .ex .ex rfl) (hb default default default .ex .ex .ex .ex .ex .ex rfl)) (fun b0 b2 zY ox54 zB zP zH zO zV z1o => Zmy x54 x55 x56 b0 b1 b2 zF zK zQ zM zY z1d ox54 zB zP zH zO zV z1o r h)
def Zbq (x66 : List Int) (x67 x68 : Int) (b1 : ZL) (zF zK zQ zM : Int) (z1d : List (Int × Zw)) : Option (Zz × Int) :=
 Z9p x66 x67 (IntKind.i64.wrap (x68 + 1)) b1 zF zK zQ zM z1d
theorem ZmL (x66 : List Int) x67 x68 b0 b1 b2 zF zK zQ zM zY z1d ox66 zB zP zH zO zV (z1o : ZN zO = true) : Sim (Z1P) (Zbq x66 x67 x68 b1 zF zK zQ zM z1d) (Ztp 0 (.ptr 1 0) (.ptr 2 0) (.ptr 3 0) (.mp 4) (.p (.lst ox66 (x66.map (eI .i64)))) (iv x67) (iv x68) [(Zv b0 zB), (ZE b1 zP zH), (Zv b2 zO), (Zv (Zz.mk zF zK zQ zM zY) zV), [(.md ((z1d).map (encM ZC)))]]) := by
 unfold Zbq
 refine zf (ZzC ..)<|ze<|zq ?_
 exact zk (Zg4 x66 x67 (IntKind.i64.wrap (x68 + 1)) b0 b1 b2 zF zK zQ zM zY z1d ox66 zB zP zH zO zV z1o)
def Zbp (x11 : Int) (x66 : List Int) (x67 x68 : Int) (b1 : ZL) (zF zK zQ zM : Int) (z1d : List (Int × Zw)) : Option (Zz × Int) :=
 Zbq x66 x67 x68 b1 zF zK zQ zM (delM z1d x11)
theorem ZmK x11 (x66 : List Int) x67 x68 b0 b1 b2 zF zK zQ zM zY z1d ox66 zB zP zH zO zV (z1o : ZN zO = true) : Sim (Z1P) (Zbp x11 x66 x67 x68 b1 zF zK zQ zM z1d) (Zto 0 (.ptr 1 0) (.ptr 2 0) (.ptr 3 0) (.mp 4) (iv x11) (.p (.lst ox66 (x66.map (eI .i64)))) (iv x67) (iv x68) [(Zv b0 zB), (ZE b1 zP zH), (Zv b2 zO), (Zv (Zz.mk zF zK zQ zM zY) zV), [(.md ((z1d).map (encM ZC)))]]) := by
 unfold Zbp
 refine zf (ZzB ..)<|ze ?_
 refine Sim.xdel (B2 := [(Zv b0 zB), (ZE b1 zP zH), (Zv b2 zO), (Zv (Zz.mk zF zK zQ zM zY) zV), [(.md ((delM z1d x11).map (encM ZC)))]]) (fun K => Eq.trans (b := xdel PP 110 (.mp 4) (iv x11) [(Zv b0 zB), (ZE b1 zP zH), (Zv b2 zO), (Zv (Zz.mk zF zK zQ zM zY) zV), [(.md ((z1d).map (encM ZC)))]] K) (by kernel_rfl) <| ZFJ (P := PP) (t := 110) (K := K) (B2 := [(Zv b0 zB), (ZE b1 zP zH), (Zv b2 zO), (Zv (Zz.mk zF zK zQ zM zY) zV), [(.md ((delM z1d x11).map (encM ZC)))]]) (e := ZC) (es := z1d) (te := 43) (by kernel_rfl) (by kernel_rfl) (by kernel_rfl)) ?_
 exact zk (ZmL x66 x67 x68 b0 b1 b2 zF zK zQ zM zY (delM z1d x11) ox66 zB zP zH zO zV z1o)
def Zbo (x66 : List Int) (x67 x68 : Int) (b1 : ZL) (zF zK zQ zM : Int) (z1d : List (Int × Zw)) : Option (Zz × Int) :=
 (lget x66 x68).bind fun a1 =>
 if (!(getM z1d a1).isSome) = true then
 (some ((Zz.mk 0 0 0 0 ([] : List Zw)), 32))
 else
 (Zbp a1 x66 x67 x68 b1 zF zK zQ zM z1d)
theorem ZmJ (x66 : List Int) x67 x68 b0 b1 b2 zF zK zQ zM zY z1d ox66 zB zP zH zO zV (z1o : ZN zO = true) : Sim (Z1P) (Zbo x66 x67 x68 b1 zF zK zQ zM z1d) (Ztn 0 (.ptr 1 0) (.ptr 2 0) (.ptr 3 0) (.mp 4) (.p (.lst ox66 (x66.map (eI .i64)))) (iv x67) (iv x68) [(Zv b0 zB), (ZE b1 zP zH), (Zv b2 zO), (Zv (Zz.mk zF zK zQ zM zY) zV), [(.md ((z1d).map (encM ZC)))]]) := by
 unfold Zbo
 refine zf (ZzA ..)<|ze<|zi fun a1 ha1 => ?_
 refine zo (.cptr [(.v (.int .i64 a1))]) ?_ (Eq.trans (by kernel_rfl) (Z40 (o := ox66) (k := .i64) (n := 1) (e := (eI .i64)) (cs := (fun a => [(eI .i64) a])) (fun _ => rfl) (fun _ => rfl) (by decide) ha1))
 refine zq<|ze ?_
 refine zo (.p (.tup [(.agg (Z1J ((getM z1d a1).getD (Zw.mk 0 0 0 0 (ByteArray.mk #[]))))), (.v (.bool (getM z1d a1).isSome))])) ?_ (Eq.trans (b := ZfS PP 110 true (.mp 4) (iv a1) [(Zv b0 zB), (ZE b1 zP zH), (Zv b2 zO), (Zv (Zz.mk zF zK zQ zM zY) zV), [(.md ((z1d).map (encM ZC)))]]) (by kernel_rfl) <| (ZqR (e := ZC) (z := (Zw.mk 0 0 0 0 (ByteArray.mk #[]))) (es := z1d) (te := 43) (by kernel_rfl) (by kernel_rfl) (by kernel_rfl) true).trans (by kernel_rfl))
 refine zq<|zq<|zz (.ptr 5 0) [(Zv b0 zB), (ZE b1 zP zH), (Zv b2 zO), (Zv (Zz.mk zF zK zQ zM zY) zV), [(.md ((z1d).map (encM ZC)))], (Z1v (Zw.mk 0 0 0 0 (ByteArray.mk #[])))]<|zt [(Zv b0 zB), (ZE b1 zP zH), (Zv b2 zO), (Zv (Zz.mk zF zK zQ zM zY) zV), [(.md ((z1d).map (encM ZC)))], (Z1v ((getM z1d a1).getD (Zw.mk 0 0 0 0 (ByteArray.mk #[]))))]<|ze<|zq ?_
 refine za (!(getM z1d a1).isSome) ?_ ?_
 ·refine ze<|zq<|zt [(Zv b0 zB), (ZE b1 zP zH), (Zv (Zz.mk 0 0 0 0 ([] : List Zw)) .nl), (Zv (Zz.mk zF zK zQ zM zY) zV), [(.md ((z1d).map (encM ZC)))], (Z1v ((getM z1d a1).getD (Zw.mk 0 0 0 0 (ByteArray.mk #[]))))] ?_
  exact zr ((.p (.tup [(.agg (Z1e (Zz.mk 0 0 0 0 ([] : List Zw)) .sh)), (.v (.int .i64 32))])), [(Zv b0 zB), (ZE b1 zP zH), (Zv (Zz.mk 0 0 0 0 ([] : List Zw)) .nl), (Zv (Zz.mk zF zK zQ zM zY) zV), [(.md ((z1d).map (encM ZC)))], (Z1v ((getM z1d a1).getD (Zw.mk 0 0 0 0 (ByteArray.mk #[]))))]) ⟨_, rfl⟩
 ·exact zk (ZmK a1 x66 x67 x68 b0 b1 b2 zF zK zQ zM zY z1d ox66 zB zP zH zO zV z1o)
def Z9i (b1 : ZL) (zF zK zQ zM : Int) (z1d : List (Int × Zw)) : Option (Zz × Int) :=
 Z9q b1.Put (b1.Put.length : Int) 0 zF zK zQ zM z1d
theorem ZmM b0 b1 b2 zF zK zQ zM zY z1d zB zP zH zO zV (z1o : ZN zO = true) : Sim (Z1P) (Z9i b1 zF zK zQ zM z1d) (Ztq 0 (.ptr 1 0) (.ptr 2 0) (.ptr 3 0) (.mp 4) [(Zv b0 zB), (ZE b1 zP zH), (Zv b2 zO), (Zv (Zz.mk zF zK zQ zM zY) zV), [(.md ((z1d).map (encM ZC)))]]) := by
 unfold Z9i
 refine zf (ZzD ..)<|ze<|zq<|zq ?_
 refine zo (iv (b1.Put.length : Int)) ?_ (Eq.trans (by kernel_rfl) (Z3d (P := PP) (t := 22) (d := 43) (by kernel_rfl) ZC (shrO zP) b1.Put))
 exact zk (Zg6 b1.Put (b1.Put.length : Int) 0 b0 b1 b2 zF zK zQ zM zY z1d (shrO zP) zB zP zH zO zV z1o)
def Z9e (x66 : List Int) (x67 x68 : Int) (b1 : ZL) (zF zK zQ zM : Int) (z1d : List (Int × Zw)) : Option (Zz × Int) :=
 if (decide (x68 < x67)) = true then
 (Zbo x66 x67 x68 b1 zF zK zQ zM z1d)
 else
 (Z9i b1 zF zK zQ zM z1d)
theorem ZmA (x66 : List Int) x67 x68 b0 b1 b2 zF zK zQ zM zY z1d ox66 zB zP zH zO zV (z1o : ZN zO = true) : Sim (Z1P) (Z9e x66 x67 x68 b1 zF zK zQ zM z1d) (ZiN 0 (.ptr 1 0) (.ptr 2 0) (.ptr 3 0) (.mp 4) (.p (.lst ox66 (x66.map (eI .i64)))) (iv x67) (iv x68) [(Zv b0 zB), (ZE b1 zP zH), (Zv b2 zO), (Zv (Zz.mk zF zK zQ zM zY) zV), [(.md ((z1d).map (encM ZC)))]]) := by
 unfold Z9e
 refine zf (Zzt ..)<|ze<|zq ?_
 refine za (decide (x68 < x67)) ?_ ?_
 ·exact zk (ZmJ x66 x67 x68 b0 b1 b2 zF zK zQ zM zY z1d ox66 zB zP zH zO zV z1o)
 ·exact zk (ZmM b0 b1 b2 zF zK zQ zM zY z1d zB zP zH zO zV z1o)
theorem Zg3 (x66 : List Int) (x67 x68 : Int) (b1 : ZL) (zF zK zQ zM : Int) (z1d : List (Int × Zw)) {r} (h : Z9e x66 x67 x68 b1 zF zK zQ zM z1d = some r) : Z9p x66 x67 x68 b1 zF zK zQ zM z1d = some r :=
 Z1a (fun _ _ ha hb => RRun.uniq ZaS (ha default default default .ex .ex .ex .ex .ex .ex rfl) (hb default default default .ex .ex .ex .ex .ex .ex rfl)) (fun b0 b2 zY ox66 zB zP zH zO zV z1o => ZmA x66 x67 x68 b0 b1 b2 zF zK zQ zM zY z1d ox66 zB zP zH zO zV z1o r h)
def Zbr (x85 : List Zw) (x86 x87 zF zK zQ zM : Int) (z1d : List (Int × Zw)) : Option (Zz × Int) :=
 (lget x85 x87).bind fun a1 =>
 Z9q x85 x86 (IntKind.i64.wrap (x87 + 1)) zF zK zQ zM (putM z1d a1.ID a1)
theorem ZmN (x85 : List Zw) x86 x87 b0 b1 b2 zF zK zQ zM zY z1d ox85 zB zP zH zO zV (z1o : ZN zO = true) : Sim (Z1P) (Zbr x85 x86 x87 zF zK zQ zM z1d) (Ztr 0 (.ptr 2 0) (.ptr 3 0) (.mp 4) (.p (.lst ox85 (x85.map ZC))) (iv x86) (iv x87) [(Zv b0 zB), (ZE b1 zP zH), (Zv b2 zO), (Zv (Zz.mk zF zK zQ zM zY) zV), [(.md ((z1d).map (encM ZC)))]]) := by
 unfold Zbr
 refine zf (ZzE ..)<|ze<|zi fun a1 ha1 => ?_
 refine zo (.cptr (Z1J a1)) ?_ (Eq.trans (by kernel_rfl) (Z40 (o := ox85) (k := .i64) (n := 5) (e := ZC) (cs := Z5O) (fun _ => rfl) (fun _ => rfl) (by decide) ha1))
 refine zq<|zz (.ptr 5 0) [(Zv b0 zB), (ZE b1 zP zH), (Zv b2 zO), (Zv (Zz.mk zF zK zQ zM zY) zV), [(.md ((z1d).map (encM ZC)))], (Z1v (Zw.mk 0 0 0 0 (ByteArray.mk #[])))]<|zt [(Zv b0 zB), (ZE b1 zP zH), (Zv b2 zO), (Zv (Zz.mk zF zK zQ zM zY) zV), [(.md ((z1d).map (encM ZC)))], (Z1v a1)]<|ze<|zq<|zq<|zq ?_
 refine Sim.xupd (B2 := [(Zv b0 zB), (ZE b1 zP zH), (Zv b2 zO), (Zv (Zz.mk zF zK zQ zM zY) zV), [(.md ((putM z1d a1.ID a1).map (encM ZC)))], (Z1v a1)]) (fun K => Eq.trans (b := xupd PP 110 (.mp 4) (iv a1.ID) (.p (.agg (Z1J a1))) [(Zv b0 zB), (ZE b1 zP zH), (Zv b2 zO), (Zv (Zz.mk zF zK zQ zM zY) zV), [(.md ((z1d).map (encM ZC)))], (Z1v a1)] K) (by kernel_rfl) <| ZtQ (P := PP) (t := 110) (K := K) (B2 := [(Zv b0 zB), (ZE b1 zP zH), (Zv b2 zO), (Zv (Zz.mk zF zK zQ zM zY) zV), [(.md ((putM z1d a1.ID a1).map (encM ZC)))], (Z1v a1)]) (e := ZC) (a := a1) (es := z1d) (te := 43) (by kernel_rfl) (by kernel_rfl) (by kernel_rfl) (by kernel_rfl) (by kernel_rfl)) ?_
 refine ze<|zq ?_
 exact zk (Zg6 x85 x86 (IntKind.i64.wrap (x87 + 1)) b0 b1 b2 zF zK zQ zM zY (putM z1d a1.ID a1) ox85 zB zP zH zO zV z1o)
def Zbs (zF zK zQ zM : Int) (z1d : List (Int × Zw)) : Option (Zz × Int) :=
 (Z8Z).bind fun r1 =>
 (Z9S z1d).bind fun r2 =>
 Z9r r2 (r2.length : Int) 0 zF zK zQ zM ([] : List Zw) z1d
theorem ZmP b0 b1 b2 zF zK zQ zM zY z1d zB zP zH zO zV (z1o : ZN zO = true) : Sim (Z1P) (Zbs zF zK zQ zM z1d) (Ztt 0 (.ptr 2 0) (.ptr 3 0) (.mp 4) [(Zv b0 zB), (ZE b1 zP zH), (Zv b2 zO), (Zv (Zz.mk zF zK zQ zM zY) zV), [(.md ((z1d).map (encM ZC)))]]) := by
 unfold Zbs
 refine zf (ZzG ..)<|ze<|zq<|zt [(Zv b0 zB), (ZE b1 zP zH), (Zv b2 zO), (Zv (Zz.mk zF zK zQ zM ([] : List Zw)) .nl), [(.md ((z1d).map (encM ZC)))]]<|ze<|zi fun r1 hr1 => ?_
 obtain ⟨qr1, er1, exr1, rfl, _⟩ := ZjG z1d r1 hr1
 refine zc [4] (.clo 78 [] [(.ptr 5 0)]) [(Zv b0 zB), (ZE b1 zP zH), (Zv b2 zO), (Zv (Zz.mk zF zK zQ zM ([] : List Zw)) .nl), [(.md ((z1d).map (encM ZC)))], [(.mp 4)]] er1<|zi fun r2 hr2 => ?_
 obtain ⟨qr2, er2, exr2, rfl⟩ := ZhS z1d r2 hr2
 refine zc [5, 4] (.p (.lst .sh (r2.map (eI .i64)))) [(Zv b0 zB), (ZE b1 zP zH), (Zv b2 zO), (Zv (Zz.mk zF zK zQ zM ([] : List Zw)) .nl), [(.md ((z1d).map (encM ZC)))], [(.mp 4)]] er2 ?_
 refine zo (iv (r2.length : Int)) ?_ (Eq.trans (by kernel_rfl) (Z3d (P := PP) (t := 27) (d := 3) (by kernel_rfl) (eI .i64) .sh r2))
 exact zk (Zg8 r2 (r2.length : Int) 0 b0 b1 b2 zF zK zQ zM ([] : List Zw) z1d .sh zB zP zH zO .nl z1o rfl)
def Z9j (zF zK zQ zM : Int) (z1d : List (Int × Zw)) : Option (Zz × Int) :=
 if (decide (16 < (z1d.length : Int))) = true then
 (some ((Zz.mk 0 0 0 0 ([] : List Zw)), 33))
 else
 (Zbs zF zK zQ zM z1d)
theorem ZmO b0 b1 b2 zF zK zQ zM zY z1d zB zP zH zO zV (z1o : ZN zO = true) : Sim (Z1P) (Z9j zF zK zQ zM z1d) (Zts 0 (.ptr 2 0) (.ptr 3 0) (.mp 4) [(Zv b0 zB), (ZE b1 zP zH), (Zv b2 zO), (Zv (Zz.mk zF zK zQ zM zY) zV), [(.md ((z1d).map (encM ZC)))]]) := by
 unfold Z9j
 refine zf (ZzF ..)<|ze ?_
 refine zo (iv (z1d.length : Int)) ?_ (Eq.trans (b := Znu (.mp 4) [(Zv b0 zB), (ZE b1 zP zH), (Zv b2 zO), (Zv (Zz.mk zF zK zQ zM zY) zV), [(.md ((z1d).map (encM ZC)))]]) (by kernel_rfl) (ZDw (e := ZC) (es := z1d) (by kernel_rfl)))
 refine zq ?_
 refine za (decide (16 < (z1d.length : Int))) ?_ ?_
 ·refine ze<|zq<|zt [(Zv b0 zB), (ZE b1 zP zH), (Zv (Zz.mk 0 0 0 0 ([] : List Zw)) .nl), (Zv (Zz.mk zF zK zQ zM zY) zV), [(.md ((z1d).map (encM ZC)))]] ?_
  exact zr ((.p (.tup [(.agg (Z1e (Zz.mk 0 0 0 0 ([] : List Zw)) .sh)), (.v (.int .i64 33))])), [(Zv b0 zB), (ZE b1 zP zH), (Zv (Zz.mk 0 0 0 0 ([] : List Zw)) .nl), (Zv (Zz.mk zF zK zQ zM zY) zV), [(.md ((z1d).map (encM ZC)))]]) ⟨_, rfl⟩
 ·exact zk (ZmP b0 b1 b2 zF zK zQ zM zY z1d zB zP zH zO zV z1o)
def Z9f (x85 : List Zw) (x86 x87 zF zK zQ zM : Int) (z1d : List (Int × Zw)) : Option (Zz × Int) :=
 if (decide (x87 < x86)) = true then
 (Zbr x85 x86 x87 zF zK zQ zM z1d)
 else
 (Z9j zF zK zQ zM z1d)
theorem ZmC (x85 : List Zw) x86 x87 b0 b1 b2 zF zK zQ zM zY z1d ox85 zB zP zH zO zV (z1o : ZN zO = true) : Sim (Z1P) (Z9f x85 x86 x87 zF zK zQ zM z1d) (ZiO 0 (.ptr 2 0) (.ptr 3 0) (.mp 4) (.p (.lst ox85 (x85.map ZC))) (iv x86) (iv x87) [(Zv b0 zB), (ZE b1 zP zH), (Zv b2 zO), (Zv (Zz.mk zF zK zQ zM zY) zV), [(.md ((z1d).map (encM ZC)))]]) := by
 unfold Z9f
 refine zf (Zzu ..)<|ze<|zq ?_
 refine za (decide (x87 < x86)) ?_ ?_
 ·exact zk (ZmN x85 x86 x87 b0 b1 b2 zF zK zQ zM zY z1d ox85 zB zP zH zO zV z1o)
 ·exact zk (ZmO b0 b1 b2 zF zK zQ zM zY z1d zB zP zH zO zV z1o)
theorem Zg5 (x85 : List Zw) (x86 x87 zF zK zQ zM : Int) (z1d : List (Int × Zw)) {r} (h : Z9f x85 x86 x87 zF zK zQ zM z1d = some r) : Z9q x85 x86 x87 zF zK zQ zM z1d = some r :=
 Z1a (fun _ _ ha hb => RRun.uniq ZaS (ha default default default default .ex .ex .ex .ex .ex .ex rfl) (hb default default default default .ex .ex .ex .ex .ex .ex rfl)) (fun b0 b1 b2 zY ox85 zB zP zH zO zV z1o => ZmC x85 x86 x87 b0 b1 b2 zF zK zQ zM zY z1d ox85 zB zP zH zO zV z1o r h)
def Zbt (x103 : List Int) (x104 x105 zF zK zQ zM : Int) (zY : List Zw) (z1d : List (Int × Zw)) : Option (Zz × Int) :=
 (lget x103 x105).bind fun a1 =>
 (lapp zY ([((getM z1d a1).getD (Zw.mk 0 0 0 0 (ByteArray.mk #[])))] : List Zw)).bind fun a2 =>
 Z9r x103 x104 (IntKind.i64.wrap (x105 + 1)) zF zK zQ zM a2 z1d
theorem ZmQ (x103 : List Int) x104 x105 b0 b1 b2 zF zK zQ zM zY z1d ox103 zB zP zH zO zV (z1o : ZN zO = true) (z8b : ZN zV = true) : Sim (Z1P) (Zbt x103 x104 x105 zF zK zQ zM zY z1d) (Ztu 0 (.ptr 2 0) (.ptr 3 0) (.mp 4) (.p (.lst ox103 (x103.map (eI .i64)))) (iv x104) (iv x105) [(Zv b0 zB), (ZE b1 zP zH), (Zv b2 zO), (Zv (Zz.mk zF zK zQ zM zY) zV), [(.md ((z1d).map (encM ZC)))]]) := by
 unfold Zbt
 refine zf (ZzH ..)<|ze<|zi fun a1 ha1 => ?_
 refine zo (.cptr [(.v (.int .i64 a1))]) ?_ (Eq.trans (by kernel_rfl) (Z40 (o := ox103) (k := .i64) (n := 1) (e := (eI .i64)) (cs := (fun a => [(eI .i64) a])) (fun _ => rfl) (fun _ => rfl) (by decide) ha1))
 refine zq<|ze<|zq<|zw (.p (.lst zV (zY.map ZC))) [(Zv b0 zB), (ZE b1 zP zH), (Zv b2 zO), (Zv (Zz.mk zF zK zQ zM zY) (shrO zV)), [(.md ((z1d).map (encM ZC)))]] ?_
 refine zo (.p (.agg (Z1J ((getM z1d a1).getD (Zw.mk 0 0 0 0 (ByteArray.mk #[])))))) ?_ (Eq.trans (b := ZfS PP 110 false (.mp 4) (iv a1) [(Zv b0 zB), (ZE b1 zP zH), (Zv b2 zO), (Zv (Zz.mk zF zK zQ zM zY) (shrO zV)), [(.md ((z1d).map (encM ZC)))]]) (by kernel_rfl) <| (ZqR (e := ZC) (z := (Zw.mk 0 0 0 0 (ByteArray.mk #[]))) (es := z1d) (te := 43) (by kernel_rfl) (by kernel_rfl) (by kernel_rfl) false).trans (by kernel_rfl))
 refine zq<|zi fun a2 ha2 => ?_
 refine zo (.p (.lst .un (a2.map ZC))) ?_ (Eq.trans (by kernel_rfl) <| ZiW (n := 5) (o := zV) (o' := .ex) (e := ZC) (ys := ([((getM z1d a1).getD (Zw.mk 0 0 0 0 (ByteArray.mk #[])))] : List Zw)) (fun _ => rfl) (by decide) z8b ha2)
 refine zq<|zt [(Zv b0 zB), (ZE b1 zP zH), (Zv b2 zO), (Zv (Zz.mk zF zK zQ zM a2) .un), [(.md ((z1d).map (encM ZC)))]]<|ze<|zq ?_
 exact zk (Zg8 x103 x104 (IntKind.i64.wrap (x105 + 1)) b0 b1 b2 zF zK zQ zM a2 z1d ox103 zB zP zH zO .un z1o rfl)
def Zbu (zF zK zQ zM : Int) (zY : List Zw) : Option (Zz × Int) :=
 some ((Zz.mk zF zK zQ zM zY), 0)
theorem ZmR b0 b1 b2 zF zK zQ zM zY zB zP zH zO zV (z1o : ZN zO = true) (z8b : ZN zV = true) : Sim (Z1P) (Zbu zF zK zQ zM zY) (Ztv 0 (.ptr 2 0) (.ptr 3 0) [(Zv b0 zB), (ZE b1 zP zH), (Zv b2 zO), (Zv (Zz.mk zF zK zQ zM zY) zV)]) := by
 unfold Zbu
 refine zf (ZzI ..)<|ze<|zq<|zt [(Zv b0 zB), (ZE b1 zP zH), (Zv (Zz.mk zF zK zQ zM zY) (shrO zV)), (Zv (Zz.mk zF zK zQ zM zY) zV)] ?_
 exact zr ((.p (.tup [(.agg (Z1e (Zz.mk zF zK zQ zM zY) .sh)), (.v (.int .i64 0))])), [(Zv b0 zB), (ZE b1 zP zH), (Zv (Zz.mk zF zK zQ zM zY) (shrO zV)), (Zv (Zz.mk zF zK zQ zM zY) zV)]) ⟨_, rfl⟩
def Z9g (x103 : List Int) (x104 x105 zF zK zQ zM : Int) (zY : List Zw) (z1d : List (Int × Zw)) : Option (Zz × Int) :=
 if (decide (x105 < x104)) = true then
 (Zbt x103 x104 x105 zF zK zQ zM zY z1d)
 else
 (Zbu zF zK zQ zM zY)
theorem ZmE (x103 : List Int) x104 x105 b0 b1 b2 zF zK zQ zM zY z1d ox103 zB zP zH zO zV (z1o : ZN zO = true) (z8b : ZN zV = true) : Sim (Z1P) (Z9g x103 x104 x105 zF zK zQ zM zY z1d) (ZiP 0 (.ptr 2 0) (.ptr 3 0) (.mp 4) (.p (.lst ox103 (x103.map (eI .i64)))) (iv x104) (iv x105) [(Zv b0 zB), (ZE b1 zP zH), (Zv b2 zO), (Zv (Zz.mk zF zK zQ zM zY) zV), [(.md ((z1d).map (encM ZC)))]]) := by
 unfold Z9g
 refine zf (Zzv ..)<|ze<|zq ?_
 refine za (decide (x105 < x104)) ?_ ?_
 ·exact zk (ZmQ x103 x104 x105 b0 b1 b2 zF zK zQ zM zY z1d ox103 zB zP zH zO zV z1o z8b)
 ·exact zk (ZmR b0 b1 b2 zF zK zQ zM zY zB zP zH zO zV z1o z8b)
theorem Zg7 (x103 : List Int) (x104 x105 zF zK zQ zM : Int) (zY : List Zw) (z1d : List (Int × Zw)) {r} (h : Z9g x103 x104 x105 zF zK zQ zM zY z1d = some r) : Z9r x103 x104 x105 zF zK zQ zM zY z1d = some r :=
 Z1a (fun _ _ ha hb => RRun.uniq ZaS (ha default default default .ex .ex .ex .ex .ex .ex rfl rfl) (hb default default default .ex .ex .ex .ex .ex .ex rfl rfl)) (fun b0 b1 b2 ox103 zB zP zH zO zV z1o z8b => ZmE x103 x104 x105 b0 b1 b2 zF zK zQ zM zY z1d ox103 zB zP zH zO zV z1o z8b r h)
def Zef (x1 z18 : Int) : Option (Int) :=
 if (x1 != (-1)) = true then
 (some (x1))
 else
 (some (z18))
theorem Zpt x1 z18 z1l z1x z1s z1p zB : Sim (ZbL z1l z1x z1s z1p zB) (Zef x1 z18) (EE 49 [(.ptr 0 0), (iv x1)] [(Zv (Zz.mk z18 z1l z1x z1s z1p) zB)]) := by
 unfold Zef
 refine zf (Zre ..)<|ze<|zq ?_
 refine za (x1 != (-1)) ?_ ?_
 ·refine ze<|zq<|zt [(Zv (Zz.mk x1 z1l z1x z1s z1p) zB)] ?_
  exact zr ((.p (.tup [])), [(Zv (Zz.mk x1 z1l z1x z1s z1p) zB)]) ⟨_, rfl⟩
 ·exact zr ((.p (.tup [])), [(Zv (Zz.mk z18 z1l z1x z1s z1p) zB)]) ⟨_, rfl⟩
theorem Zqq (x1 z18 : Int) {r} (h : Zef x1 z18 = some r) : Zel x1 z18 = some r :=
 Z1a (fun _ _ ha hb => RRun.uniq (ZqU _ _ _ _ _) (ha default default default default .ex) (hb default default default default .ex)) (fun z1l z1x z1s z1p zB => Zpt x1 z18 z1l z1x z1s z1p zB r h)
def ZaD (x1 z1l : Int) : Option (Int) :=
 if (x1 != (-1)) = true then
 (some (x1))
 else
 (some (z1l))
theorem ZlG x1 z18 z1l z1x z1s z1p zB : Sim (Z8J z18 z1x z1s z1p zB) (ZaD x1 z1l) (EE 49 [(.ptr 0 1), (iv x1)] [(Zv (Zz.mk z18 z1l z1x z1s z1p) zB)]) := by
 unfold ZaD
 refine zf (Zre ..)<|ze<|zq ?_
 refine za (x1 != (-1)) ?_ ?_
 ·refine ze<|zq<|zt [(Zv (Zz.mk z18 x1 z1x z1s z1p) zB)] ?_
  exact zr ((.p (.tup [])), [(Zv (Zz.mk z18 x1 z1x z1s z1p) zB)]) ⟨_, rfl⟩
 ·exact zr ((.p (.tup [])), [(Zv (Zz.mk z18 z1l z1x z1s z1p) zB)]) ⟨_, rfl⟩
theorem ZmY (x1 z1l : Int) {r} (h : ZaD x1 z1l = some r) : ZaM x1 z1l = some r :=
 Z1a (fun _ _ ha hb => RRun.uniq (ZnG _ _ _ _ _) (ha default default default default .ex) (hb default default default default .ex)) (fun z18 z1x z1s z1p zB => ZlG x1 z18 z1l z1x z1s z1p zB r h)
def ZaC (x1 z1x : Int) : Option (Int) :=
 if (x1 != (-1)) = true then
 (some (x1))
 else
 (some (z1x))
theorem ZlE x1 z18 z1l z1x z1s z1p zB : Sim (Z8I z18 z1l z1s z1p zB) (ZaC x1 z1x) (EE 49 [(.ptr 0 2), (iv x1)] [(Zv (Zz.mk z18 z1l z1x z1s z1p) zB)]) := by
 unfold ZaC
 refine zf (Zre ..)<|ze<|zq ?_
 refine za (x1 != (-1)) ?_ ?_
 ·refine ze<|zq<|zt [(Zv (Zz.mk z18 z1l x1 z1s z1p) zB)] ?_
  exact zr ((.p (.tup [])), [(Zv (Zz.mk z18 z1l x1 z1s z1p) zB)]) ⟨_, rfl⟩
 ·exact zr ((.p (.tup [])), [(Zv (Zz.mk z18 z1l z1x z1s z1p) zB)]) ⟨_, rfl⟩
theorem ZmW (x1 z1x : Int) {r} (h : ZaC x1 z1x = some r) : ZaL x1 z1x = some r :=
 Z1a (fun _ _ ha hb => RRun.uniq (ZnF _ _ _ _ _) (ha default default default default .ex) (hb default default default default .ex)) (fun z18 z1l z1s z1p zB => ZlE x1 z18 z1l z1x z1s z1p zB r h)
def ZaB (x1 z1s : Int) : Option (Int) :=
 if (x1 != (-1)) = true then
 (some (x1))
 else
 (some (z1s))
theorem ZlC x1 z18 z1l z1x z1s z1p zB : Sim (Z8H z18 z1l z1x z1p zB) (ZaB x1 z1s) (EE 49 [(.ptr 0 3), (iv x1)] [(Zv (Zz.mk z18 z1l z1x z1s z1p) zB)]) := by
 unfold ZaB
 refine zf (Zre ..)<|ze<|zq ?_
 refine za (x1 != (-1)) ?_ ?_
 ·refine ze<|zq<|zt [(Zv (Zz.mk z18 z1l z1x x1 z1p) zB)] ?_
  exact zr ((.p (.tup [])), [(Zv (Zz.mk z18 z1l z1x x1 z1p) zB)]) ⟨_, rfl⟩
 ·exact zr ((.p (.tup [])), [(Zv (Zz.mk z18 z1l z1x z1s z1p) zB)]) ⟨_, rfl⟩
theorem ZmU (x1 z1s : Int) {r} (h : ZaB x1 z1s = some r) : ZaK x1 z1s = some r :=
 Z1a (fun _ _ ha hb => RRun.uniq (ZnE _ _ _ _ _) (ha default default default default .ex) (hb default default default default .ex)) (fun z18 z1l z1x z1p zB => ZlC x1 z18 z1l z1x z1s z1p zB r h)
def Z9G (x0 : List Zw) : Option (Bool) :=
 (Z5p x0).bind fun r1 =>
 some (!r1)
theorem ZjV (x0 : List Zw) ox0 : Sim (Z7H) (Z9G x0) (EE 50 [(.p (.lst ox0 (x0.map ZC))), (.clo 27 [] [])] []) := by
 unfold Z9G
 refine zf (ZGo ..)<|ze<|zx (.ptr 0 0) [[(.clo 27 [] [])]]<|ze<|zi fun r1 hr1 => ?_
 obtain ⟨qr1, er1, exr1, rfl⟩ := Ze1 x0 .sh r1 hr1
 refine zc [0] (bv r1) [[(.clo 27 [] [])]] er1<|zq ?_
 exact zr ((bv (!r1)), [[(.clo 27 [] [])]]) ⟨_, rfl⟩
theorem ZkL (x0 : List Zw) {r} (h : Z9G x0 = some r) : Z9O x0 = some r :=
 Z1a (fun _ _ ha hb => RRun.uniq Zl5 (ha .ex) (hb .ex)) (fun ox0 => ZjV x0 ox0 r h)
def Z5h (x0 : List Zw) : Option (Bool) :=
 (Z6i x0).bind fun r1 =>
 some (decide (0 ≤ r1))
theorem Zdv (x0 : List Zw) ox0 : Sim (Z4f) (Z5h x0) (EE 57 [(.p (.lst ox0 (x0.map ZC))), (.clo 73 [] [(.ptr 0 0)])] [[(.clo 27 [] [])]]) := by
 unfold Z5h
 refine zf (ZB7 ..)<|ze<|ze<|zi fun r1 hr1 => ?_
 obtain ⟨qr1, er1, exr1, rfl⟩ := ZfD x0 .sh r1 hr1
 refine zc [0] (iv r1) [[(.clo 27 [] [])]] er1<|zq ?_
 exact zr ((bv (decide (0 ≤ r1))), [[(.clo 27 [] [])]]) ⟨_, rfl⟩
theorem Ze0 (x0 : List Zw) {r} (h : Z5h x0 = some r) : Z5p x0 = some r :=
 Z1a (fun _ _ ha hb => RRun.uniq Zes (ha .ex) (hb .ex)) (fun ox0 => Zdv x0 ox0 r h)
def Z6e (x0 : List Zw) : Option (Int) :=
 Z4o x0 (x0.length : Int) 0
theorem Zfc (x0 : List Zw) ox0 : Sim (Z2g) (Z6e x0) (EE 83 [(.p (.lst ox0 (x0.map ZC))), (.clo 73 [] [(.ptr 0 0)])] [[(.clo 27 [] [])]]) := by
 unfold Z6e
 refine zf (ZBl ..)<|ze<|ze ?_
 refine zo (iv (x0.length : Int)) ?_ (Eq.trans (by kernel_rfl) (Z3d (P := PP) (t := 22) (d := 43) (by kernel_rfl) ZC (shrO ox0) x0))
 exact zk (Z95 x0 (x0.length : Int) 0 ox0)
theorem ZfC (x0 : List Zw) {r} (h : Z6e x0 = some r) : Z6i x0 = some r :=
 Z1a (fun _ _ ha hb => RRun.uniq Zas (ha .ex) (hb .ex)) (fun ox0 => Zfc x0 ox0 r h)
def Z5k (x0 : List Zw) (x7 x8 : Int) : Option (Int) :=
 Z4o x0 x7 (IntKind.i64.wrap (x8 + 1))
theorem ZdD (x0 : List Zw) x7 x8 ox0 : Sim (Z2g) (Z5k x0 x7 x8) (Zrk 1 (.p (.lst ox0 (x0.map ZC))) (.clo 73 [] [(.ptr 0 0)]) (iv x7) (iv x8) [[(.clo 27 [] [])]]) := by
 unfold Z5k
 refine zf (ZtX ..)<|ze<|zq ?_
 exact zk (Z95 x0 x7 (IntKind.i64.wrap (x8 + 1)) ox0)
def Z4i (x0 : List Zw) (x7 x8 : Int) : Option (Int) :=
 (lget x0 x8).bind fun a1 =>
 (Z6Y a1).bind fun r2 =>
 if (r2) = true then
 (some (x8))
 else
 (Z5k x0 x7 x8)
theorem ZdC (x0 : List Zw) x7 x8 ox0 : Sim (Z2g) (Z4i x0 x7 x8) (Zrj 1 (.p (.lst ox0 (x0.map ZC))) (.clo 73 [] [(.ptr 0 0)]) (iv x7) (iv x8) [[(.clo 27 [] [])]]) := by
 unfold Z4i
 refine zf (ZtW ..)<|ze<|ze<|zi fun a1 ha1 => ?_
 refine zo (.cptr (Z1J a1)) ?_ (Eq.trans (by kernel_rfl) (Z40 (o := (shrO ox0)) (k := .i64) (n := 5) (e := ZC) (cs := Z5O) (fun _ => rfl) (fun _ => rfl) (by decide) ha1))
 refine zq<|zi fun r2 hr2 => ?_
 obtain ⟨qr2, er2, exr2, rfl⟩ := Zjm a1 r2 hr2
 refine zv [0] (bv r2) [[(.clo 27 [] [])]] er2 ?_
 refine za r2 ?_ ?_
 ·refine ze ?_
  exact zr ((iv x8), [[(.clo 27 [] [])]]) ⟨_, rfl⟩
 ·exact zk (ZdD x0 x7 x8 ox0)
def Z7n  : Option (Int) :=
 some (-1)
theorem ZdE  : Sim (Z2g) (Z7n) (Zrl 1  [[(.clo 27 [] [])]]) := by
 unfold Z7n
 refine zf (ZtY ..)<|ze ?_
 exact zr ((iv (-1)), [[(.clo 27 [] [])]]) ⟨_, rfl⟩
def Z3v (x0 : List Zw) (x7 x8 : Int) : Option (Int) :=
 if (decide (x8 < x7)) = true then
 (Z4i x0 x7 x8)
 else
 (Z7n)
theorem ZdB (x0 : List Zw) x7 x8 ox0 : Sim (Z2g) (Z3v x0 x7 x8) (Zfr 1 (.p (.lst ox0 (x0.map ZC))) (.clo 73 [] [(.ptr 0 0)]) (iv x7) (iv x8) [[(.clo 27 [] [])]]) := by
 unfold Z3v
 refine zf (ZtV ..)<|ze<|zq ?_
 refine za (decide (x8 < x7)) ?_ ?_
 ·exact zk (ZdC x0 x7 x8 ox0)
 ·exact zk (ZdE )
theorem Z6t (x0 : List Zw) (x7 x8 : Int) {r} (h : Z3v x0 x7 x8 = some r) : Z4o x0 x7 x8 = some r :=
 Z1a (fun _ _ ha hb => RRun.uniq Zas (ha .ex) (hb .ex)) (fun ox0 => ZdB x0 x7 x8 ox0 r h)
def Z6S (x0 : Zw) : Option (Bool) :=
 (Z8R x0).bind fun r1 =>
 some (!r1)
theorem Ziq x0 : Sim (Z6J) (Z6S x0) (EE 73 [(.p (.agg (Z1J x0))), (.ptr 0 0)] [[(.clo 27 [] [])]]) := by
 unfold Z6S
 refine zf (ZGF ..)<|ze<|zx (.ptr 1 0) [[(.clo 27 [] [])], (Z1v x0)]<|ze<|zq<|zq<|zi fun r1 hr1 => ?_
 obtain ⟨qr1, er1, exr1, rfl⟩ := Zft x0 r1 hr1
 refine zv [] (bv r1) [[(.clo 27 [] [])], (Z1v x0)] er1<|zq ?_
 exact zr ((bv (!r1)), [[(.clo 27 [] [])], (Z1v x0)]) ⟨_, rfl⟩
theorem Zcv (x0 : Zw) {r} (h : Z6S x0 = some r) : Z6Y x0 = some r :=
 Z1a (fun _ _ ha hb => RRun.uniq ZjB (ha ) (hb )) (Ziq x0 r h)
def Za8 (x0 : ZL) : Option (Bool) :=
 (Z5q x0.Put ([] : List (Int × Bool))).bind fun r1 =>
 if (r1.1) = true then
 (some (true))
 else
 ((Z5E x0.Drop r1.2).bind fun r2 =>
 some (r2.1))
theorem ZkI x0 z67 z4V : Sim (Z8e) (Za8 x0) (EE 51 [(.p (.agg (Z2J x0 z67 z4V)))] []) := by
 unfold Za8
 refine zf (ZGp ..)<|ze<|zx (.ptr 0 0) [(ZE x0 z67 z4V)]<|ze<|zm (.mp 1) [(ZE x0 z67 z4V), [(.md (([] : List (Int × Bool)).map (encM eB)))]]<|zz (.ptr 2 0) [(ZE x0 z67 z4V), [(.md (([] : List (Int × Bool)).map (encM eB)))], [(.p (.v (.map none)))]]<|zt [(ZE x0 z67 z4V), [(.md (([] : List (Int × Bool)).map (encM eB)))], [(.mp 1)]]<|ze<|zz (.ptr 3 0) [(ZE x0 z67 z4V), [(.md (([] : List (Int × Bool)).map (encM eB)))], [(.mp 1)], [(.p (.v .nilFunc))]]<|zt [(ZE x0 z67 z4V), [(.md (([] : List (Int × Bool)).map (encM eB)))], [(.mp 1)], [(.clo 74 [] [(.ptr 2 0)])]]<|ze<|zq<|zq<|zi fun r1 hr1 => ?_
 obtain ⟨qr1, er1, exr1, rfl⟩ := Ze3 x0.Put ([] : List (Int × Bool)) .sh r1 hr1
 refine zc [3, 2, 1] (bv r1.1) [(ZE x0 z67 z4V), [(.md ((r1.2).map (encM eB)))], [(.mp 1)], [(.clo 74 [] [(.ptr 2 0)])]] er1 ?_
 refine za r1.1 ?_ ?_
 ·exact zr ((bv true), [(ZE x0 z67 z4V), [(.md ((r1.2).map (encM eB)))], [(.mp 1)], [(.clo 74 [] [(.ptr 2 0)])]]) ⟨_, rfl⟩
 ·refine zq<|zq<|zq<|zi fun r2 hr2 => ?_
  obtain ⟨qr2, er2, exr2, rfl⟩ := Zez x0.Drop r1.2 .sh r2 hr2
  refine zc [2, 1] (bv r2.1) [(ZE x0 z67 z4V), [(.md ((r2.2).map (encM eB)))], [(.mp 1)], [(.clo 74 [] [(.ptr 2 0)])]] er2 ?_
  exact zr ((bv r2.1), [(ZE x0 z67 z4V), [(.md ((r2.2).map (encM eB)))], [(.mp 1)], [(.clo 74 [] [(.ptr 2 0)])]]) ⟨_, rfl⟩
theorem Zly (x0 : ZL) {r} (h : Za8 x0 = some r) : Zag x0 = some r :=
 Z1a (fun _ _ ha hb => RRun.uniq Zm7 (ha .ex .ex) (hb .ex .ex)) (fun z67 z4V => ZkI x0 z67 z4V r h)
def Z5i (x0 : List Zw) (z11 : List (Int × Bool)) : Option (Bool × (List (Int × Bool))) :=
 (Z6j x0 z11).bind fun r1 =>
 some ((decide (0 ≤ r1.1)), r1.2)
theorem Zdw (x0 : List Zw) z11 ox0 : Sim (Z4g) (Z5i x0 z11) (EE 57 [(.p (.lst ox0 (x0.map ZC))), (.clo 75 [] [(.ptr 0 0)])] [[(.clo 74 [] [(.ptr 1 0)])], [(.mp 2)], [(.md ((z11).map (encM eB)))]]) := by
 unfold Z5i
 refine zf (ZB7 ..)<|ze<|ze<|zi fun r1 hr1 => ?_
 obtain ⟨qr1, er1, exr1, rfl⟩ := ZfF x0 z11 .sh r1 hr1
 refine zc [0, 1, 2] (iv r1.1) [[(.clo 74 [] [(.ptr 1 0)])], [(.mp 2)], [(.md ((r1.2).map (encM eB)))]] er1<|zq ?_
 exact zr ((bv (decide (0 ≤ r1.1))), [[(.clo 74 [] [(.ptr 1 0)])], [(.mp 2)], [(.md ((r1.2).map (encM eB)))]]) ⟨_, rfl⟩
theorem Ze2 (x0 : List Zw) (z11 : List (Int × Bool)) {r} (h : Z5i x0 z11 = some r) : Z5q x0 z11 = some r :=
 Z1a (fun _ _ ha hb => RRun.uniq Zet (ha .ex) (hb .ex)) (fun ox0 => Zdw x0 z11 ox0 r h)
def Z6f (x0 : List Zw) (z11 : List (Int × Bool)) : Option (Int × (List (Int × Bool))) :=
 Z4p x0 (x0.length : Int) 0 z11
theorem Zfd (x0 : List Zw) z11 ox0 : Sim (Z2h) (Z6f x0 z11) (EE 83 [(.p (.lst ox0 (x0.map ZC))), (.clo 75 [] [(.ptr 0 0)])] [[(.clo 74 [] [(.ptr 1 0)])], [(.mp 2)], [(.md ((z11).map (encM eB)))]]) := by
 unfold Z6f
 refine zf (ZBl ..)<|ze<|ze ?_
 refine zo (iv (x0.length : Int)) ?_ (Eq.trans (by kernel_rfl) (Z3d (P := PP) (t := 22) (d := 43) (by kernel_rfl) ZC (shrO ox0) x0))
 exact zk (Z96 x0 (x0.length : Int) 0 z11 ox0)
theorem ZfE (x0 : List Zw) (z11 : List (Int × Bool)) {r} (h : Z6f x0 z11 = some r) : Z6j x0 z11 = some r :=
 Z1a (fun _ _ ha hb => RRun.uniq Zat (ha .ex) (hb .ex)) (fun ox0 => Zfd x0 z11 ox0 r h)
def Z5l (x0 : List Zw) (x7 x8 : Int) (z11 : List (Int × Bool)) : Option (Int × (List (Int × Bool))) :=
 Z4p x0 x7 (IntKind.i64.wrap (x8 + 1)) z11
theorem ZdH (x0 : List Zw) x7 x8 z11 ox0 : Sim (Z2h) (Z5l x0 x7 x8 z11) (Zrk 3 (.p (.lst ox0 (x0.map ZC))) (.clo 75 [] [(.ptr 0 0)]) (iv x7) (iv x8) [[(.clo 74 [] [(.ptr 1 0)])], [(.mp 2)], [(.md ((z11).map (encM eB)))]]) := by
 unfold Z5l
 refine zf (ZtX ..)<|ze<|zq ?_
 exact zk (Z96 x0 x7 (IntKind.i64.wrap (x8 + 1)) z11 ox0)
def Z4j (x0 : List Zw) (x7 x8 : Int) (z11 : List (Int × Bool)) : Option (Int × (List (Int × Bool))) :=
 (lget x0 x8).bind fun a1 =>
 (Z7s a1 z11).bind fun r2 =>
 if (r2.1) = true then
 (some (x8, r2.2))
 else
 (Z5l x0 x7 x8 r2.2)
theorem ZdG (x0 : List Zw) x7 x8 z11 ox0 : Sim (Z2h) (Z4j x0 x7 x8 z11) (Zrj 3 (.p (.lst ox0 (x0.map ZC))) (.clo 75 [] [(.ptr 0 0)]) (iv x7) (iv x8) [[(.clo 74 [] [(.ptr 1 0)])], [(.mp 2)], [(.md ((z11).map (encM eB)))]]) := by
 unfold Z4j
 refine zf (ZtW ..)<|ze<|ze<|zi fun a1 ha1 => ?_
 refine zo (.cptr (Z1J a1)) ?_ (Eq.trans (by kernel_rfl) (Z40 (o := (shrO ox0)) (k := .i64) (n := 5) (e := ZC) (cs := Z5O) (fun _ => rfl) (fun _ => rfl) (by decide) ha1))
 refine zq<|zi fun r2 hr2 => ?_
 obtain ⟨qr2, er2, exr2, rfl⟩ := Zhp a1 z11 r2 hr2
 refine zv [0, 1, 2] (bv r2.1) [[(.clo 74 [] [(.ptr 1 0)])], [(.mp 2)], [(.md ((r2.2).map (encM eB)))]] er2 ?_
 refine za r2.1 ?_ ?_
 ·refine ze ?_
  exact zr ((iv x8), [[(.clo 74 [] [(.ptr 1 0)])], [(.mp 2)], [(.md ((r2.2).map (encM eB)))]]) ⟨_, rfl⟩
 ·exact zk (ZdH x0 x7 x8 r2.2 ox0)
def Z7o (z11 : List (Int × Bool)) : Option (Int × (List (Int × Bool))) :=
 some ((-1), z11)
theorem ZdI z11 : Sim (Z2h) (Z7o z11) (Zrl 3  [[(.clo 74 [] [(.ptr 1 0)])], [(.mp 2)], [(.md ((z11).map (encM eB)))]]) := by
 unfold Z7o
 refine zf (ZtY ..)<|ze ?_
 exact zr ((iv (-1)), [[(.clo 74 [] [(.ptr 1 0)])], [(.mp 2)], [(.md ((z11).map (encM eB)))]]) ⟨_, rfl⟩
def Z3w (x0 : List Zw) (x7 x8 : Int) (z11 : List (Int × Bool)) : Option (Int × (List (Int × Bool))) :=
 if (decide (x8 < x7)) = true then
 (Z4j x0 x7 x8 z11)
 else
 (Z7o z11)
theorem ZdF (x0 : List Zw) x7 x8 z11 ox0 : Sim (Z2h) (Z3w x0 x7 x8 z11) (Zfr 3 (.p (.lst ox0 (x0.map ZC))) (.clo 75 [] [(.ptr 0 0)]) (iv x7) (iv x8) [[(.clo 74 [] [(.ptr 1 0)])], [(.mp 2)], [(.md ((z11).map (encM eB)))]]) := by
 unfold Z3w
 refine zf (ZtV ..)<|ze<|zq ?_
 refine za (decide (x8 < x7)) ?_ ?_
 ·exact zk (ZdG x0 x7 x8 z11 ox0)
 ·exact zk (ZdI z11)
theorem Z6u (x0 : List Zw) (x7 x8 : Int) (z11 : List (Int × Bool)) {r} (h : Z3w x0 x7 x8 z11 = some r) : Z4p x0 x7 x8 z11 = some r :=
 Z1a (fun _ _ ha hb => RRun.uniq Zat (ha .ex) (hb .ex)) (fun ox0 => ZdF x0 x7 x8 z11 ox0 r h)
def Z7l (x0 : Zw) (z11 : List (Int × Bool)) : Option (Bool × (List (Int × Bool))) :=
 (Z5Q x0.ID z11).bind fun r1 =>
 some (r1.1, r1.2)
theorem ZgH x0 z11 : Sim (Z5H) (Z7l x0 z11) (EE 75 [(.p (.agg (Z1J x0))), (.ptr 0 0)] [[(.clo 74 [] [(.ptr 1 0)])], [(.mp 2)], [(.md ((z11).map (encM eB)))]]) := by
 unfold Z7l
 refine zf (ZGH ..)<|ze<|zx (.ptr 3 0) [[(.clo 74 [] [(.ptr 1 0)])], [(.mp 2)], [(.md ((z11).map (encM eB)))], (Z1v x0)]<|ze<|zq<|zq<|zq<|zi fun r1 hr1 => ?_
 obtain ⟨qr1, er1, exr1, rfl⟩ := Zbg x0.ID z11 r1 hr1
 refine zv [1, 2] (bv r1.1) [[(.clo 74 [] [(.ptr 1 0)])], [(.mp 2)], [(.md ((r1.2).map (encM eB)))], (Z1v x0)] er1 ?_
 exact zr ((bv r1.1), [[(.clo 74 [] [(.ptr 1 0)])], [(.mp 2)], [(.md ((r1.2).map (encM eB)))], (Z1v x0)]) ⟨_, rfl⟩
theorem Zho (x0 : Zw) (z11 : List (Int × Bool)) {r} (h : Z7l x0 z11 = some r) : Z7s x0 z11 = some r :=
 Z1a (fun _ _ ha hb => RRun.uniq ZhL (ha ) (hb )) (ZgH x0 z11 r h)
def Z9k (x0 : Int) (z1K : List (Int × Bool)) : Option (Bool × (List (Int × Bool))) :=
 some (((getM z1K x0).getD false), (putM z1K x0 true))
theorem ZgG x0 z1K : Sim (Z5G) (Z9k x0 z1K) (EE 74 [(iv x0), (.ptr 0 0)] [[(.mp 1)], [(.md ((z1K).map (encM eB)))]]) := by
 unfold Z9k
 refine zf (ZGG ..)<|ze<|ze<|zq ?_
 refine zo (bv ((getM z1K x0).getD false)) ?_ (Eq.trans (b := ZfS PP 152 false (.mp 1) (iv x0) [[(.mp 1)], [(.md ((z1K).map (encM eB)))]]) (by kernel_rfl) <| (ZqR (e := eB) (z := false) (es := z1K) (te := 4) (by kernel_rfl) (by kernel_rfl) (by kernel_rfl) false).trans (by kernel_rfl))
 refine ze<|zq ?_
 refine Sim.xupd (B2 := [[(.mp 1)], [(.md ((putM z1K x0 true).map (encM eB)))]]) (fun K => Eq.trans (b := xupd PP 152 (.mp 1) (iv x0) (bv true) [[(.mp 1)], [(.md ((z1K).map (encM eB)))]] K) (by kernel_rfl) <| ZtQ (P := PP) (t := 152) (K := K) (B2 := [[(.mp 1)], [(.md ((putM z1K x0 true).map (encM eB)))]]) (e := eB) (a := true) (es := z1K) (te := 4) (by kernel_rfl) (by kernel_rfl) (by kernel_rfl) (by kernel_rfl) (by kernel_rfl)) ?_
 refine ze ?_
 exact zr ((bv ((getM z1K x0).getD false)), [[(.mp 1)], [(.md ((putM z1K x0 true).map (encM eB)))]]) ⟨_, rfl⟩
theorem Zhn (x0 : Int) (z1K : List (Int × Bool)) {r} (h : Z9k x0 z1K = some r) : Z5Q x0 z1K = some r :=
 Z1a (fun _ _ ha hb => RRun.uniq ZhK (ha ) (hb )) (ZgG x0 z1K r h)
def Z5z (x0 : List Int) (z1K : List (Int × Bool)) : Option (Bool × (List (Int × Bool))) :=
 (Z6A x0 z1K).bind fun r1 =>
 some ((decide (0 ≤ r1.1)), r1.2)
theorem Ze4 (x0 : List Int) z1K ox0 : Sim (Z4u) (Z5z x0 z1K) (EE 59 [(.p (.lst ox0 (x0.map (eI .i64)))), (.clo 74 [] [(.ptr 0 0)])] [[(.mp 1)], [(.md ((z1K).map (encM eB)))]]) := by
 unfold Z5z
 refine zf (ZGr ..)<|ze<|ze<|zi fun r1 hr1 => ?_
 obtain ⟨qr1, er1, exr1, rfl⟩ := ZfZ x0 z1K .sh r1 hr1
 refine zc [0, 1] (iv r1.1) [[(.mp 1)], [(.md ((r1.2).map (encM eB)))]] er1<|zq ?_
 exact zr ((bv (decide (0 ≤ r1.1))), [[(.mp 1)], [(.md ((r1.2).map (encM eB)))]]) ⟨_, rfl⟩
theorem Zey (x0 : List Int) (z1K : List (Int × Bool)) {r} (h : Z5z x0 z1K = some r) : Z5E x0 z1K = some r :=
 Z1a (fun _ _ ha hb => RRun.uniq Zf4 (ha .ex) (hb .ex)) (fun ox0 => Ze4 x0 z1K ox0 r h)
def Z6z (x0 : List Int) (z1K : List (Int × Bool)) : Option (Int × (List (Int × Bool))) :=
 Z4x x0 (x0.length : Int) 0 z1K
theorem ZfG (x0 : List Int) z1K ox0 : Sim (Z2o) (Z6z x0 z1K) (EE 84 [(.p (.lst ox0 (x0.map (eI .i64)))), (.clo 74 [] [(.ptr 0 0)])] [[(.mp 1)], [(.md ((z1K).map (encM eB)))]]) := by
 unfold Z6z
 refine zf (ZGJ ..)<|ze<|ze ?_
 refine zo (iv (x0.length : Int)) ?_ (Eq.trans (by kernel_rfl) (Z3d (P := PP) (t := 27) (d := 3) (by kernel_rfl) (eI .i64) (shrO ox0) x0))
 exact zk (Z9u x0 (x0.length : Int) 0 z1K ox0)
theorem ZfY (x0 : List Int) (z1K : List (Int × Bool)) {r} (h : Z6z x0 z1K = some r) : Z6A x0 z1K = some r :=
 Z1a (fun _ _ ha hb => RRun.uniq ZaU (ha .ex) (hb .ex)) (fun ox0 => ZfG x0 z1K ox0 r h)
def Z5A (x0 : List Int) (x7 x8 : Int) (z1K : List (Int × Bool)) : Option (Int × (List (Int × Bool))) :=
 Z4x x0 x7 (IntKind.i64.wrap (x8 + 1)) z1K
theorem Ze7 (x0 : List Int) x7 x8 z1K ox0 : Sim (Z2o) (Z5A x0 x7 x8 z1K) (ZvH 2 (.p (.lst ox0 (x0.map (eI .i64)))) (.clo 74 [] [(.ptr 0 0)]) (iv x7) (iv x8) [[(.mp 1)], [(.md ((z1K).map (encM eB)))]]) := by
 unfold Z5A
 refine zf (ZBq ..)<|ze<|zq ?_
 exact zk (Z9u x0 x7 (IntKind.i64.wrap (x8 + 1)) z1K ox0)
def Z4w (x0 : List Int) (x7 x8 : Int) (z1K : List (Int × Bool)) : Option (Int × (List (Int × Bool))) :=
 (lget x0 x8).bind fun a1 =>
 (Z5Q a1 z1K).bind fun r2 =>
 if (r2.1) = true then
 (some (x8, r2.2))
 else
 (Z5A x0 x7 x8 r2.2)
theorem Ze6 (x0 : List Int) x7 x8 z1K ox0 : Sim (Z2o) (Z4w x0 x7 x8 z1K) (ZvG 2 (.p (.lst ox0 (x0.map (eI .i64)))) (.clo 74 [] [(.ptr 0 0)]) (iv x7) (iv x8) [[(.mp 1)], [(.md ((z1K).map (encM eB)))]]) := by
 unfold Z4w
 refine zf (ZBp ..)<|ze<|ze<|zi fun a1 ha1 => ?_
 refine zo (.cptr [(.v (.int .i64 a1))]) ?_ (Eq.trans (by kernel_rfl) (Z40 (o := (shrO ox0)) (k := .i64) (n := 1) (e := (eI .i64)) (cs := (fun a => [(eI .i64) a])) (fun _ => rfl) (fun _ => rfl) (by decide) ha1))
 refine zq<|zi fun r2 hr2 => ?_
 obtain ⟨qr2, er2, exr2, rfl⟩ := Zbg a1 z1K r2 hr2
 refine zv [0, 1] (bv r2.1) [[(.mp 1)], [(.md ((r2.2).map (encM eB)))]] er2 ?_
 refine za r2.1 ?_ ?_
 ·refine ze ?_
  exact zr ((iv x8), [[(.mp 1)], [(.md ((r2.2).map (encM eB)))]]) ⟨_, rfl⟩
 ·exact zk (Ze7 x0 x7 x8 r2.2 ox0)
def Z7B (z1K : List (Int × Bool)) : Option (Int × (List (Int × Bool))) :=
 some ((-1), z1K)
theorem Ze8 z1K : Sim (Z2o) (Z7B z1K) (ZvI 2  [[(.mp 1)], [(.md ((z1K).map (encM eB)))]]) := by
 unfold Z7B
 refine zf (ZBr ..)<|ze ?_
 exact zr ((iv (-1)), [[(.mp 1)], [(.md ((z1K).map (encM eB)))]]) ⟨_, rfl⟩
def Z3E (x0 : List Int) (x7 x8 : Int) (z1K : List (Int × Bool)) : Option (Int × (List (Int × Bool))) :=
 if (decide (x8 < x7)) = true then
 (Z4w x0 x7 x8 z1K)
 else
 (Z7B z1K)
theorem Ze5 (x0 : List Int) x7 x8 z1K ox0 : Sim (Z2o) (Z3E x0 x7 x8 z1K) (Zll 2 (.p (.lst ox0 (x0.map (eI .i64)))) (.clo 74 [] [(.ptr 0 0)]) (iv x7) (iv x8) [[(.mp 1)], [(.md ((z1K).map (encM eB)))]]) := by
 unfold Z3E
 refine zf (ZBo ..)<|ze<|zq ?_
 refine za (decide (x8 < x7)) ?_ ?_
 ·exact zk (Ze6 x0 x7 x8 z1K ox0)
 ·exact zk (Ze8 z1K)
theorem Z6I (x0 : List Int) (x7 x8 : Int) (z1K : List (Int × Bool)) {r} (h : Z3E x0 x7 x8 z1K = some r) : Z4x x0 x7 x8 z1K = some r :=
 Z1a (fun _ _ ha hb => RRun.uniq ZaU (ha .ex) (hb .ex)) (fun ox0 => Ze5 x0 x7 x8 z1K ox0 r h)
end Go.Proofs.YteoeggbihfnbfaaGreatDoor.N2
end
noncomputable section
set_option linter.unusedSimpArgs false
set_option linter.unusedVariables false
namespace Go.Proofs.YteoeggbihfnbfaaGreatDoor.N2
open Go Go.Abs
set_option linter.unusedVariables false
set_option maxRecDepth 100000
def Zbj  : Option (Unit) :=
 some ()
theorem Zja z1r : Sim (Z7a z1r) (Zbj) (EE 53 [(.mp 0)] [[(.md ((z1r).map (encM ZC)))]]) := by
 unfold Zbj
 refine zf (ZGq ..)<|ze<|zx (.ptr 1 0) [[(.md ((z1r).map (encM ZC)))], [(.mp 0)]]<|ze ?_
 exact zr ((.clo 78 [] [(.ptr 1 0)]), [[(.md ((z1r).map (encM ZC)))], [(.mp 0)]]) ⟨[], rfl, rfl⟩
theorem ZjF  {r} (h : Zbj = some r) : Z8Z = some r :=
 Z1a (fun _ _ ha hb => RRun.uniq (Zkq _) (ha default) (hb default)) (fun z1r => Zja z1r r h)
end Go.Proofs.YteoeggbihfnbfaaGreatDoor.N2
end
