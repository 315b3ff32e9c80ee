/- More of the functions' typed texts. No condition. -/
import Derived.Test.YtiigbcahdaoedaaGreatDoorTypA

set_option linter.unusedSimpArgs false
set_option linter.unusedVariables false
set_option linter.defProp false
noncomputable section
namespace Go.Proofs.YtiigbcahdaoedaaGreatDoor.N2
open Go Go.Abs
set_option maxRecDepth 100000
def Zbj (x0 x1 x2 : Int) : Option Bool :=
 if (decide (x1 ≤ x0)) = true then
 (some (decide (x0 ≤ x2)))
 else
 (some false)
theorem ZlY x0 x1 x2 : Sim Zd (Zbj x0 x1 x2) (EE 82 [(iv x0), (iv x1), (iv x2)] []) := by
 unfold Zbj
 refine zf (ZF8 ..)<|ze<|ze<|zq ?_
 refine za (decide (x1 ≤ x0)) ?_ ?_
 ·refine zq ?_
  exact zr ((bv (decide (x0 ≤ x2))), []) ⟨_, rfl⟩
 ·exact zr ((bv false), []) ⟨_, rfl⟩
theorem Zn4 x0 x1 x2 {r} (h : Zbj x0 x1 x2 = some r) : Z3e x0 x1 x2 = some r :=
 ZR (fun _ _ ha hb => ru_ ZZ ha hb) (ZlY x0 x1 x2 r h)
def Z95 (x0 : Z9) : Option Bool :=
 if (decide (1 ≤ x0.ID)) = true then
 (if (decide (x0.ID ≤ 1099511627776)) = true then
 (if (decide (0 ≤ x0.Priority)) = true then
 (if (decide (x0.Priority ≤ 1000)) = true then
 (if (decide (0 ≤ x0.Action)) = true then
 (if (decide (x0.Action ≤ 255)) = true then
 (if (decide (1 ≤ x0.Scope)) = true then
 (if (decide (x0.Scope ≤ 65535)) = true then
 (some (decide ((x0.Pattern.size : Int) ≤ 256)))
 else
 (some false))
 else
 (some false))
 else
 (some false))
 else
 (some false))
 else
 (some false))
 else
 (some false))
 else
 (some false))
 else
 (some false)
theorem Zip x0 : Sim Zd (Z95 x0) (EE 75 [(pA_ (Z11 x0))] []) := by
 unfold Z95
 refine zf (ZF3 ..)<|ze<|zx (.ptr 0 0) [(ZW x0)]<|ze<|zq<|zq<|zq ?_
 refine za (decide (1 ≤ x0.ID)) ?_ ?_
 ·refine zq<|zq<|zq ?_
  refine za (decide (x0.ID ≤ 1099511627776)) ?_ ?_
  ·refine zq<|zq<|zq ?_
   refine za (decide (0 ≤ x0.Priority)) ?_ ?_
   ·refine zq<|zq<|zq ?_
    refine za (decide (x0.Priority ≤ 1000)) ?_ ?_
    ·refine zq<|zq<|zq ?_
     refine za (decide (0 ≤ x0.Action)) ?_ ?_
     ·refine zq<|zq<|zq ?_
      refine za (decide (x0.Action ≤ 255)) ?_ ?_
      ·refine zq<|zq<|zq ?_
       refine za (decide (1 ≤ x0.Scope)) ?_ ?_
       ·refine zq<|zq<|zq ?_
        refine za (decide (x0.Scope ≤ 65535)) ?_ ?_
        ·refine zq<|zq<|zq<|zq ?_
         exact zr ((bv (decide ((x0.Pattern.size : Int) ≤ 256))), [(ZW x0)]) ⟨_, rfl⟩
        ·exact zr ((bv false), [(ZW x0)]) ⟨_, rfl⟩
       ·exact zr ((bv false), [(ZW x0)]) ⟨_, rfl⟩
      ·exact zr ((bv false), [(ZW x0)]) ⟨_, rfl⟩
     ·exact zr ((bv false), [(ZW x0)]) ⟨_, rfl⟩
    ·exact zr ((bv false), [(ZW x0)]) ⟨_, rfl⟩
   ·exact zr ((bv false), [(ZW x0)]) ⟨_, rfl⟩
  ·exact zr ((bv false), [(ZW x0)]) ⟨_, rfl⟩
 ·exact zr ((bv false), [(ZW x0)]) ⟨_, rfl⟩
theorem Zjf x0 {r} (h : Z95 x0 = some r) : Z9i x0 = some r :=
 ZR (fun _ _ ha hb => ru_ ZZ ha hb) (Zip x0 r h)
def Zcv (x0 x1 : Z2) : Option Bool :=
 Z6u 0 x0 x1
theorem Zn5 x0 x1 zn zN : Sim Zd (Zcv x0 x1) (EE 25 [(pA_ (ZP x0 zn)), (pA_ (ZP x1 zN))] []) := by
 unfold Zcv
 refine zf (ZDO ..)<|ze<|zx (.ptr 0 0) [(ZK x0 zn)]<|zx (.ptr 1 0) [(ZK x0 zn), (ZK x1 zN)]<|ze ?_
 exact zk (ZeE 0 x0 x1 zn zN)
theorem ZnH x0 x1 {r} (h : Zcv x0 x1 = some r) : Z3v x0 x1 = some r :=
 ZR (fun _ _ ha hb => ru_ ZZ (ha .ex .ex) (hb .ex .ex)) (fun zn zN => Zn5 x0 x1 zn zN r h)
def Zab (x5 : Int) (b0 b1 : Z2) : Option Bool :=
 Z6u (IntKind.i64.wrap (x5 + 1)) b0 b1
theorem Zk6 x5 b0 b1 z5 zC : Sim Zd (Zab x5 b0 b1) (Zs8 0 (.ptr 0 0) (.ptr 1 0) (iv x5) [(ZK b0 z5), (ZK b1 zC)]) := by
 unfold Zab
 refine zf (Zyg ..)<|ze<|zq ?_
 exact zk (ZeE (IntKind.i64.wrap (x5 + 1)) b0 b1 z5 zC)
def Zac (x5 : Int) (b0 b1 : Z2) : Option Bool :=
 (lsl b0.Log x5 (IntKind.i64.wrap (x5 + 1))).bind fun a1 =>
 (lsl b1.Log x5 (IntKind.i64.wrap (x5 + 1))).bind fun a2 =>
 (Z8v a1 a2).bind fun r3 =>
 if (!r3) = true then
 (some true)
 else
 (Zab x5 b0 b1)
theorem Zk7 x5 b0 b1 z5 zC : Sim Zd (Zac x5 b0 b1) (Zs9 0 (.ptr 0 0) (.ptr 1 0) (iv x5) [(ZK b0 z5), (ZK b1 zC)]) := by
 unfold Zac
 refine zf (Zyh ..)<|ze<|zq<|zq<|zq<|zi fun a1 ha1 => zp (Zm (slO (shrO z5)) (a1.map Zl)) (Eq.trans (by kernel_rfl) <| Z9n (n := 9) (o := (shrO z5)) (lo := (some (iv x5))) (hi := (some (iv (IntKind.i64.wrap (x5 + 1))))) (e := Zl) (fun _ => rfl) (by decide) (by kernel_rfl) (by kernel_rfl) ha1)<|zq<|zq<|zq<|zi fun a2 ha2 => zp (Zm (slO (shrO zC)) (a2.map Zl)) (Eq.trans (by kernel_rfl) <| Z9n (n := 9) (o := (shrO zC)) (lo := (some (iv x5))) (hi := (some (iv (IntKind.i64.wrap (x5 + 1))))) (e := Zl) (fun _ => rfl) (by decide) (by kernel_rfl) (by kernel_rfl) ha2)<|zi fun r3 hr3 => ?_
 obtain ⟨_, er3, _, rfl⟩ := ZhZ a1 a2 .sh .sh r3 hr3
 refine zc [] (bv r3) [(ZK b0 z5), (ZK b1 zC)] er3<|zq ?_
 refine za (!r3) ?_ ?_
 ·refine ze ?_
  exact zr ((bv true), [(ZK b0 z5), (ZK b1 zC)]) ⟨_, rfl⟩
 ·exact zk (Zk6 x5 b0 b1 z5 zC)
def Z8k : Option Bool :=
 some false
theorem ZdP : Sim Zd Z8k (ZoG 0 []) := by
 unfold Z8k
 refine zf (Zyi ..)<|ze ?_
 exact zr ((bv false), []) ⟨_, rfl⟩
def Z8j (x5 : Int) (b0 b1 : Z2) : Option Bool :=
 if (decide (x5 < b0.Commit)) = true then
 (if (decide (x5 < b1.Commit)) = true then
 (Zac x5 b0 b1)
 else
 Z8k)
 else
 Z8k
theorem Zk5 x5 b0 b1 z5 zC : Sim Zd (Z8j x5 b0 b1) (Zlh 0 (.ptr 0 0) (.ptr 1 0) (iv x5) [(ZK b0 z5), (ZK b1 zC)]) := by
 unfold Z8j
 refine zf (Zyf ..)<|ze<|zq<|zq<|zq ?_
 refine za (decide (x5 < b0.Commit)) ?_ ?_
 ·refine zq<|zq<|zq ?_
  refine za (decide (x5 < b1.Commit)) ?_ ?_
  ·exact zk (Zk7 x5 b0 b1 z5 zC)
  ·exact zk ZdP
 ·exact zk ZdP
theorem ZeD x5 b0 b1 {r} (h : Z8j x5 b0 b1 = some r) : Z6u x5 b0 b1 = some r :=
 ZR (fun _ _ ha hb => ru_ ZZ (ha .ex .ex) (hb .ex .ex)) (fun z5 zC => Zk5 x5 b0 b1 z5 zC r h)
def ZaJ (x0 x1 : List Zo) : Option Bool :=
 Z9j x0 x1 0
theorem ZkQ (x0 x1 : List Zo) ox0 ox1 : Sim Zd (ZaJ x0 x1) (Zsr 0 (Zm ox0 (x0.map Zl)) (Zm ox1 (x1.map Zl)) []) := by
 unfold ZaJ
 refine zf (Zyz ..)<|ze ?_
 exact zk (ZfK x0 x1 0 ox0 ox1)
def Zdt (x0 x1 : List Zo) : Option Bool :=
 if ((x0.length : Int) != (x1.length : Int)) = true then
 (some false)
 else
 (ZaJ x0 x1)
theorem ZnF (x0 x1 : List Zo) ox0 ox1 : Sim Zd (Zdt x0 x1) (EE 35 [(Zm ox0 (x0.map Zl)), (Zm ox1 (x1.map Zl))] []) := by
 unfold Zdt
 refine zf (ZE5 ..)<|ze<|ze<|zp (iv (x0.length : Int)) (et_ (Z14 (P := PP) (t := 42) (d := 95) (by kernel_rfl) Zl (shrO ox0) x0))<|zp (iv (x1.length : Int)) (et_ (Z14 (P := PP) (t := 42) (d := 95) (by kernel_rfl) Zl (shrO ox1) x1))<|zq ?_
 refine za ((x0.length : Int) != (x1.length : Int)) ?_ ?_
 ·refine ze ?_
  exact zr ((bv false), []) ⟨_, rfl⟩
 ·exact zk (ZkQ x0 x1 ox0 ox1)
theorem Zpn x0 x1 {r} (h : Zdt x0 x1 = some r) : Z8v x0 x1 = some r :=
 ZR (fun _ _ ha hb => ru_ ZZ (ha .ex .ex) (hb .ex .ex)) (fun ox0 ox1 => ZnF x0 x1 ox0 ox1 r h)
def Z5M : Option Bool :=
 some false
theorem Z8L : Sim Zd Z5M (ZiZ 0 []) := by
 unfold Z5M
 refine zf (ZyC ..)<|ze ?_
 exact zr ((bv false), []) ⟨_, rfl⟩
def ZaK (x0 x1 : List Zo) (x5 : Int) : Option Bool :=
 Z9j x0 x1 (IntKind.i64.wrap (x5 + 1))
theorem ZkR (x0 x1 : List Zo) x5 ox0 ox1 : Sim Zd (ZaK x0 x1 x5) (Zss 0 (Zm ox0 (x0.map Zl)) (Zm ox1 (x1.map Zl)) (iv x5) []) := by
 unfold ZaK
 refine zf (ZyA ..)<|ze<|zq ?_
 exact zk (ZfK x0 x1 (IntKind.i64.wrap (x5 + 1)) ox0 ox1)
def ZaL (x0 x1 : List Zo) (x5 : Int) : Option Bool :=
 (lget x0 x5).bind fun a1 =>
 (lget x1 x5).bind fun a2 =>
 if (a1.View != a2.View) = true then
 Z5M
 else
 ((lget x0 x5).bind fun a3 =>
 (lget x1 x5).bind fun a4 =>
 if (a3.Client != a4.Client) = true then
 Z5M
 else
 ((lget x0 x5).bind fun a5 =>
 (lget x1 x5).bind fun a6 =>
 if (a5.Request != a6.Request) = true then
 Z5M
 else
 ((lget x0 x5).bind fun a7 =>
 (lget x1 x5).bind fun a8 =>
 (Z7A (Za.mk a7.Delta.Default a7.Delta.Closed a7.Delta.Fuel a7.Delta.Stack a7.Delta.Put a7.Delta.Drop) (Za.mk a8.Delta.Default a8.Delta.Closed a8.Delta.Fuel a8.Delta.Stack a8.Delta.Put a8.Delta.Drop)).bind fun r9 =>
 if (!r9) = true then
 Z5M
 else
 (ZaK x0 x1 x5))))
theorem ZkS (x0 x1 : List Zo) x5 ox0 ox1 : Sim Zd (ZaL x0 x1 x5) (Zst 0 (Zm ox0 (x0.map Zl)) (Zm ox1 (x1.map Zl)) (iv x5) []) := by
 unfold ZaL
 refine zf (ZyB ..)<|ze<|zi fun a1 ha1 => zp (.cptr (Z1C a1 .sh .sh)) (et_ (Z1i (o := (shrO ox0)) (k := .i64) (n := 9) (e := Zl) (cs := Z1I) (fun _ => rfl) (fun _ => rfl) (by decide) ha1))<|zq<|zq<|zi fun a2 ha2 => zp (.cptr (Z1C a2 .sh .sh)) (et_ (Z1i (o := (shrO ox1)) (k := .i64) (n := 9) (e := Zl) (cs := Z1I) (fun _ => rfl) (fun _ => rfl) (by decide) ha2))<|zq<|zq<|zq ?_
 refine za (a1.View != a2.View) ?_ ?_
 ·exact zk Z8L
 ·refine zi fun a3 ha3 => zp (.cptr (Z1C a3 .sh .sh)) (et_ (Z1i (o := (shrO ox0)) (k := .i64) (n := 9) (e := Zl) (cs := Z1I) (fun _ => rfl) (fun _ => rfl) (by decide) ha3))<|zq<|zq<|zi fun a4 ha4 => zp (.cptr (Z1C a4 .sh .sh)) (et_ (Z1i (o := (shrO ox1)) (k := .i64) (n := 9) (e := Zl) (cs := Z1I) (fun _ => rfl) (fun _ => rfl) (by decide) ha4))<|zq<|zq<|zq ?_
  refine za (a3.Client != a4.Client) ?_ ?_
  ·exact zk Z8L
  ·refine zi fun a5 ha5 => zp (.cptr (Z1C a5 .sh .sh)) (et_ (Z1i (o := (shrO ox0)) (k := .i64) (n := 9) (e := Zl) (cs := Z1I) (fun _ => rfl) (fun _ => rfl) (by decide) ha5))<|zq<|zq<|zi fun a6 ha6 => zp (.cptr (Z1C a6 .sh .sh)) (et_ (Z1i (o := (shrO ox1)) (k := .i64) (n := 9) (e := Zl) (cs := Z1I) (fun _ => rfl) (fun _ => rfl) (by decide) ha6))<|zq<|zq<|zq ?_
   refine za (a5.Request != a6.Request) ?_ ?_
   ·exact zk Z8L
   ·refine zi fun a7 ha7 => zp (.cptr (Z1C a7 .sh .sh)) (et_ (Z1i (o := (shrO ox0)) (k := .i64) (n := 9) (e := Zl) (cs := Z1I) (fun _ => rfl) (fun _ => rfl) (by decide) ha7))<|zq<|zq<|zi fun a8 ha8 => zp (.cptr (Z1C a8 .sh .sh)) (et_ (Z1i (o := (shrO ox1)) (k := .i64) (n := 9) (e := Zl) (cs := Z1I) (fun _ => rfl) (fun _ => rfl) (by decide) ha8))<|zq<|zq<|zi fun r9 hr9 => ?_
    obtain ⟨_, er9, _, rfl⟩ := Zk4 (Za.mk a7.Delta.Default a7.Delta.Closed a7.Delta.Fuel a7.Delta.Stack a7.Delta.Put a7.Delta.Drop) (Za.mk a8.Delta.Default a8.Delta.Closed a8.Delta.Fuel a8.Delta.Stack a8.Delta.Put a8.Delta.Drop) .sh .sh .sh .sh r9 hr9
    refine zc [] (bv r9) [] er9<|zq ?_
    refine za (!r9) ?_ ?_
    ·exact zk Z8L
    ·exact zk (ZkR x0 x1 x5 ox0 ox1)
def ZaM : Option Bool :=
 some true
theorem ZkT : Sim Zd ZaM (Zsu 0 []) := by
 unfold ZaM
 refine zf (ZyD ..)<|ze ?_
 exact zr ((bv true), []) ⟨_, rfl⟩
def Z96 (x0 x1 : List Zo) (x5 : Int) : Option Bool :=
 if (decide (x5 < (x0.length : Int))) = true then
 (ZaL x0 x1 x5)
 else
 ZaM
theorem ZkP (x0 x1 : List Zo) x5 ox0 ox1 : Sim Zd (Z96 x0 x1 x5) (Zlq 0 (Zm ox0 (x0.map Zl)) (Zm ox1 (x1.map Zl)) (iv x5) []) := by
 unfold Z96
 refine zf (Zyy ..)<|ze<|zp (iv (x0.length : Int)) (et_ (Z14 (P := PP) (t := 42) (d := 95) (by kernel_rfl) Zl (shrO ox0) x0))<|zq ?_
 refine za (decide (x5 < (x0.length : Int))) ?_ ?_
 ·exact zk (ZkS x0 x1 x5 ox0 ox1)
 ·exact zk ZkT
theorem ZfJ x0 x1 x5 {r} (h : Z96 x0 x1 x5 = some r) : Z9j x0 x1 x5 = some r :=
 ZR (fun _ _ ha hb => ru_ ZZ (ha .ex .ex) (hb .ex .ex)) (fun ox0 ox1 => ZkP x0 x1 x5 ox0 ox1 r h)
def Z2v : Option Bool :=
 some false
theorem Z3d : Sim Zd Z2v (Zfr 0 []) := by
 unfold Z2v
 refine zf (Zzo ..)<|ze ?_
 exact zr ((bv false), []) ⟨_, rfl⟩
def Z7R (b0 b1 : Za) : Option Bool :=
 Z4B 0 b0 b1
theorem Zhk b0 b1 z19 z18 zL zG : Sim Zd (Z7R b0 b1) (Zte 0 (.ptr 0 0) (.ptr 1 0) [(Zz b0 z19 z18), (Zz b1 zL zG)]) := by
 unfold Z7R
 refine zf (Zzp ..)<|ze ?_
 exact zk (ZbJ 0 b0 b1 z19 z18 zL zG)
def Z9D (x0 x1 : Za) : Option Bool :=
 if (x0.Default != x1.Default) = true then
 Z2v
 else
 (if (x0.Closed != x1.Closed) = true then
 Z2v
 else
 (if (x0.Fuel != x1.Fuel) = true then
 Z2v
 else
 (if (x0.Stack != x1.Stack) = true then
 Z2v
 else
 (if ((x0.Put.length : Int) != (x1.Put.length : Int)) = true then
 Z2v
 else
 (if ((x0.Drop.length : Int) != (x1.Drop.length : Int)) = true then
 Z2v
 else
 (Z7R x0 x1))))))
theorem Zjh x0 x1 z2u z23 z9R z8A : Sim Zd (Z9D x0 x1) (EE 53 [(pA_ (Z1J x0 z2u z23)), (pA_ (Z1J x1 z9R z8A))] []) := by
 unfold Z9D
 refine zf (ZED ..)<|ze<|zx (.ptr 0 0) [(Zz x0 z2u z23)]<|zx (.ptr 1 0) [(Zz x0 z2u z23), (Zz x1 z9R z8A)]<|ze<|zq<|zq<|zq<|zq<|zq ?_
 refine za (x0.Default != x1.Default) ?_ ?_
 ·exact zk Z3d
 ·refine zq<|zq<|zq<|zq<|zq ?_
  refine za (x0.Closed != x1.Closed) ?_ ?_
  ·exact zk Z3d
  ·refine zq<|zq<|zq<|zq<|zq ?_
   refine za (x0.Fuel != x1.Fuel) ?_ ?_
   ·exact zk Z3d
   ·refine zq<|zq<|zq<|zq<|zq ?_
    refine za (x0.Stack != x1.Stack) ?_ ?_
    ·exact zk Z3d
    ·refine zq<|zq<|zp (iv (x0.Put.length : Int)) (et_ (Z14 (P := PP) (t := 53) (d := 103) (by kernel_rfl) Z8 (shrO z2u) x0.Put))<|zq<|zq<|zp (iv (x1.Put.length : Int)) (et_ (Z14 (P := PP) (t := 53) (d := 103) (by kernel_rfl) Z8 (shrO z9R) x1.Put))<|zq ?_
     refine za ((x0.Put.length : Int) != (x1.Put.length : Int)) ?_ ?_
     ·exact zk Z3d
     ·refine zq<|zq<|zp (iv (x0.Drop.length : Int)) (et_ (Z14 (P := PP) (t := 77) (d := 3) (by kernel_rfl) (eI .i64) (shrO z23) x0.Drop))<|zq<|zq<|zp (iv (x1.Drop.length : Int)) (et_ (Z14 (P := PP) (t := 77) (d := 3) (by kernel_rfl) (eI .i64) (shrO z8A) x1.Drop))<|zq ?_
      refine za ((x0.Drop.length : Int) != (x1.Drop.length : Int)) ?_ ?_
      ·exact zk Z3d
      ·exact zk (Zhk x0 x1 z2u z23 z9R z8A)
theorem Zk3 x0 x1 {r} (h : Z9D x0 x1 = some r) : Z7A x0 x1 = some r :=
 ZR (fun _ _ ha hb => ru_ ZZ (ha .ex .ex .ex .ex) (hb .ex .ex .ex .ex)) (fun z2u z23 z9R z8A => Zjh x0 x1 z2u z23 z9R z8A r h)
def Z7S (x5 : Int) (b0 b1 : Za) : Option Bool :=
 Z4B (IntKind.i64.wrap (x5 + 1)) b0 b1
theorem Zhl x5 b0 b1 z19 z18 zL zG : Sim Zd (Z7S x5 b0 b1) (Ztf 0 (.ptr 0 0) (.ptr 1 0) (iv x5) [(Zz b0 z19 z18), (Zz b1 zL zG)]) := by
 unfold Z7S
 refine zf (Zzq ..)<|ze<|zq ?_
 exact zk (ZbJ (IntKind.i64.wrap (x5 + 1)) b0 b1 z19 z18 zL zG)
def Z7T (x5 : Int) (b0 b1 : Za) : Option Bool :=
 (lget b0.Put x5).bind fun a1 =>
 (lget b1.Put x5).bind fun a2 =>
 if ((!((a1.ID == a2.ID) && ((a1.Priority == a2.Priority) && ((a1.Action == a2.Action) && ((a1.Scope == a2.Scope) && ((seq a1.Pattern a2.Pattern) && true))))))) = true then
 (some false)
 else
 (Z7S x5 b0 b1)
theorem Zhm x5 b0 b1 z19 z18 zL zG : Sim Zd (Z7T x5 b0 b1) (Ztg 0 (.ptr 0 0) (.ptr 1 0) (iv x5) [(Zz b0 z19 z18), (Zz b1 zL zG)]) := by
 unfold Z7T
 refine zf (Zzr ..)<|ze<|zq<|zq<|zi fun a1 ha1 => zp (.cptr (Z11 a1)) (et_ (Z1i (o := (shrO z19)) (k := .i64) (n := 5) (e := Z8) (cs := Z1L) (fun _ => rfl) (fun _ => rfl) (by decide) ha1))<|zq<|zq<|zq<|zi fun a2 ha2 => zp (.cptr (Z11 a2)) (et_ (Z1i (o := (shrO zL)) (k := .i64) (n := 5) (e := Z8) (cs := Z1L) (fun _ => rfl) (fun _ => rfl) (by decide) ha2))<|zq<|zp (bv (!((a1.ID == a2.ID) && ((a1.Priority == a2.Priority) && ((a1.Action == a2.Action) && ((a1.Scope == a2.Scope) && ((seq a1.Pattern a2.Pattern) && true))))))) (Eq.trans (b := xbin PP .neq 103 (pA_ (Z11 a1)) (pA_ (Z11 a2))) (by kernel_rfl) (ZvD (by kernel_rfl) (by kernel_rfl) (by kernel_rfl) (by kernel_rfl) (by kernel_rfl))) ?_
 refine za ((!((a1.ID == a2.ID) && ((a1.Priority == a2.Priority) && ((a1.Action == a2.Action) && ((a1.Scope == a2.Scope) && ((seq a1.Pattern a2.Pattern) && true))))))) ?_ ?_
 ·refine ze ?_
  exact zr ((bv false), [(Zz b0 z19 z18), (Zz b1 zL zG)]) ⟨_, rfl⟩
 ·exact zk (Zhl x5 b0 b1 z19 z18 zL zG)
def Z7U (b0 b1 : Za) : Option Bool :=
 Z5Q 0 b0 b1
theorem Zhn b0 b1 z19 z18 zL zG : Sim Zd (Z7U b0 b1) (Zth 0 (.ptr 0 0) (.ptr 1 0) [(Zz b0 z19 z18), (Zz b1 zL zG)]) := by
 unfold Z7U
 refine zf (Zzs ..)<|ze ?_
 exact zk (ZbL 0 b0 b1 z19 z18 zL zG)
def Z5K (x5 : Int) (b0 b1 : Za) : Option Bool :=
 if (decide (x5 < (b0.Put.length : Int))) = true then
 (Z7T x5 b0 b1)
 else
 (Z7U b0 b1)
theorem Zhi x5 b0 b1 z19 z18 zL zG : Sim Zd (Z5K x5 b0 b1) (ZlC 0 (.ptr 0 0) (.ptr 1 0) (iv x5) [(Zz b0 z19 z18), (Zz b1 zL zG)]) := by
 unfold Z5K
 refine zf (Zzm ..)<|ze<|zq<|zq<|zp (iv (b0.Put.length : Int)) (et_ (Z14 (P := PP) (t := 53) (d := 103) (by kernel_rfl) Z8 (shrO z19) b0.Put))<|zq ?_
 refine za (decide (x5 < (b0.Put.length : Int))) ?_ ?_
 ·exact zk (Zhm x5 b0 b1 z19 z18 zL zG)
 ·exact zk (Zhn b0 b1 z19 z18 zL zG)
theorem ZbI x5 b0 b1 {r} (h : Z5K x5 b0 b1 = some r) : Z4B x5 b0 b1 = some r :=
 ZR (fun _ _ ha hb => ru_ ZZ (ha .ex .ex .ex .ex) (hb .ex .ex .ex .ex)) (fun z19 z18 zL zG => Zhi x5 b0 b1 z19 z18 zL zG r h)
def Z7a (x6 : Int) (b0 b1 : Za) : Option Bool :=
 Z5Q (IntKind.i64.wrap (x6 + 1)) b0 b1
theorem ZgI x6 b0 b1 z19 z18 zL zG : Sim Zd (Z7a x6 b0 b1) (Zqp 0 (.ptr 0 0) (.ptr 1 0) (iv x6) [(Zz b0 z19 z18), (Zz b1 zL zG)]) := by
 unfold Z7a
 refine zf (Zwy ..)<|ze<|zq ?_
 exact zk (ZbL (IntKind.i64.wrap (x6 + 1)) b0 b1 z19 z18 zL zG)
def Z7b (x6 : Int) (b0 b1 : Za) : Option Bool :=
 (lget b0.Drop x6).bind fun a1 =>
 (lget b1.Drop x6).bind fun a2 =>
 if (a1 != a2) = true then
 (some false)
 else
 (Z7a x6 b0 b1)
theorem ZgJ x6 b0 b1 z19 z18 zL zG : Sim Zd (Z7b x6 b0 b1) (Zqq 0 (.ptr 0 0) (.ptr 1 0) (iv x6) [(Zz b0 z19 z18), (Zz b1 zL zG)]) := by
 unfold Z7b
 refine zf (Zwz ..)<|ze<|zq<|zq<|zi fun a1 ha1 => zp (.cptr [(.v (.int .i64 a1))]) (et_ (Z1i (o := (shrO z18)) (k := .i64) (n := 1) (e := (eI .i64)) (cs := (fun a => [(eI .i64) a])) (fun _ => rfl) (fun _ => rfl) (by decide) ha1))<|zq<|zq<|zq<|zi fun a2 ha2 => zp (.cptr [(.v (.int .i64 a2))]) (et_ (Z1i (o := (shrO zG)) (k := .i64) (n := 1) (e := (eI .i64)) (cs := (fun a => [(eI .i64) a])) (fun _ => rfl) (fun _ => rfl) (by decide) ha2))<|zq<|zq ?_
 refine za (a1 != a2) ?_ ?_
 ·refine ze ?_
  exact zr ((bv false), [(Zz b0 z19 z18), (Zz b1 zL zG)]) ⟨_, rfl⟩
 ·exact zk (ZgI x6 b0 b1 z19 z18 zL zG)
def Z7c : Option Bool :=
 some true
theorem ZgK : Sim Zd Z7c (Zqr 0 []) := by
 unfold Z7c
 refine zf (ZwA ..)<|ze ?_
 exact zr ((bv true), []) ⟨_, rfl⟩
def Z5L (x6 : Int) (b0 b1 : Za) : Option Bool :=
 if (decide (x6 < (b0.Drop.length : Int))) = true then
 (Z7b x6 b0 b1)
 else
 Z7c
theorem Zhj x6 b0 b1 z19 z18 zL zG : Sim Zd (Z5L x6 b0 b1) (ZlD 0 (.ptr 0 0) (.ptr 1 0) (iv x6) [(Zz b0 z19 z18), (Zz b1 zL zG)]) := by
 unfold Z5L
 refine zf (Zzn ..)<|ze<|zq<|zq<|zp (iv (b0.Drop.length : Int)) (et_ (Z14 (P := PP) (t := 77) (d := 3) (by kernel_rfl) (eI .i64) (shrO z18) b0.Drop))<|zq ?_
 refine za (decide (x6 < (b0.Drop.length : Int))) ?_ ?_
 ·exact zk (ZgJ x6 b0 b1 z19 z18 zL zG)
 ·exact zk ZgK
theorem ZbK x6 b0 b1 {r} (h : Z5L x6 b0 b1 = some r) : Z5Q x6 b0 b1 = some r :=
 ZR (fun _ _ ha hb => ru_ ZZ (ha .ex .ex .ex .ex) (hb .ex .ex .ex .ex)) (fun z19 z18 zL zG => Zhj x6 b0 b1 z19 z18 zL zG r h)
def Zbl (x0 : List Z2) (x1 : List Bool) : Option (Int × Bool) :=
 Z7C x0 x1 0 false 0
theorem Zm0 (x0 : List Z2) (x1 : List Bool) ox0 ox1 : Sim Z1W (Zbl x0 x1) (EE 16 [(Zm ox0 (x0.map Zc)), (Zm ox1 (x1.map eB))] []) := by
 unfold Zbl
 refine zf (ZDt ..)<|ze<|ze<|ze<|ze ?_
 exact zk (ZdW x0 x1 0 false 0 ox0 ox1)
theorem Zn8 x0 x1 {r} (h : Zbl x0 x1 = some r) : Z3g x0 x1 = some r :=
 ZR (fun _ _ ha hb => ru_ ZcB (ha .ex .ex) (hb .ex .ex)) (fun ox0 ox1 => Zm0 x0 x1 ox0 ox1 r h)
def Z9G (x0 : List Z2) (x1 : List Bool) (x6 : Int) (x7 : Bool) (x8 : Int) : Option (Int × Bool) :=
 (lget x0 x8).bind fun a1 =>
 Z7D x0 x1 x6 x7 x8 a1.View 0 0
theorem Zjp (x0 : List Z2) (x1 : List Bool) x6 x7 x8 ox0 ox1 : Sim Z1W (Z9G x0 x1 x6 x7 x8) (ZrI 0 (Zm ox0 (x0.map Zc)) (Zm ox1 (x1.map eB)) (iv x6) (bv x7) (iv x8) []) := by
 unfold Z9G
 refine zf (ZxY ..)<|ze<|zi fun a1 ha1 => zp (.cptr (ZP a1 .sh)) (et_ (Z1i (o := (shrO ox0)) (k := .i64) (n := 5) (e := Zc) (cs := Z1x) (fun _ => rfl) (fun _ => rfl) (by decide) ha1))<|zq<|zq<|ze<|ze ?_
 exact zk (ZdY x0 x1 x6 x7 x8 a1.View 0 0 ox0 ox1)
def Z9a (x6 : Int) (x7 : Bool) : Option (Int × Bool) :=
 some (x6, x7)
theorem ZiB x6 x7 : Sim Z1W (Z9a x6 x7) (Zq2 0 (iv x6) (bv x7) []) := by
 unfold Z9a
 refine zf (Zw1 ..)<|ze ?_
 exact zr ((.p (.tup [(.v (.int .i64 x6)), (.v (.bool x7))])), []) ⟨_, rfl⟩
def Z7u (x0 : List Z2) (x1 : List Bool) (x6 : Int) (x7 : Bool) (x8 : Int) : Option (Int × Bool) :=
 if (decide (x8 < (x0.length : Int))) = true then
 (Z9G x0 x1 x6 x7 x8)
 else
 (Z9a x6 x7)
theorem Zjn (x0 : List Z2) (x1 : List Bool) x6 x7 x8 ox0 ox1 : Sim Z1W (Z7u x0 x1 x6 x7 x8) (Zl5 0 (Zm ox0 (x0.map Zc)) (Zm ox1 (x1.map eB)) (iv x6) (bv x7) (iv x8) []) := by
 unfold Z7u
 refine zf (ZxV ..)<|ze<|zp (iv (x0.length : Int)) (et_ (Z14 (P := PP) (t := 28) (d := 44) (by kernel_rfl) Zc (shrO ox0) x0))<|zq ?_
 refine za (decide (x8 < (x0.length : Int))) ?_ ?_
 ·exact zk (Zjp x0 x1 x6 x7 x8 ox0 ox1)
 ·exact zk (ZiB x6 x7)
theorem ZdV x0 x1 x6 x7 x8 {r} (h : Z7u x0 x1 x6 x7 x8 = some r) : Z7C x0 x1 x6 x7 x8 = some r :=
 ZR (fun _ _ ha hb => ru_ ZcB (ha .ex .ex) (hb .ex .ex)) (fun ox0 ox1 => Zjn x0 x1 x6 x7 x8 ox0 ox1 r h)
def Z6Z (x0 : List Z2) (x1 : List Bool) (x6 : Int) (x7 : Bool) (x8 x9 x10 x11 : Int) : Option (Int × Bool) :=
 Z7D x0 x1 x6 x7 x8 x9 x10 (IntKind.i64.wrap (x11 + 1))
theorem Zcf (x0 : List Z2) (x1 : List Bool) x6 x7 x8 x9 x10 x11 ox0 ox1 : Sim Z1W (Z6Z x0 x1 x6 x7 x8 x9 x10 x11) (ZmE 0 (Zm ox0 (x0.map Zc)) (Zm ox1 (x1.map eB)) (iv x6) (bv x7) (iv x8) (iv x9) (iv x10) (iv x11) []) := by
 unfold Z6Z
 refine zf (ZvX ..)<|ze<|zq ?_
 exact zk (ZdY x0 x1 x6 x7 x8 x9 x10 (IntKind.i64.wrap (x11 + 1)) ox0 ox1)
def Z99 (x0 : List Z2) (x1 : List Bool) (x6 : Int) (x7 : Bool) (x8 x9 x10 x11 : Int) : Option (Int × Bool) :=
 (ZdZ x0 x1 x11 x9).bind fun r1 =>
 if r1 = true then
 (Z6Z x0 x1 x6 x7 x8 x9 (IntKind.i64.wrap (x10 + 1)) x11)
 else
 (Z6Z x0 x1 x6 x7 x8 x9 x10 x11)
theorem Ziz (x0 : List Z2) (x1 : List Bool) x6 x7 x8 x9 x10 x11 ox0 ox1 : Sim Z1W (Z99 x0 x1 x6 x7 x8 x9 x10 x11) (Zq0 0 (Zm ox0 (x0.map Zc)) (Zm ox1 (x1.map eB)) (iv x6) (bv x7) (iv x8) (iv x9) (iv x10) (iv x11) []) := by
 unfold Z99
 refine zf (ZvY ..)<|ze<|zi fun r1 hr1 => ?_
 obtain ⟨_, er1, _, rfl⟩ := ZkC x0 x1 x11 x9 .sh .sh r1 hr1
 refine zc [] (bv r1) [] er1 ?_
 refine za r1 ?_ ?_
 ·refine ze<|zq ?_
  exact zk (Zcf x0 x1 x6 x7 x8 x9 (IntKind.i64.wrap (x10 + 1)) x11 ox0 ox1)
 ·exact zk (Zcf x0 x1 x6 x7 x8 x9 x10 x11 ox0 ox1)
def Z3J (x0 : List Z2) (x1 : List Bool) (x6 : Int) (x7 : Bool) (x8 : Int) : Option (Int × Bool) :=
 Z7C x0 x1 x6 x7 (IntKind.i64.wrap (x8 + 1))
theorem Z7l (x0 : List Z2) (x1 : List Bool) x6 x7 x8 ox0 ox1 : Sim Z1W (Z3J x0 x1 x6 x7 x8) (ZiT 0 (Zm ox0 (x0.map Zc)) (Zm ox1 (x1.map eB)) (iv x6) (bv x7) (iv x8) []) := by
 unfold Z3J
 refine zf (ZxX ..)<|ze<|zq ?_
 exact zk (ZdW x0 x1 x6 x7 (IntKind.i64.wrap (x8 + 1)) ox0 ox1)
def Z71 (x0 : List Z2) (x1 : List Bool) (x8 x9 : Int) : Option (Int × Bool) :=
 Z3J x0 x1 x9 true x8
theorem Zcg (x0 : List Z2) (x1 : List Bool) x8 x9 ox0 ox1 : Sim Z1W (Z71 x0 x1 x8 x9) (ZmF 0 (Zm ox0 (x0.map Zc)) (Zm ox1 (x1.map eB)) (iv x8) (iv x9) []) := by
 unfold Z71
 refine zf (Zw0 ..)<|ze<|ze ?_
 exact zk (Z7l x0 x1 x9 true x8 ox0 ox1)
def Z70 (x0 : List Z2) (x1 : List Bool) (x6 : Int) (x7 : Bool) (x8 x9 x10 : Int) : Option (Int × Bool) :=
 if (decide ((x0.length : Int) < (IntKind.i64.wrap (2 * x10)))) = true then
 ((irem x9 (x0.length : Int)).bind fun a1 =>
 (ZdZ x0 x1 a1 x9).bind fun r2 =>
 if r2 = true then
 (if (!x7) = true then
 (Z71 x0 x1 x8 x9)
 else
 (if (decide (x6 < x9)) = true then
 (Z71 x0 x1 x8 x9)
 else
 (Z3J x0 x1 x6 x7 x8)))
 else
 (Z3J x0 x1 x6 x7 x8))
 else
 (Z3J x0 x1 x6 x7 x8)
theorem ZiA (x0 : List Z2) (x1 : List Bool) x6 x7 x8 x9 x10 ox0 ox1 : Sim Z1W (Z70 x0 x1 x6 x7 x8 x9 x10) (Zq1 0 (Zm ox0 (x0.map Zc)) (Zm ox1 (x1.map eB)) (iv x6) (bv x7) (iv x8) (iv x9) (iv x10) []) := by
 unfold Z70
 refine zf (ZvZ ..)<|ze<|zq<|zp (iv (x0.length : Int)) (et_ (Z14 (P := PP) (t := 28) (d := 44) (by kernel_rfl) Zc (shrO ox0) x0))<|zq ?_
 refine za (decide ((x0.length : Int) < (IntKind.i64.wrap (2 * x10)))) ?_ ?_
 ·refine zp (iv (x0.length : Int)) (et_ (Z14 (P := PP) (t := 28) (d := 44) (by kernel_rfl) Zc (shrO ox0) x0))<|zi fun a1 ha1 => zp (iv a1) (et_ (ZDb (P := PP) (t := 3) ha1))<|zi fun r2 hr2 => ?_
  obtain ⟨_, er2, _, rfl⟩ := ZkC x0 x1 a1 x9 .sh .sh r2 hr2
  refine zc [] (bv r2) [] er2 ?_
  refine za r2 ?_ ?_
  ·refine zq ?_
   refine za (!x7) ?_ ?_
   ·exact zk (Zcg x0 x1 x8 x9 ox0 ox1)
   ·refine zq ?_
    refine za (decide (x6 < x9)) ?_ ?_
    ·exact zk (Zcg x0 x1 x8 x9 ox0 ox1)
    ·exact zk (Z7l x0 x1 x6 x7 x8 ox0 ox1)
  ·exact zk (Z7l x0 x1 x6 x7 x8 ox0 ox1)
 ·exact zk (Z7l x0 x1 x6 x7 x8 ox0 ox1)
def Z7v (x0 : List Z2) (x1 : List Bool) (x6 : Int) (x7 : Bool) (x8 x9 x10 x11 : Int) : Option (Int × Bool) :=
 if (decide (x11 < (x0.length : Int))) = true then
 (Z99 x0 x1 x6 x7 x8 x9 x10 x11)
 else
 (Z70 x0 x1 x6 x7 x8 x9 x10)
theorem Zjo (x0 : List Z2) (x1 : List Bool) x6 x7 x8 x9 x10 x11 ox0 ox1 : Sim Z1W (Z7v x0 x1 x6 x7 x8 x9 x10 x11) (Zl6 0 (Zm ox0 (x0.map Zc)) (Zm ox1 (x1.map eB)) (iv x6) (bv x7) (iv x8) (iv x9) (iv x10) (iv x11) []) := by
 unfold Z7v
 refine zf (ZxW ..)<|ze<|zp (iv (x0.length : Int)) (et_ (Z14 (P := PP) (t := 28) (d := 44) (by kernel_rfl) Zc (shrO ox0) x0))<|zq ?_
 refine za (decide (x11 < (x0.length : Int))) ?_ ?_
 ·exact zk (Ziz x0 x1 x6 x7 x8 x9 x10 x11 ox0 ox1)
 ·exact zk (ZiA x0 x1 x6 x7 x8 x9 x10 ox0 ox1)
theorem ZdX x0 x1 x6 x7 x8 x9 x10 x11 {r} (h : Z7v x0 x1 x6 x7 x8 x9 x10 x11 = some r) : Z7D x0 x1 x6 x7 x8 x9 x10 x11 = some r :=
 ZR (fun _ _ ha hb => ru_ ZcB (ha .ex .ex) (hb .ex .ex)) (fun ox0 ox1 => Zjo x0 x1 x6 x7 x8 x9 x10 x11 ox0 ox1 r h)
def Zgy (x0 : List Z2) (x1 : List Bool) (x2 x3 : Int) : Option Bool :=
 if (decide (x2 < (x1.length : Int))) = true then
 ((lget x1 x2).bind fun a1 =>
 if a1 = true then
 ((lget x0 x2).bind fun a2 =>
 if (a2.View == x3) = true then
 ((lget x0 x2).bind fun a3 =>
 some (a3.Normal == x3))
 else
 (some false))
 else
 (some false))
 else
 (some false)
theorem Zqz (x0 : List Z2) (x1 : List Bool) x2 x3 ox0 ox1 : Sim Zd (Zgy x0 x1 x2 x3) (EE 33 [(Zm ox0 (x0.map Zc)), (Zm ox1 (x1.map eB)), (iv x2), (iv x3)] []) := by
 unfold Zgy
 refine zf (ZE3 ..)<|ze<|ze<|zp (iv (x1.length : Int)) (et_ (Z14 (P := PP) (t := 30) (d := 4) (by kernel_rfl) eB (shrO ox1) x1))<|zq ?_
 refine za (decide (x2 < (x1.length : Int))) ?_ ?_
 ·refine zi fun a1 ha1 => zp (.cptr [(.v (.bool a1))]) (et_ (Z1i (o := (shrO ox1)) (k := .i64) (n := 1) (e := eB) (cs := (fun a => [eB a])) (fun _ => rfl) (fun _ => rfl) (by decide) ha1))<|zq ?_
  refine za a1 ?_ ?_
  ·refine zi fun a2 ha2 => zp (.cptr (ZP a2 .sh)) (et_ (Z1i (o := (shrO ox0)) (k := .i64) (n := 5) (e := Zc) (cs := Z1x) (fun _ => rfl) (fun _ => rfl) (by decide) ha2))<|zq<|zq<|zq ?_
   refine za (a2.View == x3) ?_ ?_
   ·refine zi fun a3 ha3 => zp (.cptr (ZP a3 .sh)) (et_ (Z1i (o := (shrO ox0)) (k := .i64) (n := 5) (e := Zc) (cs := Z1x) (fun _ => rfl) (fun _ => rfl) (by decide) ha3))<|zq<|zq<|zq ?_
    exact zr ((bv (a3.Normal == x3)), []) ⟨_, rfl⟩
   ·exact zr ((bv false), []) ⟨_, rfl⟩
  ·exact zr ((bv false), []) ⟨_, rfl⟩
 ·exact zr ((bv false), []) ⟨_, rfl⟩
theorem Zr4 x0 x1 x2 x3 {r} (h : Zgy x0 x1 x2 x3 = some r) : ZdZ x0 x1 x2 x3 = some r :=
 ZR (fun _ _ ha hb => ru_ ZZ (ha .ex .ex) (hb .ex .ex)) (fun ox0 ox1 => Zqz x0 x1 x2 x3 ox0 ox1 r h)
def Zbk (x0 : List Z2) : Option Int :=
 Z7B x0 0 1
theorem ZlZ (x0 : List Z2) ox0 : Sim Zk (Zbk x0) (EE 18 [(Zm ox0 (x0.map Zc))] []) := by
 unfold Zbk
 refine zf (ZDC ..)<|ze<|ze<|ze ?_
 exact zk (ZdR x0 0 1 ox0)
theorem Zn6 x0 {r} (h : Zbk x0 = some r) : Z3f x0 = some r :=
 ZR (fun _ _ ha hb => ru_ Z1c (ha .ex) (hb .ex)) (fun ox0 => ZlZ x0 ox0 r h)
def Z9E (x0 : List Z2) (x3 x4 : Int) : Option Int :=
 Z62 x0 x3 x4 0
theorem Zjl (x0 : List Z2) x3 x4 ox0 : Sim Zk (Z9E x0 x3 x4) (ZrX 0 (Zm ox0 (x0.map Zc)) (iv x3) (iv x4) []) := by
 unfold Z9E
 refine zf (Zy7 ..)<|ze ?_
 exact zk (ZdT x0 x3 x4 0 ox0)
def Z98 (x3 : Int) : Option Int :=
 some x3
theorem Ziy x3 : Sim Zk (Z98 x3) (Zqd 0 (iv x3) []) := by
 unfold Z98
 refine zf (Zwe ..)<|ze ?_
 exact zr ((iv x3), []) ⟨_, rfl⟩
def Z7r (x0 : List Z2) (x3 x4 : Int) : Option Int :=
 if (decide (x4 ≤ 64)) = true then
 (Z9E x0 x3 x4)
 else
 (Z98 x3)
theorem Zji (x0 : List Z2) x3 x4 ox0 : Sim Zk (Z7r x0 x3 x4) (Zlc 0 (Zm ox0 (x0.map Zc)) (iv x3) (iv x4) []) := by
 unfold Z7r
 refine zf (Zy4 ..)<|ze<|zq ?_
 refine za (decide (x4 ≤ 64)) ?_ ?_
 ·exact zk (Zjl x0 x3 x4 ox0)
 ·exact zk (Ziy x3)
theorem ZdQ x0 x3 x4 {r} (h : Z7r x0 x3 x4 = some r) : Z7B x0 x3 x4 = some r :=
 ZR (fun _ _ ha hb => ru_ Z1c (ha .ex) (hb .ex)) (fun ox0 => Zji x0 x3 x4 ox0 r h)
def Z9F (x0 : List Z2) (x3 x4 x5 : Int) : Option Int :=
 Z4i x0 x3 x4 x5 0 0
theorem Zjm (x0 : List Z2) x3 x4 x5 ox0 : Sim Zk (Z9F x0 x3 x4 x5) (ZrY 0 (Zm ox0 (x0.map Zc)) (iv x3) (iv x4) (iv x5) []) := by
 unfold Z9F
 refine zf (Zy9 ..)<|ze<|ze ?_
 exact zk (Zd7 x0 x3 x4 x5 0 0 ox0)
def Z7t (x0 : List Z2) (x3 x4 : Int) : Option Int :=
 Z7B x0 x3 (IntKind.i64.wrap (x4 + 1))
theorem Zjk (x0 : List Z2) x3 x4 ox0 : Sim Zk (Z7t x0 x3 x4) (ZrW 0 (Zm ox0 (x0.map Zc)) (iv x3) (iv x4) []) := by
 unfold Z7t
 refine zf (Zy6 ..)<|ze<|zq ?_
 exact zk (ZdR x0 x3 (IntKind.i64.wrap (x4 + 1)) ox0)
def Z7s (x0 : List Z2) (x3 x4 x5 : Int) : Option Int :=
 if (decide (x5 < (x0.length : Int))) = true then
 (Z9F x0 x3 x4 x5)
 else
 (Z7t x0 x3 x4)
theorem Zjj (x0 : List Z2) x3 x4 x5 ox0 : Sim Zk (Z7s x0 x3 x4 x5) (Zld 0 (Zm ox0 (x0.map Zc)) (iv x3) (iv x4) (iv x5) []) := by
 unfold Z7s
 refine zf (Zy5 ..)<|ze<|zp (iv (x0.length : Int)) (et_ (Z14 (P := PP) (t := 28) (d := 44) (by kernel_rfl) Zc (shrO ox0) x0))<|zq ?_
 refine za (decide (x5 < (x0.length : Int))) ?_ ?_
 ·exact zk (Zjm x0 x3 x4 x5 ox0)
 ·exact zk (Zjk x0 x3 x4 ox0)
theorem ZdS x0 x3 x4 x5 {r} (h : Z7s x0 x3 x4 x5 = some r) : Z62 x0 x3 x4 x5 = some r :=
 ZR (fun _ _ ha hb => ru_ Z1c (ha .ex) (hb .ex)) (fun ox0 => Zjj x0 x3 x4 x5 ox0 r h)
def Z2V (x0 : List Z2) (x3 x4 x5 x6 x7 : Int) : Option Int :=
 Z4i x0 x3 x4 x5 x6 (IntKind.i64.wrap (x7 + 1))
theorem Z6T (x0 : List Z2) x3 x4 x5 x6 x7 ox0 : Sim Zk (Z2V x0 x3 x4 x5 x6 x7) (ZgS 0 (Zm ox0 (x0.map Zc)) (iv x3) (iv x4) (iv x5) (iv x6) (iv x7) []) := by
 unfold Z2V
 refine zf (Zwa ..)<|ze<|zq ?_
 exact zk (Zd7 x0 x3 x4 x5 x6 (IntKind.i64.wrap (x7 + 1)) ox0)
def Z97 (x0 : List Z2) (x3 x4 x5 x6 x7 : Int) : Option Int :=
 Z2V x0 x3 x4 x5 (IntKind.i64.wrap (x6 + 1)) x7
theorem Ziw (x0 : List Z2) x3 x4 x5 x6 x7 ox0 : Sim Zk (Z97 x0 x3 x4 x5 x6 x7) (Zqb 0 (Zm ox0 (x0.map Zc)) (iv x3) (iv x4) (iv x5) (iv x6) (iv x7) []) := by
 unfold Z97
 refine zf (Zwc ..)<|ze<|zq ?_
 exact zk (Z6T x0 x3 x4 x5 (IntKind.i64.wrap (x6 + 1)) x7 ox0)
def Z6Y (x0 : List Z2) (x3 x4 x5 x6 x7 : Int) : Option Int :=
 (lget x0 x5).bind fun a1 =>
 if (decide (x4 ≤ (a1.Log.length : Int))) = true then
 ((lget x0 x7).bind fun a2 =>
 if (decide (x4 ≤ (a2.Log.length : Int))) = true then
 ((lget x0 x5).bind fun a3 =>
 (lsl a3.Log 0 x4).bind fun a4 =>
 (lget x0 x7).bind fun a5 =>
 (lsl a5.Log 0 x4).bind fun a6 =>
 (Z8v a4 a6).bind fun r7 =>
 if r7 = true then
 (Z97 x0 x3 x4 x5 x6 x7)
 else
 (Z2V x0 x3 x4 x5 x6 x7))
 else
 (Z2V x0 x3 x4 x5 x6 x7))
 else
 (Z2V x0 x3 x4 x5 x6 x7)
theorem Ziv (x0 : List Z2) x3 x4 x5 x6 x7 ox0 : Sim Zk (Z6Y x0 x3 x4 x5 x6 x7) (Zqa 0 (Zm ox0 (x0.map Zc)) (iv x3) (iv x4) (iv x5) (iv x6) (iv x7) []) := by
 unfold Z6Y
 refine zf (Zwb ..)<|ze<|zi fun a1 ha1 => zp (.cptr (ZP a1 .sh)) (et_ (Z1i (o := (shrO ox0)) (k := .i64) (n := 5) (e := Zc) (cs := Z1x) (fun _ => rfl) (fun _ => rfl) (by decide) ha1))<|zq<|zq<|zp (iv (a1.Log.length : Int)) (et_ (Z14 (P := PP) (t := 42) (d := 95) (by kernel_rfl) Zl .sh a1.Log))<|zq ?_
 refine za (decide (x4 ≤ (a1.Log.length : Int))) ?_ ?_
 ·refine zi fun a2 ha2 => zp (.cptr (ZP a2 .sh)) (et_ (Z1i (o := (shrO ox0)) (k := .i64) (n := 5) (e := Zc) (cs := Z1x) (fun _ => rfl) (fun _ => rfl) (by decide) ha2))<|zq<|zq<|zp (iv (a2.Log.length : Int)) (et_ (Z14 (P := PP) (t := 42) (d := 95) (by kernel_rfl) Zl .sh a2.Log))<|zq ?_
  refine za (decide (x4 ≤ (a2.Log.length : Int))) ?_ ?_
  ·refine zi fun a3 ha3 => zp (.cptr (ZP a3 .sh)) (et_ (Z1i (o := (shrO ox0)) (k := .i64) (n := 5) (e := Zc) (cs := Z1x) (fun _ => rfl) (fun _ => rfl) (by decide) ha3))<|zq<|zq<|zi fun a4 ha4 => zp (Zm .sh (a4.map Zl)) (Eq.trans (by kernel_rfl) <| Z9n (n := 9) (o := .sh) (lo := none) (hi := (some (iv x4))) (e := Zl) (fun _ => rfl) (by decide) (by kernel_rfl) (by kernel_rfl) ha4)<|zi fun a5 ha5 => zp (.cptr (ZP a5 .sh)) (et_ (Z1i (o := (shrO ox0)) (k := .i64) (n := 5) (e := Zc) (cs := Z1x) (fun _ => rfl) (fun _ => rfl) (by decide) ha5))<|zq<|zq<|zi fun a6 ha6 => zp (Zm .sh (a6.map Zl)) (Eq.trans (by kernel_rfl) <| Z9n (n := 9) (o := .sh) (lo := none) (hi := (some (iv x4))) (e := Zl) (fun _ => rfl) (by decide) (by kernel_rfl) (by kernel_rfl) ha6)<|zi fun r7 hr7 => ?_
   obtain ⟨_, er7, _, rfl⟩ := ZhZ a4 a6 .sh .sh r7 hr7
   refine zc [] (bv r7) [] er7 ?_
   refine za r7 ?_ ?_
   ·exact zk (Ziw x0 x3 x4 x5 x6 x7 ox0)
   ·exact zk (Z6T x0 x3 x4 x5 x6 x7 ox0)
  ·exact zk (Z6T x0 x3 x4 x5 x6 x7 ox0)
 ·exact zk (Z6T x0 x3 x4 x5 x6 x7 ox0)
def Z5Z (x0 : List Z2) (x3 x4 x5 : Int) : Option Int :=
 Z62 x0 x3 x4 (IntKind.i64.wrap (x5 + 1))
theorem Zd8 (x0 : List Z2) x3 x4 x5 ox0 : Sim Zk (Z5Z x0 x3 x4 x5) (ZoD 0 (Zm ox0 (x0.map Zc)) (iv x3) (iv x4) (iv x5) []) := by
 unfold Z5Z
 refine zf (Zy8 ..)<|ze<|zq ?_
 exact zk (ZdT x0 x3 x4 (IntKind.i64.wrap (x5 + 1)) ox0)
def Z4f (x0 : List Z2) (x3 x4 x5 x6 : Int) : Option Int :=
 if (decide ((x0.length : Int) < (IntKind.i64.wrap (2 * x6)))) = true then
 (Z5Z x0 x4 x4 x5)
 else
 (Z5Z x0 x3 x4 x5)
theorem Zix (x0 : List Z2) x3 x4 x5 x6 ox0 : Sim Zk (Z4f x0 x3 x4 x5 x6) (Zqc 0 (Zm ox0 (x0.map Zc)) (iv x3) (iv x4) (iv x5) (iv x6) []) := by
 unfold Z4f
 refine zf (Zwd ..)<|ze<|zq<|zp (iv (x0.length : Int)) (et_ (Z14 (P := PP) (t := 28) (d := 44) (by kernel_rfl) Zc (shrO ox0) x0))<|zq ?_
 refine za (decide ((x0.length : Int) < (IntKind.i64.wrap (2 * x6)))) ?_ ?_
 ·refine ze ?_
  exact zk (Zd8 x0 x4 x4 x5 ox0)
 ·exact zk (Zd8 x0 x3 x4 x5 ox0)
def Z4e (x0 : List Z2) (x3 x4 x5 x6 x7 : Int) : Option Int :=
 if (decide (x7 < (x0.length : Int))) = true then
 (Z6Y x0 x3 x4 x5 x6 x7)
 else
 (Z4f x0 x3 x4 x5 x6)
theorem Ziu (x0 : List Z2) x3 x4 x5 x6 x7 ox0 : Sim Zk (Z4e x0 x3 x4 x5 x6 x7) (ZiW 0 (Zm ox0 (x0.map Zc)) (iv x3) (iv x4) (iv x5) (iv x6) (iv x7) []) := by
 unfold Z4e
 refine zf (Zw9 ..)<|ze<|zp (iv (x0.length : Int)) (et_ (Z14 (P := PP) (t := 28) (d := 44) (by kernel_rfl) Zc (shrO ox0) x0))<|zq ?_
 refine za (decide (x7 < (x0.length : Int))) ?_ ?_
 ·exact zk (Ziv x0 x3 x4 x5 x6 x7 ox0)
 ·exact zk (Zix x0 x3 x4 x5 x6 ox0)
theorem Z7k x0 x3 x4 x5 x6 x7 {r} (h : Z4e x0 x3 x4 x5 x6 x7 = some r) : Z4i x0 x3 x4 x5 x6 x7 = some r :=
 ZR (fun _ _ ha hb => ru_ Z1c (ha .ex) (hb .ex)) (fun ox0 => Ziu x0 x3 x4 x5 x6 x7 ox0 r h)
def Z4W : Option ((List Zb) × Int) :=
 some (([] : List Zb), 10)
theorem ZbC : Sim Z29 Z4W (ZoH 0 []) := by
 unfold Z4W
 refine zf (Zyl ..)<|ze ?_
 exact zr ((.p (.tup [(.lst .sh []), (.v (.int .i64 10))])), []) ⟨_, rfl⟩
def Z8D (zD zy zu zB : Int) (zF : List Z3) (b1 : Z0) : Option ((List Zb) × Int) :=
 (Z8u (Z0.mk zD zy zu zB zF) b1).bind fun r1 =>
 (Z7j zF).bind fun r2 =>
 Z6l r1 r1 (r1.length : Int) 0 zD zy zu zB r2
theorem ZhE zD zy zu zB zF b1 z5 zC : Sim Z29 (Z8D zD zy zu zB zF b1) (Zsc 0 (.ptr 0 0) (.ptr 1 0) [(Z3k zD zy zu zB zF z5), (Z1 b1 zC)]) := by
 unfold Z8D
 refine zf (Zym ..)<|ze<|zq<|zq<|zi fun r1 hr1 => ?_
 obtain ⟨_, er1, _, rfl⟩ := ZkO (Z0.mk zD zy zu zB zF) b1 .sh .sh r1 hr1
 refine zc [] (Zm .sh (r1.map ZO)) [(Z3k zD zy zu zB zF z5), (Z1 b1 zC)] er1<|ze<|zq<|zq<|zi fun r2 hr2 => ?_
 obtain ⟨_, er2, _, rfl⟩ := Zb2 zF .sh r2 hr2
 refine zc [] (Zm .sh (r2.map Z7)) [(Z3k zD zy zu zB zF z5), (Z1 b1 zC)] er2<|zq<|zt [(Z3k zD zy zu zB r2 .sh), (Z1 b1 zC)]<|ze<|zp (iv (r1.length : Int)) (et_ (Z14 (P := PP) (t := 62) (d := 110) (by kernel_rfl) ZO .sh r1)) ?_
 exact zk (Zcd r1 r1 (r1.length : Int) 0 zD zy zu zB r2 .sh .sh .sh)
def Z6s (x0 x1 : Z0) : Option ((List Zb) × Int) :=
 (Z1K x0).bind fun r1 =>
 if (!r1) = true then
 Z4W
 else
 ((Z1K x1).bind fun r2 =>
 if (!r2) = true then
 Z4W
 else
 (Z8D x0.View x0.Normal x0.Commit x0.Active x0.Log x1))
theorem Zk1 x0 x1 zn zN : Sim Z29 (Z6s x0 x1) (EE 26 [(pA_ (Zi x0 zn)), (pA_ (Zi x1 zN))] []) := by
 unfold Z6s
 refine zf (ZDQ ..)<|ze<|zx (.ptr 0 0) [(Z1 x0 zn)]<|zx (.ptr 1 0) [(Z1 x0 zn), (Z1 x1 zN)]<|ze<|zq<|zi fun r1 hr1 => ?_
 obtain ⟨_, er1, _, rfl⟩ := Z4J x0 .sh r1 hr1
 refine zc [] (bv r1) [(Z1 x0 zn), (Z1 x1 zN)] er1<|zq ?_
 refine za (!r1) ?_ ?_
 ·exact zk ZbC
 ·refine zq<|zi fun r2 hr2 => ?_
  obtain ⟨_, er2, _, rfl⟩ := Z4J x1 .sh r2 hr2
  refine zc [] (bv r2) [(Z1 x0 zn), (Z1 x1 zN)] er2<|zq ?_
  refine za (!r2) ?_ ?_
  ·exact zk ZbC
  ·exact zk (ZhE x0.View x0.Normal x0.Commit x0.Active x0.Log x1 zn zN)
theorem ZaA x0 x1 {r} (h : Z6s x0 x1 = some r) : Z2F x0 x1 = some r :=
 ZR (fun _ _ ha hb => ru_ Zfi (ha .ex .ex) (hb .ex .ex)) (fun zn zN => Zk1 x0 x1 zn zN r h)
def Z7K (x6 x24 : List Zb) (x25 x26 zD zy zu zB : Int) (zF : List Z3) : Option ((List Zb) × Int) :=
 Z6l x6 x24 x25 (IntKind.i64.wrap (x26 + 1)) zD zy zu zB zF
theorem Zh9 (x6 x24 : List Zb) x25 x26 zD zy zu zB zF ox6 ox24 z5 : Sim Z29 (Z7K x6 x24 x25 x26 zD zy zu zB zF) (Zqg 0 (.ptr 0 0) (Zm ox6 (x6.map ZO)) (Zm ox24 (x24.map ZO)) (iv x25) (iv x26) [(Z3k zD zy zu zB zF z5)]) := by
 unfold Z7K
 refine zf (Zwh ..)<|ze<|zq ?_
 exact zk (Zcd x6 x24 x25 (IntKind.i64.wrap (x26 + 1)) zD zy zu zB zF ox6 ox24 z5)
def Z8E (x6 x24 : List Zb) (x25 x26 zD zy zu zB : Int) (zF : List Z3) : Option ((List Zb) × Int) :=
 (lget x24 x26).bind fun a1 =>
 (Z80 a1 zD zy zu zB zF).bind fun r2 =>
 if (!r2.1) = true then
 (some (([] : List Zb), 54))
 else
 (Z7K x6 x24 x25 x26 r2.2.1 r2.2.2.1 r2.2.2.2.1 r2.2.2.2.2.1 r2.2.2.2.2.2)
theorem ZhF (x6 x24 : List Zb) x25 x26 zD zy zu zB zF ox6 ox24 z5 : Sim Z29 (Z8E x6 x24 x25 x26 zD zy zu zB zF) (Zsd 0 (.ptr 0 0) (Zm ox6 (x6.map ZO)) (Zm ox24 (x24.map ZO)) (iv x25) (iv x26) [(Z3k zD zy zu zB zF z5)]) := by
 unfold Z8E
 refine zf (Zyn ..)<|ze<|zi fun a1 ha1 => zp (.cptr (Z3i a1 .sh)) (et_ (Z1i (o := ox24) (k := .i64) (n := 4) (e := ZO) (cs := Zbm) (fun _ => rfl) (fun _ => rfl) (by decide) ha1))<|zq<|zz (.ptr 1 0) [(Z3k zD zy zu zB zF z5), (Z1v (Zb.mk 0 0 0 ([] : List Z3)) .nl)]<|zt [(Z3k zD zy zu zB zF z5), (Z1v a1 .sh)]<|ze<|zq<|zi fun r2 hr2 => ?_
 obtain ⟨_, er2, zqD, _, rfl⟩ := ZhI a1 zD zy zu zB zF .sh z5 r2 hr2
 refine zc [0] (bv r2.1) [(Z3k r2.2.1 r2.2.2.1 r2.2.2.2.1 r2.2.2.2.2.1 r2.2.2.2.2.2 zqD), (Z1v a1 .sh)] er2<|zq ?_
 refine za (!r2.1) ?_ ?_
 ·refine ze ?_
  exact zr ((.p (.tup [(.lst .sh []), (.v (.int .i64 54))])), [(Z3k r2.2.1 r2.2.2.1 r2.2.2.2.1 r2.2.2.2.2.1 r2.2.2.2.2.2 zqD), (Z1v a1 .sh)]) ⟨_, rfl⟩
 ·exact zk (Zh9 x6 x24 x25 x26 r2.2.1 r2.2.2.1 r2.2.2.2.1 r2.2.2.2.2.1 r2.2.2.2.2.2 ox6 ox24 zqD)
def Z7L (x6 : List Zb) : Option ((List Zb) × Int) :=
 some (x6, 0)
theorem Zha (x6 : List Zb) ox6 : Sim Z29 (Z7L x6) (Zqh 0 (Zm ox6 (x6.map ZO)) []) := by
 unfold Z7L
 refine zf (Zwi ..)<|ze ?_
 exact zr ((.p (.tup [(.lst .sh (x6.map ZO)), (.v (.int .i64 0))])), []) ⟨_, rfl⟩
def Z6k (x6 x24 : List Zb) (x25 x26 zD zy zu zB : Int) (zF : List Z3) : Option ((List Zb) × Int) :=
 if (decide (x26 < x25)) = true then
 (Z8E x6 x24 x25 x26 zD zy zu zB zF)
 else
 (Z7L x6)
theorem ZhD (x6 x24 : List Zb) x25 x26 zD zy zu zB zF ox6 ox24 z5 : Sim Z29 (Z6k x6 x24 x25 x26 zD zy zu zB zF) (Zlj 0 (.ptr 0 0) (Zm ox6 (x6.map ZO)) (Zm ox24 (x24.map ZO)) (iv x25) (iv x26) [(Z3k zD zy zu zB zF z5)]) := by
 unfold Z6k
 refine zf (Zyk ..)<|ze<|zq ?_
 refine za (decide (x26 < x25)) ?_ ?_
 ·exact zk (ZhF x6 x24 x25 x26 zD zy zu zB zF ox6 ox24 z5)
 ·exact zk (Zha x6 ox6)
theorem Zcc x6 x24 x25 x26 zD zy zu zB zF {r} (h : Z6k x6 x24 x25 x26 zD zy zu zB zF = some r) : Z6l x6 x24 x25 x26 zD zy zu zB zF = some r :=
 ZR (fun _ _ ha hb => ru_ Zfi (ha .ex .ex .ex) (hb .ex .ex .ex)) (fun ox6 ox24 z5 => ZhD x6 x24 x25 x26 zD zy zu zB zF ox6 ox24 z5 r h)
def Z4Y (x5 : List Zb) (b0 b1 : Z0) : Option (List Zb) :=
 Z50 x5 0 b0 b1
theorem ZbF (x5 : List Zb) b0 b1 ox5 z5 zC (hox5 : Z1e ox5 = true) : Sim Z1F (Z4Y x5 b0 b1) (ZoP 0 (.ptr 0 0) (.ptr 1 0) (Zm ox5 (x5.map ZO)) [(Z1 b0 z5), (Z1 b1 zC)]) := by
 unfold Z4Y
 refine zf (ZyH ..)<|ze ?_
 exact zk (Zce x5 0 b0 b1 ox5 z5 zC hox5)
def Z8i (x0 x1 : Z0) : Option (List Zb) :=
 if (x0.View != x1.View) = true then
 ((lapp ([] : List Zb) ([(Zb.mk 1 x1.View x0.Normal ([] : List Z3))] : List Zb)).bind fun a1 =>
 Z4Y a1 x0 x1)
 else
 (Z4Y ([] : List Zb) x0 x1)
theorem Zk2 x0 x1 zn zN : Sim Z1F (Z8i x0 x1) (EE 45 [(pA_ (Zi x0 zn)), (pA_ (Zi x1 zN))] []) := by
 unfold Z8i
 refine zf (ZEg ..)<|ze<|zx (.ptr 0 0) [(Z1 x0 zn)]<|zx (.ptr 1 0) [(Z1 x0 zn), (Z1 x1 zN)]<|ze<|ze<|zq<|zq<|zq<|zq<|zq ?_
 refine za (x0.View != x1.View) ?_ ?_
 ·refine ze<|zq<|zq<|zq<|zq<|zq<|zq<|zi fun a1 ha1 => zp (Zm .un (a1.map ZO)) (Eq.trans (by kernel_rfl) <| Z4E (n := 4) (o := .nl) (o' := .ex) (e := ZO) (ys := ([(Zb.mk 1 x1.View x0.Normal ([] : List Z3))] : List Zb)) (fun _ => rfl) (by decide) rfl ha1) ?_
  exact zk (ZbF a1 x0 x1 .un zn zN rfl)
 ·exact zk (ZbF ([] : List Zb) x0 x1 .nl zn zN rfl)
theorem ZeC x0 x1 {r} (h : Z8i x0 x1 = some r) : Z8u x0 x1 = some r :=
 ZR (fun _ _ ha hb => ru_ ZaW (ha .ex .ex) (hb .ex .ex)) (fun zn zN => Zk2 x0 x1 zn zN r h)
def Z8F (x5 : List Zb) (x6 : Int) (b0 b1 : Z0) : Option (List Zb) :=
 Z50 x5 (IntKind.i64.wrap (x6 + 1)) b0 b1
theorem ZhK (x5 : List Zb) x6 b0 b1 ox5 z5 zC (hox5 : Z1e ox5 = true) : Sim Z1F (Z8F x5 x6 b0 b1) (ZsA 0 (.ptr 0 0) (.ptr 1 0) (Zm ox5 (x5.map ZO)) (iv x6) [(Z1 b0 z5), (Z1 b1 zC)]) := by
 unfold Z8F
 refine zf (ZyI ..)<|ze<|zq ?_
 exact zk (Zce x5 (IntKind.i64.wrap (x6 + 1)) b0 b1 ox5 z5 zC hox5)
def Z4Z (x5 : List Zb) (x6 : Int) (b0 b1 : Z0) : Option (List Zb) :=
 (lsl b1.Log x6 (b1.Log.length : Int)).bind fun a1 =>
 (Z7j a1).bind fun r2 =>
 Z5P x5 r2 (r2.length : Int) 0 b0 b1
theorem ZbH (x5 : List Zb) x6 b0 b1 ox5 z5 zC (hox5 : Z1e ox5 = true) : Sim Z1F (Z4Z x5 x6 b0 b1) (ZoR 0 (.ptr 0 0) (.ptr 1 0) (Zm ox5 (x5.map ZO)) (iv x6) [(Z1 b0 z5), (Z1 b1 zC)]) := by
 unfold Z4Z
 refine zf (ZyK ..)<|ze<|zq<|zq<|zi fun a1 ha1 => zp (Zm (slO (shrO zC)) (a1.map Z7)) (Eq.trans (by kernel_rfl) <| Z9n (n := 9) (o := (shrO zC)) (lo := (some (iv x6))) (hi := none) (e := Z7) (fun _ => rfl) (by decide) (by kernel_rfl) (by kernel_rfl) ha1)<|zi fun r2 hr2 => ?_
 obtain ⟨_, er2, _, rfl⟩ := Zb2 a1 .sh r2 hr2
 refine zc [] (Zm .sh (r2.map Z7)) [(Z1 b0 z5), (Z1 b1 zC)] er2<|zp (iv (r2.length : Int)) (et_ (Z14 (P := PP) (t := 37) (d := 81) (by kernel_rfl) Z7 .sh r2)) ?_
 exact zk (ZbE x5 r2 (r2.length : Int) 0 b0 b1 ox5 .sh z5 zC hox5)
def Z3L (x5 : List Zb) (x6 : Int) (b0 b1 : Z0) : Option (List Zb) :=
 if (decide (x6 < (b0.Log.length : Int))) = true then
 ((lapp x5 ([(Zb.mk 3 x6 0 ([] : List Z3))] : List Zb)).bind fun a1 =>
 Z4Z a1 x6 b0 b1)
 else
 (Z4Z x5 x6 b0 b1)
theorem ZbG (x5 : List Zb) x6 b0 b1 ox5 z5 zC (hox5 : Z1e ox5 = true) : Sim Z1F (Z3L x5 x6 b0 b1) (ZoQ 0 (.ptr 0 0) (.ptr 1 0) (Zm ox5 (x5.map ZO)) (iv x6) [(Z1 b0 z5), (Z1 b1 zC)]) := by
 unfold Z3L
 refine zf (ZyJ ..)<|ze<|zq<|zq<|zp (iv (b0.Log.length : Int)) (et_ (Z14 (P := PP) (t := 37) (d := 81) (by kernel_rfl) Z7 (shrO z5) b0.Log))<|zq ?_
 refine za (decide (x6 < (b0.Log.length : Int))) ?_ ?_
 ·refine ze<|zq<|zq<|zi fun a1 ha1 => zp (Zm .un (a1.map ZO)) (Eq.trans (by kernel_rfl) <| Z4E (n := 4) (o := ox5) (o' := .ex) (e := ZO) (ys := ([(Zb.mk 3 x6 0 ([] : List Z3))] : List Zb)) (fun _ => rfl) (by decide) hox5 ha1) ?_
  exact zk (ZbH a1 x6 b0 b1 .un z5 zC rfl)
 ·exact zk (ZbH x5 x6 b0 b1 ox5 z5 zC hox5)
def Z4X (x5 : List Zb) (x6 : Int) (b0 b1 : Z0) : Option (List Zb) :=
 if (decide (x6 < (min (b0.Log.length : Int) (b1.Log.length : Int)))) = true then
 ((lsl b0.Log x6 (IntKind.i64.wrap (x6 + 1))).bind fun a1 =>
 (lsl b1.Log x6 (IntKind.i64.wrap (x6 + 1))).bind fun a2 =>
 (Z88 a1 a2).bind fun r3 =>
 if r3 = true then
 (Z8F x5 x6 b0 b1)
 else
 (Z3L x5 x6 b0 b1))
 else
 (Z3L x5 x6 b0 b1)
theorem ZhJ (x5 : List Zb) x6 b0 b1 ox5 z5 zC (hox5 : Z1e ox5 = true) : Sim Z1F (Z4X x5 x6 b0 b1) (Zls 0 (.ptr 0 0) (.ptr 1 0) (Zm ox5 (x5.map ZO)) (iv x6) [(Z1 b0 z5), (Z1 b1 zC)]) := by
 unfold Z4X
 refine zf (ZyG ..)<|ze<|zq<|zq<|zp (iv (b0.Log.length : Int)) (et_ (Z14 (P := PP) (t := 37) (d := 81) (by kernel_rfl) Z7 (shrO z5) b0.Log))<|zq<|zq<|zp (iv (b1.Log.length : Int)) (et_ (Z14 (P := PP) (t := 37) (d := 81) (by kernel_rfl) Z7 (shrO zC) b1.Log))<|zp (iv (min (b0.Log.length : Int) (b1.Log.length : Int))) (Zmz _ _)<|zq ?_
 refine za (decide (x6 < (min (b0.Log.length : Int) (b1.Log.length : Int)))) ?_ ?_
 ·refine zq<|zq<|zq<|zi fun a1 ha1 => zp (Zm (slO (shrO z5)) (a1.map Z7)) (Eq.trans (by kernel_rfl) <| Z9n (n := 9) (o := (shrO z5)) (lo := (some (iv x6))) (hi := (some (iv (IntKind.i64.wrap (x6 + 1))))) (e := Z7) (fun _ => rfl) (by decide) (by kernel_rfl) (by kernel_rfl) ha1)<|zq<|zq<|zq<|zi fun a2 ha2 => zp (Zm (slO (shrO zC)) (a2.map Z7)) (Eq.trans (by kernel_rfl) <| Z9n (n := 9) (o := (shrO zC)) (lo := (some (iv x6))) (hi := (some (iv (IntKind.i64.wrap (x6 + 1))))) (e := Z7) (fun _ => rfl) (by decide) (by kernel_rfl) (by kernel_rfl) ha2)<|zi fun r3 hr3 => ?_
  obtain ⟨_, er3, _, rfl⟩ := ZeW a1 a2 .sh .sh r3 hr3
  refine zc [] (bv r3) [(Z1 b0 z5), (Z1 b1 zC)] er3 ?_
  refine za r3 ?_ ?_
  ·exact zk (ZhK x5 x6 b0 b1 ox5 z5 zC hox5)
  ·exact zk (ZbG x5 x6 b0 b1 ox5 z5 zC hox5)
 ·exact zk (ZbG x5 x6 b0 b1 ox5 z5 zC hox5)
theorem Z9s x5 x6 b0 b1 {r} (h : Z4X x5 x6 b0 b1 = some r) : Z50 x5 x6 b0 b1 = some r :=
 ZR (fun _ _ ha hb => ru_ ZaW (ha .ex .ex .ex rfl) (hb .ex .ex .ex rfl)) (fun ox5 z5 zC hox5 => ZhJ x5 x6 b0 b1 ox5 z5 zC hox5 r h)
def Z7O (x5 : List Zb) (x62 : List Z3) (x63 x64 : Int) (b0 b1 : Z0) : Option (List Zb) :=
 (lget x62 x64).bind fun a1 =>
 (lapp x5 ([(Zb.mk 2 0 0 ([a1] : List Z3))] : List Zb)).bind fun a2 =>
 Z5P a2 x62 x63 (IntKind.i64.wrap (x64 + 1)) b0 b1
theorem Zhe (x5 : List Zb) (x62 : List Z3) x63 x64 b0 b1 ox5 ox62 z5 zC (hox5 : Z1e ox5 = true) : Sim Z1F (Z7O x5 x62 x63 x64 b0 b1) (Zqi 0 (.ptr 0 0) (.ptr 1 0) (Zm ox5 (x5.map ZO)) (Zm ox62 (x62.map Z7)) (iv x63) (iv x64) [(Z1 b0 z5), (Z1 b1 zC)]) := by
 unfold Z7O
 refine zf (Zwk ..)<|ze<|zi fun a1 ha1 => zp (.cptr (Z1f a1 .sh .sh)) (et_ (Z1i (o := ox62) (k := .i64) (n := 9) (e := Z7) (cs := Z36) (fun _ => rfl) (fun _ => rfl) (by decide) ha1))<|zq<|zz (.ptr 2 0) [(Z1 b0 z5), (Z1 b1 zC), (ZE Zo7 .nl .nl)]<|zt [(Z1 b0 z5), (Z1 b1 zC), (ZE a1 .sh .sh)]<|ze<|zq<|zq<|zq<|zq<|zi fun a2 ha2 => zp (Zm .un (a2.map ZO)) (Eq.trans (by kernel_rfl) <| Z4E (n := 4) (o := ox5) (o' := .ex) (e := ZO) (ys := ([(Zb.mk 2 0 0 ([a1] : List Z3))] : List Zb)) (fun _ => rfl) (by decide) hox5 ha2)<|ze<|zq ?_
 exact zk (ZbE a2 x62 x63 (IntKind.i64.wrap (x64 + 1)) b0 b1 .un ox62 z5 zC rfl)
def Z5J (x5 : List Zb) : Option (List Zb) :=
 some x5
theorem Zb5 (x5 : List Zb) ox5 (hox5 : Z1e ox5 = true) : Sim Z1F (Z5J x5) (ZmL 0 (Zm ox5 (x5.map ZO)) []) := by
 unfold Z5J
 refine zf (Zwo ..)<|ze ?_
 exact zr ((Zm .sh (x5.map ZO)), []) ⟨_, rfl⟩
def Z4v (x5 : List Zb) (b0 b1 : Z0) : Option (List Zb) :=
 if (b0.Active != b1.Active) = true then
 ((lapp x5 ([(Zb.mk 5 b1.Active 0 ([] : List Z3))] : List Zb)).bind fun a1 =>
 Z5J a1)
 else
 (Z5J x5)
theorem Zb4 (x5 : List Zb) b0 b1 ox5 z5 zC (hox5 : Z1e ox5 = true) : Sim Z1F (Z4v x5 b0 b1) (ZmK 0 (.ptr 0 0) (.ptr 1 0) (Zm ox5 (x5.map ZO)) [(Z1 b0 z5), (Z1 b1 zC)]) := by
 unfold Z4v
 refine zf (Zwn ..)<|ze<|zq<|zq<|zq<|zq<|zq ?_
 refine za (b0.Active != b1.Active) ?_ ?_
 ·refine ze<|zq<|zq<|zq<|zq<|zi fun a1 ha1 => zp (Zm .un (a1.map ZO)) (Eq.trans (by kernel_rfl) <| Z4E (n := 4) (o := ox5) (o' := .ex) (e := ZO) (ys := ([(Zb.mk 5 b1.Active 0 ([] : List Z3))] : List Zb)) (fun _ => rfl) (by decide) hox5 ha1) ?_
  exact zk (Zb5 a1 .un rfl)
 ·exact zk (Zb5 x5 ox5 hox5)
def Z4u (x5 : List Zb) (b0 b1 : Z0) : Option (List Zb) :=
 if (b0.Commit != b1.Commit) = true then
 ((lapp x5 ([(Zb.mk 4 b1.Commit 0 ([] : List Z3))] : List Zb)).bind fun a1 =>
 Z4v a1 b0 b1)
 else
 (Z4v x5 b0 b1)
theorem Zb3 (x5 : List Zb) b0 b1 ox5 z5 zC (hox5 : Z1e ox5 = true) : Sim Z1F (Z4u x5 b0 b1) (ZmJ 0 (.ptr 0 0) (.ptr 1 0) (Zm ox5 (x5.map ZO)) [(Z1 b0 z5), (Z1 b1 zC)]) := by
 unfold Z4u
 refine zf (Zwm ..)<|ze<|zq<|zq<|zq<|zq<|zq ?_
 refine za (b0.Commit != b1.Commit) ?_ ?_
 ·refine ze<|zq<|zq<|zq<|zq<|zi fun a1 ha1 => zp (Zm .un (a1.map ZO)) (Eq.trans (by kernel_rfl) <| Z4E (n := 4) (o := ox5) (o' := .ex) (e := ZO) (ys := ([(Zb.mk 4 b1.Commit 0 ([] : List Z3))] : List Zb)) (fun _ => rfl) (by decide) hox5 ha1) ?_
  exact zk (Zb4 a1 b0 b1 .un z5 zC rfl)
 ·exact zk (Zb4 x5 b0 b1 ox5 z5 zC hox5)
def Z5I (x5 : List Zb) (b0 b1 : Z0) : Option (List Zb) :=
 if (b0.Normal != b1.Normal) = true then
 ((lapp x5 ([(Zb.mk 1 b1.View b1.Normal ([] : List Z3))] : List Zb)).bind fun a1 =>
 Z4u a1 b0 b1)
 else
 (Z4u x5 b0 b1)
theorem Zhf (x5 : List Zb) b0 b1 ox5 z5 zC (hox5 : Z1e ox5 = true) : Sim Z1F (Z5I x5 b0 b1) (Zqj 0 (.ptr 0 0) (.ptr 1 0) (Zm ox5 (x5.map ZO)) [(Z1 b0 z5), (Z1 b1 zC)]) := by
 unfold Z5I
 refine zf (Zwl ..)<|ze<|zq<|zq<|zq<|zq<|zq ?_
 refine za (b0.Normal != b1.Normal) ?_ ?_
 ·refine ze<|zq<|zq<|zq<|zq<|zq<|zq<|zi fun a1 ha1 => zp (Zm .un (a1.map ZO)) (Eq.trans (by kernel_rfl) <| Z4E (n := 4) (o := ox5) (o' := .ex) (e := ZO) (ys := ([(Zb.mk 1 b1.View b1.Normal ([] : List Z3))] : List Zb)) (fun _ => rfl) (by decide) hox5 ha1) ?_
  exact zk (Zb3 a1 b0 b1 .un z5 zC rfl)
 ·exact zk (Zb3 x5 b0 b1 ox5 z5 zC hox5)
def Z5H (x5 : List Zb) (x62 : List Z3) (x63 x64 : Int) (b0 b1 : Z0) : Option (List Zb) :=
 if (decide (x64 < x63)) = true then
 (Z7O x5 x62 x63 x64 b0 b1)
 else
 (Z5I x5 b0 b1)
theorem Zhd (x5 : List Zb) (x62 : List Z3) x63 x64 b0 b1 ox5 ox62 z5 zC (hox5 : Z1e ox5 = true) : Sim Z1F (Z5H x5 x62 x63 x64 b0 b1) (Zj0 0 (.ptr 0 0) (.ptr 1 0) (Zm ox5 (x5.map ZO)) (Zm ox62 (x62.map Z7)) (iv x63) (iv x64) [(Z1 b0 z5), (Z1 b1 zC)]) := by
 unfold Z5H
 refine zf (Zwj ..)<|ze<|zq ?_
 refine za (decide (x64 < x63)) ?_ ?_
 ·exact zk (Zhe x5 x62 x63 x64 b0 b1 ox5 ox62 z5 zC hox5)
 ·exact zk (Zhf x5 b0 b1 ox5 z5 zC hox5)
theorem ZbD x5 x62 x63 x64 b0 b1 {r} (h : Z5H x5 x62 x63 x64 b0 b1 = some r) : Z5P x5 x62 x63 x64 b0 b1 = some r :=
 ZR (fun _ _ ha hb => ru_ ZaW (ha .ex .ex .ex .ex rfl) (hb .ex .ex .ex .ex rfl)) (fun ox5 ox62 z5 zC hox5 => Zhd x5 x62 x63 x64 b0 b1 ox5 ox62 z5 zC hox5 r h)
def ZaI (x0 : List Z3) : Option (List Z3) :=
 Z76 ([] : List Z3) x0 (x0.length : Int) 0
theorem ZkN (x0 : List Z3) ox0 : Sim Z52 (ZaI x0) (EE 46 [(Zm ox0 (x0.map Z7))] []) := by
 unfold ZaI
 refine zf (ZEl ..)<|ze<|ze<|ze<|zp (iv (x0.length : Int)) (et_ (Z14 (P := PP) (t := 37) (d := 81) (by kernel_rfl) Z7 (shrO ox0) x0)) ?_
 exact zk (Zd6 ([] : List Z3) x0 (x0.length : Int) 0 .nl (shrO ox0) rfl)
theorem ZlX x0 {r} (h : ZaI x0 = some r) : Z7j x0 = some r :=
 ZR (fun _ _ ha hb => ru_ ZeJ (ha .ex) (hb .ex)) (fun ox0 => ZkN x0 ox0 r h)
def Z92 (x3 x6 : List Z3) (x7 x8 : Int) : Option (List Z3) :=
 (lget x6 x8).bind fun a1 =>
 (lapp ([] : List Z9) a1.Delta.Put).bind fun a2 =>
 (lapp ([] : List Int) a1.Delta.Drop).bind fun a3 =>
 (lapp x3 ([(Z3.mk a1.View a1.Client a1.Request (Z1U.mk a1.Delta.Default a1.Delta.Closed a1.Delta.Fuel a1.Delta.Stack a2 a3))] : List Z3)).bind fun a4 =>
 Z76 a4 x6 x7 (IntKind.i64.wrap (x8 + 1))
theorem Zim (x3 x6 : List Z3) x7 x8 ox3 ox6 (hox3 : Z1e ox3 = true) : Sim Z52 (Z92 x3 x6 x7 x8) (ZsE 0 (Zm ox3 (x3.map Z7)) (Zm ox6 (x6.map Z7)) (iv x7) (iv x8) []) := by
 unfold Z92
 refine zf (ZyM ..)<|ze<|zi fun a1 ha1 => zp (.cptr (Z1f a1 .sh .sh)) (et_ (Z1i (o := ox6) (k := .i64) (n := 9) (e := Z7) (cs := Z36) (fun _ => rfl) (fun _ => rfl) (by decide) ha1))<|zq<|zz (.ptr 0 0) [(ZE Zo7 .nl .nl)]<|zt [(ZE a1 .sh .sh)]<|ze<|zq<|zq<|zq<|zi fun a2 ha2 => zp (Zm (apo .nl ((a1.Delta.Put).map Z8)) (a2.map Z8)) (Eq.trans (by kernel_rfl) <| Z4E (n := 5) (o := .nl) (o' := .sh) (e := Z8) (ys := a1.Delta.Put) (fun _ => rfl) (by decide) rfl ha2)<|zq<|zq<|zt [(ZE (Z3.mk a1.View a1.Client a1.Request (Z1U.mk a1.Delta.Default a1.Delta.Closed a1.Delta.Fuel a1.Delta.Stack a2 a1.Delta.Drop)) (apo .nl ((a1.Delta.Put).map Z8)) .sh)]<|ze<|zq<|zq<|zq<|zi fun a3 ha3 => zp (Zm (apo .nl ((a1.Delta.Drop).map (eI .i64))) (a3.map (eI .i64))) (Eq.trans (by kernel_rfl) <| Z4E (n := 1) (o := .nl) (o' := .sh) (e := (eI .i64)) (ys := a1.Delta.Drop) (fun _ => rfl) (by decide) rfl ha3)<|zq<|zq ?_
 refine zt [(ZE (Z3.mk a1.View a1.Client a1.Request (Z1U.mk a1.Delta.Default a1.Delta.Closed a1.Delta.Fuel a1.Delta.Stack a2 a3)) (apo .nl ((a1.Delta.Put).map Z8)) (apo .nl ((a1.Delta.Drop).map (eI .i64))))]<|ze<|zq<|zq<|zi fun a4 ha4 => zp (Zm .un (a4.map Z7)) (Eq.trans (by kernel_rfl) <| Z4E (n := 9) (o := ox3) (o' := .ex) (e := Z7) (ys := ([(Z3.mk a1.View a1.Client a1.Request (Z1U.mk a1.Delta.Default a1.Delta.Closed a1.Delta.Fuel a1.Delta.Stack a2 a3))] : List Z3)) (fun _ => rfl) (by decide) hox3 ha4)<|ze<|zq ?_
 exact zk (Zd6 a4 x6 x7 (IntKind.i64.wrap (x8 + 1)) .un ox6 rfl)
def Z93 (x3 : List Z3) : Option (List Z3) :=
 some x3
theorem Zin (x3 : List Z3) ox3 (hox3 : Z1e ox3 = true) : Sim Z52 (Z93 x3) (ZsF 0 (Zm ox3 (x3.map Z7)) []) := by
 unfold Z93
 refine zf (ZyN ..)<|ze ?_
 exact zr ((Zm .sh (x3.map Z7)), []) ⟨_, rfl⟩
def Z6X (x3 x6 : List Z3) (x7 x8 : Int) : Option (List Z3) :=
 if (decide (x8 < x7)) = true then
 (Z92 x3 x6 x7 x8)
 else
 (Z93 x3)
theorem Zil (x3 x6 : List Z3) x7 x8 ox3 ox6 (hox3 : Z1e ox3 = true) : Sim Z52 (Z6X x3 x6 x7 x8) (Zlt 0 (Zm ox3 (x3.map Z7)) (Zm ox6 (x6.map Z7)) (iv x7) (iv x8) []) := by
 unfold Z6X
 refine zf (ZyL ..)<|ze<|zq ?_
 refine za (decide (x8 < x7)) ?_ ?_
 ·exact zk (Zim x3 x6 x7 x8 ox3 ox6 hox3)
 ·exact zk (Zin x3 ox3 hox3)
theorem Zd5 x3 x6 x7 x8 {r} (h : Z6X x3 x6 x7 x8 = some r) : Z76 x3 x6 x7 x8 = some r :=
 ZR (fun _ _ ha hb => ru_ ZeJ (ha .ex .ex rfl) (hb .ex .ex rfl)) (fun ox3 ox6 hox3 => Zil x3 x6 x7 x8 ox3 ox6 hox3 r h)
def Z1N (zD zy zu zB : Int) (zF : List Z3) : Option (Bool × Int × Int × Int × Int × (List Z3)) :=
 some (true, zD, zy, zu, zB, zF)
theorem Z4A zD zy zu zB zF z5 : Sim Z1t (Z1N zD zy zu zB zF) (ZcZ 1 [(Z3k zD zy zu zB zF z5)]) := by
 unfold Z1N
 refine zf (ZoW ..)<|ze ?_
 exact zr ((bv true), [(Z3k zD zy zu zB zF z5)]) ⟨z5, _, rfl⟩
def Z6a (zu zB : Int) (zF : List Z3) (b1 : Zb) : Option (Bool × Int × Int × Int × Int × (List Z3)) :=
 Z1N b1.A b1.B zu zB zF
theorem ZfA zD zy zu zB zF b1 z5 zC : Sim Z1t (Z6a zu zB zF b1) (ZsI 1 (.ptr 0 0) (.ptr 1 0) [(Z3k zD zy zu zB zF z5), (Z1v b1 zC)]) := by
 unfold Z6a
 refine zf (ZyP ..)<|ze<|zq<|zq<|zq<|zq<|zq<|zq<|zt [(Z3k b1.A zy zu zB zF z5), (Z1v b1 zC)]<|zq<|zq<|zt [(Z3k b1.A b1.B zu zB zF z5), (Z1v b1 zC)]<|zg ?_
 exact zk (Z4A b1.A b1.B zu zB zF z5)
def Z5d (zD zy zu zB : Int) (zF : List Z3) : Option (Bool × Int × Int × Int × Int × (List Z3)) :=
 some (true, zD, zy, zu, zB, zF)
theorem ZdO zD zy zu zB zF z5 (zBv : Z1e z5 = true) : Sim Z1t (Z5d zD zy zu zB zF) (ZcZ 1 [(Z3k zD zy zu zB zF z5)]) := by
 unfold Z5d
 refine zf (ZoW ..)<|ze ?_
 exact zr ((bv true), [(Z3k zD zy zu zB zF z5)]) ⟨z5, _, rfl⟩
def Z6b (zD zy zu zB : Int) (zF : List Z3) (b1 : Zb) : Option (Bool × Int × Int × Int × Int × (List Z3)) :=
 (Z8N zF).bind fun r1 =>
 (Z7j b1.Log).bind fun r2 =>
 (lapp r1 r2).bind fun a3 =>
 Z5d zD zy zu zB a3
theorem ZfB zD zy zu zB zF b1 z5 zC : Sim Z1t (Z6b zD zy zu zB zF b1) (ZsJ 1 (.ptr 0 0) (.ptr 1 0) [(Z3k zD zy zu zB zF z5), (Z1v b1 zC)]) := by
 unfold Z6b
 refine zf (ZyR ..)<|ze<|zq<|zq<|zw (Zm z5 (zF.map Z7)) [(Z3k zD zy zu zB zF (shrO z5)), (Z1v b1 zC)]<|zi fun r1 hr1 => ?_
 obtain ⟨_, er1, _, rfl⟩ := ZiD zF z5 r1 hr1
 refine zg<|zc [] (Zm .ex (r1.map Z7)) [(Z3k zD zy zu zB zF (shrO z5)), (Z1v b1 zC)] er1<|zg<|zq<|zq<|zi fun r2 hr2 => ?_
 obtain ⟨_, er2, _, rfl⟩ := Zb2 b1.Log .sh r2 hr2
 refine zc [] (Zm .sh (r2.map Z7)) [(Z3k zD zy zu zB zF (shrO z5)), (Z1v b1 zC)] er2<|zi fun a3 ha3 => zp (Zm (apo .ex ((r2).map Z7)) (a3.map Z7)) (Eq.trans (by kernel_rfl) <| Z4E (n := 9) (o := .ex) (o' := .sh) (e := Z7) (ys := r2) (fun _ => rfl) (by decide) rfl ha3)<|zq<|zq<|zt [(Z3k zD zy zu zB a3 (apo .ex ((r2).map Z7))), (Z1v b1 zC)]<|zg<|zg ?_
 exact zk (ZdO zD zy zu zB a3 (apo .ex ((r2).map Z7)) (ZAs rfl))
def Z6c (zD zy zu zB : Int) (zF : List Z3) (b1 : Zb) : Option (Bool × Int × Int × Int × Int × (List Z3)) :=
 (lsl zF 0 b1.A).bind fun a1 =>
 Z1N zD zy zu zB a1
theorem ZfC zD zy zu zB zF b1 z5 zC : Sim Z1t (Z6c zD zy zu zB zF b1) (ZsK 1 (.ptr 0 0) (.ptr 1 0) [(Z3k zD zy zu zB zF z5), (Z1v b1 zC)]) := by
 unfold Z6c
 refine zf (ZyT ..)<|ze<|zq<|zq<|zq<|zq<|zq<|zi fun a1 ha1 => zp (Zm (slO (shrO z5)) (a1.map Z7)) (Eq.trans (by kernel_rfl) <| Z9n (n := 9) (o := (shrO z5)) (lo := none) (hi := (some (iv b1.A))) (e := Z7) (fun _ => rfl) (by decide) (by kernel_rfl) (by kernel_rfl) ha1)<|zq<|zq<|zt [(Z3k zD zy zu zB a1 (slO (shrO z5))), (Z1v b1 zC)] ?_
 exact zk (Z4A zD zy zu zB a1 (slO (shrO z5)))
def Z6d (zD zy zB : Int) (zF : List Z3) (b1 : Zb) : Option (Bool × Int × Int × Int × Int × (List Z3)) :=
 Z1N zD zy b1.A zB zF
theorem ZfD zD zy zu zB zF b1 z5 zC : Sim Z1t (Z6d zD zy zB zF b1) (ZsL 1 (.ptr 0 0) (.ptr 1 0) [(Z3k zD zy zu zB zF z5), (Z1v b1 zC)]) := by
 unfold Z6d
 refine zf (ZyV ..)<|ze<|zq<|zq<|zq<|zq<|zt [(Z3k zD zy b1.A zB zF z5), (Z1v b1 zC)] ?_
 exact zk (Z4A zD zy b1.A zB zF z5)
def Z5G (zD zy zu : Int) (zF : List Z3) (b1 : Zb) : Option (Bool × Int × Int × Int × Int × (List Z3)) :=
 Z1N zD zy zu b1.A zF
theorem ZeV zD zy zu zB zF b1 z5 zC : Sim Z1t (Z5G zD zy zu zF b1) (Zqk 1 (.ptr 0 0) (.ptr 1 0) [(Z3k zD zy zu zB zF z5), (Z1v b1 zC)]) := by
 unfold Z5G
 refine zf (Zwr ..)<|ze<|zq<|zq<|zq<|zq<|zt [(Z3k zD zy zu b1.A zF z5), (Z1v b1 zC)] ?_
 exact zk (Z4A zD zy zu b1.A zF z5)
def Z4G (zD zy zu zB : Int) (zF : List Z3) : Option (Bool × Int × Int × Int × Int × (List Z3)) :=
 some (false, zD, zy, zu, zB, zF)
theorem Z9W zD zy zu zB zF z5 : Sim Z1t (Z4G zD zy zu zB zF) (ZoV 1 [(Z3k zD zy zu zB zF z5)]) := by
 unfold Z4G
 refine zf (ZyO ..)<|ze ?_
 exact zr ((bv false), [(Z3k zD zy zu zB zF z5)]) ⟨z5, _, rfl⟩
def Z2E (zD zy zu zB : Int) (zF : List Z3) (b1 : Zb) : Option (Bool × Int × Int × Int × Int × (List Z3)) :=
 if (b1.Kind == 5) = true then
 (if (decide (b1.A ≤ 64)) = true then
 (Z5G zD zy zu zF b1)
 else
 (Z4G zD zy zu zB zF))
 else
 (Z4G zD zy zu zB zF)
theorem Z6t zD zy zu zB zF b1 z5 zC : Sim Z1t (Z2E zD zy zu zB zF b1) (Zj1 1 (.ptr 0 0) (.ptr 1 0) [(Z3k zD zy zu zB zF z5), (Z1v b1 zC)]) := by
 unfold Z2E
 refine zf (Zwq ..)<|ze<|zq<|zq<|zq ?_
 refine za (b1.Kind == 5) ?_ ?_
 ·refine zq<|zq<|zq ?_
  refine za (decide (b1.A ≤ 64)) ?_ ?_
  ·exact zk (ZeV zD zy zu zB zF b1 z5 zC)
  ·exact zk (Z9W zD zy zu zB zF z5)
 ·exact zk (Z9W zD zy zu zB zF z5)
def Z2M (zD zy zu zB : Int) (zF : List Z3) (b1 : Zb) : Option (Bool × Int × Int × Int × Int × (List Z3)) :=
 if (b1.Kind == 4) = true then
 (if (decide (zu ≤ b1.A)) = true then
 (if (decide (b1.A ≤ (zF.length : Int))) = true then
 (Z6d zD zy zB zF b1)
 else
 (Z2E zD zy zu zB zF b1))
 else
 (Z2E zD zy zu zB zF b1))
 else
 (Z2E zD zy zu zB zF b1)
theorem Z75 zD zy zu zB zF b1 z5 zC : Sim Z1t (Z2M zD zy zu zB zF b1) (Zlu 1 (.ptr 0 0) (.ptr 1 0) [(Z3k zD zy zu zB zF z5), (Z1v b1 zC)]) := by
 unfold Z2M
 refine zf (ZyU ..)<|ze<|zq<|zq<|zq ?_
 refine za (b1.Kind == 4) ?_ ?_
 ·refine zq<|zq<|zq<|zq<|zq<|zq ?_
  refine za (decide (zu ≤ b1.A)) ?_ ?_
  ·refine zq<|zq<|zq<|zq<|zq<|zp (iv (zF.length : Int)) (et_ (Z14 (P := PP) (t := 37) (d := 81) (by kernel_rfl) Z7 (shrO z5) zF))<|zq ?_
   refine za (decide (b1.A ≤ (zF.length : Int))) ?_ ?_
   ·exact zk (ZfD zD zy zu zB zF b1 z5 zC)
   ·exact zk (Z6t zD zy zu zB zF b1 z5 zC)
  ·exact zk (Z6t zD zy zu zB zF b1 z5 zC)
 ·exact zk (Z6t zD zy zu zB zF b1 z5 zC)
def Z3n (zD zy zu zB : Int) (zF : List Z3) (b1 : Zb) : Option (Bool × Int × Int × Int × Int × (List Z3)) :=
 if (b1.Kind == 3) = true then
 (if (decide (zu ≤ b1.A)) = true then
 (if (decide (b1.A ≤ (zF.length : Int))) = true then
 (Z6c zD zy zu zB zF b1)
 else
 (Z2M zD zy zu zB zF b1))
 else
 (Z2M zD zy zu zB zF b1))
 else
 (Z2M zD zy zu zB zF b1)
theorem Z9X zD zy zu zB zF b1 z5 zC : Sim Z1t (Z3n zD zy zu zB zF b1) (ZoX 1 (.ptr 0 0) (.ptr 1 0) [(Z3k zD zy zu zB zF z5), (Z1v b1 zC)]) := by
 unfold Z3n
 refine zf (ZyS ..)<|ze<|zq<|zq<|zq ?_
 refine za (b1.Kind == 3) ?_ ?_
 ·refine zq<|zq<|zq<|zq<|zq<|zq ?_
  refine za (decide (zu ≤ b1.A)) ?_ ?_
  ·refine zq<|zq<|zq<|zq<|zq<|zp (iv (zF.length : Int)) (et_ (Z14 (P := PP) (t := 37) (d := 81) (by kernel_rfl) Z7 (shrO z5) zF))<|zq ?_
   refine za (decide (b1.A ≤ (zF.length : Int))) ?_ ?_
   ·exact zk (ZfC zD zy zu zB zF b1 z5 zC)
   ·exact zk (Z75 zD zy zu zB zF b1 z5 zC)
  ·exact zk (Z75 zD zy zu zB zF b1 z5 zC)
 ·exact zk (Z75 zD zy zu zB zF b1 z5 zC)
def Z2p (zD zy zu zB : Int) (zF : List Z3) (b1 : Zb) : Option (Bool × Int × Int × Int × Int × (List Z3)) :=
 if (b1.Kind == 2) = true then
 (if (decide ((zF.length : Int) < 64)) = true then
 (Z6b zD zy zu zB zF b1)
 else
 (Z3n zD zy zu zB zF b1))
 else
 (Z3n zD zy zu zB zF b1)
theorem Z4S zD zy zu zB zF b1 z5 zC : Sim Z1t (Z2p zD zy zu zB zF b1) (Zj2 1 (.ptr 0 0) (.ptr 1 0) [(Z3k zD zy zu zB zF z5), (Z1v b1 zC)]) := by
 unfold Z2p
 refine zf (ZyQ ..)<|ze<|zq<|zq<|zq ?_
 refine za (b1.Kind == 2) ?_ ?_
 ·refine zq<|zq<|zq<|zp (iv (zF.length : Int)) (et_ (Z14 (P := PP) (t := 37) (d := 81) (by kernel_rfl) Z7 (shrO z5) zF))<|zq ?_
  refine za (decide ((zF.length : Int) < 64)) ?_ ?_
  ·exact zk (ZfB zD zy zu zB zF b1 z5 zC)
  ·exact zk (Z9X zD zy zu zB zF b1 z5 zC)
 ·exact zk (Z9X zD zy zu zB zF b1 z5 zC)
def Z7N (x1 : Zb) (zD zy zu zB : Int) (zF : List Z3) : Option (Bool × Int × Int × Int × Int × (List Z3)) :=
 if (x1.Kind == 1) = true then
 (if (decide (zD ≤ x1.A)) = true then
 (if (decide (zy ≤ x1.B)) = true then
 (if (decide (x1.B ≤ x1.A)) = true then
 (Z6a zu zB zF x1)
 else
 (Z2p zD zy zu zB zF x1))
 else
 (Z2p zD zy zu zB zF x1))
 else
 (Z2p zD zy zu zB zF x1))
 else
 (Z2p zD zy zu zB zF x1)
theorem Zhc x1 zD zy zu zB zF zN z5 : Sim Z1t (Z7N x1 zD zy zu zB zF) (EE 47 [(.ptr 0 0), (pA_ (Z3i x1 zN))] [(Z3k zD zy zu zB zF z5)]) := by
 unfold Z7N
 refine zf (ZEo ..)<|ze<|zx (.ptr 1 0) [(Z3k zD zy zu zB zF z5), (Z1v x1 zN)]<|ze<|zq<|zq<|zq ?_
 refine za (x1.Kind == 1) ?_ ?_
 ·refine zq<|zq<|zq<|zq<|zq<|zq ?_
  refine za (decide (zD ≤ x1.A)) ?_ ?_
  ·refine zq<|zq<|zq<|zq<|zq<|zq ?_
   refine za (decide (zy ≤ x1.B)) ?_ ?_
   ·refine zq<|zq<|zq<|zq<|zq ?_
    refine za (decide (x1.B ≤ x1.A)) ?_ ?_
    ·exact zk (ZfA zD zy zu zB zF x1 z5 zN)
    ·exact zk (Z4S zD zy zu zB zF x1 z5 zN)
   ·exact zk (Z4S zD zy zu zB zF x1 z5 zN)
  ·exact zk (Z4S zD zy zu zB zF x1 z5 zN)
 ·exact zk (Z4S zD zy zu zB zF x1 z5 zN)
theorem ZhH x1 zD zy zu zB zF {r} (h : Z7N x1 zD zy zu zB zF = some r) : Z80 x1 zD zy zu zB zF = some r :=
 ZR (fun _ _ ha hb => ru_ Zia (ha .ex .ex) (hb .ex .ex)) (fun zN z5 => Zhc x1 zD zy zu zB zF zN z5 r h)
def Z8I (x0 : List Z3) : Option (List Z3) :=
 (lsl x0 0 (x0.length : Int)).bind fun a1 =>
 some a1
theorem ZhR (x0 : List Z3) ox0 : Sim Z8C (Z8I x0) (EE 66 [(Zm ox0 (x0.map Z7))] []) := by
 unfold Z8I
 refine zf (ZEQ ..)<|ze<|ze<|zp (iv (x0.length : Int)) (et_ (Z14 (P := PP) (t := 37) (d := 81) (by kernel_rfl) Z7 (shrO ox0) x0))<|zp (iv (x0.length : Int)) (et_ (Z14 (P := PP) (t := 37) (d := 81) (by kernel_rfl) Z7 (shrO ox0) x0))<|zi fun a1 ha1 => zp (Zm .ex (a1.map Z7)) (Eq.trans (by kernel_rfl) <| ZDc (n := 9) (o := (shrO ox0)) (k := .i64) (mx := (iv (x0.length : Int))) (lo := none) (hi := (some (iv (x0.length : Int)))) (e := Z7) (fun _ => rfl) (by decide) (by kernel_rfl) (by kernel_rfl) (by kernel_rfl) ha1) ?_
 exact zr ((Zm .ex (a1.map Z7)), []) ⟨_, rfl⟩
theorem ZiC x0 {r} (h : Z8I x0 = some r) : Z8N x0 = some r :=
 ZR (fun _ _ ha hb => ru_ ZiQ (ha .ex) (hb .ex)) (fun ox0 => ZhR x0 ox0 r h)
end Go.Proofs.YtiigbcahdaoedaaGreatDoor.N2
end
