/- More of the functions' typed texts. No condition. -/
import Derived.Test.YtiigbcahdaoedaaGreatDoorTypA

set_option linter.unusedSimpArgs false
set_option linter.unusedVariables false
set_option linter.defProp false
noncomputable section
namespace Go.Proofs.YtiigbcahdaoedaaGreatDoor.N2
open Go Go.Abs
set_option maxRecDepth 100000
def Z8F (x0 x1 x2 : Int) : Option Bool :=
 if (decide (x1 ≤ x0)) = true then
 (some (decide (x0 ≤ x2)))
 else
 (some false)
theorem Zhj x0 x1 x2 : Sim Z6 (Z8F x0 x1 x2) (EE 82 [(iv x0), (iv x1), (iv x2)] []) := by
 unfold Z8F
 refine zf (ZwM ..)<|ze<|ze<|zq ?_
 refine za (decide (x1 ≤ x0)) ?_ ?_
 ·refine zq ?_
  exact zr ((bv (decide (x0 ≤ x2))), []) ⟨_, rfl⟩
 ·exact zr ((bv false), []) ⟨_, rfl⟩
theorem Zi4 x0 x1 x2 {r} (h : Z8F x0 x1 x2 = some r) : Z2x x0 x1 x2 = some r :=
 ZM (fun _ _ ha hb => ru_ ZE ha hb) (Zhj x0 x1 x2 r h)
def Z6C (x0 : Z4) : Option Bool :=
 if (decide (1 ≤ x0.ID)) = true then
 (if (decide (x0.ID ≤ 1099511627776)) = true then
 (if (decide (0 ≤ x0.Priority)) = true then
 (if (decide (x0.Priority ≤ 1000)) = true then
 (if (decide (0 ≤ x0.Action)) = true then
 (if (decide (x0.Action ≤ 255)) = true then
 (if (decide (1 ≤ x0.Scope)) = true then
 (if (decide (x0.Scope ≤ 65535)) = true then
 (some (decide ((x0.Pattern.size : Int) ≤ 256)))
 else
 (some false))
 else
 (some false))
 else
 (some false))
 else
 (some false))
 else
 (some false))
 else
 (some false))
 else
 (some false))
 else
 (some false)
theorem Zen x0 : Sim Z6 (Z6C x0) (EE 75 [(pA_ (ZJ x0))] []) := by
 unfold Z6C
 refine zf (ZwH ..)<|ze<|zx (.ptr 0 0) [(ZG x0)]<|ze<|zq<|zq<|zq ?_
 refine za (decide (1 ≤ x0.ID)) ?_ ?_
 ·refine zq<|zq<|zq ?_
  refine za (decide (x0.ID ≤ 1099511627776)) ?_ ?_
  ·refine zq<|zq<|zq ?_
   refine za (decide (0 ≤ x0.Priority)) ?_ ?_
   ·refine zq<|zq<|zq ?_
    refine za (decide (x0.Priority ≤ 1000)) ?_ ?_
    ·refine zq<|zq<|zq ?_
     refine za (decide (0 ≤ x0.Action)) ?_ ?_
     ·refine zq<|zq<|zq ?_
      refine za (decide (x0.Action ≤ 255)) ?_ ?_
      ·refine zq<|zq<|zq ?_
       refine za (decide (1 ≤ x0.Scope)) ?_ ?_
       ·refine zq<|zq<|zq ?_
        refine za (decide (x0.Scope ≤ 65535)) ?_ ?_
        ·refine zq<|zq<|zq<|zq ?_
         exact zr ((bv (decide ((x0.Pattern.size : Int) ≤ 256))), [(ZG x0)]) ⟨_, rfl⟩
        ·exact zr ((bv false), [(ZG x0)]) ⟨_, rfl⟩
       ·exact zr ((bv false), [(ZG x0)]) ⟨_, rfl⟩
      ·exact zr ((bv false), [(ZG x0)]) ⟨_, rfl⟩
     ·exact zr ((bv false), [(ZG x0)]) ⟨_, rfl⟩
    ·exact zr ((bv false), [(ZG x0)]) ⟨_, rfl⟩
   ·exact zr ((bv false), [(ZG x0)]) ⟨_, rfl⟩
  ·exact zr ((bv false), [(ZG x0)]) ⟨_, rfl⟩
 ·exact zr ((bv false), [(ZG x0)]) ⟨_, rfl⟩
theorem ZeY x0 {r} (h : Z6C x0 = some r) : Z6L x0 = some r :=
 ZM (fun _ _ ha hb => ru_ ZE ha hb) (Zen x0 r h)
def Z9B (x0 : List Z1) : Option (Int × Int × Bool) :=
 Z68 x0 0
theorem Zi5 (x0 : List Z1) ox0 : Sim ZR (Z9B x0) (EE 13 [(Zh ox0 (x0.map Zf))] []) := by
 unfold Z9B
 refine zf (Zvp ..)<|ze<|ze ?_
 exact zk (Zbe x0 0 ox0)
theorem ZiC x0 {r} (h : Z9B x0 = some r) : Z2I x0 = some r :=
 ZM (fun _ _ ha hb => ru_ Z3B (ha .ex) (hb .ex)) (fun ox0 => Zi5 x0 ox0 r h)
def Z7A (x0 : List Z1) (x5 : Int) : Option (Int × Int × Bool) :=
 Z69 x0 x5 0
theorem ZfD (x0 : List Z1) x5 ox0 : Sim ZR (Z7A x0 x5) (ZlK 0 (Zh ox0 (x0.map Zf)) (iv x5) []) := by
 unfold Z7A
 refine zf (ZqW ..)<|ze ?_
 exact zk (Zbg x0 x5 0 ox0)
def Z7D : Option (Int × Int × Bool) :=
 some (0, 0, true)
theorem ZfG : Sim ZR Z7D (ZlN 0 []) := by
 unfold Z7D
 refine zf (ZqZ ..)<|ze ?_
 exact zr ((.p (.tup [(.v (.int .i64 0)), (.v (.int .i64 0)), (.v (.bool true))])), []) ⟨_, rfl⟩
def Z5X (x0 : List Z1) (x5 : Int) : Option (Int × Int × Bool) :=
 if (decide (x5 < (x0.length : Int))) = true then
 (Z7A x0 x5)
 else
 Z7D
theorem ZfA (x0 : List Z1) x5 ox0 : Sim ZR (Z5X x0 x5) (Zgz 0 (Zh ox0 (x0.map Zf)) (iv x5) []) := by
 unfold Z5X
 refine zf (ZqT ..)<|ze<|zp (iv (x0.length : Int)) (et_ (ZU (P := PP) (t := 28) (d := 44) (by kernel_rfl) Zf (shrO ox0) x0))<|zq ?_
 refine za (decide (x5 < (x0.length : Int))) ?_ ?_
 ·exact zk (ZfD x0 x5 ox0)
 ·exact zk ZfG
theorem Zbd x0 x5 {r} (h : Z5X x0 x5 = some r) : Z68 x0 x5 = some r :=
 ZM (fun _ _ ha hb => ru_ Z3B (ha .ex) (hb .ex)) (fun ox0 => ZfA x0 x5 ox0 r h)
def Z7B (x0 : List Z1) (x5 x6 : Int) : Option (Int × Int × Bool) :=
 Z69 x0 x5 (IntKind.i64.wrap (x6 + 1))
theorem ZfE (x0 : List Z1) x5 x6 ox0 : Sim ZR (Z7B x0 x5 x6) (ZlL 0 (Zh ox0 (x0.map Zf)) (iv x5) (iv x6) []) := by
 unfold Z7B
 refine zf (ZqX ..)<|ze<|zq ?_
 exact zk (Zbg x0 x5 (IntKind.i64.wrap (x6 + 1)) ox0)
def Z7C (x0 : List Z1) (x5 x6 : Int) : Option (Int × Int × Bool) :=
 (lget x0 x6).bind fun a1 =>
 (lget x0 x5).bind fun a2 =>
 (Z6r a1 a2).bind fun r3 =>
 if r3 = true then
 (some (x6, x5, false))
 else
 (Z7B x0 x5 x6)
theorem ZfF (x0 : List Z1) x5 x6 ox0 : Sim ZR (Z7C x0 x5 x6) (ZlM 0 (Zh ox0 (x0.map Zf)) (iv x5) (iv x6) []) := by
 unfold Z7C
 refine zf (ZqY ..)<|ze<|zi fun a1 ha1 => zp (.cptr (ZO a1 .sh)) (et_ (Z1g (o := (shrO ox0)) (k := .i64) (n := 5) (e := Zf) (cs := Z2m) (fun _ => rfl) (fun _ => rfl) (by decide) ha1))<|zq<|zi fun a2 ha2 => zp (.cptr (ZO a2 .sh)) (et_ (Z1g (o := (shrO ox0)) (k := .i64) (n := 5) (e := Zf) (cs := Z2m) (fun _ => rfl) (fun _ => rfl) (by decide) ha2))<|zq<|zi fun r3 hr3 => ?_
 obtain ⟨_, er3, _, rfl⟩ := ZdH a1 a2 .sh .sh r3 hr3
 refine zc [] (bv r3) [] er3 ?_
 refine za r3 ?_ ?_
 ·refine ze ?_
  exact zr ((.p (.tup [(.v (.int .i64 x6)), (.v (.int .i64 x5)), (.v (.bool false))])), []) ⟨_, rfl⟩
 ·exact zk (ZfE x0 x5 x6 ox0)
def Z4J (x0 : List Z1) (x5 : Int) : Option (Int × Int × Bool) :=
 Z68 x0 (IntKind.i64.wrap (x5 + 1))
theorem ZfC (x0 : List Z1) x5 ox0 : Sim ZR (Z4J x0 x5) (ZlJ 0 (Zh ox0 (x0.map Zf)) (iv x5) []) := by
 unfold Z4J
 refine zf (ZqV ..)<|ze<|zq ?_
 exact zk (Zbe x0 (IntKind.i64.wrap (x5 + 1)) ox0)
def Z5Y (x0 : List Z1) (x5 x6 : Int) : Option (Int × Int × Bool) :=
 if (decide (x6 < x5)) = true then
 (Z7C x0 x5 x6)
 else
 (Z4J x0 x5)
theorem ZfB (x0 : List Z1) x5 x6 ox0 : Sim ZR (Z5Y x0 x5 x6) (ZgA 0 (Zh ox0 (x0.map Zf)) (iv x5) (iv x6) []) := by
 unfold Z5Y
 refine zf (ZqU ..)<|ze<|zq ?_
 refine za (decide (x6 < x5)) ?_ ?_
 ·exact zk (ZfF x0 x5 x6 ox0)
 ·exact zk (ZfC x0 x5 ox0)
theorem Zbf x0 x5 x6 {r} (h : Z5Y x0 x5 x6 = some r) : Z69 x0 x5 x6 = some r :=
 ZM (fun _ _ ha hb => ru_ Z3B (ha .ex) (hb .ex)) (fun ox0 => ZfB x0 x5 x6 ox0 r h)
def Z9C (x0 x1 : Z1) : Option Bool :=
 Z4M 0 x0 x1
theorem Zi6 x0 x1 zl z1D : Sim Z6 (Z9C x0 x1) (EE 25 [(pA_ (ZO x0 zl)), (pA_ (ZO x1 z1D))] []) := by
 unfold Z9C
 refine zf (ZvH ..)<|ze<|zx (.ptr 0 0) [(ZI x0 zl)]<|zx (.ptr 1 0) [(ZI x0 zl), (ZI x1 z1D)]<|ze ?_
 exact zk (Zbi 0 x0 x1 zl z1D)
theorem ZiD x0 x1 {r} (h : Z9C x0 x1 = some r) : Z6r x0 x1 = some r :=
 ZM (fun _ _ ha hb => ru_ ZE (ha .ex .ex) (hb .ex .ex)) (fun zl z1D => Zi6 x0 x1 zl z1D r h)
def Z7E (x5 : Int) (b0 b1 : Z1) : Option Bool :=
 Z4M (IntKind.i64.wrap (x5 + 1)) b0 b1
theorem ZfI x5 b0 b1 zj z3v : Sim Z6 (Z7E x5 b0 b1) (Zm9 0 (.ptr 0 0) (.ptr 1 0) (iv x5) [(ZI b0 zj), (ZI b1 z3v)]) := by
 unfold Z7E
 refine zf (Zre ..)<|ze<|zq ?_
 exact zk (Zbi (IntKind.i64.wrap (x5 + 1)) b0 b1 zj z3v)
def Z7F (x5 : Int) (b0 b1 : Z1) : Option Bool :=
 (lsl b0.Log x5 (IntKind.i64.wrap (x5 + 1))).bind fun a1 =>
 (lsl b1.Log x5 (IntKind.i64.wrap (x5 + 1))).bind fun a2 =>
 (Z7f a1 a2).bind fun r3 =>
 if (!r3) = true then
 (some true)
 else
 (Z7E x5 b0 b1)
theorem ZfJ x5 b0 b1 zj z3v : Sim Z6 (Z7F x5 b0 b1) (Zma 0 (.ptr 0 0) (.ptr 1 0) (iv x5) [(ZI b0 zj), (ZI b1 z3v)]) := by
 unfold Z7F
 refine zf (Zrf ..)<|ze<|zq<|zq<|zq<|zi fun a1 ha1 => zp (Zh (slO (shrO zj)) (a1.map Zg)) (Eq.trans (by kernel_rfl) <| Zcp (n := 9) (o := (shrO zj)) (lo := (some (iv x5))) (hi := (some (iv (IntKind.i64.wrap (x5 + 1))))) (e := Zg) (fun _ => rfl) (by decide) (by kernel_rfl) (by kernel_rfl) ha1)<|zq<|zq<|zq<|zi fun a2 ha2 => zp (Zh (slO (shrO z3v)) (a2.map Zg)) (Eq.trans (by kernel_rfl) <| Zcp (n := 9) (o := (shrO z3v)) (lo := (some (iv x5))) (hi := (some (iv (IntKind.i64.wrap (x5 + 1))))) (e := Zg) (fun _ => rfl) (by decide) (by kernel_rfl) (by kernel_rfl) ha2)<|zi fun r3 hr3 => ?_
 obtain ⟨_, er3, _, rfl⟩ := ZjP a1 a2 .sh .sh r3 hr3
 refine zc [] (bv r3) [(ZI b0 zj), (ZI b1 z3v)] er3<|zq ?_
 refine za (!r3) ?_ ?_
 ·refine ze ?_
  exact zr ((bv true), [(ZI b0 zj), (ZI b1 z3v)]) ⟨_, rfl⟩
 ·exact zk (ZfI x5 b0 b1 zj z3v)
def Z60 : Option Bool :=
 some false
theorem ZaF : Sim Z6 Z60 (Zjl 0 []) := by
 unfold Z60
 refine zf (Zrg ..)<|ze ?_
 exact zr ((bv false), []) ⟨_, rfl⟩
def Z5Z (x5 : Int) (b0 b1 : Z1) : Option Bool :=
 if (decide (x5 < b0.Commit)) = true then
 (if (decide (x5 < b1.Commit)) = true then
 (Z7F x5 b0 b1)
 else
 Z60)
 else
 Z60
theorem ZfH x5 b0 b1 zj z3v : Sim Z6 (Z5Z x5 b0 b1) (ZgK 0 (.ptr 0 0) (.ptr 1 0) (iv x5) [(ZI b0 zj), (ZI b1 z3v)]) := by
 unfold Z5Z
 refine zf (Zrd ..)<|ze<|zq<|zq<|zq ?_
 refine za (decide (x5 < b0.Commit)) ?_ ?_
 ·refine zq<|zq<|zq ?_
  refine za (decide (x5 < b1.Commit)) ?_ ?_
  ·exact zk (ZfJ x5 b0 b1 zj z3v)
  ·exact zk ZaF
 ·exact zk ZaF
theorem Zbh x5 b0 b1 {r} (h : Z5Z x5 b0 b1 = some r) : Z4M x5 b0 b1 = some r :=
 ZM (fun _ _ ha hb => ru_ ZE (ha .ex .ex) (hb .ex .ex)) (fun zj z3v => ZfH x5 b0 b1 zj z3v r h)
def Z86 (x0 x1 : List Zb) : Option Bool :=
 Z6M x0 x1 0
theorem Zgl (x0 x1 : List Zb) ox0 ox1 : Sim Z6 (Z86 x0 x1) (Zmo 0 (Zh ox0 (x0.map Zg)) (Zh ox1 (x1.map Zg)) []) := by
 unfold Z86
 refine zf (Zrr ..)<|ze ?_
 exact zk (Zcc x0 x1 0 ox0 ox1)
def Zam (x0 x1 : List Zb) : Option Bool :=
 if ((x0.length : Int) != (x1.length : Int)) = true then
 (some false)
 else
 (Z86 x0 x1)
theorem ZiB (x0 x1 : List Zb) ox0 ox1 : Sim Z6 (Zam x0 x1) (EE 35 [(Zh ox0 (x0.map Zg)), (Zh ox1 (x1.map Zg))] []) := by
 unfold Zam
 refine zf (ZvU ..)<|ze<|ze<|zp (iv (x0.length : Int)) (et_ (ZU (P := PP) (t := 42) (d := 95) (by kernel_rfl) Zg (shrO ox0) x0))<|zp (iv (x1.length : Int)) (et_ (ZU (P := PP) (t := 42) (d := 95) (by kernel_rfl) Zg (shrO ox1) x1))<|zq ?_
 refine za ((x0.length : Int) != (x1.length : Int)) ?_ ?_
 ·refine ze ?_
  exact zr ((bv false), []) ⟨_, rfl⟩
 ·exact zk (Zgl x0 x1 ox0 ox1)
theorem ZjO x0 x1 {r} (h : Zam x0 x1 = some r) : Z7f x0 x1 = some r :=
 ZM (fun _ _ ha hb => ru_ ZE (ha .ex .ex) (hb .ex .ex)) (fun ox0 ox1 => ZiB x0 x1 ox0 ox1 r h)
def Z4k : Option Bool :=
 some false
theorem Z6m : Sim Z6 Z4k (ZeK 0 []) := by
 unfold Z4k
 refine zf (Zru ..)<|ze ?_
 exact zr ((bv false), []) ⟨_, rfl⟩
def Z87 (x0 x1 : List Zb) (x5 : Int) : Option Bool :=
 Z6M x0 x1 (IntKind.i64.wrap (x5 + 1))
theorem Zgm (x0 x1 : List Zb) x5 ox0 ox1 : Sim Z6 (Z87 x0 x1 x5) (Zmp 0 (Zh ox0 (x0.map Zg)) (Zh ox1 (x1.map Zg)) (iv x5) []) := by
 unfold Z87
 refine zf (Zrs ..)<|ze<|zq ?_
 exact zk (Zcc x0 x1 (IntKind.i64.wrap (x5 + 1)) ox0 ox1)
def Z88 (x0 x1 : List Zb) (x5 : Int) : Option Bool :=
 (lget x0 x5).bind fun a1 =>
 (lget x1 x5).bind fun a2 =>
 if (a1.View != a2.View) = true then
 Z4k
 else
 ((lget x0 x5).bind fun a3 =>
 (lget x1 x5).bind fun a4 =>
 if (a3.Client != a4.Client) = true then
 Z4k
 else
 ((lget x0 x5).bind fun a5 =>
 (lget x1 x5).bind fun a6 =>
 if (a5.Request != a6.Request) = true then
 Z4k
 else
 ((lget x0 x5).bind fun a7 =>
 (lget x1 x5).bind fun a8 =>
 (Z5u (Z5.mk a7.Delta.Default a7.Delta.Closed a7.Delta.Fuel a7.Delta.Stack a7.Delta.Put a7.Delta.Drop) (Z5.mk a8.Delta.Default a8.Delta.Closed a8.Delta.Fuel a8.Delta.Stack a8.Delta.Put a8.Delta.Drop)).bind fun r9 =>
 if (!r9) = true then
 Z4k
 else
 (Z87 x0 x1 x5))))
theorem Zgn (x0 x1 : List Zb) x5 ox0 ox1 : Sim Z6 (Z88 x0 x1 x5) (Zmq 0 (Zh ox0 (x0.map Zg)) (Zh ox1 (x1.map Zg)) (iv x5) []) := by
 unfold Z88
 refine zf (Zrt ..)<|ze<|zi fun a1 ha1 => zp (.cptr (Z1e a1 .sh .sh)) (et_ (Z1g (o := (shrO ox0)) (k := .i64) (n := 9) (e := Zg) (cs := Z1l) (fun _ => rfl) (fun _ => rfl) (by decide) ha1))<|zq<|zq<|zi fun a2 ha2 => zp (.cptr (Z1e a2 .sh .sh)) (et_ (Z1g (o := (shrO ox1)) (k := .i64) (n := 9) (e := Zg) (cs := Z1l) (fun _ => rfl) (fun _ => rfl) (by decide) ha2))<|zq<|zq<|zq ?_
 refine za (a1.View != a2.View) ?_ ?_
 ·exact zk Z6m
 ·refine zi fun a3 ha3 => zp (.cptr (Z1e a3 .sh .sh)) (et_ (Z1g (o := (shrO ox0)) (k := .i64) (n := 9) (e := Zg) (cs := Z1l) (fun _ => rfl) (fun _ => rfl) (by decide) ha3))<|zq<|zq<|zi fun a4 ha4 => zp (.cptr (Z1e a4 .sh .sh)) (et_ (Z1g (o := (shrO ox1)) (k := .i64) (n := 9) (e := Zg) (cs := Z1l) (fun _ => rfl) (fun _ => rfl) (by decide) ha4))<|zq<|zq<|zq ?_
  refine za (a3.Client != a4.Client) ?_ ?_
  ·exact zk Z6m
  ·refine zi fun a5 ha5 => zp (.cptr (Z1e a5 .sh .sh)) (et_ (Z1g (o := (shrO ox0)) (k := .i64) (n := 9) (e := Zg) (cs := Z1l) (fun _ => rfl) (fun _ => rfl) (by decide) ha5))<|zq<|zq<|zi fun a6 ha6 => zp (.cptr (Z1e a6 .sh .sh)) (et_ (Z1g (o := (shrO ox1)) (k := .i64) (n := 9) (e := Zg) (cs := Z1l) (fun _ => rfl) (fun _ => rfl) (by decide) ha6))<|zq<|zq<|zq ?_
   refine za (a5.Request != a6.Request) ?_ ?_
   ·exact zk Z6m
   ·refine zi fun a7 ha7 => zp (.cptr (Z1e a7 .sh .sh)) (et_ (Z1g (o := (shrO ox0)) (k := .i64) (n := 9) (e := Zg) (cs := Z1l) (fun _ => rfl) (fun _ => rfl) (by decide) ha7))<|zq<|zq<|zi fun a8 ha8 => zp (.cptr (Z1e a8 .sh .sh)) (et_ (Z1g (o := (shrO ox1)) (k := .i64) (n := 9) (e := Zg) (cs := Z1l) (fun _ => rfl) (fun _ => rfl) (by decide) ha8))<|zq<|zq<|zi fun r9 hr9 => ?_
    obtain ⟨_, er9, _, rfl⟩ := Zfz (Z5.mk a7.Delta.Default a7.Delta.Closed a7.Delta.Fuel a7.Delta.Stack a7.Delta.Put a7.Delta.Drop) (Z5.mk a8.Delta.Default a8.Delta.Closed a8.Delta.Fuel a8.Delta.Stack a8.Delta.Put a8.Delta.Drop) .sh .sh .sh .sh r9 hr9
    refine zc [] (bv r9) [] er9<|zq ?_
    refine za (!r9) ?_ ?_
    ·exact zk Z6m
    ·exact zk (Zgm x0 x1 x5 ox0 ox1)
def Z89 : Option Bool :=
 some true
theorem Zgo : Sim Z6 Z89 (Zmr 0 []) := by
 unfold Z89
 refine zf (Zrv ..)<|ze ?_
 exact zr ((bv true), []) ⟨_, rfl⟩
def Z6D (x0 x1 : List Zb) (x5 : Int) : Option Bool :=
 if (decide (x5 < (x0.length : Int))) = true then
 (Z88 x0 x1 x5)
 else
 Z89
theorem Zgk (x0 x1 : List Zb) x5 ox0 ox1 : Sim Z6 (Z6D x0 x1 x5) (ZgR 0 (Zh ox0 (x0.map Zg)) (Zh ox1 (x1.map Zg)) (iv x5) []) := by
 unfold Z6D
 refine zf (Zrq ..)<|ze<|zp (iv (x0.length : Int)) (et_ (ZU (P := PP) (t := 42) (d := 95) (by kernel_rfl) Zg (shrO ox0) x0))<|zq ?_
 refine za (decide (x5 < (x0.length : Int))) ?_ ?_
 ·exact zk (Zgn x0 x1 x5 ox0 ox1)
 ·exact zk Zgo
theorem Zcb x0 x1 x5 {r} (h : Z6D x0 x1 x5 = some r) : Z6M x0 x1 x5 = some r :=
 ZM (fun _ _ ha hb => ru_ ZE (ha .ex .ex) (hb .ex .ex)) (fun ox0 ox1 => Zgk x0 x1 x5 ox0 ox1 r h)
def Z1V : Option Bool :=
 some false
theorem Z2w : Sim Z6 Z1V (ZbX 0 []) := by
 unfold Z1V
 refine zf (Zs0 ..)<|ze ?_
 exact zr ((bv false), []) ⟨_, rfl⟩
def Z5F (b0 b1 : Z5) : Option Bool :=
 Z3s 0 b0 b1
theorem ZdC b0 b1 zS zP zu zn : Sim Z6 (Z5F b0 b1) (ZmS 0 (.ptr 0 0) (.ptr 1 0) [(Zc b0 zS zP), (Zc b1 zu zn)]) := by
 unfold Z5F
 refine zf (Zs1 ..)<|ze ?_
 exact zk (Z92 0 b0 b1 zS zP zu zn)
def Z74 (x0 x1 : Z5) : Option Bool :=
 if (x0.Default != x1.Default) = true then
 Z1V
 else
 (if (x0.Closed != x1.Closed) = true then
 Z1V
 else
 (if (x0.Fuel != x1.Fuel) = true then
 Z1V
 else
 (if (x0.Stack != x1.Stack) = true then
 Z1V
 else
 (if ((x0.Put.length : Int) != (x1.Put.length : Int)) = true then
 Z1V
 else
 (if ((x0.Drop.length : Int) != (x1.Drop.length : Int)) = true then
 Z1V
 else
 (Z5F x0 x1))))))
theorem Zf0 x0 x1 z1U z1A z7h z6e : Sim Z6 (Z74 x0 x1) (EE 53 [(pA_ (Z1m x0 z1U z1A)), (pA_ (Z1m x1 z7h z6e))] []) := by
 unfold Z74
 refine zf (Zwi ..)<|ze<|zx (.ptr 0 0) [(Zc x0 z1U z1A)]<|zx (.ptr 1 0) [(Zc x0 z1U z1A), (Zc x1 z7h z6e)]<|ze<|zq<|zq<|zq<|zq<|zq ?_
 refine za (x0.Default != x1.Default) ?_ ?_
 ·exact zk Z2w
 ·refine zq<|zq<|zq<|zq<|zq ?_
  refine za (x0.Closed != x1.Closed) ?_ ?_
  ·exact zk Z2w
  ·refine zq<|zq<|zq<|zq<|zq ?_
   refine za (x0.Fuel != x1.Fuel) ?_ ?_
   ·exact zk Z2w
   ·refine zq<|zq<|zq<|zq<|zq ?_
    refine za (x0.Stack != x1.Stack) ?_ ?_
    ·exact zk Z2w
    ·refine zq<|zq<|zp (iv (x0.Put.length : Int)) (et_ (ZU (P := PP) (t := 53) (d := 103) (by kernel_rfl) Z2 (shrO z1U) x0.Put))<|zq<|zq<|zp (iv (x1.Put.length : Int)) (et_ (ZU (P := PP) (t := 53) (d := 103) (by kernel_rfl) Z2 (shrO z7h) x1.Put))<|zq ?_
     refine za ((x0.Put.length : Int) != (x1.Put.length : Int)) ?_ ?_
     ·exact zk Z2w
     ·refine zq<|zq<|zp (iv (x0.Drop.length : Int)) (et_ (ZU (P := PP) (t := 77) (d := 3) (by kernel_rfl) (eI .i64) (shrO z1A) x0.Drop))<|zq<|zq<|zp (iv (x1.Drop.length : Int)) (et_ (ZU (P := PP) (t := 77) (d := 3) (by kernel_rfl) (eI .i64) (shrO z6e) x1.Drop))<|zq ?_
      refine za ((x0.Drop.length : Int) != (x1.Drop.length : Int)) ?_ ?_
      ·exact zk Z2w
      ·exact zk (ZdC x0 x1 z1U z1A z7h z6e)
theorem Zfy x0 x1 {r} (h : Z74 x0 x1 = some r) : Z5u x0 x1 = some r :=
 ZM (fun _ _ ha hb => ru_ ZE (ha .ex .ex .ex .ex) (hb .ex .ex .ex .ex)) (fun z1U z1A z7h z6e => Zf0 x0 x1 z1U z1A z7h z6e r h)
def Z5G (x5 : Int) (b0 b1 : Z5) : Option Bool :=
 Z3s (IntKind.i64.wrap (x5 + 1)) b0 b1
theorem ZdD x5 b0 b1 zS zP zu zn : Sim Z6 (Z5G x5 b0 b1) (ZmT 0 (.ptr 0 0) (.ptr 1 0) (iv x5) [(Zc b0 zS zP), (Zc b1 zu zn)]) := by
 unfold Z5G
 refine zf (Zs2 ..)<|ze<|zq ?_
 exact zk (Z92 (IntKind.i64.wrap (x5 + 1)) b0 b1 zS zP zu zn)
def Z5H (x5 : Int) (b0 b1 : Z5) : Option Bool :=
 (lget b0.Put x5).bind fun a1 =>
 (lget b1.Put x5).bind fun a2 =>
 if ((!((a1.ID == a2.ID) && ((a1.Priority == a2.Priority) && ((a1.Action == a2.Action) && ((a1.Scope == a2.Scope) && ((seq a1.Pattern a2.Pattern) && true))))))) = true then
 (some false)
 else
 (Z5G x5 b0 b1)
theorem ZdE x5 b0 b1 zS zP zu zn : Sim Z6 (Z5H x5 b0 b1) (ZmU 0 (.ptr 0 0) (.ptr 1 0) (iv x5) [(Zc b0 zS zP), (Zc b1 zu zn)]) := by
 unfold Z5H
 refine zf (Zs3 ..)<|ze<|zq<|zq<|zi fun a1 ha1 => zp (.cptr (ZJ a1)) (et_ (Z1g (o := (shrO zS)) (k := .i64) (n := 5) (e := Z2) (cs := Z1o) (fun _ => rfl) (fun _ => rfl) (by decide) ha1))<|zq<|zq<|zq<|zi fun a2 ha2 => zp (.cptr (ZJ a2)) (et_ (Z1g (o := (shrO zu)) (k := .i64) (n := 5) (e := Z2) (cs := Z1o) (fun _ => rfl) (fun _ => rfl) (by decide) ha2))<|zq<|zp (bv (!((a1.ID == a2.ID) && ((a1.Priority == a2.Priority) && ((a1.Action == a2.Action) && ((a1.Scope == a2.Scope) && ((seq a1.Pattern a2.Pattern) && true))))))) (Eq.trans (b := xbin PP .neq 103 (pA_ (ZJ a1)) (pA_ (ZJ a2))) (by kernel_rfl) (Zp7 (by kernel_rfl) (by kernel_rfl) (by kernel_rfl) (by kernel_rfl) (by kernel_rfl))) ?_
 refine za ((!((a1.ID == a2.ID) && ((a1.Priority == a2.Priority) && ((a1.Action == a2.Action) && ((a1.Scope == a2.Scope) && ((seq a1.Pattern a2.Pattern) && true))))))) ?_ ?_
 ·refine ze ?_
  exact zr ((bv false), [(Zc b0 zS zP), (Zc b1 zu zn)]) ⟨_, rfl⟩
 ·exact zk (ZdD x5 b0 b1 zS zP zu zn)
def Z5I (b0 b1 : Z5) : Option Bool :=
 Z4m 0 b0 b1
theorem ZdF b0 b1 zS zP zu zn : Sim Z6 (Z5I b0 b1) (ZmV 0 (.ptr 0 0) (.ptr 1 0) [(Zc b0 zS zP), (Zc b1 zu zn)]) := by
 unfold Z5I
 refine zf (Zs4 ..)<|ze ?_
 exact zk (Z94 0 b0 b1 zS zP zu zn)
def Z4i (x5 : Int) (b0 b1 : Z5) : Option Bool :=
 if (decide (x5 < (b0.Put.length : Int))) = true then
 (Z5H x5 b0 b1)
 else
 (Z5I b0 b1)
theorem ZdA x5 b0 b1 zS zP zu zn : Sim Z6 (Z4i x5 b0 b1) (Zh1 0 (.ptr 0 0) (.ptr 1 0) (iv x5) [(Zc b0 zS zP), (Zc b1 zu zn)]) := by
 unfold Z4i
 refine zf (ZrY ..)<|ze<|zq<|zq<|zp (iv (b0.Put.length : Int)) (et_ (ZU (P := PP) (t := 53) (d := 103) (by kernel_rfl) Z2 (shrO zS) b0.Put))<|zq ?_
 refine za (decide (x5 < (b0.Put.length : Int))) ?_ ?_
 ·exact zk (ZdE x5 b0 b1 zS zP zu zn)
 ·exact zk (ZdF b0 b1 zS zP zu zn)
theorem Z91 x5 b0 b1 {r} (h : Z4i x5 b0 b1 = some r) : Z3s x5 b0 b1 = some r :=
 ZM (fun _ _ ha hb => ru_ ZE (ha .ex .ex .ex .ex) (hb .ex .ex .ex .ex)) (fun zS zP zu zn => ZdA x5 b0 b1 zS zP zu zn r h)
def Z5h (x6 : Int) (b0 b1 : Z5) : Option Bool :=
 Z4m (IntKind.i64.wrap (x6 + 1)) b0 b1
theorem Zd7 x6 b0 b1 zS zP zu zn : Sim Z6 (Z5h x6 b0 b1) (ZkD 0 (.ptr 0 0) (.ptr 1 0) (iv x6) [(Zc b0 zS zP), (Zc b1 zu zn)]) := by
 unfold Z5h
 refine zf (ZpI ..)<|ze<|zq ?_
 exact zk (Z94 (IntKind.i64.wrap (x6 + 1)) b0 b1 zS zP zu zn)
def Z5i (x6 : Int) (b0 b1 : Z5) : Option Bool :=
 (lget b0.Drop x6).bind fun a1 =>
 (lget b1.Drop x6).bind fun a2 =>
 if (a1 != a2) = true then
 (some false)
 else
 (Z5h x6 b0 b1)
theorem Zd8 x6 b0 b1 zS zP zu zn : Sim Z6 (Z5i x6 b0 b1) (ZkE 0 (.ptr 0 0) (.ptr 1 0) (iv x6) [(Zc b0 zS zP), (Zc b1 zu zn)]) := by
 unfold Z5i
 refine zf (ZpJ ..)<|ze<|zq<|zq<|zi fun a1 ha1 => zp (.cptr [(.v (.int .i64 a1))]) (et_ (Z1g (o := (shrO zP)) (k := .i64) (n := 1) (e := (eI .i64)) (cs := (fun a => [(eI .i64) a])) (fun _ => rfl) (fun _ => rfl) (by decide) ha1))<|zq<|zq<|zq<|zi fun a2 ha2 => zp (.cptr [(.v (.int .i64 a2))]) (et_ (Z1g (o := (shrO zn)) (k := .i64) (n := 1) (e := (eI .i64)) (cs := (fun a => [(eI .i64) a])) (fun _ => rfl) (fun _ => rfl) (by decide) ha2))<|zq<|zq ?_
 refine za (a1 != a2) ?_ ?_
 ·refine ze ?_
  exact zr ((bv false), [(Zc b0 zS zP), (Zc b1 zu zn)]) ⟨_, rfl⟩
 ·exact zk (Zd7 x6 b0 b1 zS zP zu zn)
def Z5j : Option Bool :=
 some true
theorem Zd9 : Sim Z6 Z5j (ZkF 0 []) := by
 unfold Z5j
 refine zf (ZpK ..)<|ze ?_
 exact zr ((bv true), []) ⟨_, rfl⟩
def Z4j (x6 : Int) (b0 b1 : Z5) : Option Bool :=
 if (decide (x6 < (b0.Drop.length : Int))) = true then
 (Z5i x6 b0 b1)
 else
 Z5j
theorem ZdB x6 b0 b1 zS zP zu zn : Sim Z6 (Z4j x6 b0 b1) (Zh2 0 (.ptr 0 0) (.ptr 1 0) (iv x6) [(Zc b0 zS zP), (Zc b1 zu zn)]) := by
 unfold Z4j
 refine zf (ZrZ ..)<|ze<|zq<|zq<|zp (iv (b0.Drop.length : Int)) (et_ (ZU (P := PP) (t := 77) (d := 3) (by kernel_rfl) (eI .i64) (shrO zP) b0.Drop))<|zq ?_
 refine za (decide (x6 < (b0.Drop.length : Int))) ?_ ?_
 ·exact zk (Zd8 x6 b0 b1 zS zP zu zn)
 ·exact zk Zd9
theorem Z93 x6 b0 b1 {r} (h : Z4j x6 b0 b1 = some r) : Z4m x6 b0 b1 = some r :=
 ZM (fun _ _ ha hb => ru_ ZE (ha .ex .ex .ex .ex) (hb .ex .ex .ex .ex)) (fun zS zP zu zn => ZdB x6 b0 b1 zS zP zu zn r h)

end Go.Proofs.YtiigbcahdaoedaaGreatDoor.N2
end
