/- More of the functions' typed texts. No condition. -/
import Derived.Test.YtiigbcahdaoedaaGreatDoorTypA

set_option linter.unusedSimpArgs false
set_option linter.unusedVariables false
set_option linter.defProp false
noncomputable section
namespace Go.Proofs.YtiigbcahdaoedaaGreatDoor.N2
open Go Go.Abs
set_option maxRecDepth 100000
def Z8B (x0 x1 x2 : Int) : Option Bool :=
 if (decide (x1 ≤ x0)) = true then
 (some (decide (x0 ≤ x2)))
 else
 (some false)
theorem Zhf x0 x1 x2 : Sim Z6 (Z8B x0 x1 x2) (EE 82 [(iv x0), (iv x1), (iv x2)] []) := by
 unfold Z8B
 refine zf (ZwJ ..)<|ze<|ze<|zq ?_
 refine za (decide (x1 ≤ x0)) ?_ ?_
 ·refine zq ?_
  exact zr ((bv (decide (x0 ≤ x2))), []) ⟨_, rfl⟩
 ·exact zr ((bv false), []) ⟨_, rfl⟩
theorem Zi0 x0 x1 x2 {r} (h : Z8B x0 x1 x2 = some r) : Z2y x0 x1 x2 = some r :=
 ZN (fun _ _ ha hb => ru_ ZK ha hb) (Zhf x0 x1 x2 r h)
def Z6y (x0 : Z4) : Option Bool :=
 if (decide (1 ≤ x0.ID)) = true then
 (if (decide (x0.ID ≤ 1099511627776)) = true then
 (if (decide (0 ≤ x0.Priority)) = true then
 (if (decide (x0.Priority ≤ 1000)) = true then
 (if (decide (0 ≤ x0.Action)) = true then
 (if (decide (x0.Action ≤ 255)) = true then
 (if (decide (1 ≤ x0.Scope)) = true then
 (if (decide (x0.Scope ≤ 65535)) = true then
 (some (decide ((x0.Pattern.size : Int) ≤ 256)))
 else
 (some false))
 else
 (some false))
 else
 (some false))
 else
 (some false))
 else
 (some false))
 else
 (some false))
 else
 (some false))
 else
 (some false)
theorem Zek x0 : Sim Z6 (Z6y x0) (EE 75 [(pA_ (ZJ x0))] []) := by
 unfold Z6y
 refine zf (ZwE ..)<|ze<|zx (.ptr 0 0) [(ZG x0)]<|ze<|zq<|zq<|zq ?_
 refine za (decide (1 ≤ x0.ID)) ?_ ?_
 ·refine zq<|zq<|zq ?_
  refine za (decide (x0.ID ≤ 1099511627776)) ?_ ?_
  ·refine zq<|zq<|zq ?_
   refine za (decide (0 ≤ x0.Priority)) ?_ ?_
   ·refine zq<|zq<|zq ?_
    refine za (decide (x0.Priority ≤ 1000)) ?_ ?_
    ·refine zq<|zq<|zq ?_
     refine za (decide (0 ≤ x0.Action)) ?_ ?_
     ·refine zq<|zq<|zq ?_
      refine za (decide (x0.Action ≤ 255)) ?_ ?_
      ·refine zq<|zq<|zq ?_
       refine za (decide (1 ≤ x0.Scope)) ?_ ?_
       ·refine zq<|zq<|zq ?_
        refine za (decide (x0.Scope ≤ 65535)) ?_ ?_
        ·refine zq<|zq<|zq<|zq ?_
         exact zr ((bv (decide ((x0.Pattern.size : Int) ≤ 256))), [(ZG x0)]) ⟨_, rfl⟩
        ·exact zr ((bv false), [(ZG x0)]) ⟨_, rfl⟩
       ·exact zr ((bv false), [(ZG x0)]) ⟨_, rfl⟩
      ·exact zr ((bv false), [(ZG x0)]) ⟨_, rfl⟩
     ·exact zr ((bv false), [(ZG x0)]) ⟨_, rfl⟩
    ·exact zr ((bv false), [(ZG x0)]) ⟨_, rfl⟩
   ·exact zr ((bv false), [(ZG x0)]) ⟨_, rfl⟩
  ·exact zr ((bv false), [(ZG x0)]) ⟨_, rfl⟩
 ·exact zr ((bv false), [(ZG x0)]) ⟨_, rfl⟩
theorem ZeV x0 {r} (h : Z6y x0 = some r) : Z6H x0 = some r :=
 ZN (fun _ _ ha hb => ru_ ZK ha hb) (Zek x0 r h)
def Z9v (x0 : List Z1) : Option (Int × Int × Bool) :=
 Z65 x0 0
theorem Zi1 (x0 : List Z1) ox0 : Sim ZY (Z9v x0) (EE 13 [(Zh ox0 (x0.map Zf))] []) := by
 unfold Z9v
 refine zf (Zvm ..)<|ze<|ze ?_
 exact zk (Zb8 x0 0 ox0)
theorem Zix x0 {r} (h : Z9v x0 = some r) : Z2J x0 = some r :=
 ZN (fun _ _ ha hb => ru_ Z5c (ha .ex) (hb .ex)) (fun ox0 => Zi1 x0 ox0 r h)
def Z7x (x0 : List Z1) (x5 : Int) : Option (Int × Int × Bool) :=
 Z66 x0 x5 0
theorem ZfA (x0 : List Z1) x5 ox0 : Sim ZY (Z7x x0 x5) (ZlH 0 (Zh ox0 (x0.map Zf)) (iv x5) []) := by
 unfold Z7x
 refine zf (ZqT ..)<|ze ?_
 exact zk (Zba x0 x5 0 ox0)
def Z7A : Option (Int × Int × Bool) :=
 some (0, 0, true)
theorem ZfD : Sim ZY Z7A (ZlK 0 []) := by
 unfold Z7A
 refine zf (ZqW ..)<|ze ?_
 exact zr ((.p (.tup [(.v (.int .i64 0)), (.v (.int .i64 0)), (.v (.bool true))])), []) ⟨_, rfl⟩
def Z5U (x0 : List Z1) (x5 : Int) : Option (Int × Int × Bool) :=
 if (decide (x5 < (x0.length : Int))) = true then
 (Z7x x0 x5)
 else
 Z7A
theorem Zfx (x0 : List Z1) x5 ox0 : Sim ZY (Z5U x0 x5) (Zgv 0 (Zh ox0 (x0.map Zf)) (iv x5) []) := by
 unfold Z5U
 refine zf (ZqQ ..)<|ze<|zp (iv (x0.length : Int)) (et_ (ZU (P := PP) (t := 28) (d := 44) (by kernel_rfl) Zf (shrO ox0) x0))<|zq ?_
 refine za (decide (x5 < (x0.length : Int))) ?_ ?_
 ·exact zk (ZfA x0 x5 ox0)
 ·exact zk ZfD
theorem Zb7 x0 x5 {r} (h : Z5U x0 x5 = some r) : Z65 x0 x5 = some r :=
 ZN (fun _ _ ha hb => ru_ Z5c (ha .ex) (hb .ex)) (fun ox0 => Zfx x0 x5 ox0 r h)
def Z7y (x0 : List Z1) (x5 x6 : Int) : Option (Int × Int × Bool) :=
 Z66 x0 x5 (IntKind.i64.wrap (x6 + 1))
theorem ZfB (x0 : List Z1) x5 x6 ox0 : Sim ZY (Z7y x0 x5 x6) (ZlI 0 (Zh ox0 (x0.map Zf)) (iv x5) (iv x6) []) := by
 unfold Z7y
 refine zf (ZqU ..)<|ze<|zq ?_
 exact zk (Zba x0 x5 (IntKind.i64.wrap (x6 + 1)) ox0)
def Z7z (x0 : List Z1) (x5 x6 : Int) : Option (Int × Int × Bool) :=
 (lget x0 x6).bind fun a1 =>
 (lget x0 x5).bind fun a2 =>
 (Z6o a1 a2).bind fun r3 =>
 if r3 = true then
 (some (x6, x5, false))
 else
 (Z7y x0 x5 x6)
theorem ZfC (x0 : List Z1) x5 x6 ox0 : Sim ZY (Z7z x0 x5 x6) (ZlJ 0 (Zh ox0 (x0.map Zf)) (iv x5) (iv x6) []) := by
 unfold Z7z
 refine zf (ZqV ..)<|ze<|zi fun a1 ha1 => zp (.cptr (ZP a1 .sh)) (et_ (Z1h (o := (shrO ox0)) (k := .i64) (n := 5) (e := Zf) (cs := Z2n) (fun _ => rfl) (fun _ => rfl) (by decide) ha1))<|zq<|zi fun a2 ha2 => zp (.cptr (ZP a2 .sh)) (et_ (Z1h (o := (shrO ox0)) (k := .i64) (n := 5) (e := Zf) (cs := Z2n) (fun _ => rfl) (fun _ => rfl) (by decide) ha2))<|zq<|zi fun r3 hr3 => ?_
 obtain ⟨_, er3, _, rfl⟩ := ZdD a1 a2 .sh .sh r3 hr3
 refine zc [] (bv r3) [] er3 ?_
 refine za r3 ?_ ?_
 ·refine ze ?_
  exact zr ((.p (.tup [(.v (.int .i64 x6)), (.v (.int .i64 x5)), (.v (.bool false))])), []) ⟨_, rfl⟩
 ·exact zk (ZfB x0 x5 x6 ox0)
def Z4G (x0 : List Z1) (x5 : Int) : Option (Int × Int × Bool) :=
 Z65 x0 (IntKind.i64.wrap (x5 + 1))
theorem Zfz (x0 : List Z1) x5 ox0 : Sim ZY (Z4G x0 x5) (ZlG 0 (Zh ox0 (x0.map Zf)) (iv x5) []) := by
 unfold Z4G
 refine zf (ZqS ..)<|ze<|zq ?_
 exact zk (Zb8 x0 (IntKind.i64.wrap (x5 + 1)) ox0)
def Z5V (x0 : List Z1) (x5 x6 : Int) : Option (Int × Int × Bool) :=
 if (decide (x6 < x5)) = true then
 (Z7z x0 x5 x6)
 else
 (Z4G x0 x5)
theorem Zfy (x0 : List Z1) x5 x6 ox0 : Sim ZY (Z5V x0 x5 x6) (Zgw 0 (Zh ox0 (x0.map Zf)) (iv x5) (iv x6) []) := by
 unfold Z5V
 refine zf (ZqR ..)<|ze<|zq ?_
 refine za (decide (x6 < x5)) ?_ ?_
 ·exact zk (ZfC x0 x5 x6 ox0)
 ·exact zk (Zfz x0 x5 ox0)
theorem Zb9 x0 x5 x6 {r} (h : Z5V x0 x5 x6 = some r) : Z66 x0 x5 x6 = some r :=
 ZN (fun _ _ ha hb => ru_ Z5c (ha .ex) (hb .ex)) (fun ox0 => Zfy x0 x5 x6 ox0 r h)
def Z9w (x0 x1 : Z1) : Option Bool :=
 Z4J 0 x0 x1
theorem Zi2 x0 x1 zl z1D : Sim Z6 (Z9w x0 x1) (EE 25 [(pA_ (ZP x0 zl)), (pA_ (ZP x1 z1D))] []) := by
 unfold Z9w
 refine zf (ZvE ..)<|ze<|zx (.ptr 0 0) [(ZI x0 zl)]<|zx (.ptr 1 0) [(ZI x0 zl), (ZI x1 z1D)]<|ze ?_
 exact zk (Zbc 0 x0 x1 zl z1D)
theorem Ziy x0 x1 {r} (h : Z9w x0 x1 = some r) : Z6o x0 x1 = some r :=
 ZN (fun _ _ ha hb => ru_ ZK (ha .ex .ex) (hb .ex .ex)) (fun zl z1D => Zi2 x0 x1 zl z1D r h)
def Z7B (x5 : Int) (b0 b1 : Z1) : Option Bool :=
 Z4J (IntKind.i64.wrap (x5 + 1)) b0 b1
theorem ZfF x5 b0 b1 zj z3u : Sim Z6 (Z7B x5 b0 b1) (Zm6 0 (.ptr 0 0) (.ptr 1 0) (iv x5) [(ZI b0 zj), (ZI b1 z3u)]) := by
 unfold Z7B
 refine zf (Zrb ..)<|ze<|zq ?_
 exact zk (Zbc (IntKind.i64.wrap (x5 + 1)) b0 b1 zj z3u)
def Z7C (x5 : Int) (b0 b1 : Z1) : Option Bool :=
 (lsl b0.Log x5 (IntKind.i64.wrap (x5 + 1))).bind fun a1 =>
 (lsl b1.Log x5 (IntKind.i64.wrap (x5 + 1))).bind fun a2 =>
 (Z7c a1 a2).bind fun r3 =>
 if (!r3) = true then
 (some true)
 else
 (Z7B x5 b0 b1)
theorem ZfG x5 b0 b1 zj z3u : Sim Z6 (Z7C x5 b0 b1) (Zm7 0 (.ptr 0 0) (.ptr 1 0) (iv x5) [(ZI b0 zj), (ZI b1 z3u)]) := by
 unfold Z7C
 refine zf (Zrc ..)<|ze<|zq<|zq<|zq<|zi fun a1 ha1 => zp (Zh (slO (shrO zj)) (a1.map Zg)) (Eq.trans (by kernel_rfl) <| Zci (n := 9) (o := (shrO zj)) (lo := (some (iv x5))) (hi := (some (iv (IntKind.i64.wrap (x5 + 1))))) (e := Zg) (fun _ => rfl) (by decide) (by kernel_rfl) (by kernel_rfl) ha1)<|zq<|zq<|zq<|zi fun a2 ha2 => zp (Zh (slO (shrO z3u)) (a2.map Zg)) (Eq.trans (by kernel_rfl) <| Zci (n := 9) (o := (shrO z3u)) (lo := (some (iv x5))) (hi := (some (iv (IntKind.i64.wrap (x5 + 1))))) (e := Zg) (fun _ => rfl) (by decide) (by kernel_rfl) (by kernel_rfl) ha2)<|zi fun r3 hr3 => ?_
 obtain ⟨_, er3, _, rfl⟩ := ZjK a1 a2 .sh .sh r3 hr3
 refine zc [] (bv r3) [(ZI b0 zj), (ZI b1 z3u)] er3<|zq ?_
 refine za (!r3) ?_ ?_
 ·refine ze ?_
  exact zr ((bv true), [(ZI b0 zj), (ZI b1 z3u)]) ⟨_, rfl⟩
 ·exact zk (ZfF x5 b0 b1 zj z3u)
def Z5X : Option Bool :=
 some false
theorem Zaz : Sim Z6 Z5X (Zjg 0 []) := by
 unfold Z5X
 refine zf (Zrd ..)<|ze ?_
 exact zr ((bv false), []) ⟨_, rfl⟩
def Z5W (x5 : Int) (b0 b1 : Z1) : Option Bool :=
 if (decide (x5 < b0.Commit)) = true then
 (if (decide (x5 < b1.Commit)) = true then
 (Z7C x5 b0 b1)
 else
 Z5X)
 else
 Z5X
theorem ZfE x5 b0 b1 zj z3u : Sim Z6 (Z5W x5 b0 b1) (ZgG 0 (.ptr 0 0) (.ptr 1 0) (iv x5) [(ZI b0 zj), (ZI b1 z3u)]) := by
 unfold Z5W
 refine zf (Zra ..)<|ze<|zq<|zq<|zq ?_
 refine za (decide (x5 < b0.Commit)) ?_ ?_
 ·refine zq<|zq<|zq ?_
  refine za (decide (x5 < b1.Commit)) ?_ ?_
  ·exact zk (ZfG x5 b0 b1 zj z3u)
  ·exact zk Zaz
 ·exact zk Zaz
theorem Zbb x5 b0 b1 {r} (h : Z5W x5 b0 b1 = some r) : Z4J x5 b0 b1 = some r :=
 ZN (fun _ _ ha hb => ru_ ZK (ha .ex .ex) (hb .ex .ex)) (fun zj z3u => ZfE x5 b0 b1 zj z3u r h)
def Z83 (x0 x1 : List Zb) : Option Bool :=
 Z6I x0 x1 0
theorem Zgj (x0 x1 : List Zb) ox0 ox1 : Sim Z6 (Z83 x0 x1) (Zml 0 (Zh ox0 (x0.map Zg)) (Zh ox1 (x1.map Zg)) []) := by
 unfold Z83
 refine zf (Zro ..)<|ze ?_
 exact zk (Zc5 x0 x1 0 ox0 ox1)
def Zah (x0 x1 : List Zb) : Option Bool :=
 if ((x0.length : Int) != (x1.length : Int)) = true then
 (some false)
 else
 (Z83 x0 x1)
theorem Ziw (x0 x1 : List Zb) ox0 ox1 : Sim Z6 (Zah x0 x1) (EE 35 [(Zh ox0 (x0.map Zg)), (Zh ox1 (x1.map Zg))] []) := by
 unfold Zah
 refine zf (ZvR ..)<|ze<|ze<|zp (iv (x0.length : Int)) (et_ (ZU (P := PP) (t := 42) (d := 95) (by kernel_rfl) Zg (shrO ox0) x0))<|zp (iv (x1.length : Int)) (et_ (ZU (P := PP) (t := 42) (d := 95) (by kernel_rfl) Zg (shrO ox1) x1))<|zq ?_
 refine za ((x0.length : Int) != (x1.length : Int)) ?_ ?_
 ·refine ze ?_
  exact zr ((bv false), []) ⟨_, rfl⟩
 ·exact zk (Zgj x0 x1 ox0 ox1)
theorem ZjJ x0 x1 {r} (h : Zah x0 x1 = some r) : Z7c x0 x1 = some r :=
 ZN (fun _ _ ha hb => ru_ ZK (ha .ex .ex) (hb .ex .ex)) (fun ox0 ox1 => Ziw x0 x1 ox0 ox1 r h)
def Z4i : Option Bool :=
 some false
theorem Z6j : Sim Z6 Z4i (ZeH 0 []) := by
 unfold Z4i
 refine zf (Zrr ..)<|ze ?_
 exact zr ((bv false), []) ⟨_, rfl⟩
def Z84 (x0 x1 : List Zb) (x5 : Int) : Option Bool :=
 Z6I x0 x1 (IntKind.i64.wrap (x5 + 1))
theorem Zgk (x0 x1 : List Zb) x5 ox0 ox1 : Sim Z6 (Z84 x0 x1 x5) (Zmm 0 (Zh ox0 (x0.map Zg)) (Zh ox1 (x1.map Zg)) (iv x5) []) := by
 unfold Z84
 refine zf (Zrp ..)<|ze<|zq ?_
 exact zk (Zc5 x0 x1 (IntKind.i64.wrap (x5 + 1)) ox0 ox1)
def Z85 (x0 x1 : List Zb) (x5 : Int) : Option Bool :=
 (lget x0 x5).bind fun a1 =>
 (lget x1 x5).bind fun a2 =>
 if (a1.View != a2.View) = true then
 Z4i
 else
 ((lget x0 x5).bind fun a3 =>
 (lget x1 x5).bind fun a4 =>
 if (a3.Client != a4.Client) = true then
 Z4i
 else
 ((lget x0 x5).bind fun a5 =>
 (lget x1 x5).bind fun a6 =>
 if (a5.Request != a6.Request) = true then
 Z4i
 else
 ((lget x0 x5).bind fun a7 =>
 (lget x1 x5).bind fun a8 =>
 (Z5r (Z5.mk a7.Delta.Default a7.Delta.Closed a7.Delta.Fuel a7.Delta.Stack a7.Delta.Put a7.Delta.Drop) (Z5.mk a8.Delta.Default a8.Delta.Closed a8.Delta.Fuel a8.Delta.Stack a8.Delta.Put a8.Delta.Drop)).bind fun r9 =>
 if (!r9) = true then
 Z4i
 else
 (Z84 x0 x1 x5))))
theorem Zgl (x0 x1 : List Zb) x5 ox0 ox1 : Sim Z6 (Z85 x0 x1 x5) (Zmn 0 (Zh ox0 (x0.map Zg)) (Zh ox1 (x1.map Zg)) (iv x5) []) := by
 unfold Z85
 refine zf (Zrq ..)<|ze<|zi fun a1 ha1 => zp (.cptr (Z1f a1 .sh .sh)) (et_ (Z1h (o := (shrO ox0)) (k := .i64) (n := 9) (e := Zg) (cs := Z1m) (fun _ => rfl) (fun _ => rfl) (by decide) ha1))<|zq<|zq<|zi fun a2 ha2 => zp (.cptr (Z1f a2 .sh .sh)) (et_ (Z1h (o := (shrO ox1)) (k := .i64) (n := 9) (e := Zg) (cs := Z1m) (fun _ => rfl) (fun _ => rfl) (by decide) ha2))<|zq<|zq<|zq ?_
 refine za (a1.View != a2.View) ?_ ?_
 ·exact zk Z6j
 ·refine zi fun a3 ha3 => zp (.cptr (Z1f a3 .sh .sh)) (et_ (Z1h (o := (shrO ox0)) (k := .i64) (n := 9) (e := Zg) (cs := Z1m) (fun _ => rfl) (fun _ => rfl) (by decide) ha3))<|zq<|zq<|zi fun a4 ha4 => zp (.cptr (Z1f a4 .sh .sh)) (et_ (Z1h (o := (shrO ox1)) (k := .i64) (n := 9) (e := Zg) (cs := Z1m) (fun _ => rfl) (fun _ => rfl) (by decide) ha4))<|zq<|zq<|zq ?_
  refine za (a3.Client != a4.Client) ?_ ?_
  ·exact zk Z6j
  ·refine zi fun a5 ha5 => zp (.cptr (Z1f a5 .sh .sh)) (et_ (Z1h (o := (shrO ox0)) (k := .i64) (n := 9) (e := Zg) (cs := Z1m) (fun _ => rfl) (fun _ => rfl) (by decide) ha5))<|zq<|zq<|zi fun a6 ha6 => zp (.cptr (Z1f a6 .sh .sh)) (et_ (Z1h (o := (shrO ox1)) (k := .i64) (n := 9) (e := Zg) (cs := Z1m) (fun _ => rfl) (fun _ => rfl) (by decide) ha6))<|zq<|zq<|zq ?_
   refine za (a5.Request != a6.Request) ?_ ?_
   ·exact zk Z6j
   ·refine zi fun a7 ha7 => zp (.cptr (Z1f a7 .sh .sh)) (et_ (Z1h (o := (shrO ox0)) (k := .i64) (n := 9) (e := Zg) (cs := Z1m) (fun _ => rfl) (fun _ => rfl) (by decide) ha7))<|zq<|zq<|zi fun a8 ha8 => zp (.cptr (Z1f a8 .sh .sh)) (et_ (Z1h (o := (shrO ox1)) (k := .i64) (n := 9) (e := Zg) (cs := Z1m) (fun _ => rfl) (fun _ => rfl) (by decide) ha8))<|zq<|zq<|zi fun r9 hr9 => ?_
    obtain ⟨_, er9, _, rfl⟩ := Zfw (Z5.mk a7.Delta.Default a7.Delta.Closed a7.Delta.Fuel a7.Delta.Stack a7.Delta.Put a7.Delta.Drop) (Z5.mk a8.Delta.Default a8.Delta.Closed a8.Delta.Fuel a8.Delta.Stack a8.Delta.Put a8.Delta.Drop) .sh .sh .sh .sh r9 hr9
    refine zc [] (bv r9) [] er9<|zq ?_
    refine za (!r9) ?_ ?_
    ·exact zk Z6j
    ·exact zk (Zgk x0 x1 x5 ox0 ox1)
def Z86 : Option Bool :=
 some true
theorem Zgm : Sim Z6 Z86 (Zmo 0 []) := by
 unfold Z86
 refine zf (Zrs ..)<|ze ?_
 exact zr ((bv true), []) ⟨_, rfl⟩
def Z6z (x0 x1 : List Zb) (x5 : Int) : Option Bool :=
 if (decide (x5 < (x0.length : Int))) = true then
 (Z85 x0 x1 x5)
 else
 Z86
theorem Zgi (x0 x1 : List Zb) x5 ox0 ox1 : Sim Z6 (Z6z x0 x1 x5) (ZgN 0 (Zh ox0 (x0.map Zg)) (Zh ox1 (x1.map Zg)) (iv x5) []) := by
 unfold Z6z
 refine zf (Zrn ..)<|ze<|zp (iv (x0.length : Int)) (et_ (ZU (P := PP) (t := 42) (d := 95) (by kernel_rfl) Zg (shrO ox0) x0))<|zq ?_
 refine za (decide (x5 < (x0.length : Int))) ?_ ?_
 ·exact zk (Zgl x0 x1 x5 ox0 ox1)
 ·exact zk Zgm
theorem Zc4 x0 x1 x5 {r} (h : Z6z x0 x1 x5 = some r) : Z6I x0 x1 x5 = some r :=
 ZN (fun _ _ ha hb => ru_ ZK (ha .ex .ex) (hb .ex .ex)) (fun ox0 ox1 => Zgi x0 x1 x5 ox0 ox1 r h)
def Z1V : Option Bool :=
 some false
theorem Z2x : Sim Z6 Z1V (ZbQ 0 []) := by
 unfold Z1V
 refine zf (ZrX ..)<|ze ?_
 exact zr ((bv false), []) ⟨_, rfl⟩
def Z5C (b0 b1 : Z5) : Option Bool :=
 Z3r 0 b0 b1
theorem Zdy b0 b1 zS zQ zu zn : Sim Z6 (Z5C b0 b1) (ZmP 0 (.ptr 0 0) (.ptr 1 0) [(Zc b0 zS zQ), (Zc b1 zu zn)]) := by
 unfold Z5C
 refine zf (ZrY ..)<|ze ?_
 exact zk (Z8X 0 b0 b1 zS zQ zu zn)
def Z71 (x0 x1 : Z5) : Option Bool :=
 if (x0.Default != x1.Default) = true then
 Z1V
 else
 (if (x0.Closed != x1.Closed) = true then
 Z1V
 else
 (if (x0.Fuel != x1.Fuel) = true then
 Z1V
 else
 (if (x0.Stack != x1.Stack) = true then
 Z1V
 else
 (if ((x0.Put.length : Int) != (x1.Put.length : Int)) = true then
 Z1V
 else
 (if ((x0.Drop.length : Int) != (x1.Drop.length : Int)) = true then
 Z1V
 else
 (Z5C x0 x1))))))
theorem ZeX x0 x1 z1U z1z z7e z6b : Sim Z6 (Z71 x0 x1) (EE 53 [(pA_ (Z1n x0 z1U z1z)), (pA_ (Z1n x1 z7e z6b))] []) := by
 unfold Z71
 refine zf (Zwf ..)<|ze<|zx (.ptr 0 0) [(Zc x0 z1U z1z)]<|zx (.ptr 1 0) [(Zc x0 z1U z1z), (Zc x1 z7e z6b)]<|ze<|zq<|zq<|zq<|zq<|zq ?_
 refine za (x0.Default != x1.Default) ?_ ?_
 ·exact zk Z2x
 ·refine zq<|zq<|zq<|zq<|zq ?_
  refine za (x0.Closed != x1.Closed) ?_ ?_
  ·exact zk Z2x
  ·refine zq<|zq<|zq<|zq<|zq ?_
   refine za (x0.Fuel != x1.Fuel) ?_ ?_
   ·exact zk Z2x
   ·refine zq<|zq<|zq<|zq<|zq ?_
    refine za (x0.Stack != x1.Stack) ?_ ?_
    ·exact zk Z2x
    ·refine zq<|zq<|zp (iv (x0.Put.length : Int)) (et_ (ZU (P := PP) (t := 53) (d := 103) (by kernel_rfl) Z2 (shrO z1U) x0.Put))<|zq<|zq<|zp (iv (x1.Put.length : Int)) (et_ (ZU (P := PP) (t := 53) (d := 103) (by kernel_rfl) Z2 (shrO z7e) x1.Put))<|zq ?_
     refine za ((x0.Put.length : Int) != (x1.Put.length : Int)) ?_ ?_
     ·exact zk Z2x
     ·refine zq<|zq<|zp (iv (x0.Drop.length : Int)) (et_ (ZU (P := PP) (t := 77) (d := 3) (by kernel_rfl) (eI .i64) (shrO z1z) x0.Drop))<|zq<|zq<|zp (iv (x1.Drop.length : Int)) (et_ (ZU (P := PP) (t := 77) (d := 3) (by kernel_rfl) (eI .i64) (shrO z6b) x1.Drop))<|zq ?_
      refine za ((x0.Drop.length : Int) != (x1.Drop.length : Int)) ?_ ?_
      ·exact zk Z2x
      ·exact zk (Zdy x0 x1 z1U z1z z7e z6b)
theorem Zfv x0 x1 {r} (h : Z71 x0 x1 = some r) : Z5r x0 x1 = some r :=
 ZN (fun _ _ ha hb => ru_ ZK (ha .ex .ex .ex .ex) (hb .ex .ex .ex .ex)) (fun z1U z1z z7e z6b => ZeX x0 x1 z1U z1z z7e z6b r h)
def Z5D (x5 : Int) (b0 b1 : Z5) : Option Bool :=
 Z3r (IntKind.i64.wrap (x5 + 1)) b0 b1
theorem Zdz x5 b0 b1 zS zQ zu zn : Sim Z6 (Z5D x5 b0 b1) (ZmQ 0 (.ptr 0 0) (.ptr 1 0) (iv x5) [(Zc b0 zS zQ), (Zc b1 zu zn)]) := by
 unfold Z5D
 refine zf (ZrZ ..)<|ze<|zq ?_
 exact zk (Z8X (IntKind.i64.wrap (x5 + 1)) b0 b1 zS zQ zu zn)
def Z5E (x5 : Int) (b0 b1 : Z5) : Option Bool :=
 (lget b0.Put x5).bind fun a1 =>
 (lget b1.Put x5).bind fun a2 =>
 if ((!((a1.ID == a2.ID) && ((a1.Priority == a2.Priority) && ((a1.Action == a2.Action) && ((a1.Scope == a2.Scope) && ((seq a1.Pattern a2.Pattern) && true))))))) = true then
 (some false)
 else
 (Z5D x5 b0 b1)
theorem ZdA x5 b0 b1 zS zQ zu zn : Sim Z6 (Z5E x5 b0 b1) (ZmR 0 (.ptr 0 0) (.ptr 1 0) (iv x5) [(Zc b0 zS zQ), (Zc b1 zu zn)]) := by
 unfold Z5E
 refine zf (Zs0 ..)<|ze<|zq<|zq<|zi fun a1 ha1 => zp (.cptr (ZJ a1)) (et_ (Z1h (o := (shrO zS)) (k := .i64) (n := 5) (e := Z2) (cs := Z1o) (fun _ => rfl) (fun _ => rfl) (by decide) ha1))<|zq<|zq<|zq<|zi fun a2 ha2 => zp (.cptr (ZJ a2)) (et_ (Z1h (o := (shrO zu)) (k := .i64) (n := 5) (e := Z2) (cs := Z1o) (fun _ => rfl) (fun _ => rfl) (by decide) ha2))<|zq<|zp (bv (!((a1.ID == a2.ID) && ((a1.Priority == a2.Priority) && ((a1.Action == a2.Action) && ((a1.Scope == a2.Scope) && ((seq a1.Pattern a2.Pattern) && true))))))) (Eq.trans (b := xbin PP .neq 103 (pA_ (ZJ a1)) (pA_ (ZJ a2))) (by kernel_rfl) (Zp4 (by kernel_rfl) (by kernel_rfl) (by kernel_rfl) (by kernel_rfl) (by kernel_rfl))) ?_
 refine za ((!((a1.ID == a2.ID) && ((a1.Priority == a2.Priority) && ((a1.Action == a2.Action) && ((a1.Scope == a2.Scope) && ((seq a1.Pattern a2.Pattern) && true))))))) ?_ ?_
 ·refine ze ?_
  exact zr ((bv false), [(Zc b0 zS zQ), (Zc b1 zu zn)]) ⟨_, rfl⟩
 ·exact zk (Zdz x5 b0 b1 zS zQ zu zn)
def Z5F (b0 b1 : Z5) : Option Bool :=
 Z4k 0 b0 b1
theorem ZdB b0 b1 zS zQ zu zn : Sim Z6 (Z5F b0 b1) (ZmS 0 (.ptr 0 0) (.ptr 1 0) [(Zc b0 zS zQ), (Zc b1 zu zn)]) := by
 unfold Z5F
 refine zf (Zs1 ..)<|ze ?_
 exact zk (Z8Z 0 b0 b1 zS zQ zu zn)
def Z4g (x5 : Int) (b0 b1 : Z5) : Option Bool :=
 if (decide (x5 < (b0.Put.length : Int))) = true then
 (Z5E x5 b0 b1)
 else
 (Z5F b0 b1)
theorem Zdw x5 b0 b1 zS zQ zu zn : Sim Z6 (Z4g x5 b0 b1) (ZgX 0 (.ptr 0 0) (.ptr 1 0) (iv x5) [(Zc b0 zS zQ), (Zc b1 zu zn)]) := by
 unfold Z4g
 refine zf (ZrV ..)<|ze<|zq<|zq<|zp (iv (b0.Put.length : Int)) (et_ (ZU (P := PP) (t := 53) (d := 103) (by kernel_rfl) Z2 (shrO zS) b0.Put))<|zq ?_
 refine za (decide (x5 < (b0.Put.length : Int))) ?_ ?_
 ·exact zk (ZdA x5 b0 b1 zS zQ zu zn)
 ·exact zk (ZdB b0 b1 zS zQ zu zn)
theorem Z8W x5 b0 b1 {r} (h : Z4g x5 b0 b1 = some r) : Z3r x5 b0 b1 = some r :=
 ZN (fun _ _ ha hb => ru_ ZK (ha .ex .ex .ex .ex) (hb .ex .ex .ex .ex)) (fun zS zQ zu zn => Zdw x5 b0 b1 zS zQ zu zn r h)
def Z5e (x6 : Int) (b0 b1 : Z5) : Option Bool :=
 Z4k (IntKind.i64.wrap (x6 + 1)) b0 b1
theorem Zd2 x6 b0 b1 zS zQ zu zn : Sim Z6 (Z5e x6 b0 b1) (ZkA 0 (.ptr 0 0) (.ptr 1 0) (iv x6) [(Zc b0 zS zQ), (Zc b1 zu zn)]) := by
 unfold Z5e
 refine zf (ZpF ..)<|ze<|zq ?_
 exact zk (Z8Z (IntKind.i64.wrap (x6 + 1)) b0 b1 zS zQ zu zn)
def Z5f (x6 : Int) (b0 b1 : Z5) : Option Bool :=
 (lget b0.Drop x6).bind fun a1 =>
 (lget b1.Drop x6).bind fun a2 =>
 if (a1 != a2) = true then
 (some false)
 else
 (Z5e x6 b0 b1)
theorem Zd3 x6 b0 b1 zS zQ zu zn : Sim Z6 (Z5f x6 b0 b1) (ZkB 0 (.ptr 0 0) (.ptr 1 0) (iv x6) [(Zc b0 zS zQ), (Zc b1 zu zn)]) := by
 unfold Z5f
 refine zf (ZpG ..)<|ze<|zq<|zq<|zi fun a1 ha1 => zp (.cptr [(.v (.int .i64 a1))]) (et_ (Z1h (o := (shrO zQ)) (k := .i64) (n := 1) (e := (eI .i64)) (cs := (fun a => [(eI .i64) a])) (fun _ => rfl) (fun _ => rfl) (by decide) ha1))<|zq<|zq<|zq<|zi fun a2 ha2 => zp (.cptr [(.v (.int .i64 a2))]) (et_ (Z1h (o := (shrO zn)) (k := .i64) (n := 1) (e := (eI .i64)) (cs := (fun a => [(eI .i64) a])) (fun _ => rfl) (fun _ => rfl) (by decide) ha2))<|zq<|zq ?_
 refine za (a1 != a2) ?_ ?_
 ·refine ze ?_
  exact zr ((bv false), [(Zc b0 zS zQ), (Zc b1 zu zn)]) ⟨_, rfl⟩
 ·exact zk (Zd2 x6 b0 b1 zS zQ zu zn)
def Z5g : Option Bool :=
 some true
theorem Zd4 : Sim Z6 Z5g (ZkC 0 []) := by
 unfold Z5g
 refine zf (ZpH ..)<|ze ?_
 exact zr ((bv true), []) ⟨_, rfl⟩
def Z4h (x6 : Int) (b0 b1 : Z5) : Option Bool :=
 if (decide (x6 < (b0.Drop.length : Int))) = true then
 (Z5f x6 b0 b1)
 else
 Z5g
theorem Zdx x6 b0 b1 zS zQ zu zn : Sim Z6 (Z4h x6 b0 b1) (ZgY 0 (.ptr 0 0) (.ptr 1 0) (iv x6) [(Zc b0 zS zQ), (Zc b1 zu zn)]) := by
 unfold Z4h
 refine zf (ZrW ..)<|ze<|zq<|zq<|zp (iv (b0.Drop.length : Int)) (et_ (ZU (P := PP) (t := 77) (d := 3) (by kernel_rfl) (eI .i64) (shrO zQ) b0.Drop))<|zq ?_
 refine za (decide (x6 < (b0.Drop.length : Int))) ?_ ?_
 ·exact zk (Zd3 x6 b0 b1 zS zQ zu zn)
 ·exact zk Zd4
theorem Z8Y x6 b0 b1 {r} (h : Z4h x6 b0 b1 = some r) : Z4k x6 b0 b1 = some r :=
 ZN (fun _ _ ha hb => ru_ ZK (ha .ex .ex .ex .ex) (hb .ex .ex .ex .ex)) (fun zS zQ zu zn => Zdx x6 b0 b1 zS zQ zu zn r h)

end Go.Proofs.YtiigbcahdaoedaaGreatDoor.N2
end
