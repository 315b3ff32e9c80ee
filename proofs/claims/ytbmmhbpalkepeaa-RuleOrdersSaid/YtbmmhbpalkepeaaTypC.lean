/- More of the functions' typed texts. No condition. -/
import Derived.Test.YtbmmhbpalkepeaaTypA

set_option linter.unusedSimpArgs false
set_option linter.unusedVariables false
set_option linter.defProp false
noncomputable section
namespace Go.Proofs.Ytbmmhbpalkepeaa.N2
open Go Go.Abs
set_option maxRecDepth 100000
def Z6o : Option Bool :=
 some false
theorem Z9k : Sim Q27 Z6o (Z8W 0 []) := by
 unfold Z6o
 refine zf (Zg3 ..)<|ze ?_
 exact zr ((bv false), []) ⟨_, rfl⟩
def Z8w (b0 : Zk) : Option Bool :=
 Z6J 0 b0
theorem ZeI b0 z1 : Sim Q27 (Z8w b0) (Zbz 0 (.ptr 0 0) [(ZD b0 z1)]) := by
 unfold Z8w
 refine zf (Zg4 ..)<|ze ?_
 exact zk (ZaA 0 b0 z1)
def b19 (x0 : Zk) : Option Bool :=
 (g33 x0).bind fun r1 =>
 if (!r1) = true then
 Z6o
 else
 (if (decide (16 < (x0.Rules.length : Int))) = true then
 Z6o
 else
 (Z8w x0))
theorem Zjy x0 zd : Sim Q27 (b19 x0) (EE 19 [(pA_ (ZS x0 zd))] []) := by
 unfold b19
 refine zf (ZkT ..)<|ze<|zx (.ptr 0 0) [(ZD x0 zd)]<|ze<|zq<|zi fun r1 hr1 => ?_
 obtain ⟨_, er1, _, rfl⟩ := ZlI x0 .sh r1 hr1
 refine zc [] (bv r1) [(ZD x0 zd)] er1<|zq ?_
 refine za (!r1) ?_ ?_
 ·exact zk Z9k
 ·refine zq<|zq<|zp (iv (x0.Rules.length : Int)) (et_ (Z1E (P := PP) (t := 34) (d := 69) (by kernel_rfl) Z4 (shrO zd) x0.Rules))<|zq ?_
  refine za (decide (16 < (x0.Rules.length : Int))) ?_ ?_
  ·exact zk Z9k
  ·exact zk (ZeI x0 zd)
theorem Zlq x0 {r} (h : b19 x0 = some r) : g19 x0 = some r :=
 Z13 (fun _ _ ha hb => ru_ Z3h (ha .ex) (hb .ex)) (fun zd => Zjy x0 zd r h)
def Z6q : Option Bool :=
 some false
theorem Z9m : Sim Q27 Z6q (Z8Y 0 []) := by
 unfold Z6q
 refine zf (Zg7 ..)<|ze ?_
 exact zr ((bv false), []) ⟨_, rfl⟩
def Z6p (x3 : Int) (b0 : Zk) : Option Bool :=
 Z6J (IntKind.i64.wrap (x3 + 1)) b0
theorem Z9l x3 b0 z1 : Sim Q27 (Z6p x3 b0) (Z8X 0 (.ptr 0 0) (iv x3) [(ZD b0 z1)]) := by
 unfold Z6p
 refine zf (Zg5 ..)<|ze<|zq ?_
 exact zk (ZaA (IntKind.i64.wrap (x3 + 1)) b0 z1)
def Z8x (x3 : Int) (b0 : Zk) : Option Bool :=
 (lget b0.Rules x3).bind fun a1 =>
 (g34 a1).bind fun r2 =>
 if (!r2) = true then
 Z6q
 else
 (if (decide (0 < x3)) = true then
 ((lget b0.Rules x3).bind fun a3 =>
 (lget b0.Rules (IntKind.i64.wrap (x3 - 1))).bind fun a4 =>
 if (decide (a3.ID ≤ a4.ID)) = true then
 Z6q
 else
 (Z6p x3 b0))
 else
 (Z6p x3 b0))
theorem ZeJ x3 b0 z1 : Sim Q27 (Z8x x3 b0) (ZbA 0 (.ptr 0 0) (iv x3) [(ZD b0 z1)]) := by
 unfold Z8x
 refine zf (Zg6 ..)<|ze<|zq<|zq<|zi fun a1 ha1 => zp (.cptr (ZQ a1)) (et_ (Z1T (o := (shrO z1)) (k := .i64) (n := 5) (e := Z4) (cs := Z1q) (fun _ => rfl) (fun _ => rfl) (by decide) ha1))<|zq<|zi fun r2 hr2 => ?_
 obtain ⟨_, er2, _, rfl⟩ := ZlK a1 r2 hr2
 refine zc [] (bv r2) [(ZD b0 z1)] er2<|zq ?_
 refine za (!r2) ?_ ?_
 ·exact zk Z9m
 ·refine zq ?_
  refine za (decide (0 < x3)) ?_ ?_
  ·refine zq<|zq<|zi fun a3 ha3 => zp (.cptr (ZQ a3)) (et_ (Z1T (o := (shrO z1)) (k := .i64) (n := 5) (e := Z4) (cs := Z1q) (fun _ => rfl) (fun _ => rfl) (by decide) ha3))<|zq<|zq<|zq<|zq<|zq<|zi fun a4 ha4 => zp (.cptr (ZQ a4)) (et_ (Z1T (o := (shrO z1)) (k := .i64) (n := 5) (e := Z4) (cs := Z1q) (fun _ => rfl) (fun _ => rfl) (by decide) ha4))<|zq<|zq<|zq ?_
   refine za (decide (a3.ID ≤ a4.ID)) ?_ ?_
   ·exact zk Z9m
   ·exact zk (Z9l x3 b0 z1)
  ·exact zk (Z9l x3 b0 z1)
def Zbb : Option Bool :=
 some true
theorem ZeK : Sim Q27 Zbb (ZbB 0 []) := by
 unfold Zbb
 refine zf (Zg8 ..)<|ze ?_
 exact zr ((bv true), []) ⟨_, rfl⟩
def Z6n (x3 : Int) (b0 : Zk) : Option Bool :=
 if (decide (x3 < (b0.Rules.length : Int))) = true then
 (Z8x x3 b0)
 else
 Zbb
theorem ZeH x3 b0 z1 : Sim Q27 (Z6n x3 b0) (Z6B 0 (.ptr 0 0) (iv x3) [(ZD b0 z1)]) := by
 unfold Z6n
 refine zf (Zg2 ..)<|ze<|zq<|zq<|zp (iv (b0.Rules.length : Int)) (et_ (Z1E (P := PP) (t := 34) (d := 69) (by kernel_rfl) Z4 (shrO z1) b0.Rules))<|zq ?_
 refine za (decide (x3 < (b0.Rules.length : Int))) ?_ ?_
 ·exact zk (ZeJ x3 b0 z1)
 ·exact zk ZeK
theorem Zaz x3 b0 {r} (h : Z6n x3 b0 = some r) : Z6J x3 b0 = some r :=
 Z13 (fun _ _ ha hb => ru_ Z3h (ha .ex) (hb .ex)) (fun z1 => ZeH x3 b0 z1 r h)
def b33 (x0 : Zk) : Option Bool :=
 if (decide (0 ≤ x0.Default)) = true then
 (if (decide (x0.Default ≤ 255)) = true then
 (if (decide (0 ≤ x0.Closed)) = true then
 (if (decide (x0.Closed ≤ 255)) = true then
 (if (decide (1 ≤ x0.Fuel)) = true then
 (if (decide (x0.Fuel ≤ 1048576)) = true then
 (if (decide (0 ≤ x0.Stack)) = true then
 (some (decide (x0.Stack ≤ 4096)))
 else
 (some false))
 else
 (some false))
 else
 (some false))
 else
 (some false))
 else
 (some false))
 else
 (some false))
 else
 (some false)
theorem ZjO x0 zd : Sim Q27 (b33 x0) (EE 33 [(pA_ (ZS x0 zd))] []) := by
 unfold b33
 refine zf (Zla ..)<|ze<|zx (.ptr 0 0) [(ZD x0 zd)]<|ze<|zq<|zq<|zq ?_
 refine za (decide (0 ≤ x0.Default)) ?_ ?_
 ·refine zq<|zq<|zq ?_
  refine za (decide (x0.Default ≤ 255)) ?_ ?_
  ·refine zq<|zq<|zq ?_
   refine za (decide (0 ≤ x0.Closed)) ?_ ?_
   ·refine zq<|zq<|zq ?_
    refine za (decide (x0.Closed ≤ 255)) ?_ ?_
    ·refine zq<|zq<|zq ?_
     refine za (decide (1 ≤ x0.Fuel)) ?_ ?_
     ·refine zq<|zq<|zq ?_
      refine za (decide (x0.Fuel ≤ 1048576)) ?_ ?_
      ·refine zq<|zq<|zq ?_
       refine za (decide (0 ≤ x0.Stack)) ?_ ?_
       ·refine zq<|zq<|zq ?_
        exact zr ((bv (decide (x0.Stack ≤ 4096))), [(ZD x0 zd)]) ⟨_, rfl⟩
       ·exact zr ((bv false), [(ZD x0 zd)]) ⟨_, rfl⟩
      ·exact zr ((bv false), [(ZD x0 zd)]) ⟨_, rfl⟩
     ·exact zr ((bv false), [(ZD x0 zd)]) ⟨_, rfl⟩
    ·exact zr ((bv false), [(ZD x0 zd)]) ⟨_, rfl⟩
   ·exact zr ((bv false), [(ZD x0 zd)]) ⟨_, rfl⟩
  ·exact zr ((bv false), [(ZD x0 zd)]) ⟨_, rfl⟩
 ·exact zr ((bv false), [(ZD x0 zd)]) ⟨_, rfl⟩
theorem ZlH x0 {r} (h : b33 x0 = some r) : g33 x0 = some r :=
 Z13 (fun _ _ ha hb => ru_ Z3h (ha .ex) (hb .ex)) (fun zd => ZjO x0 zd r h)
def b34 (x0 : Z2) : Option Bool :=
 if (decide (1 ≤ x0.ID)) = true then
 (if (decide (x0.ID ≤ 1099511627776)) = true then
 (if (decide (0 ≤ x0.Priority)) = true then
 (if (decide (x0.Priority ≤ 1000)) = true then
 (if (decide (0 ≤ x0.Action)) = true then
 (if (decide (x0.Action ≤ 255)) = true then
 (if (decide (1 ≤ x0.Scope)) = true then
 (if (decide (x0.Scope ≤ 65535)) = true then
 (some (decide ((x0.Pattern.size : Int) ≤ 256)))
 else
 (some false))
 else
 (some false))
 else
 (some false))
 else
 (some false))
 else
 (some false))
 else
 (some false))
 else
 (some false))
 else
 (some false)
theorem ZjQ x0 : Sim Q27 (b34 x0) (EE 34 [(pA_ (ZQ x0))] []) := by
 unfold b34
 refine zf (Zlb ..)<|ze<|zx (.ptr 0 0) [(ZN x0)]<|ze<|zq<|zq<|zq ?_
 refine za (decide (1 ≤ x0.ID)) ?_ ?_
 ·refine zq<|zq<|zq ?_
  refine za (decide (x0.ID ≤ 1099511627776)) ?_ ?_
  ·refine zq<|zq<|zq ?_
   refine za (decide (0 ≤ x0.Priority)) ?_ ?_
   ·refine zq<|zq<|zq ?_
    refine za (decide (x0.Priority ≤ 1000)) ?_ ?_
    ·refine zq<|zq<|zq ?_
     refine za (decide (0 ≤ x0.Action)) ?_ ?_
     ·refine zq<|zq<|zq ?_
      refine za (decide (x0.Action ≤ 255)) ?_ ?_
      ·refine zq<|zq<|zq ?_
       refine za (decide (1 ≤ x0.Scope)) ?_ ?_
       ·refine zq<|zq<|zq ?_
        refine za (decide (x0.Scope ≤ 65535)) ?_ ?_
        ·refine zq<|zq<|zq<|zq ?_
         exact zr ((bv (decide ((x0.Pattern.size : Int) ≤ 256))), [(ZN x0)]) ⟨_, rfl⟩
        ·exact zr ((bv false), [(ZN x0)]) ⟨_, rfl⟩
       ·exact zr ((bv false), [(ZN x0)]) ⟨_, rfl⟩
      ·exact zr ((bv false), [(ZN x0)]) ⟨_, rfl⟩
     ·exact zr ((bv false), [(ZN x0)]) ⟨_, rfl⟩
    ·exact zr ((bv false), [(ZN x0)]) ⟨_, rfl⟩
   ·exact zr ((bv false), [(ZN x0)]) ⟨_, rfl⟩
  ·exact zr ((bv false), [(ZN x0)]) ⟨_, rfl⟩
 ·exact zr ((bv false), [(ZN x0)]) ⟨_, rfl⟩
theorem ZlJ x0 {r} (h : b34 x0 = some r) : g34 x0 = some r :=
 Z13 (fun _ _ ha hb => ru_ Z3h ha hb) (ZjQ x0 r h)
def b24 (x0 : Zk) (x1 : Int) : Option (List Int) :=
 Z6K x1 ([] : List Int) 1000 x0
theorem ZjB x0 x1 zd : Sim Q15 (b24 x0 x1) (EE 24 [(pA_ (ZS x0 zd)), (iv x1)] []) := by
 unfold b24
 refine zf (ZkZ ..)<|ze<|zx (.ptr 0 0) [(ZD x0 zd)]<|ze<|ze ?_
 exact zk (ZaC x1 ([] : List Int) 1000 x0 .nl zd rfl)
theorem Zlt x0 x1 {r} (h : b24 x0 x1 = some r) : g24 x0 x1 = some r :=
 Z13 (fun _ _ ha hb => ru_ Ze2 (ha .ex) (hb .ex)) (fun zd => ZjB x0 x1 zd r h)
def Z6s (x1 : Int) (x5 : List Int) (x6 : Int) (b0 : Zk) : Option (List Int) :=
 Z6M x1 x5 x6 0 b0
theorem ZeO x1 (x5 : List Int) x6 b0 ox5 z1 (hox5 : Z1d ox5 = true) : Sim Q15 (Z6s x1 x5 x6 b0) (ZbG 0 (iv x1) (.ptr 0 0) (pL_ ox5 (x5.map (eI .i64))) (iv x6) [(ZD b0 z1)]) := by
 unfold Z6s
 refine zf (Zgc ..)<|ze ?_
 exact zk (ZaE x1 x5 x6 0 b0 ox5 z1 hox5)
def Z7v (x5 : List Int) : Option (List Int) :=
 some x5
theorem Zdj (x5 : List Int) ox5 (hox5 : Z1d ox5 = true) : Sim Q15 (Z7v x5) (Za5 0 (pL_ ox5 (x5.map (eI .i64))) []) := by
 unfold Z7v
 refine zf (Zeu ..)<|ze ?_
 exact zr ((pL_ .sh (x5.map (eI .i64))), []) ⟨_, rfl⟩
def Z55 (x1 : Int) (x5 : List Int) (x6 : Int) (b0 : Zk) : Option (List Int) :=
 if (decide (0 ≤ x6)) = true then
 (Z6s x1 x5 x6 b0)
 else
 (Z7v x5)
theorem ZeL x1 (x5 : List Int) x6 b0 ox5 z1 (hox5 : Z1d ox5 = true) : Sim Q15 (Z55 x1 x5 x6 b0) (Z6C 0 (iv x1) (.ptr 0 0) (pL_ ox5 (x5.map (eI .i64))) (iv x6) [(ZD b0 z1)]) := by
 unfold Z55
 refine zf (Zg9 ..)<|ze<|zq ?_
 refine za (decide (0 ≤ x6)) ?_ ?_
 ·exact zk (ZeO x1 x5 x6 b0 ox5 z1 hox5)
 ·exact zk (Zdj x5 ox5 hox5)
theorem Z6L x1 x5 x6 b0 {r} (h : Z55 x1 x5 x6 b0 = some r) : Z6K x1 x5 x6 b0 = some r :=
 Z13 (fun _ _ ha hb => ru_ Ze2 (ha .ex .ex rfl) (hb .ex .ex rfl)) (fun ox5 z1 hox5 => ZeL x1 x5 x6 b0 ox5 z1 hox5 r h)
def Z3W (x1 : Int) (x5 : List Int) (x6 x7 : Int) (b0 : Zk) : Option (List Int) :=
 Z6M x1 x5 x6 (IntKind.i64.wrap (x7 + 1)) b0
theorem Z5P x1 (x5 : List Int) x6 x7 b0 ox5 z1 (hox5 : Z1d ox5 = true) : Sim Q15 (Z3W x1 x5 x6 x7 b0) (Z6E 0 (iv x1) (.ptr 0 0) (pL_ ox5 (x5.map (eI .i64))) (iv x6) (iv x7) [(ZD b0 z1)]) := by
 unfold Z3W
 refine zf (Zgd ..)<|ze<|zq ?_
 exact zk (ZaE x1 x5 x6 (IntKind.i64.wrap (x7 + 1)) b0 ox5 z1 hox5)
def Z8z (x1 : Int) (x5 : List Int) (x6 x7 : Int) (b0 : Zk) : Option (List Int) :=
 (lapp x5 ([x7] : List Int)).bind fun a1 =>
 Z3W x1 a1 x6 x7 b0
theorem ZeQ x1 (x5 : List Int) x6 x7 b0 ox5 z1 (hox5 : Z1d ox5 = true) : Sim Q15 (Z8z x1 x5 x6 x7 b0) (ZbI 0 (iv x1) (.ptr 0 0) (pL_ ox5 (x5.map (eI .i64))) (iv x6) (iv x7) [(ZD b0 z1)]) := by
 unfold Z8z
 refine zf (Zgf ..)<|ze<|zq<|zi fun a1 ha1 => zp (pL_ .un (a1.map (eI .i64))) (Eq.trans (by kernel_rfl) <| Zag (n := 1) (o := ox5) (o' := .ex) (e := (eI .i64)) (ys := ([x7] : List Int)) (fun _ => rfl) (by decide) hox5 ha1) ?_
 exact zk (Z5P x1 a1 x6 x7 b0 .un z1 rfl)
def Z8y (x1 : Int) (x5 : List Int) (x6 x7 : Int) (b0 : Zk) : Option (List Int) :=
 (lget b0.Rules x7).bind fun a1 =>
 if (a1.Priority == x6) = true then
 ((lget b0.Rules x7).bind fun a2 =>
 if ((iand .i64 a2.Scope x1) != 0) = true then
 (Z8z x1 x5 x6 x7 b0)
 else
 (Z3W x1 x5 x6 x7 b0))
 else
 (Z3W x1 x5 x6 x7 b0)
theorem ZeP x1 (x5 : List Int) x6 x7 b0 ox5 z1 (hox5 : Z1d ox5 = true) : Sim Q15 (Z8y x1 x5 x6 x7 b0) (ZbH 0 (iv x1) (.ptr 0 0) (pL_ ox5 (x5.map (eI .i64))) (iv x6) (iv x7) [(ZD b0 z1)]) := by
 unfold Z8y
 refine zf (Zge ..)<|ze<|zq<|zq<|zi fun a1 ha1 => zp (.cptr (ZQ a1)) (et_ (Z1T (o := (shrO z1)) (k := .i64) (n := 5) (e := Z4) (cs := Z1q) (fun _ => rfl) (fun _ => rfl) (by decide) ha1))<|zq<|zq<|zq ?_
 refine za (a1.Priority == x6) ?_ ?_
 ·refine zq<|zq<|zi fun a2 ha2 => zp (.cptr (ZQ a2)) (et_ (Z1T (o := (shrO z1)) (k := .i64) (n := 5) (e := Z4) (cs := Z1q) (fun _ => rfl) (fun _ => rfl) (by decide) ha2))<|zq<|zq<|zq<|zq ?_
  refine za ((iand .i64 a2.Scope x1) != 0) ?_ ?_
  ·exact zk (ZeQ x1 x5 x6 x7 b0 ox5 z1 hox5)
  ·exact zk (Z5P x1 x5 x6 x7 b0 ox5 z1 hox5)
 ·exact zk (Z5P x1 x5 x6 x7 b0 ox5 z1 hox5)
def Z56 (x1 : Int) (x5 : List Int) (x6 : Int) (b0 : Zk) : Option (List Int) :=
 Z6K x1 x5 (IntKind.i64.wrap (x6 - 1)) b0
theorem ZeN x1 (x5 : List Int) x6 b0 ox5 z1 (hox5 : Z1d ox5 = true) : Sim Q15 (Z56 x1 x5 x6 b0) (ZbF 0 (iv x1) (.ptr 0 0) (pL_ ox5 (x5.map (eI .i64))) (iv x6) [(ZD b0 z1)]) := by
 unfold Z56
 refine zf (Zgb ..)<|ze<|zq ?_
 exact zk (ZaC x1 x5 (IntKind.i64.wrap (x6 - 1)) b0 ox5 z1 hox5)
def Z6r (x1 : Int) (x5 : List Int) (x6 x7 : Int) (b0 : Zk) : Option (List Int) :=
 if (decide (x7 < (b0.Rules.length : Int))) = true then
 (Z8y x1 x5 x6 x7 b0)
 else
 (Z56 x1 x5 x6 b0)
theorem ZeM x1 (x5 : List Int) x6 x7 b0 ox5 z1 (hox5 : Z1d ox5 = true) : Sim Q15 (Z6r x1 x5 x6 x7 b0) (Z6D 0 (iv x1) (.ptr 0 0) (pL_ ox5 (x5.map (eI .i64))) (iv x6) (iv x7) [(ZD b0 z1)]) := by
 unfold Z6r
 refine zf (Zga ..)<|ze<|zq<|zq<|zp (iv (b0.Rules.length : Int)) (et_ (Z1E (P := PP) (t := 34) (d := 69) (by kernel_rfl) Z4 (shrO z1) b0.Rules))<|zq ?_
 refine za (decide (x7 < (b0.Rules.length : Int))) ?_ ?_
 ·exact zk (ZeP x1 x5 x6 x7 b0 ox5 z1 hox5)
 ·exact zk (ZeN x1 x5 x6 b0 ox5 z1 hox5)
theorem ZaD x1 x5 x6 x7 b0 {r} (h : Z6r x1 x5 x6 x7 b0 = some r) : Z6M x1 x5 x6 x7 b0 = some r :=
 Z13 (fun _ _ ha hb => ru_ Ze2 (ha .ex .ex rfl) (hb .ex .ex rfl)) (fun ox5 z1 hox5 => ZeM x1 x5 x6 x7 b0 ox5 z1 hox5 r h)
end Go.Proofs.Ytbmmhbpalkepeaa.N2
end
