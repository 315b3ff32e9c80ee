/- The functions' typed texts. No condition. -/
import Derived.Test.YtocikhhkicahoaaDoorTypA

set_option linter.unusedSimpArgs false
set_option linter.unusedVariables false
set_option linter.defProp false
noncomputable section
namespace Go.Proofs.YtocikhhkicahoaaDoor.N2
open Go Go.Abs
set_option maxRecDepth 100000
def Z4p (x3 : List Zm) : Option Bool :=
 some ((x3.length : Int) == 0)
theorem Z98 (x3 : List Zm) ox3 : Sim ZW (Z4p x3) (Zss 0 (ZR ox3 (x3.map ZC)) []) := by
 unfold Z4p
 refine zf (ZCA ..)<|ze<|zp (iv (x3.length : Int)) (et_ (Z2S (P := PP) (t := 23) (d := 40) (by kernel_rfl) ZC (shrO ox3) x3))<|zq ?_
 exact zr ((bv ((x3.length : Int) == 0)), []) ⟨_, rfl⟩
def Z5n : Option Bool :=
 some false
theorem Z8M : Sim ZW Z5n (Zpz 0 []) := by
 unfold Z5n
 refine zf (ZA7 ..)<|ze ?_
 exact zr ((bv false), []) ⟨_, rfl⟩
def Z5o (x3 : List Zm) (b0 : ZZ) : Option Bool :=
 Z4e x3 0 x3 (x3.length : Int) 0 b0
theorem Zdj (x3 : List Zm) b0 ox3 zM zK : Sim ZW (Z5o x3 b0) (ZtH 0 (ZR ox3 (x3.map ZC)) (.ptr 0 0) [(ZP b0 zM zK)]) := by
 unfold Z5o
 refine zf (ZA8 ..)<|ze<|ze<|zp (iv (x3.length : Int)) (et_ (Z2S (P := PP) (t := 23) (d := 40) (by kernel_rfl) ZC (shrO ox3) x3)) ?_
 exact zk (Z97 x3 0 x3 (x3.length : Int) 0 b0 ox3 (shrO ox3) zM zK)
def Z5O (x0 : ByteArray) (x3 : List Zm) : Option Bool :=
 (Zbs x0).bind fun r1 =>
 (Z53 r1.1.Root).bind fun r2 =>
 if ((x3.length : Int) != (IntKind.i64.wrap (r2 + 3))) = true then
 Z5n
 else
 ((lget x3 (IntKind.i64.wrap ((x3.length : Int) - 1))).bind fun a3 =>
 if (a3.Op != 0) = true then
 Z5n
 else
 (Z5o x3 r1.1))
theorem ZdK x0 (x3 : List Zm) ox3 : Sim ZW (Z5O x0 x3) (Zxv 0 (.p (.v (.string x0))) (ZR ox3 (x3.map ZC)) []) := by
 unfold Z5O
 refine zf (ZCB ..)<|ze<|zi fun r1 hr1 => ?_
 obtain ⟨_, er1, _, rfl⟩ := Ziw x0 r1 hr1
 refine zc [] (.p (.tup [(.agg (Z2v r1.1 .sh .sh)), (.agg (Z49 r1.2))])) [] er1<|zq<|zq<|zz (.ptr 0 0) [(ZP ZbK .nl .nl)]<|zz (.ptr 1 0) [(ZP ZbK .nl .nl), (Z1s ZdA)]<|zt [(ZP r1.1 .sh .sh), (Z1s ZdA)]<|zt [(ZP r1.1 .sh .sh), (Z1s r1.2)]<|ze<|zp (iv (x3.length : Int)) (et_ (Z2S (P := PP) (t := 23) (d := 40) (by kernel_rfl) ZC (shrO ox3) x3))<|zq<|zq<|zi fun r2 hr2 => ?_
 obtain ⟨_, er2, _, rfl⟩ := Zf2 r1.1.Root .sh .sh r2 hr2
 refine zc [] (iv r2) [(ZP r1.1 .sh .sh), (Z1s r1.2)] er2<|zq<|zq ?_
 refine za ((x3.length : Int) != (IntKind.i64.wrap (r2 + 3))) ?_ ?_
 ·exact zk Z8M
 ·refine zp (iv (x3.length : Int)) (et_ (Z2S (P := PP) (t := 23) (d := 40) (by kernel_rfl) ZC (shrO ox3) x3))<|zq<|zi fun a3 ha3 => zp (.cptr (Z1k a3 .sh)) (et_ (Z2k (o := (shrO ox3)) (k := .i64) (n := 6) (e := ZC) (cs := Z2U) (fun _ => rfl) (fun _ => rfl) (by decide) ha3))<|zq<|zq<|zq ?_
  refine za (a3.Op != 0) ?_ ?_
  ·exact zk Z8M
  ·exact zk (Zdj x3 r1.1 ox3 .sh .sh)
def Z5N (x0 : ByteArray) : Option Bool :=
 (Z3b x0).bind fun r1 =>
 if (r1.2.1 != 0) = true then
 (Z4p r1.1)
 else
 (if (r1.2.2 != 0) = true then
 (Z4p r1.1)
 else
 (Z5O x0 r1.1))
theorem ZdJ x0 : Sim ZW (Z5N x0) (Zxu 0 (.p (.v (.string x0))) []) := by
 unfold Z5N
 refine zf (ZCz ..)<|ze<|zi fun r1 hr1 => ?_
 obtain ⟨_, er1, _, rfl⟩ := Z9M x0 r1 hr1
 refine zc [] (.p (.tup [(.lst .sh (r1.1.map ZC)), (.v (.int .i64 r1.2.1)), (.v (.int .i64 r1.2.2))])) [] er1<|zq<|zq<|zq<|ze<|zq ?_
 refine za (r1.2.1 != 0) ?_ ?_
 ·exact zk (Z98 r1.1 .sh)
 ·refine zq ?_
  refine za (r1.2.2 != 0) ?_ ?_
  ·exact zk (Z98 r1.1 .sh)
  ·exact zk (ZdK x0 r1.1 .sh)
def Z5M (x0 : ByteArray) : Option Bool :=
 if (decide (400 < (x0.size : Int))) = true then
 (some true)
 else
 (Z5N x0)
theorem ZdI x0 : Sim ZW (Z5M x0) (Zxt 0 (.p (.v (.string x0))) []) := by
 unfold Z5M
 refine zf (ZCy ..)<|ze<|zq<|zq ?_
 refine za (decide (400 < (x0.size : Int))) ?_ ?_
 ·refine ze ?_
  exact zr ((bv true), []) ⟨_, rfl⟩
 ·exact zk (ZdJ x0)
def Z6x (x0 : ByteArray) : Option Bool :=
 (Z85).bind fun r1 =>
 if (!r1) = true then
 (some false)
 else
 (Z5M x0)
theorem ZeY x0 : Sim ZW (Z6x x0) (EE 3 [(.p (.v (.string x0)))] []) := by
 unfold Z6x
 refine zf (ZHk ..)<|ze<|ze<|zi fun r1 hr1 => ?_
 obtain ⟨_, er1, _, rfl⟩ := ZhJ r1 hr1
 refine zc [] (bv r1) [] er1<|zq ?_
 refine za (!r1) ?_ ?_
 ·refine ze ?_
  exact zr ((bv false), []) ⟨_, rfl⟩
 ·exact zk (ZdI x0)
theorem Zfn x0 {r} (h : Z6x x0 = some r) : Z8C x0 = some r :=
 Z1l (fun _ _ ha hb => ru_ Z2L ha hb) (ZeY x0 r h)
def Z5q (x3 : List Zm) (x8 : Int) (x54 : List Zm) (x55 x56 : Int) (b0 : ZZ) : Option Bool :=
 Z4e x3 x8 x54 x55 (IntKind.i64.wrap (x56 + 1)) b0
theorem Zdl (x3 : List Zm) x8 (x54 : List Zm) x55 x56 b0 ox3 ox54 zM zK : Sim ZW (Z5q x3 x8 x54 x55 x56 b0) (ZtJ 0 (ZR ox3 (x3.map ZC)) (.ptr 0 0) (iv x8) (ZR ox54 (x54.map ZC)) (iv x55) (iv x56) [(ZP b0 zM zK)]) := by
 unfold Z5q
 refine zf (ZAb ..)<|ze<|zq ?_
 exact zk (Z97 x3 x8 x54 x55 (IntKind.i64.wrap (x56 + 1)) b0 ox3 ox54 zM zK)
def ZS (x3 : List Zm) (x8 : Int) (x11 : Bool) (x54 : List Zm) (x55 x56 : Int) (b0 : ZZ) : Option Bool :=
 if (!x11) = true then
 (some false)
 else
 (Z5q x3 x8 x54 x55 x56 b0)
theorem ZT (x3 : List Zm) x8 x11 (x54 : List Zm) x55 x56 b0 ox3 ox54 zM zK : Sim ZW (ZS x3 x8 x11 x54 x55 x56 b0) (Z3T 0 (ZR ox3 (x3.map ZC)) (.ptr 0 0) (iv x8) (bv x11) (ZR ox54 (x54.map ZC)) (iv x55) (iv x56) [(ZP b0 zM zK)]) := by
 unfold ZS
 refine zf (ZAa ..)<|ze<|zq ?_
 refine za (!x11) ?_ ?_
 ·refine ze ?_
  exact zr ((bv false), [(ZP b0 zM zK)]) ⟨_, rfl⟩
 ·exact zk (Zdl x3 x8 x54 x55 x56 b0 ox3 ox54 zM zK)
def Z5p (x3 : List Zm) (x8 : Int) (x54 : List Zm) (x55 x56 : Int) (b0 : ZZ) : Option Bool :=
 (lget x54 x56).bind fun a1 =>
 if (a1.Op == 0) = true then
 (ZS x3 x8 (x56 == (IntKind.i64.wrap ((x3.length : Int) - 1))) x54 x55 x56 b0)
 else
 (if (a1.Op == 1) = true then
 ((Z4N a1.Set).bind fun r2 =>
 ZS x3 x8 r2 x54 x55 x56 b0)
 else
 (if (a1.Op == 2) = true then
 (if (decide (0 ≤ a1.A)) = true then
 (ZS x3 x8 (decide (a1.A < (x3.length : Int))) x54 x55 x56 b0)
 else
 (ZS x3 x8 false x54 x55 x56 b0))
 else
 (if (a1.Op == 3) = true then
 (if (decide (x56 < a1.A)) = true then
 (if (decide (x56 < a1.B)) = true then
 (if (decide (a1.A < (x3.length : Int))) = true then
 (if (decide (a1.B < (x3.length : Int))) = true then
 (ZS x3 x8 ((min a1.A a1.B) == (IntKind.i64.wrap (x56 + 1))) x54 x55 x56 b0)
 else
 (ZS x3 x8 false x54 x55 x56 b0))
 else
 (ZS x3 x8 false x54 x55 x56 b0))
 else
 (ZS x3 x8 false x54 x55 x56 b0))
 else
 (ZS x3 x8 false x54 x55 x56 b0))
 else
 (if (a1.Op == 4) = true then
 (if (decide (0 ≤ a1.A)) = true then
 (ZS x3 x8 ((decide (a1.A < (IntKind.i64.wrap ((IntKind.i64.wrap (2 * b0.Groups)) + 2))))) x54 x55 x56 b0)
 else
 (ZS x3 x8 false x54 x55 x56 b0))
 else
 (if (a1.Op == 5) = true then
 (if (decide (1 ≤ a1.A)) = true then
 (ZS x3 x8 (decide (a1.A ≤ b0.Groups)) x54 x55 x56 b0)
 else
 (ZS x3 x8 false x54 x55 x56 b0))
 else
 (if (a1.Op == 7) = true then
 (if (a1.Op == 7) = true then
 (if (decide ((IntKind.i64.wrap (x56 + 1)) < a1.B)) = true then
 (if (decide (a1.B < (x3.length : Int))) = true then
 ((lget x3 (IntKind.i64.wrap (a1.B - 1))).bind fun a3 =>
 ZS x3 x8 (a3.Op == 9) x54 x55 x56 b0)
 else
 (ZS x3 x8 false x54 x55 x56 b0))
 else
 (ZS x3 x8 false x54 x55 x56 b0))
 else
 (if (a1.Op == 10) = true then
 (ZS x3 (IntKind.i64.wrap (x8 + 1)) (a1.A == x8) x54 x55 x56 b0)
 else
 (if (a1.Op == 11) = true then
 (if (decide (a1.A < x8)) = true then
 ((lget x3 (IntKind.i64.wrap (x56 + 1))).bind fun a4 =>
 if (a4.Op == 2) = true then
 ((lget x3 (IntKind.i64.wrap (x56 + 1))).bind fun a5 =>
 (lget x3 a5.A).bind fun a6 =>
 ZS x3 x8 (a6.Op == 3) x54 x55 x56 b0)
 else
 (ZS x3 x8 false x54 x55 x56 b0))
 else
 (ZS x3 x8 false x54 x55 x56 b0))
 else
 (ZS x3 x8 true x54 x55 x56 b0))))
 else
 (if (a1.Op == 8) = true then
 (if (decide ((IntKind.i64.wrap (x56 + 1)) < a1.B)) = true then
 (if (decide (a1.B < (x3.length : Int))) = true then
 ((lget x3 (IntKind.i64.wrap (a1.B - 1))).bind fun a7 =>
 ZS x3 x8 (a7.Op == 9) x54 x55 x56 b0)
 else
 (ZS x3 x8 false x54 x55 x56 b0))
 else
 (ZS x3 x8 false x54 x55 x56 b0))
 else
 (if (a1.Op == 10) = true then
 (ZS x3 (IntKind.i64.wrap (x8 + 1)) (a1.A == x8) x54 x55 x56 b0)
 else
 (if (a1.Op == 11) = true then
 (if (decide (a1.A < x8)) = true then
 ((lget x3 (IntKind.i64.wrap (x56 + 1))).bind fun a8 =>
 if (a8.Op == 2) = true then
 ((lget x3 (IntKind.i64.wrap (x56 + 1))).bind fun a9 =>
 (lget x3 a9.A).bind fun a10 =>
 ZS x3 x8 (a10.Op == 3) x54 x55 x56 b0)
 else
 (ZS x3 x8 false x54 x55 x56 b0))
 else
 (ZS x3 x8 false x54 x55 x56 b0))
 else
 (ZS x3 x8 true x54 x55 x56 b0))))))))))
theorem Zdk (x3 : List Zm) x8 (x54 : List Zm) x55 x56 b0 ox3 ox54 zM zK : Sim ZW (Z5p x3 x8 x54 x55 x56 b0) (ZtI 0 (ZR ox3 (x3.map ZC)) (.ptr 0 0) (iv x8) (ZR ox54 (x54.map ZC)) (iv x55) (iv x56) [(ZP b0 zM zK)]) := by
 unfold Z5p
 refine zf (ZA9 ..)<|ze<|zi fun a1 ha1 => zp (.cptr (Z1k a1 .sh)) (et_ (Z2k (o := ox54) (k := .i64) (n := 6) (e := ZC) (cs := Z2U) (fun _ => rfl) (fun _ => rfl) (by decide) ha1))<|zq<|zz (.ptr 1 0) [(ZP b0 zM zK), (Z1t ZrL .nl)]<|zt [(ZP b0 zM zK), (Z1t a1 .sh)]<|ze<|ze<|zq<|zq<|ze<|zq ?_
 refine za (a1.Op == 0) ?_ ?_
 ·refine ze<|zp (iv (x3.length : Int)) (et_ (Z2S (P := PP) (t := 23) (d := 40) (by kernel_rfl) ZC (shrO ox3) x3))<|zq<|zq ?_
  exact zk (ZT x3 x8 (x56 == (IntKind.i64.wrap ((x3.length : Int) - 1))) x54 x55 x56 b0 ox3 ox54 zM zK)
 ·refine ze<|zq ?_
  refine za (a1.Op == 1) ?_ ?_
  ·refine ze<|zq<|zq<|zi fun r2 hr2 => ?_
   obtain ⟨_, er2, _, rfl⟩ := Z6P a1.Set .sh r2 hr2
   refine zc [] (bv r2) [(ZP b0 zM zK), (Z1t a1 .sh)] er2 ?_
   exact zk (ZT x3 x8 r2 x54 x55 x56 b0 ox3 ox54 zM zK)
  ·refine ze<|zq ?_
   refine za (a1.Op == 2) ?_ ?_
   ·refine ze<|zq<|zq<|zq ?_
    refine za (decide (0 ≤ a1.A)) ?_ ?_
    ·refine zq<|zq<|zp (iv (x3.length : Int)) (et_ (Z2S (P := PP) (t := 23) (d := 40) (by kernel_rfl) ZC (shrO ox3) x3))<|zq ?_
     exact zk (ZT x3 x8 (decide (a1.A < (x3.length : Int))) x54 x55 x56 b0 ox3 ox54 zM zK)
    ·exact zk (ZT x3 x8 false x54 x55 x56 b0 ox3 ox54 zM zK)
   ·refine ze<|zq ?_
    refine za (a1.Op == 3) ?_ ?_
    ·refine ze<|zq<|zq<|zq ?_
     refine za (decide (x56 < a1.A)) ?_ ?_
     ·refine zq<|zq<|zq ?_
      refine za (decide (x56 < a1.B)) ?_ ?_
      ·refine zq<|zq<|zp (iv (x3.length : Int)) (et_ (Z2S (P := PP) (t := 23) (d := 40) (by kernel_rfl) ZC (shrO ox3) x3))<|zq ?_
       refine za (decide (a1.A < (x3.length : Int))) ?_ ?_
       ·refine zq<|zq<|zp (iv (x3.length : Int)) (et_ (Z2S (P := PP) (t := 23) (d := 40) (by kernel_rfl) ZC (shrO ox3) x3))<|zq ?_
        refine za (decide (a1.B < (x3.length : Int))) ?_ ?_
        ·refine zq<|zq<|zq<|zq<|zp (iv (min a1.A a1.B)) (ZaY _ _)<|zq<|zq ?_
         exact zk (ZT x3 x8 ((min a1.A a1.B) == (IntKind.i64.wrap (x56 + 1))) x54 x55 x56 b0 ox3 ox54 zM zK)
        ·exact zk (ZT x3 x8 false x54 x55 x56 b0 ox3 ox54 zM zK)
       ·exact zk (ZT x3 x8 false x54 x55 x56 b0 ox3 ox54 zM zK)
      ·exact zk (ZT x3 x8 false x54 x55 x56 b0 ox3 ox54 zM zK)
     ·exact zk (ZT x3 x8 false x54 x55 x56 b0 ox3 ox54 zM zK)
    ·refine ze<|zq ?_
     refine za (a1.Op == 4) ?_ ?_
     ·refine ze<|zq<|zq<|zq ?_
      refine za (decide (0 ≤ a1.A)) ?_ ?_
      ·refine zq<|zq<|zq<|zq<|zq<|zq<|zq ?_
       exact zk (ZT x3 x8 ((decide (a1.A < (IntKind.i64.wrap ((IntKind.i64.wrap (2 * b0.Groups)) + 2))))) x54 x55 x56 b0 ox3 ox54 zM zK)
      ·exact zk (ZT x3 x8 false x54 x55 x56 b0 ox3 ox54 zM zK)
     ·refine ze<|zq ?_
      refine za (a1.Op == 5) ?_ ?_
      ·refine ze<|zq<|zq<|zq ?_
       refine za (decide (1 ≤ a1.A)) ?_ ?_
       ·refine zq<|zq<|zq<|zq<|zq ?_
        exact zk (ZT x3 x8 (decide (a1.A ≤ b0.Groups)) x54 x55 x56 b0 ox3 ox54 zM zK)
       ·exact zk (ZT x3 x8 false x54 x55 x56 b0 ox3 ox54 zM zK)
      ·refine ze<|zq ?_
       refine za (a1.Op == 7) ?_ ?_
       ·refine za (a1.Op == 7) ?_ ?_
        ·refine ze<|zq<|zq<|zq<|zq ?_
         refine za (decide ((IntKind.i64.wrap (x56 + 1)) < a1.B)) ?_ ?_
         ·refine zq<|zq<|zp (iv (x3.length : Int)) (et_ (Z2S (P := PP) (t := 23) (d := 40) (by kernel_rfl) ZC (shrO ox3) x3))<|zq ?_
          refine za (decide (a1.B < (x3.length : Int))) ?_ ?_
          ·refine zq<|zq<|zq<|zi fun a3 ha3 => zp (.cptr (Z1k a3 .sh)) (et_ (Z2k (o := (shrO ox3)) (k := .i64) (n := 6) (e := ZC) (cs := Z2U) (fun _ => rfl) (fun _ => rfl) (by decide) ha3))<|zq<|zq<|zq ?_
           exact zk (ZT x3 x8 (a3.Op == 9) x54 x55 x56 b0 ox3 ox54 zM zK)
          ·exact zk (ZT x3 x8 false x54 x55 x56 b0 ox3 ox54 zM zK)
         ·exact zk (ZT x3 x8 false x54 x55 x56 b0 ox3 ox54 zM zK)
        ·refine ze<|zq ?_
         refine za (a1.Op == 10) ?_ ?_
         ·refine ze<|zq<|zq<|zq<|ze<|zq ?_
          exact zk (ZT x3 (IntKind.i64.wrap (x8 + 1)) (a1.A == x8) x54 x55 x56 b0 ox3 ox54 zM zK)
         ·refine ze<|zq ?_
          refine za (a1.Op == 11) ?_ ?_
          ·refine ze<|zq<|zq<|zq ?_
           refine za (decide (a1.A < x8)) ?_ ?_
           ·refine zq<|zi fun a4 ha4 => zp (.cptr (Z1k a4 .sh)) (et_ (Z2k (o := (shrO ox3)) (k := .i64) (n := 6) (e := ZC) (cs := Z2U) (fun _ => rfl) (fun _ => rfl) (by decide) ha4))<|zq<|zq<|zq ?_
            refine za (a4.Op == 2) ?_ ?_
            ·refine zq<|zi fun a5 ha5 => zp (.cptr (Z1k a5 .sh)) (et_ (Z2k (o := (shrO ox3)) (k := .i64) (n := 6) (e := ZC) (cs := Z2U) (fun _ => rfl) (fun _ => rfl) (by decide) ha5))<|zq<|zq<|zi fun a6 ha6 => zp (.cptr (Z1k a6 .sh)) (et_ (Z2k (o := (shrO ox3)) (k := .i64) (n := 6) (e := ZC) (cs := Z2U) (fun _ => rfl) (fun _ => rfl) (by decide) ha6))<|zq<|zq<|zq ?_
             exact zk (ZT x3 x8 (a6.Op == 3) x54 x55 x56 b0 ox3 ox54 zM zK)
            ·exact zk (ZT x3 x8 false x54 x55 x56 b0 ox3 ox54 zM zK)
           ·exact zk (ZT x3 x8 false x54 x55 x56 b0 ox3 ox54 zM zK)
          ·exact zk (ZT x3 x8 true x54 x55 x56 b0 ox3 ox54 zM zK)
       ·refine ze<|zq ?_
        refine za (a1.Op == 8) ?_ ?_
        ·refine ze<|zq<|zq<|zq<|zq ?_
         refine za (decide ((IntKind.i64.wrap (x56 + 1)) < a1.B)) ?_ ?_
         ·refine zq<|zq<|zp (iv (x3.length : Int)) (et_ (Z2S (P := PP) (t := 23) (d := 40) (by kernel_rfl) ZC (shrO ox3) x3))<|zq ?_
          refine za (decide (a1.B < (x3.length : Int))) ?_ ?_
          ·refine zq<|zq<|zq<|zi fun a7 ha7 => zp (.cptr (Z1k a7 .sh)) (et_ (Z2k (o := (shrO ox3)) (k := .i64) (n := 6) (e := ZC) (cs := Z2U) (fun _ => rfl) (fun _ => rfl) (by decide) ha7))<|zq<|zq<|zq ?_
           exact zk (ZT x3 x8 (a7.Op == 9) x54 x55 x56 b0 ox3 ox54 zM zK)
          ·exact zk (ZT x3 x8 false x54 x55 x56 b0 ox3 ox54 zM zK)
         ·exact zk (ZT x3 x8 false x54 x55 x56 b0 ox3 ox54 zM zK)
        ·refine ze<|zq ?_
         refine za (a1.Op == 10) ?_ ?_
         ·refine ze<|zq<|zq<|zq<|ze<|zq ?_
          exact zk (ZT x3 (IntKind.i64.wrap (x8 + 1)) (a1.A == x8) x54 x55 x56 b0 ox3 ox54 zM zK)
         ·refine ze<|zq ?_
          refine za (a1.Op == 11) ?_ ?_
          ·refine ze<|zq<|zq<|zq ?_
           refine za (decide (a1.A < x8)) ?_ ?_
           ·refine zq<|zi fun a8 ha8 => zp (.cptr (Z1k a8 .sh)) (et_ (Z2k (o := (shrO ox3)) (k := .i64) (n := 6) (e := ZC) (cs := Z2U) (fun _ => rfl) (fun _ => rfl) (by decide) ha8))<|zq<|zq<|zq ?_
            refine za (a8.Op == 2) ?_ ?_
            ·refine zq<|zi fun a9 ha9 => zp (.cptr (Z1k a9 .sh)) (et_ (Z2k (o := (shrO ox3)) (k := .i64) (n := 6) (e := ZC) (cs := Z2U) (fun _ => rfl) (fun _ => rfl) (by decide) ha9))<|zq<|zq<|zi fun a10 ha10 => zp (.cptr (Z1k a10 .sh)) (et_ (Z2k (o := (shrO ox3)) (k := .i64) (n := 6) (e := ZC) (cs := Z2U) (fun _ => rfl) (fun _ => rfl) (by decide) ha10))<|zq<|zq<|zq ?_
             exact zk (ZT x3 x8 (a10.Op == 3) x54 x55 x56 b0 ox3 ox54 zM zK)
            ·exact zk (ZT x3 x8 false x54 x55 x56 b0 ox3 ox54 zM zK)
           ·exact zk (ZT x3 x8 false x54 x55 x56 b0 ox3 ox54 zM zK)
          ·exact zk (ZT x3 x8 true x54 x55 x56 b0 ox3 ox54 zM zK)
def Z5r (x3 : List Zm) (x8 : Int) : Option Bool :=
 (Zcl x3).bind fun r1 =>
 some (r1 == x8)
theorem Zdm (x3 : List Zm) x8 ox3 : Sim ZW (Z5r x3 x8) (ZtK 0 (ZR ox3 (x3.map ZC)) (iv x8) []) := by
 unfold Z5r
 refine zf (ZAc ..)<|ze<|zi fun r1 hr1 => ?_
 obtain ⟨_, er1, _, rfl⟩ := Zjl x3 .sh r1 hr1
 refine zc [] (iv r1) [] er1<|zq ?_
 exact zr ((bv (r1 == x8)), []) ⟨_, rfl⟩
def Z4a (x3 : List Zm) (x8 : Int) (x54 : List Zm) (x55 x56 : Int) (b0 : ZZ) : Option Bool :=
 if (decide (x56 < x55)) = true then
 (Z5p x3 x8 x54 x55 x56 b0)
 else
 (Z5r x3 x8)
theorem Zdi (x3 : List Zm) x8 (x54 : List Zm) x55 x56 b0 ox3 ox54 zM zK : Sim ZW (Z4a x3 x8 x54 x55 x56 b0) (Zmg 0 (ZR ox3 (x3.map ZC)) (.ptr 0 0) (iv x8) (ZR ox54 (x54.map ZC)) (iv x55) (iv x56) [(ZP b0 zM zK)]) := by
 unfold Z4a
 refine zf (ZA6 ..)<|ze<|zq ?_
 refine za (decide (x56 < x55)) ?_ ?_
 ·exact zk (Zdk x3 x8 x54 x55 x56 b0 ox3 ox54 zM zK)
 ·exact zk (Zdm x3 x8 ox3)
theorem Z96 x3 x8 x54 x55 x56 b0 {r} (h : Z4a x3 x8 x54 x55 x56 b0 = some r) : Z4e x3 x8 x54 x55 x56 b0 = some r :=
 Z1l (fun _ _ ha hb => ru_ Z2L (ha .ex .ex .ex .ex) (hb .ex .ex .ex .ex)) (fun ox3 ox54 zM zK => Zdi x3 x8 x54 x55 x56 b0 ox3 ox54 zM zK r h)
def Z35 : Option Bool :=
 some false
theorem Z3G : Sim ZW Z35 (Zjk 0 []) := by
 unfold Z35
 refine zf (ZCC ..)<|ze ?_
 exact zr ((bv false), []) ⟨_, rfl⟩
def Z6X (x1 x4 : List Zm) : Option Bool :=
 (lget x1 1).bind fun a1 =>
 if (a1.Op == 3) = true then
 ((lget x1 1).bind fun a2 =>
 if (a2.A == 2) = true then
 ((lget x1 1).bind fun a3 =>
 if (a3.B == 4) = true then
 ((lget x1 3).bind fun a4 =>
 if (a4.Op == 2) = true then
 ((lget x1 3).bind fun a5 =>
 if (a5.A == 5) = true then
 ((lget x4 4).bind fun a6 =>
 if (a6.Op == 11) = true then
 ((lget x4 1).bind fun a7 =>
 if (a7.B == 6) = true then
 ((Zcl x4).bind fun r8 =>
 some (r8 == 1))
 else
 (some false))
 else
 (some false))
 else
 (some false))
 else
 (some false))
 else
 (some false))
 else
 (some false))
 else
 (some false)
theorem Zfp (x1 x4 : List Zm) ox1 ox4 : Sim ZW (Z6X x1 x4) (Zye 0 (ZR ox1 (x1.map ZC)) (ZR ox4 (x4.map ZC)) []) := by
 unfold Z6X
 refine zf (ZCD ..)<|ze<|zi fun a1 ha1 => zp (.cptr (Z1k a1 .sh)) (et_ (Z2k (o := (shrO ox1)) (k := .i64) (n := 6) (e := ZC) (cs := Z2U) (fun _ => rfl) (fun _ => rfl) (by decide) ha1))<|zq<|zq<|zq ?_
 refine za (a1.Op == 3) ?_ ?_
 ·refine zi fun a2 ha2 => zp (.cptr (Z1k a2 .sh)) (et_ (Z2k (o := (shrO ox1)) (k := .i64) (n := 6) (e := ZC) (cs := Z2U) (fun _ => rfl) (fun _ => rfl) (by decide) ha2))<|zq<|zq<|zq ?_
  refine za (a2.A == 2) ?_ ?_
  ·refine zi fun a3 ha3 => zp (.cptr (Z1k a3 .sh)) (et_ (Z2k (o := (shrO ox1)) (k := .i64) (n := 6) (e := ZC) (cs := Z2U) (fun _ => rfl) (fun _ => rfl) (by decide) ha3))<|zq<|zq<|zq ?_
   refine za (a3.B == 4) ?_ ?_
   ·refine zi fun a4 ha4 => zp (.cptr (Z1k a4 .sh)) (et_ (Z2k (o := (shrO ox1)) (k := .i64) (n := 6) (e := ZC) (cs := Z2U) (fun _ => rfl) (fun _ => rfl) (by decide) ha4))<|zq<|zq<|zq ?_
    refine za (a4.Op == 2) ?_ ?_
    ·refine zi fun a5 ha5 => zp (.cptr (Z1k a5 .sh)) (et_ (Z2k (o := (shrO ox1)) (k := .i64) (n := 6) (e := ZC) (cs := Z2U) (fun _ => rfl) (fun _ => rfl) (by decide) ha5))<|zq<|zq<|zq ?_
     refine za (a5.A == 5) ?_ ?_
     ·refine zi fun a6 ha6 => zp (.cptr (Z1k a6 .sh)) (et_ (Z2k (o := (shrO ox4)) (k := .i64) (n := 6) (e := ZC) (cs := Z2U) (fun _ => rfl) (fun _ => rfl) (by decide) ha6))<|zq<|zq<|zq ?_
      refine za (a6.Op == 11) ?_ ?_
      ·refine zi fun a7 ha7 => zp (.cptr (Z1k a7 .sh)) (et_ (Z2k (o := (shrO ox4)) (k := .i64) (n := 6) (e := ZC) (cs := Z2U) (fun _ => rfl) (fun _ => rfl) (by decide) ha7))<|zq<|zq<|zq ?_
       refine za (a7.B == 6) ?_ ?_
       ·refine zi fun r8 hr8 => ?_
        obtain ⟨_, er8, _, rfl⟩ := Zjl x4 .sh r8 hr8
        refine zc [] (iv r8) [] er8<|zq ?_
        exact zr ((bv (r8 == 1)), []) ⟨_, rfl⟩
       ·exact zr ((bv false), []) ⟨_, rfl⟩
      ·exact zr ((bv false), []) ⟨_, rfl⟩
     ·exact zr ((bv false), []) ⟨_, rfl⟩
    ·exact zr ((bv false), []) ⟨_, rfl⟩
   ·exact zr ((bv false), []) ⟨_, rfl⟩
  ·exact zr ((bv false), []) ⟨_, rfl⟩
 ·exact zr ((bv false), []) ⟨_, rfl⟩
def Z7Z : Option Bool :=
 (Z3b (ByteArray.mk #[97, 124, 98])).bind fun r1 =>
 (Z3b (ByteArray.mk #[97, 42])).bind fun r2 =>
 if (r1.2.1 != 0) = true then
 Z35
 else
 (if (r1.2.2 != 0) = true then
 Z35
 else
 (if (r2.2.1 != 0) = true then
 Z35
 else
 (if (r2.2.2 != 0) = true then
 Z35
 else
 (if ((r1.1.length : Int) != 7) = true then
 Z35
 else
 (if ((r2.1.length : Int) != 8) = true then
 Z35
 else
 (Z6X r1.1 r2.1))))))
theorem Zhg : Sim ZW Z7Z (EE 8 [] []) := by
 unfold Z7Z
 refine zf (ZHB ..)<|ze<|ze<|zi fun r1 hr1 => ?_
 obtain ⟨_, er1, _, rfl⟩ := Z9M (ByteArray.mk #[97, 124, 98]) r1 hr1
 refine zc [] (.p (.tup [(.lst .sh (r1.1.map ZC)), (.v (.int .i64 r1.2.1)), (.v (.int .i64 r1.2.2))])) [] er1<|zq<|zq<|zq<|ze<|zi fun r2 hr2 => ?_
 obtain ⟨_, er2, _, rfl⟩ := Z9M (ByteArray.mk #[97, 42]) r2 hr2
 refine zc [] (.p (.tup [(.lst .sh (r2.1.map ZC)), (.v (.int .i64 r2.2.1)), (.v (.int .i64 r2.2.2))])) [] er2<|zq<|zq<|zq<|ze<|zq ?_
 refine za (r1.2.1 != 0) ?_ ?_
 ·exact zk Z3G
 ·refine zq ?_
  refine za (r1.2.2 != 0) ?_ ?_
  ·exact zk Z3G
  ·refine zq ?_
   refine za (r2.2.1 != 0) ?_ ?_
   ·exact zk Z3G
   ·refine zq ?_
    refine za (r2.2.2 != 0) ?_ ?_
    ·exact zk Z3G
    ·refine zp (iv (r1.1.length : Int)) (et_ (Z2S (P := PP) (t := 23) (d := 40) (by kernel_rfl) ZC .sh r1.1))<|zq ?_
     refine za ((r1.1.length : Int) != 7) ?_ ?_
     ·exact zk Z3G
     ·refine zp (iv (r2.1.length : Int)) (et_ (Z2S (P := PP) (t := 23) (d := 40) (by kernel_rfl) ZC .sh r2.1))<|zq ?_
      refine za ((r2.1.length : Int) != 8) ?_ ?_
      ·exact zk Z3G
      ·exact zk (Zfp r1.1 r2.1 .sh .sh)
theorem ZhI {r} (h : Z7Z = some r) : Z85 = some r :=
 Z1l (fun _ _ ha hb => ru_ Z2L ha hb) (Zhg r h)
def Z7F (b0 : ZZ) : Option ((List Zm) × Int × Int) :=
 (Z9d b0).bind fun r1 =>
 some (r1.1, 0, r1.2)
theorem ZgD b0 zM zK : Sim Z74 (Z7F b0) (Zyh 0 (.ptr 0 0) [(ZP b0 zM zK)]) := by
 unfold Z7F
 refine zf (ZCE ..)<|ze<|zq<|zi fun r1 hr1 => ?_
 obtain ⟨_, er1, _, rfl⟩ := ZnR b0 .sh .sh r1 hr1
 refine zc [] (.p (.tup [(.lst .sh (r1.1.map ZC)), (.v (.int .i64 r1.2))])) [(ZP b0 zM zK)] er1<|zq<|zq<|ze ?_
 exact zr ((.p (.tup [(.lst .sh (r1.1.map ZC)), (.v (.int .i64 0)), (.v (.int .i64 r1.2))])), [(ZP b0 zM zK)]) ⟨_, rfl⟩
def Z75 (x0 : ByteArray) : Option ((List Zm) × Int × Int) :=
 (Zbs x0).bind fun r1 =>
 if (r1.2.Code != 0) = true then
 (some (([] : List Zm), r1.2.Code, 0))
 else
 (Z7F r1.1)
theorem Ziv x0 : Sim Z74 (Z75 x0) (EE 9 [(.p (.v (.string x0)))] []) := by
 unfold Z75
 refine zf (ZHD ..)<|ze<|ze<|zi fun r1 hr1 => ?_
 obtain ⟨_, er1, _, rfl⟩ := Ziw x0 r1 hr1
 refine zc [] (.p (.tup [(.agg (Z2v r1.1 .sh .sh)), (.agg (Z49 r1.2))])) [] er1<|zq<|zq<|zz (.ptr 0 0) [(ZP ZbK .nl .nl)]<|zz (.ptr 1 0) [(ZP ZbK .nl .nl), (Z1s ZdA)]<|zt [(ZP r1.1 .sh .sh), (Z1s ZdA)]<|zt [(ZP r1.1 .sh .sh), (Z1s r1.2)]<|ze<|zq<|zq<|zq ?_
 refine za (r1.2.Code != 0) ?_ ?_
 ·refine ze<|zq<|zq ?_
  exact zr ((.p (.tup [(.lst .sh []), (.v (.int .i64 r1.2.Code)), (.v (.int .i64 0))])), [(ZP r1.1 .sh .sh), (Z1s r1.2)]) ⟨_, rfl⟩
 ·exact zk (ZgD r1.1 .sh .sh)
theorem Zdd x0 {r} (h : Z75 x0 = some r) : Z3b x0 = some r :=
 Z1l (fun _ _ ha hb => ru_ Zjy ha hb) (Ziv x0 r h)
def Z4U (z37 : List Int) (z1e : Int) (z23 : List Zz) (zY z1g z14 z1i z1h z15 z1a : Int) (z1b : List Z8) (z13 : List Z9) (z1E : Bool) : Option (ZZ × Z17) :=
 Z7S z23 (z23.length : Int) 0 z37 z1e zY z1g z14 z1i z1h z15 z1a z1b z13 z1E
theorem Zbg b0 b1 z37 z2Z z1e z2C z23 zY z1g z14 z1i z1h z15 z1a z1b z13 z2q z1E zM zK z3D z1O z1y z1r (z2t : ZO zM = true) (z2g : ZO zK = true) (z3L : ZO z1O = true) : Sim Z46 (Z4U z37 z1e z23 zY z1g z14 z1i z1h z15 z1a z1b z13 z1E) (Zm4 0 (.ptr 0 0) (.ptr 1 0) (.ptr 2 0) (.ptr 3 0) [(ZP b0 zM zK), (Z1s b1), (ZN z37 z2Z z1e z2C z23 zY z1g z3D z1O), (Z9r z14 z1i z1h z15 z1a z1b z13 z2q z1E z1y z1r)]) := by
 unfold Z4U
 refine zf (Zzi ..)<|ze<|zq<|zq<|zq<|zp (iv (z23.length : Int)) (et_ (Z2S (P := PP) (t := 55) (d := 61) (by kernel_rfl) Z2X (shrO z1O) z23)) ?_
 exact zk (Zfx z23 (z23.length : Int) 0 b0 b1 z37 z2Z z1e z2C z23 zY z1g z14 z1i z1h z15 z1a z1b z13 z2q z1E (shrO z1O) zM zK z3D z1O z1y z1r z2t z2g z3L)
def Z9g (z37 : List Int) (z2Z z1e : Int) (z23 : List Zz) (zY z1g z14 z1i z1h z15 z1a : Int) (z1b : List Z8) (z13 : List Z9) (z1E : Bool) : Option (ZZ × Z17) :=
 (Z1f 20 z2Z z37 zY z1g).bind fun r1 =>
 Z4U z37 z1e z23 r1.2.1 r1.2.2 z14 z1i z1h z15 z1a z1b z13 z1E
theorem Zl8 b0 b1 z37 z2Z z1e z2C z23 zY z1g z14 z1i z1h z15 z1a z1b z13 z2q z1E zM zK z3D z1O z1y z1r (z2t : ZO zM = true) (z2g : ZO zK = true) (z3L : ZO z1O = true) : Sim Z46 (Z9g z37 z2Z z1e z23 zY z1g z14 z1i z1h z15 z1a z1b z13 z1E) (ZsS 0 (.ptr 0 0) (.ptr 1 0) (.ptr 2 0) (.ptr 3 0) [(ZP b0 zM zK), (Z1s b1), (ZN z37 z2Z z1e z2C z23 zY z1g z3D z1O), (Z9r z14 z1i z1h z15 z1a z1b z13 z2q z1E z1y z1r)]) := by
 unfold Z9g
 refine zf (Zzh ..)<|ze<|zq<|zq<|zq<|zi fun r1 hr1 => ?_
 obtain ⟨_, er1, _, rfl⟩ := Z1j 20 z2Z z37 z2Z z1e z2C z23 zY z1g z3D z1O z3L r1 hr1
 refine zc [2] (.p (.tup [])) [(ZP b0 zM zK), (Z1s b1), (ZN z37 r1.1 z1e z2C z23 r1.2.1 r1.2.2 z3D z1O), (Z9r z14 z1i z1h z15 z1a z1b z13 z2q z1E z1y z1r)] er1 ?_
 exact zk (Zbg b0 b1 z37 r1.1 z1e z2C z23 r1.2.1 r1.2.2 z14 z1i z1h z15 z1a z1b z13 z2q z1E zM zK z3D z1O z1y z1r z2t z2g z3L)
def Zb9 (x0 : ByteArray) : Option (ZZ × Z17) :=
 (Z1J (ByteArray.mk #[40, 63, 105, 41]) (Z4c x0) 0).bind fun r1 =>
 (Z4f (Z4c x0) r1.2 0 0 ([] : List Zz) 0 0).bind fun r2 =>
 if (r2.2.2.2.2.2.1 == 0) = true then
 (if (decide (r2.2.1 < ((Z4c x0).length : Int))) = true then
 (Z9g (Z4c x0) r2.2.1 r2.2.2.1 r2.2.2.2.2.1 r2.2.2.2.2.2.1 r2.2.2.2.2.2.2 r2.1.Kind r2.1.Lo r2.1.Hi r2.1.Mode r2.1.Ref r2.1.Set r2.1.Kids r1.1)
 else
 (Z4U (Z4c x0) r2.2.2.1 r2.2.2.2.2.1 r2.2.2.2.2.2.1 r2.2.2.2.2.2.2 r2.1.Kind r2.1.Lo r2.1.Hi r2.1.Mode r2.1.Ref r2.1.Set r2.1.Kids r1.1))
 else
 (Z4U (Z4c x0) r2.2.2.1 r2.2.2.2.2.1 r2.2.2.2.2.2.1 r2.2.2.2.2.2.2 r2.1.Kind r2.1.Lo r2.1.Hi r2.1.Mode r2.1.Ref r2.1.Set r2.1.Kids r1.1)
theorem Zl7 x0 b0 b1 zM zK (z2t : ZO zM = true) (z2g : ZO zK = true) : Sim Z46 (Zb9 x0) (ZsR 0 (.p (.v (.string x0))) (.ptr 0 0) (.ptr 1 0) [(ZP b0 zM zK), (Z1s b1)]) := by
 unfold Zb9
 refine zf (Zzg ..)<|ze<|zp (ZR .sh ((Z4c x0).map (eI .u8))) (et_ (ZDl (P := PP) (s := 9) (d := 54) (by kernel_rfl) (by kernel_rfl) x0))<|zq<|zx (.ptr 2 0) [(ZP b0 zM zK), (Z1s b1), (Z3Q (Z1C.mk (Z4c x0) 0 0 0 ([] : List Zz) ZdA) .sh .nl)]<|ze<|zi fun r1 hr1 => ?_
 obtain ⟨_, er1, _, rfl⟩ := Z1U (ByteArray.mk #[40, 63, 105, 41]) (Z4c x0) 0 0 0 ([] : List Zz) 0 0 .sh .nl rfl r1 hr1
 refine zc [2] (bv r1.1) [(ZP b0 zM zK), (Z1s b1), (Z3Q (Z1C.mk (Z4c x0) r1.2 0 0 ([] : List Zz) ZdA) .sh .nl)] er1<|zq<|zz (.ptr 3 0) [(ZP b0 zM zK), (Z1s b1), (Z3Q (Z1C.mk (Z4c x0) r1.2 0 0 ([] : List Zz) ZdA) .sh .nl), (ZP ZbK .nl .nl)]<|zt [(ZP b0 zM zK), (Z1s b1), (Z3Q (Z1C.mk (Z4c x0) r1.2 0 0 ([] : List Zz) ZdA) .sh .nl), (ZP (ZZ.mk Z1D 0 r1.1) .nl .nl)]<|ze<|zi fun r2 hr2 => ?_
 obtain ⟨_, er2, zkI, _, zoA, rfl⟩ := Zev (Z4c x0) r1.2 0 0 ([] : List Zz) 0 0 .sh .nl rfl r2 hr2
 refine zc [2] (pA_ (ZI r2.1 .sh .sh)) [(ZP b0 zM zK), (Z1s b1), (ZN (Z4c x0) r2.2.1 r2.2.2.1 r2.2.2.2.1 r2.2.2.2.2.1 r2.2.2.2.2.2.1 r2.2.2.2.2.2.2 .sh zkI), (ZP (ZZ.mk Z1D 0 r1.1) .nl .nl)] er2<|zq<|zt [(ZP b0 zM zK), (Z1s b1), (ZN (Z4c x0) r2.2.1 r2.2.2.1 r2.2.2.2.1 r2.2.2.2.2.1 r2.2.2.2.2.2.1 r2.2.2.2.2.2.2 .sh zkI), (Z9r r2.1.Kind r2.1.Lo r2.1.Hi r2.1.Mode r2.1.Ref r2.1.Set r2.1.Kids 0 r1.1 .sh .sh)]<|ze<|zq<|zq<|zq<|zq<|zq ?_
 refine za (r2.2.2.2.2.2.1 == 0) ?_ ?_
 ·refine zq<|zq<|zq<|zq<|zq<|zq<|zp (iv ((Z4c x0).length : Int)) (et_ (Z2S (P := PP) (t := 54) (d := 5) (by kernel_rfl) (eI .u8) .sh (Z4c x0)))<|zq ?_
  refine za (decide (r2.2.1 < ((Z4c x0).length : Int))) ?_ ?_
  ·exact zk (Zl8 b0 b1 (Z4c x0) r2.2.1 r2.2.2.1 r2.2.2.2.1 r2.2.2.2.2.1 r2.2.2.2.2.2.1 r2.2.2.2.2.2.2 r2.1.Kind r2.1.Lo r2.1.Hi r2.1.Mode r2.1.Ref r2.1.Set r2.1.Kids 0 r1.1 zM zK .sh zkI .sh .sh z2t z2g zoA)
  ·exact zk (Zbg b0 b1 (Z4c x0) r2.2.1 r2.2.2.1 r2.2.2.2.1 r2.2.2.2.2.1 r2.2.2.2.2.2.1 r2.2.2.2.2.2.2 r2.1.Kind r2.1.Lo r2.1.Hi r2.1.Mode r2.1.Ref r2.1.Set r2.1.Kids 0 r1.1 zM zK .sh zkI .sh .sh z2t z2g zoA)
 ·exact zk (Zbg b0 b1 (Z4c x0) r2.2.1 r2.2.2.1 r2.2.2.2.1 r2.2.2.2.2.1 r2.2.2.2.2.2.1 r2.2.2.2.2.2.2 r2.1.Kind r2.1.Lo r2.1.Hi r2.1.Mode r2.1.Ref r2.1.Set r2.1.Kids 0 r1.1 zM zK .sh zkI .sh .sh z2t z2g zoA)
def ZdX (x0 : ByteArray) : Option (ZZ × Z17) :=
 if (decide (256 < (x0.size : Int))) = true then
 (some ((ZZ.mk (Z9.mk 0 0 0 0 0 ([] : List Z8) ([] : List Z9)) 0 false), (Z17.mk 12 0)))
 else
 (Zb9 x0)
theorem ZnO x0 : Sim Z46 (ZdX x0) (EE 10 [(.p (.v (.string x0)))] []) := by
 unfold ZdX
 refine zf (ZEL ..)<|ze<|zz (.ptr 0 0) [(ZP ZbK .nl .nl)]<|zz (.ptr 1 0) [(ZP ZbK .nl .nl), (Z1s ZdA)]<|ze<|zq<|zq ?_
 refine za (decide (256 < (x0.size : Int))) ?_ ?_
 ·refine ze<|zq<|zq<|zt [(ZP ZbK .nl .nl), (Z1s ZdA)]<|zt [(ZP ZbK .nl .nl), (Z1s (Z17.mk 12 0))] ?_
  exact zr ((.p (.tup [(.agg (Z2v ZbK .sh .sh)), (.agg (Z49 (Z17.mk 12 0)))])), [(ZP ZbK .nl .nl), (Z1s (Z17.mk 12 0))]) ⟨_, rfl⟩
 ·exact zk (Zl7 x0 ZbK ZdA .nl .nl rfl rfl)
theorem Zoo x0 {r} (h : ZdX x0 = some r) : Zbs x0 = some r :=
 Z1l (fun _ _ ha hb => ru_ Zji ha hb) (ZnO x0 r h)
def Z5i (x50 : List Zz) (x51 x52 : Int) (z37 : List Int) (z1e zY z1g z14 z1i z1h z15 z1a : Int) (z1b : List Z8) (z13 : List Z9) (z1E : Bool) : Option (ZZ × Z17) :=
 Z7S x50 x51 (IntKind.i64.wrap (x52 + 1)) z37 z1e zY z1g z14 z1i z1h z15 z1a z1b z13 z1E
theorem Zet (x50 : List Zz) x51 x52 b0 b1 z37 z2Z z1e z2C z23 zY z1g z14 z1i z1h z15 z1a z1b z13 z2q z1E ox50 zM zK z3D z1O z1y z1r (z2t : ZO zM = true) (z2g : ZO zK = true) (z3L : ZO z1O = true) : Sim Z46 (Z5i x50 x51 x52 z37 z1e zY z1g z14 z1i z1h z15 z1a z1b z13 z1E) (Znp 0 (.ptr 0 0) (.ptr 1 0) (.ptr 2 0) (.ptr 3 0) (ZR ox50 (x50.map Z2X)) (iv x51) (iv x52) [(ZP b0 zM zK), (Z1s b1), (ZN z37 z2Z z1e z2C z23 zY z1g z3D z1O), (Z9r z14 z1i z1h z15 z1a z1b z13 z2q z1E z1y z1r)]) := by
 unfold Z5i
 refine zf (Zxh ..)<|ze<|zq ?_
 exact zk (Zfx x50 x51 (IntKind.i64.wrap (x52 + 1)) b0 b1 z37 z2Z z1e z2C z23 zY z1g z14 z1i z1h z15 z1a z1b z13 z2q z1E ox50 zM zK z3D z1O z1y z1r z2t z2g z3L)
def Z8G (x50 : List Zz) (x51 x52 : Int) (z37 : List Int) (z1e zY z1g z14 z1i z1h z15 z1a : Int) (z1b : List Z8) (z13 : List Z9) (z1E : Bool) : Option (ZZ × Z17) :=
 (lget x50 x52).bind fun a1 =>
 if (decide (z1e < a1.group)) = true then
 ((Z1f 26 a1.at_ z37 zY z1g).bind fun r2 =>
 Z5i x50 x51 x52 z37 z1e r2.2.1 r2.2.2 z14 z1i z1h z15 z1a z1b z13 z1E)
 else
 (Z5i x50 x51 x52 z37 z1e zY z1g z14 z1i z1h z15 z1a z1b z13 z1E)
theorem Zkm (x50 : List Zz) x51 x52 b0 b1 z37 z2Z z1e z2C z23 zY z1g z14 z1i z1h z15 z1a z1b z13 z2q z1E ox50 zM zK z3D z1O z1y z1r (z2t : ZO zM = true) (z2g : ZO zK = true) (z3L : ZO z1O = true) : Sim Z46 (Z8G x50 x51 x52 z37 z1e zY z1g z14 z1i z1h z15 z1a z1b z13 z1E) (Zr4 0 (.ptr 0 0) (.ptr 1 0) (.ptr 2 0) (.ptr 3 0) (ZR ox50 (x50.map Z2X)) (iv x51) (iv x52) [(ZP b0 zM zK), (Z1s b1), (ZN z37 z2Z z1e z2C z23 zY z1g z3D z1O), (Z9r z14 z1i z1h z15 z1a z1b z13 z2q z1E z1y z1r)]) := by
 unfold Z8G
 refine zf (Zxg ..)<|ze<|zi fun a1 ha1 => zp (.cptr (Zef a1)) (et_ (Z2k (o := ox50) (k := .i64) (n := 2) (e := Z2X) (cs := Zbe) (fun _ => rfl) (fun _ => rfl) (by decide) ha1))<|zq<|zz (.ptr 4 0) [(ZP b0 zM zK), (Z1s b1), (ZN z37 z2Z z1e z2C z23 zY z1g z3D z1O), (Z9r z14 z1i z1h z15 z1a z1b z13 z2q z1E z1y z1r), (Zen (Zz.mk 0 0))]<|zt [(ZP b0 zM zK), (Z1s b1), (ZN z37 z2Z z1e z2C z23 zY z1g z3D z1O), (Z9r z14 z1i z1h z15 z1a z1b z13 z2q z1E z1y z1r), (Zen a1)]<|ze<|zq<|zq<|zq<|zq<|zq<|zq ?_
 refine za (decide (z1e < a1.group)) ?_ ?_
 ·refine ze<|zq<|zq<|zi fun r2 hr2 => ?_
  obtain ⟨_, er2, _, rfl⟩ := Z1j 26 a1.at_ z37 z2Z z1e z2C z23 zY z1g z3D z1O z3L r2 hr2
  refine zc [2] (.p (.tup [])) [(ZP b0 zM zK), (Z1s b1), (ZN z37 r2.1 z1e z2C z23 r2.2.1 r2.2.2 z3D z1O), (Z9r z14 z1i z1h z15 z1a z1b z13 z2q z1E z1y z1r), (Zen a1)] er2 ?_
  exact zk (Zet x50 x51 x52 b0 b1 z37 r2.1 z1e z2C z23 r2.2.1 r2.2.2 z14 z1i z1h z15 z1a z1b z13 z2q z1E ox50 zM zK z3D z1O z1y z1r z2t z2g z3L)
 ·exact zk (Zet x50 x51 x52 b0 b1 z37 z2Z z1e z2C z23 zY z1g z14 z1i z1h z15 z1a z1b z13 z2q z1E ox50 zM zK z3D z1O z1y z1r z2t z2g z3L)
def Zdf (z1e z14 z1i z1h z15 z1a : Int) (z1b : List Z8) (z13 : List Z9) (z1E : Bool) : Option (ZZ × Z17) :=
 some ((ZZ.mk (Z9.mk z14 z1i z1h z15 z1a z1b z13) z1e z1E), (Z17.mk 0 0))
theorem Zko b0 b1 z37 z2Z z1e z2C z23 zY z1g z14 z1i z1h z15 z1a z1b z13 z2q z1E zM zK z3D z1O z1y z1r (z2t : ZO zM = true) (z2g : ZO zK = true) (z3L : ZO z1O = true) : Sim Z46 (Zdf z1e z14 z1i z1h z15 z1a z1b z13 z1E) (Zr6 0 (.ptr 0 0) (.ptr 1 0) (.ptr 2 0) (.ptr 3 0) [(ZP b0 zM zK), (Z1s b1), (ZN z37 z2Z z1e z2C z23 zY z1g z3D z1O), (Z9r z14 z1i z1h z15 z1a z1b z13 z2q z1E z1y z1r)]) := by
 unfold Zdf
 refine zf (Zxj ..)<|ze<|zq<|zq<|zq<|zq<|zt [(ZP b0 zM zK), (Z1s b1), (ZN z37 z2Z z1e z2C z23 zY z1g z3D z1O), (Z9r z14 z1i z1h z15 z1a z1b z13 z1e z1E z1y z1r)]<|ze<|zq<|zq<|zt [(Z9r z14 z1i z1h z15 z1a z1b z13 z1e z1E (shrO z1y) (shrO z1r)), (Z1s b1), (ZN z37 z2Z z1e z2C z23 zY z1g z3D z1O), (Z9r z14 z1i z1h z15 z1a z1b z13 z1e z1E z1y z1r)]<|zt [(Z9r z14 z1i z1h z15 z1a z1b z13 z1e z1E (shrO z1y) (shrO z1r)), (Z1s ZdA), (ZN z37 z2Z z1e z2C z23 zY z1g z3D z1O), (Z9r z14 z1i z1h z15 z1a z1b z13 z1e z1E z1y z1r)] ?_
 exact zr ((.p (.tup [(.agg (Z2v (ZZ.mk (Z9.mk z14 z1i z1h z15 z1a z1b z13) z1e z1E) .sh .sh)), (.agg (Z49 ZdA))])), [(Z9r z14 z1i z1h z15 z1a z1b z13 z1e z1E (shrO z1y) (shrO z1r)), (Z1s ZdA), (ZN z37 z2Z z1e z2C z23 zY z1g z3D z1O), (Z9r z14 z1i z1h z15 z1a z1b z13 z1e z1E z1y z1r)]) ⟨_, rfl⟩
def Z8H (z1e zY z1g z14 z1i z1h z15 z1a : Int) (z1b : List Z8) (z13 : List Z9) (z1E : Bool) : Option (ZZ × Z17) :=
 if (zY != 0) = true then
 (some ((ZZ.mk (Z9.mk 0 0 0 0 0 ([] : List Z8) ([] : List Z9)) 0 false), (Z17.mk zY z1g)))
 else
 (Zdf z1e z14 z1i z1h z15 z1a z1b z13 z1E)
theorem Zkn b0 b1 z37 z2Z z1e z2C z23 zY z1g z14 z1i z1h z15 z1a z1b z13 z2q z1E zM zK z3D z1O z1y z1r (z2t : ZO zM = true) (z2g : ZO zK = true) (z3L : ZO z1O = true) : Sim Z46 (Z8H z1e zY z1g z14 z1i z1h z15 z1a z1b z13 z1E) (Zr5 0 (.ptr 0 0) (.ptr 1 0) (.ptr 2 0) (.ptr 3 0) [(ZP b0 zM zK), (Z1s b1), (ZN z37 z2Z z1e z2C z23 zY z1g z3D z1O), (Z9r z14 z1i z1h z15 z1a z1b z13 z2q z1E z1y z1r)]) := by
 unfold Z8H
 refine zf (Zxi ..)<|ze<|zq<|zq<|zq<|zq<|zq ?_
 refine za (zY != 0) ?_ ?_
 ·refine ze<|zq<|zq<|zq<|zq<|zt [(ZP ZbK .nl .nl), (Z1s b1), (ZN z37 z2Z z1e z2C z23 zY z1g z3D z1O), (Z9r z14 z1i z1h z15 z1a z1b z13 z2q z1E z1y z1r)]<|zt [(ZP ZbK .nl .nl), (Z1s (Z17.mk zY z1g)), (ZN z37 z2Z z1e z2C z23 zY z1g z3D z1O), (Z9r z14 z1i z1h z15 z1a z1b z13 z2q z1E z1y z1r)]<|zg ?_
  exact zr ((.p (.tup [(.agg (Z2v ZbK .sh .sh)), (.agg (Z49 (Z17.mk zY z1g)))])), [(ZP ZbK .nl .nl), (Z1s (Z17.mk zY z1g)), (ZN z37 z2Z z1e z2C z23 zY z1g z3D z1O), (Z9r z14 z1i z1h z15 z1a z1b z13 z2q z1E z1y z1r)]) ⟨_, rfl⟩
 ·exact zk (Zko b0 b1 z37 z2Z z1e z2C z23 zY z1g z14 z1i z1h z15 z1a z1b z13 z2q z1E zM zK z3D z1O z1y z1r z2t z2g z3L)
def Z6z (x50 : List Zz) (x51 x52 : Int) (z37 : List Int) (z1e zY z1g z14 z1i z1h z15 z1a : Int) (z1b : List Z8) (z13 : List Z9) (z1E : Bool) : Option (ZZ × Z17) :=
 if (decide (x52 < x51)) = true then
 (Z8G x50 x51 x52 z37 z1e zY z1g z14 z1i z1h z15 z1a z1b z13 z1E)
 else
 (Z8H z1e zY z1g z14 z1i z1h z15 z1a z1b z13 z1E)
theorem Zl6 (x50 : List Zz) x51 x52 b0 b1 z37 z2Z z1e z2C z23 zY z1g z14 z1i z1h z15 z1a z1b z13 z2q z1E ox50 zM zK z3D z1O z1y z1r (z2t : ZO zM = true) (z2g : ZO zK = true) (z3L : ZO z1O = true) : Sim Z46 (Z6z x50 x51 x52 z37 z1e zY z1g z14 z1i z1h z15 z1a z1b z13 z1E) (Zm3 0 (.ptr 0 0) (.ptr 1 0) (.ptr 2 0) (.ptr 3 0) (ZR ox50 (x50.map Z2X)) (iv x51) (iv x52) [(ZP b0 zM zK), (Z1s b1), (ZN z37 z2Z z1e z2C z23 zY z1g z3D z1O), (Z9r z14 z1i z1h z15 z1a z1b z13 z2q z1E z1y z1r)]) := by
 unfold Z6z
 refine zf (Zzf ..)<|ze<|zq ?_
 refine za (decide (x52 < x51)) ?_ ?_
 ·exact zk (Zkm x50 x51 x52 b0 b1 z37 z2Z z1e z2C z23 zY z1g z14 z1i z1h z15 z1a z1b z13 z2q z1E ox50 zM zK z3D z1O z1y z1r z2t z2g z3L)
 ·exact zk (Zkn b0 b1 z37 z2Z z1e z2C z23 zY z1g z14 z1i z1h z15 z1a z1b z13 z2q z1E zM zK z3D z1O z1y z1r z2t z2g z3L)
theorem Z9F x50 x51 x52 z37 z1e zY z1g z14 z1i z1h z15 z1a z1b z13 z1E {r} (h : Z6z x50 x51 x52 z37 z1e zY z1g z14 z1i z1h z15 z1a z1b z13 z1E = some r) : Z7S x50 x51 x52 z37 z1e zY z1g z14 z1i z1h z15 z1a z1b z13 z1E = some r :=
 Z1l (fun _ _ ha hb => ru_ Zji (ha default default default default default default .ex .ex .ex .ex .ex .ex .ex rfl rfl rfl) (hb default default default default default default .ex .ex .ex .ex .ex .ex .ex rfl rfl rfl)) (fun b0 b1 z2Z z2C z23 z2q ox50 zM zK z3D z1O z1y z1r z2t z2g z3L => Zl6 x50 x51 x52 b0 b1 z37 z2Z z1e z2C z23 zY z1g z14 z1i z1h z15 z1a z1b z13 z2q z1E ox50 zM zK z3D z1O z1y z1r z2t z2g z3L r h)
def Z82 (zn : Int) : Option (Bool × Int) :=
 some (false, zn)
theorem Zbw zl zn z7 zh zj z2 z6 zu zd (zy : ZO zd = true) : Sim (Z6r zl z7 zh zj z2 z6 zu zd) (Z82 zn) (Zpm 1 [(ZN zl zn z7 zh zj z2 z6 zu zd)]) := by
 unfold Z82
 refine zf (ZzH ..)<|ze ?_
 exact zr ((bv false), [(ZN zl zn z7 zh zj z2 z6 zu zd)]) ⟨_, rfl⟩
def Z83 (x1 : ByteArray) (zn : Int) : Option (Bool × Int) :=
 some (true, (IntKind.i64.wrap (zn + (x1.size : Int))))
theorem Zhj x1 zl zn z7 zh zj z2 z6 zu zd (zy : ZO zd = true) : Sim (Z6r zl z7 zh zj z2 z6 zu zd) (Z83 x1 zn) (Ztk 1 (.ptr 0 0) (.p (.v (.string x1))) [(ZN zl zn z7 zh zj z2 z6 zu zd)]) := by
 unfold Z83
 refine zf (ZzI ..)<|ze<|zq<|zq<|zq<|zq<|zq<|zq<|zq<|zt [(ZN zl (IntKind.i64.wrap (zn + (x1.size : Int))) z7 zh zj z2 z6 zu zd)]<|ze ?_
 exact zr ((bv true), [(ZN zl (IntKind.i64.wrap (zn + (x1.size : Int))) z7 zh zj z2 z6 zu zd)]) ⟨_, rfl⟩
def Z9E (x1 : ByteArray) (zl : List Int) (zn : Int) : Option (Bool × Int) :=
 if ((decide ((IntKind.i64.wrap ((zl.length : Int) - zn)) < (x1.size : Int)))) = true then
 (Z82 zn)
 else
 ((lsl zl zn (IntKind.i64.wrap (zn + (x1.size : Int)))).bind fun a1 =>
 if (!(seq (strI a1) x1)) = true then
 (Z82 zn)
 else
 (Z83 x1 zn))
theorem Zjg x1 zl zn z7 zh zj z2 z6 zu zd (zy : ZO zd = true) : Sim (Z6r zl z7 zh zj z2 z6 zu zd) (Z9E x1 zl zn) (EE 19 [(.ptr 0 0), (.p (.v (.string x1)))] [(ZN zl zn z7 zh zj z2 z6 zu zd)]) := by
 unfold Z9E
 refine zf (ZF7 ..)<|ze<|ze<|zq<|zq<|zq<|zp (iv (zl.length : Int)) (et_ (Z2S (P := PP) (t := 54) (d := 5) (by kernel_rfl) (eI .u8) (shrO zu) zl))<|zq<|zq<|zq<|zq<|zq<|zq ?_
 refine za ((decide ((IntKind.i64.wrap ((zl.length : Int) - zn)) < (x1.size : Int)))) ?_ ?_
 ·exact zk (Zbw zl zn z7 zh zj z2 z6 zu zd zy)
 ·refine zq<|zq<|zq<|zq<|zq<|zq<|zq<|zq<|zq<|zq<|zq<|zi fun a1 ha1 => zp (ZR (slO (shrO zu)) (a1.map (eI .u8))) (Eq.trans (by kernel_rfl) <| ZvR (n := 1) (o := (shrO zu)) (lo := (some (iv zn))) (hi := (some (iv (IntKind.i64.wrap (zn + (x1.size : Int)))))) (e := (eI .u8)) (fun _ => rfl) (by decide) (by kernel_rfl) (by kernel_rfl) ha1)<|zp (.p (.v (.string (strI a1)))) (et_ (ZDm (P := PP) (s := 54) (d := 9) (by kernel_rfl) (slO (shrO zu)) a1))<|zq ?_
  refine za (!(seq (strI a1) x1)) ?_ ?_
  ·exact zk (Zbw zl zn z7 zh zj z2 z6 zu zd zy)
  ·exact zk (Zhj x1 zl zn z7 zh zj z2 z6 zu zd zy)
theorem ZjN x1 zl zn {r} (h : Z9E x1 zl zn = some r) : Z1J x1 zl zn = some r :=
 Z1l (fun _ _ ha hb => ru_ (ZjY _ _ _ _ _ _ _ _) (ha default default default default default .ex .ex rfl) (hb default default default default default .ex .ex rfl)) (fun z7 zh zj z2 z6 zu zd zy => Zjg x1 zl zn z7 zh zj z2 z6 zu zd zy r h)
def Z6I (zl : List Int) (zn z7 zh : Int) (zj : List Zz) (z2 z6 : Int) : Option (Z9 × Int × Int × Int × (List Zz) × Int × Int) :=
 (Z6Q zl zn z7 zh zj z2 z6).bind fun r1 =>
 Z5H ([r1.1] : List Z9) zl r1.2.1 r1.2.2.1 r1.2.2.2.1 r1.2.2.2.2.1 r1.2.2.2.2.2.1 r1.2.2.2.2.2.2
theorem ZjH zl zn z7 zh zj z2 z6 zu zd (zy : ZO zd = true) : Sim (Z2y zl zu) (Z6I zl zn z7 zh zj z2 z6) (EE 20 [(.ptr 0 0)] [(ZN zl zn z7 zh zj z2 z6 zu zd)]) := by
 unfold Z6I
 refine zf (ZF9 ..)<|ze<|zz (.ptr 1 0) [(ZN zl zn z7 zh zj z2 z6 zu zd), (Zk Z1D .nl .nl)]<|ze<|zi fun r1 hr1 => ?_
 obtain ⟨_, er1, z5g, _, z9p, rfl⟩ := Zex zl zn z7 zh zj z2 z6 zu zd zy r1 hr1
 refine zc [0] (pA_ (ZI r1.1 .sh .sh)) [(ZN zl r1.2.1 r1.2.2.1 r1.2.2.2.1 r1.2.2.2.2.1 r1.2.2.2.2.2.1 r1.2.2.2.2.2.2 zu z5g), (Zk Z1D .nl .nl)] er1<|zp (ZR .ex (([r1.1] : List Z9).map ZJ)) (Eq.trans (b := some (ZR .ex [.agg (Z22 r1.1)])) (by kernel_rfl) (by simp only [Z9w, Zfh, Z4W])) ?_
 exact zk (Zcd ([r1.1] : List Z9) zl r1.2.1 r1.2.2.1 r1.2.2.2.1 r1.2.2.2.2.1 r1.2.2.2.2.2.1 r1.2.2.2.2.2.2 Z1D .ex zu z5g .nl .nl rfl z9p rfl rfl)
theorem Zeu zl zn z7 zh zj z2 z6 {r} (h : Z6I zl zn z7 zh zj z2 z6 = some r) : Z4f zl zn z7 zh zj z2 z6 = some r :=
 Z1l (fun _ _ ha hb => ru_ (Z8U _ _) (ha .ex .ex rfl) (hb .ex .ex rfl)) (fun zu zd zy => ZjH zl zn z7 zh zj z2 z6 zu zd zy r h)
def Z8q (x3 : List Z9) (zl : List Int) (zn z7 zh : Int) (zj : List Zz) (z2 z6 : Int) : Option (Z9 × Int × Int × Int × (List Zz) × Int × Int) :=
 (Z6Q zl zn z7 zh zj z2 z6).bind fun r1 =>
 (lapp x3 ([r1.1] : List Z9)).bind fun a2 =>
 Z5H a2 zl r1.2.1 r1.2.2.1 r1.2.2.2.1 r1.2.2.2.2.1 r1.2.2.2.2.2.1 r1.2.2.2.2.2.2
theorem ZhL (x3 : List Z9) zl zn z7 zh zj z2 z6 b1 ox3 zu zd zH zE (hox3 : ZO ox3 = true) (zy : ZO zd = true) (z19 : ZO zH = true) (z11 : ZO zE = true) : Sim (Z2y zl zu) (Z8q x3 zl zn z7 zh zj z2 z6) (Zto 1 (.ptr 0 0) (.ptr 1 0) (ZR ox3 (x3.map ZJ)) [(ZN zl zn z7 zh zj z2 z6 zu zd), (Zk b1 zH zE)]) := by
 unfold Z8q
 refine zf (ZzK ..)<|ze<|zi fun r1 hr1 => ?_
 obtain ⟨_, er1, z5g, _, z9p, rfl⟩ := Zex zl zn z7 zh zj z2 z6 zu zd zy r1 hr1
 refine zc [0] (pA_ (ZI r1.1 .sh .sh)) [(ZN zl r1.2.1 r1.2.2.1 r1.2.2.2.1 r1.2.2.2.2.1 r1.2.2.2.2.2.1 r1.2.2.2.2.2.2 zu z5g), (Zk b1 zH zE)] er1<|zp (ZR .ex (([r1.1] : List Z9).map ZJ)) (Eq.trans (b := some (ZR .ex [.agg (Z22 r1.1)])) (by kernel_rfl) (by simp only [Z9w, Zfh, Z4W]))<|zi fun a2 ha2 => zp (ZR .un (a2.map ZJ)) (Eq.trans (by kernel_rfl) <| ZeH (n := 7) (o := ox3) (o' := .ex) (e := ZJ) (ys := ([r1.1] : List Z9)) Zg3 (by decide) hox3 ha2) ?_
 exact zk (Zcd a2 zl r1.2.1 r1.2.2.1 r1.2.2.2.1 r1.2.2.2.2.1 r1.2.2.2.2.2.1 r1.2.2.2.2.2.2 b1 .un zu z5g zH zE rfl z9p z19 z11)
def Z6J (x3 : List Z9) (zn z7 zh : Int) (zj : List Zz) (z2 z6 : Int) : Option (Z9 × Int × Int × Int × (List Zz) × Int × Int) :=
 (ZaO 3 x3).bind fun r1 =>
 some (r1, zn, z7, zh, zj, z2, z6)
theorem ZhM (x3 : List Z9) zl zn z7 zh zj z2 z6 b1 ox3 zu zd zH zE (hox3 : ZO ox3 = true) (zy : ZO zd = true) (z19 : ZO zH = true) (z11 : ZO zE = true) : Sim (Z2y zl zu) (Z6J x3 zn z7 zh zj z2 z6) (Ztp 1 (.ptr 1 0) (ZR ox3 (x3.map ZJ)) [(ZN zl zn z7 zh zj z2 z6 zu zd), (Zk b1 zH zE)]) := by
 unfold Z6J
 refine zf (ZzL ..)<|ze<|zi fun r1 hr1 => ?_
 obtain ⟨_, er1, _, rfl⟩ := Zhx 3 x3 .sh r1 hr1
 refine zc [] (pA_ (ZI r1 .sh .sh)) [(ZN zl zn z7 zh zj z2 z6 zu zd), (Zk b1 zH zE)] er1<|zt [(ZN zl zn z7 zh zj z2 z6 zu zd), (Zk r1 .sh .sh)] ?_
 exact zr ((pA_ (ZI r1 .sh .sh)), [(ZN zl zn z7 zh zj z2 z6 zu zd), (Zk r1 .sh .sh)]) ⟨zd, _, zy, rfl⟩
def Z5D (x3 : List Z9) (zl : List Int) (zn z7 zh : Int) (zj : List Zz) (z2 z6 : Int) : Option (Z9 × Int × Int × Int × (List Zz) × Int × Int) :=
 (Z1J (ByteArray.mk #[124]) zl zn).bind fun r1 =>
 if r1.1 = true then
 (Z8q x3 zl r1.2 z7 zh zj z2 z6)
 else
 (Z6J x3 r1.2 z7 zh zj z2 z6)
theorem ZhK (x3 : List Z9) zl zn z7 zh zj z2 z6 b1 ox3 zu zd zH zE (hox3 : ZO ox3 = true) (zy : ZO zd = true) (z19 : ZO zH = true) (z11 : ZO zE = true) : Sim (Z2y zl zu) (Z5D x3 zl zn z7 zh zj z2 z6) (Zm9 1 (.ptr 0 0) (.ptr 1 0) (ZR ox3 (x3.map ZJ)) [(ZN zl zn z7 zh zj z2 z6 zu zd), (Zk b1 zH zE)]) := by
 unfold Z5D
 refine zf (ZzJ ..)<|ze<|zi fun r1 hr1 => ?_
 obtain ⟨_, er1, _, rfl⟩ := Z1U (ByteArray.mk #[124]) zl zn z7 zh zj z2 z6 zu zd zy r1 hr1
 refine zc [0] (bv r1.1) [(ZN zl r1.2 z7 zh zj z2 z6 zu zd), (Zk b1 zH zE)] er1 ?_
 refine za r1.1 ?_ ?_
 ·exact zk (ZhL x3 zl r1.2 z7 zh zj z2 z6 b1 ox3 zu zd zH zE hox3 zy z19 z11)
 ·exact zk (ZhM x3 zl r1.2 z7 zh zj z2 z6 b1 ox3 zu zd zH zE hox3 zy z19 z11)
theorem Zcc x3 zl zn z7 zh zj z2 z6 {r} (h : Z5D x3 zl zn z7 zh zj z2 z6 = some r) : Z5H x3 zl zn z7 zh zj z2 z6 = some r :=
 Z1l (fun _ _ ha hb => ru_ (Z8U _ _) (ha default .ex .ex .ex .ex .ex rfl rfl rfl rfl) (hb default .ex .ex .ex .ex .ex rfl rfl rfl rfl)) (fun b1 ox3 zu zd zH zE hox3 zy z19 z11 => ZhK x3 zl zn z7 zh zj z2 z6 b1 ox3 zu zd zH zE hox3 zy z19 z11 r h)
def Z89 (zl : List Int) (zn z7 zh : Int) (zj : List Zz) (z2 z6 : Int) : Option (Z9 × Int × Int × Int × (List Zz) × Int × Int) :=
 Z5I ([] : List Z9) zl zn z7 zh zj z2 z6
theorem ZjK zl zn z7 zh zj z2 z6 zu zd (zy : ZO zd = true) : Sim (Z2y zl zu) (Z89 zl zn z7 zh zj z2 z6) (EE 30 [(.ptr 0 0)] [(ZN zl zn z7 zh zj z2 z6 zu zd)]) := by
 unfold Z89
 refine zf (ZFq ..)<|ze<|zz (.ptr 1 0) [(ZN zl zn z7 zh zj z2 z6 zu zd), (Zk Z1D .nl .nl)]<|ze ?_
 exact zk (Zcf ([] : List Z9) zl zn z7 zh zj z2 z6 Z1D .nl zu zd .nl .nl rfl zy rfl rfl)
theorem Zew zl zn z7 zh zj z2 z6 {r} (h : Z89 zl zn z7 zh zj z2 z6 = some r) : Z6Q zl zn z7 zh zj z2 z6 = some r :=
 Z1l (fun _ _ ha hb => ru_ (Z8U _ _) (ha .ex .ex rfl) (hb .ex .ex rfl)) (fun zu zd zy => ZjK zl zn z7 zh zj z2 z6 zu zd zy r h)
def Z3z (x3 : List Z9) (zn z7 zh : Int) (zj : List Zz) (z2 z6 : Int) : Option (Z9 × Int × Int × Int × (List Zz) × Int × Int) :=
 (ZaO 2 x3).bind fun r1 =>
 some (r1, zn, z7, zh, zj, z2, z6)
theorem Z70 (x3 : List Z9) zl zn z7 zh zj z2 z6 b1 ox3 zu zd zH zE (hox3 : ZO ox3 = true) (zy : ZO zd = true) (z19 : ZO zH = true) (z11 : ZO zE = true) : Sim (Z2y zl zu) (Z3z x3 zn z7 zh zj z2 z6) (Zk6 1 (.ptr 1 0) (ZR ox3 (x3.map ZJ)) [(ZN zl zn z7 zh zj z2 z6 zu zd), (Zk b1 zH zE)]) := by
 unfold Z3z
 refine zf (ZzX ..)<|ze<|zi fun r1 hr1 => ?_
 obtain ⟨_, er1, _, rfl⟩ := Zhx 2 x3 .sh r1 hr1
 refine zc [] (pA_ (ZI r1 .sh .sh)) [(ZN zl zn z7 zh zj z2 z6 zu zd), (Zk b1 zH zE)] er1<|zt [(ZN zl zn z7 zh zj z2 z6 zu zd), (Zk r1 .sh .sh)] ?_
 exact zr ((pA_ (ZI r1 .sh .sh)), [(ZN zl zn z7 zh zj z2 z6 zu zd), (Zk r1 .sh .sh)]) ⟨zd, _, zy, rfl⟩
def Z4u (x3 : List Z9) (zl : List Int) (zn z7 zh : Int) (zj : List Zz) (z2 z6 : Int) : Option (Z9 × Int × Int × Int × (List Zz) × Int × Int) :=
 (Z9G zl zn z7 zh zj z2 z6).bind fun r1 =>
 (Z6S r1.1 r1.2.1 zl r1.2.2.1 r1.2.2.2.1 r1.2.2.2.2.1 r1.2.2.2.2.2.1 r1.2.2.2.2.2.2.1 r1.2.2.2.2.2.2.2).bind fun r2 =>
 (lapp x3 ([r2.1] : List Z9)).bind fun a3 =>
 Z5I a3 zl r2.2.1 r1.2.2.2.1 r1.2.2.2.2.1 r1.2.2.2.2.2.1 r2.2.2.1 r2.2.2.2
theorem Z8X (x3 : List Z9) zl zn z7 zh zj z2 z6 b1 ox3 zu zd zH zE (hox3 : ZO ox3 = true) (zy : ZO zd = true) (z19 : ZO zH = true) (z11 : ZO zE = true) : Sim (Z2y zl zu) (Z4u x3 zl zn z7 zh zj z2 z6) (Zmd 1 (.ptr 0 0) (.ptr 1 0) (ZR ox3 (x3.map ZJ)) [(ZN zl zn z7 zh zj z2 z6 zu zd), (Zk b1 zH zE)]) := by
 unfold Z4u
 refine zf (ZzW ..)<|ze<|zi fun r1 hr1 => ?_
 obtain ⟨_, er1, z5g, _, z9p, rfl⟩ := ZjJ zl zn z7 zh zj z2 z6 zu zd zy r1 hr1
 refine zc [0] (.p (.tup [(.agg (ZI r1.1 .sh .sh)), (.v (.bool r1.2.1))])) [(ZN zl r1.2.2.1 r1.2.2.2.1 r1.2.2.2.2.1 r1.2.2.2.2.2.1 r1.2.2.2.2.2.2.1 r1.2.2.2.2.2.2.2 zu z5g), (Zk b1 zH zE)] er1<|zq<|zq<|zz (.ptr 2 0) [(ZN zl r1.2.2.1 r1.2.2.2.1 r1.2.2.2.2.1 r1.2.2.2.2.2.1 r1.2.2.2.2.2.2.1 r1.2.2.2.2.2.2.2 zu z5g), (Zk b1 zH zE), (Zk Z1D .nl .nl)]<|zt [(ZN zl r1.2.2.1 r1.2.2.2.1 r1.2.2.2.2.1 r1.2.2.2.2.2.1 r1.2.2.2.2.2.2.1 r1.2.2.2.2.2.2.2 zu z5g), (Zk b1 zH zE), (Zk r1.1 .sh .sh)]<|ze<|zq<|zi fun r2 hr2 => ?_
 obtain ⟨_, er2, _, rfl⟩ := ZiE r1.1 r1.2.1 zl r1.2.2.1 r1.2.2.2.1 r1.2.2.2.2.1 r1.2.2.2.2.2.1 r1.2.2.2.2.2.2.1 r1.2.2.2.2.2.2.2 .sh .sh zu z5g z9p r2 hr2
 refine zc [0] (pA_ (ZI r2.1 .sh .sh)) [(ZN zl r2.2.1 r1.2.2.2.1 r1.2.2.2.2.1 r1.2.2.2.2.2.1 r2.2.2.1 r2.2.2.2 zu z5g), (Zk b1 zH zE), (Zk r1.1 .sh .sh)] er2<|zp (ZR .ex (([r2.1] : List Z9).map ZJ)) (Eq.trans (b := some (ZR .ex [.agg (Z22 r2.1)])) (by kernel_rfl) (by simp only [Z9w, Zfh, Z4W]))<|zi fun a3 ha3 => zp (ZR .un (a3.map ZJ)) (Eq.trans (by kernel_rfl) <| ZeH (n := 7) (o := ox3) (o' := .ex) (e := ZJ) (ys := ([r2.1] : List Z9)) Zg3 (by decide) hox3 ha3) ?_
 exact zk (Zcf a3 zl r2.2.1 r1.2.2.2.1 r1.2.2.2.2.1 r1.2.2.2.2.2.1 r2.2.2.1 r2.2.2.2 b1 .un zu z5g zH zE rfl z9p z19 z11)
def Z6L (x3 : List Z9) (zl : List Int) (zn z7 zh : Int) (zj : List Zz) (z2 z6 : Int) : Option (Z9 × Int × Int × Int × (List Zz) × Int × Int) :=
 (Z2F (Z1C.mk zl zn z7 zh zj (Z17.mk z2 z6))).bind fun r1 =>
 if (r1 == (-1)) = true then
 (if (r1 == (-1)) = true then
 (Z3z x3 zn z7 zh zj z2 z6)
 else
 (Z4u x3 zl zn z7 zh zj z2 z6))
 else
 (if (r1 == 124) = true then
 (if (r1 == 124) = true then
 (Z3z x3 zn z7 zh zj z2 z6)
 else
 (Z4u x3 zl zn z7 zh zj z2 z6))
 else
 (if (r1 == 41) = true then
 (Z3z x3 zn z7 zh zj z2 z6)
 else
 (Z4u x3 zl zn z7 zh zj z2 z6)))
theorem ZhO (x3 : List Z9) zl zn z7 zh zj z2 z6 b1 ox3 zu zd zH zE (hox3 : ZO ox3 = true) (zy : ZO zd = true) (z19 : ZO zH = true) (z11 : ZO zE = true) : Sim (Z2y zl zu) (Z6L x3 zl zn z7 zh zj z2 z6) (Zty 1 (.ptr 0 0) (.ptr 1 0) (ZR ox3 (x3.map ZJ)) [(ZN zl zn z7 zh zj z2 z6 zu zd), (Zk b1 zH zE)]) := by
 unfold Z6L
 refine zf (ZzV ..)<|ze<|zi fun r1 hr1 => ?_
 obtain ⟨_, er1, _, rfl⟩ := Z2V (Z1C.mk zl zn z7 zh zj (Z17.mk z2 z6)) zu zd zy r1 hr1
 refine zc [0] (iv r1) [(ZN zl zn z7 zh zj z2 z6 zu zd), (Zk b1 zH zE)] er1<|ze<|zq ?_
 refine za (r1 == (-1)) ?_ ?_
 ·refine za (r1 == (-1)) ?_ ?_
  ·exact zk (Z70 x3 zl zn z7 zh zj z2 z6 b1 ox3 zu zd zH zE hox3 zy z19 z11)
  ·exact zk (Z8X x3 zl zn z7 zh zj z2 z6 b1 ox3 zu zd zH zE hox3 zy z19 z11)
 ·refine ze<|zq ?_
  refine za (r1 == 124) ?_ ?_
  ·refine za (r1 == 124) ?_ ?_
   ·exact zk (Z70 x3 zl zn z7 zh zj z2 z6 b1 ox3 zu zd zH zE hox3 zy z19 z11)
   ·exact zk (Z8X x3 zl zn z7 zh zj z2 z6 b1 ox3 zu zd zH zE hox3 zy z19 z11)
  ·refine ze<|zq ?_
   refine za (r1 == 41) ?_ ?_
   ·exact zk (Z70 x3 zl zn z7 zh zj z2 z6 b1 ox3 zu zd zH zE hox3 zy z19 z11)
   ·exact zk (Z8X x3 zl zn z7 zh zj z2 z6 b1 ox3 zu zd zH zE hox3 zy z19 z11)
def Z6K (x3 : List Z9) (zl : List Int) (zn z7 zh : Int) (zj : List Zz) (z2 z6 : Int) : Option (Z9 × Int × Int × Int × (List Zz) × Int × Int) :=
 if (z2 == 0) = true then
 (Z6L x3 zl zn z7 zh zj z2 z6)
 else
 (Z3z x3 zn z7 zh zj z2 z6)
theorem ZhN (x3 : List Z9) zl zn z7 zh zj z2 z6 b1 ox3 zu zd zH zE (hox3 : ZO ox3 = true) (zy : ZO zd = true) (z19 : ZO zH = true) (z11 : ZO zE = true) : Sim (Z2y zl zu) (Z6K x3 zl zn z7 zh zj z2 z6) (Zmc 1 (.ptr 0 0) (.ptr 1 0) (ZR ox3 (x3.map ZJ)) [(ZN zl zn z7 zh zj z2 z6 zu zd), (Zk b1 zH zE)]) := by
 unfold Z6K
 refine zf (ZzU ..)<|ze<|zq<|zq<|zq<|zq<|zq ?_
 refine za (z2 == 0) ?_ ?_
 ·exact zk (ZhO x3 zl zn z7 zh zj z2 z6 b1 ox3 zu zd zH zE hox3 zy z19 z11)
 ·exact zk (Z70 x3 zl zn z7 zh zj z2 z6 b1 ox3 zu zd zH zE hox3 zy z19 z11)
theorem Zce x3 zl zn z7 zh zj z2 z6 {r} (h : Z6K x3 zl zn z7 zh zj z2 z6 = some r) : Z5I x3 zl zn z7 zh zj z2 z6 = some r :=
 Z1l (fun _ _ ha hb => ru_ (Z8U _ _) (ha default .ex .ex .ex .ex .ex rfl rfl rfl rfl) (hb default .ex .ex .ex .ex .ex rfl rfl rfl rfl)) (fun b1 ox3 zu zd zH zE hox3 zy z19 z11 => ZhN x3 zl zn z7 zh zj z2 z6 b1 ox3 zu zd zH zE hox3 zy z19 z11 r h)
def Z81 (b0 : Z1C) : Option Int :=
 (ZdR b0.b b0.at_).bind fun r1 =>
 some r1.1
theorem Zhi b0 zu zd (zy : ZO zd = true) : Sim (Z7I b0 zu zd) (Z81 b0) (ZtZ 1 (.ptr 0 0) [(Z3Q b0 zu zd)]) := by
 unfold Z81
 refine zf (ZAp ..)<|ze<|zq<|zq<|zq<|zq<|zq<|zq<|zi fun r1 hr1 => ?_
 obtain ⟨_, er1, _, rfl⟩ := Zkx b0.b b0.at_ .sh r1 hr1
 refine zc [] (.p (.tup [(.v (.int .i64 r1.1)), (.v (.int .i64 r1.2))])) [(Z3Q b0 zu zd)] er1<|zq<|zq<|ze ?_
 exact zr ((iv r1.1), [(Z3Q b0 zu zd)]) ⟨_, rfl⟩
def Z9C (b0 : Z1C) : Option Int :=
 if (decide ((b0.b.length : Int) ≤ b0.at_)) = true then
 (some (-1))
 else
 (Z81 b0)
theorem Zjd b0 zu zd (zy : ZO zd = true) : Sim (Z7I b0 zu zd) (Z9C b0) (EE 47 [(.ptr 0 0)] [(Z3Q b0 zu zd)]) := by
 unfold Z9C
 refine zf (ZFQ ..)<|ze<|ze<|zq<|zq<|zq<|zq<|zq<|zq<|zp (iv (b0.b.length : Int)) (et_ (Z2S (P := PP) (t := 54) (d := 5) (by kernel_rfl) (eI .u8) (shrO zu) b0.b))<|zq ?_
 refine za (decide ((b0.b.length : Int) ≤ b0.at_)) ?_ ?_
 ·refine ze ?_
  exact zr ((iv (-1)), [(Z3Q b0 zu zd)]) ⟨_, rfl⟩
 ·exact zk (Zhi b0 zu zd zy)
theorem ZjL b0 {r} (h : Z9C b0 = some r) : Z2F b0 = some r :=
 Z1l (fun _ _ ha hb => ru_ (ZjX _ _ _) (ha .ex .ex rfl) (hb .ex .ex rfl)) (fun zu zd zy => Zjd b0 zu zd zy r h)
def ZcN : Option (Int × Int) :=
 some (0, 0)
theorem Zh5 : Sim Z3j ZcN (ZpU 0 []) := by
 unfold ZcN
 refine zf (ZAE ..)<|ze ?_
 exact zr ((.p (.tup [(.v (.int .i64 0)), (.v (.int .i64 0))])), []) ⟨_, rfl⟩
def ZcP (x0 : List Int) (x1 : Int) : Option (Int × Int) :=
 (lget x0 x1).bind fun a1 =>
 some ((IntKind.i64.wrap (1114112 + (IntKind.i64.wrap a1))), 1)
theorem ZmG (x0 : List Int) x1 ox0 : Sim Z3j (ZcP x0 x1) (Zuh 0 (ZR ox0 (x0.map (eI .u8))) (iv x1) []) := by
 unfold ZcP
 refine zf (ZAG ..)<|ze<|zi fun a1 ha1 => zp (.cptr [(.v (.int .u8 a1))]) (et_ (Z2k (o := (shrO ox0)) (k := .i64) (n := 1) (e := (eI .u8)) (cs := (fun a => [(eI .u8) a])) (fun _ => rfl) (fun _ => rfl) (by decide) ha1))<|zq<|zq<|zq ?_
 exact zr ((.p (.tup [(.v (.int .i64 (IntKind.i64.wrap (1114112 + (IntKind.i64.wrap a1))))), (.v (.int .i64 1))])), []) ⟨_, rfl⟩
def Z9b (x6 x7 : Int) : Option (Int × Int) :=
 some ((IntKind.i64.wrap x6), x7)
theorem Zh6 x6 x7 : Sim Z3j (Z9b x6 x7) (ZpV 0 (.p (.v (.int .i32 x6))) (iv x7) []) := by
 unfold Z9b
 refine zf (ZAH ..)<|ze<|zq ?_
 exact zr ((.p (.tup [(.v (.int .i64 (IntKind.i64.wrap x6))), (.v (.int .i64 x7))])), []) ⟨_, rfl⟩
def ZcO (x0 : List Int) (x1 : Int) : Option (Int × Int) :=
 (lsl x0 x1 (x0.length : Int)).bind fun a1 =>
 (Z8Z a1).bind fun r2 =>
 if (r2.1 == 65533) = true then
 (if (r2.2 == 1) = true then
 (ZcP x0 x1)
 else
 (Z9b r2.1 r2.2))
 else
 (Z9b r2.1 r2.2)
theorem ZmF (x0 : List Int) x1 ox0 : Sim Z3j (ZcO x0 x1) (Zug 0 (ZR ox0 (x0.map (eI .u8))) (iv x1) []) := by
 unfold ZcO
 refine zf (ZAF ..)<|ze<|zi fun a1 ha1 => zp (ZR (slO (shrO ox0)) (a1.map (eI .u8))) (Eq.trans (by kernel_rfl) <| ZvR (n := 1) (o := (shrO ox0)) (lo := (some (iv x1))) (hi := none) (e := (eI .u8)) (fun _ => rfl) (by decide) (by kernel_rfl) (by kernel_rfl) ha1)<|zi fun r2 hr2 => ?_
 obtain ⟨_, er2, _, rfl⟩ := Zg0 a1 .sh r2 hr2
 refine zc [] (.p (.tup [(.v (.int .i32 r2.1)), (.v (.int .i64 r2.2))])) [] er2<|zq<|zq<|ze<|zq ?_
 refine za (r2.1 == 65533) ?_ ?_
 ·refine zq ?_
  refine za (r2.2 == 1) ?_ ?_
  ·exact zk (ZmG x0 x1 ox0)
  ·exact zk (Zh6 r2.1 r2.2)
 ·exact zk (Zh6 r2.1 r2.2)
def Zgj (x0 : List Int) (x1 : Int) : Option (Int × Int) :=
 if (decide (x1 < 0)) = true then
 ZcN
 else
 (if (decide ((x0.length : Int) ≤ x1)) = true then
 ZcN
 else
 (ZcO x0 x1))
theorem Zql (x0 : List Int) x1 ox0 : Sim Z3j (Zgj x0 x1) (EE 62 [(ZR ox0 (x0.map (eI .u8))), (iv x1)] []) := by
 unfold Zgj
 refine zf (ZG6 ..)<|ze<|ze<|zq ?_
 refine za (decide (x1 < 0)) ?_ ?_
 ·exact zk Zh5
 ·refine zp (iv (x0.length : Int)) (et_ (Z2S (P := PP) (t := 54) (d := 5) (by kernel_rfl) (eI .u8) (shrO ox0) x0))<|zq ?_
  refine za (decide ((x0.length : Int) ≤ x1)) ?_ ?_
  ·exact zk Zh5
  ·exact zk (ZmF x0 x1 ox0)
theorem Zrx x0 x1 {r} (h : Zgj x0 x1 = some r) : ZdR x0 x1 = some r :=
 Z1l (fun _ _ ha hb => ru_ ZdW (ha .ex) (hb .ex)) (fun ox0 => Zql x0 x1 ox0 r h)
def Zdg (x0 : Int) (x1 : List Z9) : Option Z9 :=
 some (Z9.mk x0 0 0 0 0 ([] : List Z8) x1)
theorem Zkq x0 (x1 : List Z9) b0 ox1 z1Y z1A (zCI : ZO z1Y = true) (zBr : ZO z1A = true) : Sim Z6E (Zdg x0 x1) (ZtA 0 (iv x0) (ZR ox1 (x1.map ZJ)) (.ptr 0 0) [(Zk b0 z1Y z1A)]) := by
 unfold Zdg
 refine zf (ZzY ..)<|ze<|zq<|zt [(Z2P x0 0 0 0 0 ([] : List Z8) x1 .nl (shrO (shrO ox1)))] ?_
 exact zr ((pA_ (ZI (Z9.mk x0 0 0 0 0 ([] : List Z8) x1) .sh .sh)), [(Z2P x0 0 0 0 0 ([] : List Z8) x1 .nl (shrO (shrO ox1)))]) ⟨_, rfl⟩
def ZcK (x0 : Int) (x1 : List Z9) : Option Z9 :=
 if ((x1.length : Int) == 0) = true then
 (some (Z9.mk 0 0 0 0 0 ([] : List Z8) ([] : List Z9)))
 else
 (if ((x1.length : Int) == 1) = true then
 ((lget x1 0).bind fun a1 =>
 some a1)
 else
 (Zdg x0 x1))
theorem ZmB x0 (x1 : List Z9) ox1 : Sim Z6E (ZcK x0 x1) (EE 31 [(iv x0), (ZR ox1 (x1.map ZJ))] []) := by
 unfold ZcK
 refine zf (ZFt ..)<|ze<|zz (.ptr 0 0) [(Zk Z1D .nl .nl)]<|ze<|zp (iv (x1.length : Int)) (et_ (Z2S (P := PP) (t := 29) (d := 31) (by kernel_rfl) ZJ (shrO ox1) x1))<|ze<|zq ?_
 refine za ((x1.length : Int) == 0) ?_ ?_
 ·refine ze<|zq<|zt [(Zk Z1D .nl .nl)] ?_
  exact zr ((pA_ (ZI Z1D .sh .sh)), [(Zk Z1D .nl .nl)]) ⟨_, rfl⟩
 ·refine ze<|zq ?_
  refine za ((x1.length : Int) == 1) ?_ ?_
  ·refine ze<|zi fun a1 ha1 => zp (.cptr (ZI a1 .sh .sh)) (et_ (Z2k (o := (shrO ox1)) (k := .i64) (n := 7) (e := ZJ) (cs := Z22) Z2I (fun _ => rfl) (by decide) ha1))<|zq<|zt [(Zk a1 .sh .sh)] ?_
   exact zr ((pA_ (ZI a1 .sh .sh)), [(Zk a1 .sh .sh)]) ⟨_, rfl⟩
  ·exact zk (Zkq x0 x1 Z1D ox1 .nl .nl rfl rfl)
theorem ZnP x0 x1 {r} (h : ZcK x0 x1 = some r) : ZaO x0 x1 = some r :=
 Z1l (fun _ _ ha hb => ru_ Zim (ha .ex) (hb .ex)) (fun ox1 => ZmB x0 x1 ox1 r h)
def Z25 (zn z7 zh : Int) (zj : List Zz) (z2 z6 : Int) : Option (Z9 × Bool × Int × Int × Int × (List Zz) × Int × Int) :=
 some ((Z9.mk 0 0 0 0 0 ([] : List Z8) ([] : List Z9)), true, zn, z7, zh, zj, z2, z6)
theorem Z28 zl zn z7 zh zj z2 z6 b1 zu zd zH zE (zy : ZO zd = true) (z19 : ZO zH = true) (z11 : ZO zE = true) : Sim (Z2W zl zu) (Z25 zn z7 zh zj z2 z6) (Z8t 1 (.ptr 1 0) [(ZN zl zn z7 zh zj z2 z6 zu zd), (Zk b1 zH zE)]) := by
 unfold Z25
 refine zf (ZxN ..)<|ze<|zq<|zt [(ZN zl zn z7 zh zj z2 z6 zu zd), (Zk Z1D .nl .nl)] ?_
 exact zr ((.p (.tup [(.agg (ZI Z1D .sh .sh)), (.v (.bool true))])), [(ZN zl zn z7 zh zj z2 z6 zu zd), (Zk Z1D .nl .nl)]) ⟨zd, _, zy, rfl⟩
def Z7K (zl : List Int) (zn z7 zh : Int) (zj : List Zz) (z2 z6 : Int) : Option (Z9 × Bool × Int × Int × Int × (List Zz) × Int × Int) :=
 (Z3m zl zn).bind fun r1 =>
 if (r1.1 == 46) = true then
 ((Z2w 10).bind fun r2 =>
 (Z3Y true ([r2] : List Z8)).bind fun r3 =>
 some (r3, true, r1.2, z7, zh, zj, z2, z6))
 else
 (if (r1.1 == 94) = true then
 (some ((Z9.mk 9 0 0 0 0 ([] : List Z8) ([] : List Z9)), false, r1.2, z7, zh, zj, z2, z6))
 else
 (if (r1.1 == 36) = true then
 (some ((Z9.mk 9 0 0 0 1 ([] : List Z8) ([] : List Z9)), false, r1.2, z7, zh, zj, z2, z6))
 else
 (if (r1.1 == 92) = true then
 ((Z4B zn zl r1.2 z7 zh zj z2 z6).bind fun r4 =>
 some (r4.1, (r4.1.Kind != 9), r4.2.1, z7, zh, r4.2.2.1, r4.2.2.2.1, r4.2.2.2.2))
 else
 (if (r1.1 == 91) = true then
 ((Z8Y zn zl r1.2 z7 zh zj z2 z6).bind fun r5 =>
 some (r5.1, true, r5.2.1, z7, zh, zj, r5.2.2.1, r5.2.2.2))
 else
 (if (r1.1 == 40) = true then
 ((Z4X zn zl r1.2 z7 zh zj z2 z6).bind fun r6 =>
 some (r6.1, r6.2.1, r6.2.2.1, r6.2.2.2.1, r6.2.2.2.2.1, r6.2.2.2.2.2.1, r6.2.2.2.2.2.2.1, r6.2.2.2.2.2.2.2))
 else
 (if (r1.1 == 42) = true then
 (if (r1.1 == 42) = true then
 ((Z1f 23 zn zl z2 z6).bind fun r7 =>
 Z25 r7.1 z7 zh zj r7.2.1 r7.2.2)
 else
 (if (r1.1 == 93) = true then
 (if (r1.1 == 93) = true then
 ((Z1f 20 zn zl z2 z6).bind fun r8 =>
 Z25 r8.1 z7 zh zj r8.2.1 r8.2.2)
 else
 ((Z2w r1.1).bind fun r9 =>
 (Z3Y false ([r9] : List Z8)).bind fun r10 =>
 some (r10, true, r1.2, z7, zh, zj, z2, z6)))
 else
 (if (r1.1 == 125) = true then
 ((Z1f 20 zn zl z2 z6).bind fun r11 =>
 Z25 r11.1 z7 zh zj r11.2.1 r11.2.2)
 else
 ((Z2w r1.1).bind fun r12 =>
 (Z3Y false ([r12] : List Z8)).bind fun r13 =>
 some (r13, true, r1.2, z7, zh, zj, z2, z6)))))
 else
 (if (r1.1 == 43) = true then
 (if (r1.1 == 43) = true then
 ((Z1f 23 zn zl z2 z6).bind fun r14 =>
 Z25 r14.1 z7 zh zj r14.2.1 r14.2.2)
 else
 (if (r1.1 == 93) = true then
 (if (r1.1 == 93) = true then
 ((Z1f 20 zn zl z2 z6).bind fun r15 =>
 Z25 r15.1 z7 zh zj r15.2.1 r15.2.2)
 else
 ((Z2w r1.1).bind fun r16 =>
 (Z3Y false ([r16] : List Z8)).bind fun r17 =>
 some (r17, true, r1.2, z7, zh, zj, z2, z6)))
 else
 (if (r1.1 == 125) = true then
 ((Z1f 20 zn zl z2 z6).bind fun r18 =>
 Z25 r18.1 z7 zh zj r18.2.1 r18.2.2)
 else
 ((Z2w r1.1).bind fun r19 =>
 (Z3Y false ([r19] : List Z8)).bind fun r20 =>
 some (r20, true, r1.2, z7, zh, zj, z2, z6)))))
 else
 (if (r1.1 == 63) = true then
 (if (r1.1 == 63) = true then
 ((Z1f 23 zn zl z2 z6).bind fun r21 =>
 Z25 r21.1 z7 zh zj r21.2.1 r21.2.2)
 else
 (if (r1.1 == 93) = true then
 (if (r1.1 == 93) = true then
 ((Z1f 20 zn zl z2 z6).bind fun r22 =>
 Z25 r22.1 z7 zh zj r22.2.1 r22.2.2)
 else
 ((Z2w r1.1).bind fun r23 =>
 (Z3Y false ([r23] : List Z8)).bind fun r24 =>
 some (r24, true, r1.2, z7, zh, zj, z2, z6)))
 else
 (if (r1.1 == 125) = true then
 ((Z1f 20 zn zl z2 z6).bind fun r25 =>
 Z25 r25.1 z7 zh zj r25.2.1 r25.2.2)
 else
 ((Z2w r1.1).bind fun r26 =>
 (Z3Y false ([r26] : List Z8)).bind fun r27 =>
 some (r27, true, r1.2, z7, zh, zj, z2, z6)))))
 else
 (if (r1.1 == 123) = true then
 ((Z1f 23 zn zl z2 z6).bind fun r28 =>
 Z25 r28.1 z7 zh zj r28.2.1 r28.2.2)
 else
 (if (r1.1 == 93) = true then
 (if (r1.1 == 93) = true then
 ((Z1f 20 zn zl z2 z6).bind fun r29 =>
 Z25 r29.1 z7 zh zj r29.2.1 r29.2.2)
 else
 ((Z2w r1.1).bind fun r30 =>
 (Z3Y false ([r30] : List Z8)).bind fun r31 =>
 some (r31, true, r1.2, z7, zh, zj, z2, z6)))
 else
 (if (r1.1 == 125) = true then
 ((Z1f 20 zn zl z2 z6).bind fun r32 =>
 Z25 r32.1 z7 zh zj r32.2.1 r32.2.2)
 else
 ((Z2w r1.1).bind fun r33 =>
 (Z3Y false ([r33] : List Z8)).bind fun r34 =>
 some (r34, true, r1.2, z7, zh, zj, z2, z6)))))))))))))
theorem Zj8 zl zn z7 zh zj z2 z6 zu zd (zy : ZO zd = true) : Sim (Z2W zl zu) (Z7K zl zn z7 zh zj z2 z6) (EE 48 [(.ptr 0 0)] [(ZN zl zn z7 zh zj z2 z6 zu zd)]) := by
 unfold Z7K
 refine zf (ZFS ..)<|ze<|zz (.ptr 1 0) [(ZN zl zn z7 zh zj z2 z6 zu zd), (Zk Z1D .nl .nl)]<|ze<|zq<|zq<|zq<|ze<|zi fun r1 hr1 => ?_
 obtain ⟨_, er1, _, rfl⟩ := Z3K zl zn z7 zh zj z2 z6 zu zd zy r1 hr1
 refine zc [0] (iv r1.1) [(ZN zl r1.2 z7 zh zj z2 z6 zu zd), (Zk Z1D .nl .nl)] er1<|ze<|ze<|zq ?_
 refine za (r1.1 == 46) ?_ ?_
 ·refine ze<|zi fun r2 hr2 => ?_
  obtain ⟨_, er2, _, rfl⟩ := Z2l 10 r2 hr2
  refine zc [] (pA_ (ZU r2)) [(ZN zl r1.2 z7 zh zj z2 z6 zu zd), (Zk Z1D .nl .nl)] er2<|zq<|zi fun r3 hr3 => ?_
  obtain ⟨_, er3, _, rfl⟩ := Z48 true ([r2] : List Z8) .sh r3 hr3
  refine zc [] (pA_ (ZI r3 .sh .sh)) [(ZN zl r1.2 z7 zh zj z2 z6 zu zd), (Zk Z1D .nl .nl)] er3<|zt [(ZN zl r1.2 z7 zh zj z2 z6 zu zd), (Zk r3 .sh .sh)] ?_
  exact zr ((.p (.tup [(.agg (ZI r3 .sh .sh)), (.v (.bool true))])), [(ZN zl r1.2 z7 zh zj z2 z6 zu zd), (Zk r3 .sh .sh)]) ⟨zd, _, zy, rfl⟩
 ·refine ze<|zq ?_
  refine za (r1.1 == 94) ?_ ?_
  ·refine ze<|zq<|zt [(ZN zl r1.2 z7 zh zj z2 z6 zu zd), (Z2P 9 0 0 0 0 ([] : List Z8) ([] : List Z9) .nl .nl)] ?_
   exact zr ((.p (.tup [(.agg (ZI (Z9.mk 9 0 0 0 0 ([] : List Z8) ([] : List Z9)) .sh .sh)), (.v (.bool false))])), [(ZN zl r1.2 z7 zh zj z2 z6 zu zd), (Z2P 9 0 0 0 0 ([] : List Z8) ([] : List Z9) .nl .nl)]) ⟨zd, _, zy, rfl⟩
  ·refine ze<|zq ?_
   refine za (r1.1 == 36) ?_ ?_
   ·refine ze<|zq<|zt [(ZN zl r1.2 z7 zh zj z2 z6 zu zd), (Z2P 9 0 0 0 1 ([] : List Z8) ([] : List Z9) .nl .nl)] ?_
    exact zr ((.p (.tup [(.agg (ZI (Z9.mk 9 0 0 0 1 ([] : List Z8) ([] : List Z9)) .sh .sh)), (.v (.bool false))])), [(ZN zl r1.2 z7 zh zj z2 z6 zu zd), (Z2P 9 0 0 0 1 ([] : List Z8) ([] : List Z9) .nl .nl)]) ⟨zd, _, zy, rfl⟩
   ·refine ze<|zq ?_
    refine za (r1.1 == 92) ?_ ?_
    ·refine ze<|zi fun r4 hr4 => ?_
     obtain ⟨_, er4, zii, _, zCJ, rfl⟩ := ZiA zn zl r1.2 z7 zh zj z2 z6 zu zd zy r4 hr4
     refine zc [0] (pA_ (ZI r4.1 .sh .sh)) [(ZN zl r4.2.1 z7 zh r4.2.2.1 r4.2.2.2.1 r4.2.2.2.2 zu zii), (Zk Z1D .nl .nl)] er4<|zz (.ptr 2 0) [(ZN zl r4.2.1 z7 zh r4.2.2.1 r4.2.2.2.1 r4.2.2.2.2 zu zii), (Zk Z1D .nl .nl), (Zk Z1D .nl .nl)]<|zt [(ZN zl r4.2.1 z7 zh r4.2.2.1 r4.2.2.2.1 r4.2.2.2.2 zu zii), (Zk Z1D .nl .nl), (Zk r4.1 .sh .sh)]<|ze<|zq<|zq<|zq<|zq<|zt [(ZN zl r4.2.1 z7 zh r4.2.2.1 r4.2.2.2.1 r4.2.2.2.2 zu zii), (Zk r4.1 .sh .sh), (Zk r4.1 .sh .sh)]<|zg ?_
     exact zr ((.p (.tup [(.agg (ZI r4.1 .sh .sh)), (.v (.bool (r4.1.Kind != 9)))])), [(ZN zl r4.2.1 z7 zh r4.2.2.1 r4.2.2.2.1 r4.2.2.2.2 zu zii), (Zk r4.1 .sh .sh), (Zk r4.1 .sh .sh)]) ⟨zii, _, zCJ, rfl⟩
    ·refine ze<|zq ?_
     refine za (r1.1 == 91) ?_ ?_
     ·refine ze<|zi fun r5 hr5 => ?_
      obtain ⟨_, er5, _, rfl⟩ := Zja zn zl r1.2 z7 zh zj z2 z6 zu zd zy r5 hr5
      refine zc [0] (pA_ (ZI r5.1 .sh .sh)) [(ZN zl r5.2.1 z7 zh zj r5.2.2.1 r5.2.2.2 zu zd), (Zk Z1D .nl .nl)] er5<|zt [(ZN zl r5.2.1 z7 zh zj r5.2.2.1 r5.2.2.2 zu zd), (Zk r5.1 .sh .sh)] ?_
      exact zr ((.p (.tup [(.agg (ZI r5.1 .sh .sh)), (.v (.bool true))])), [(ZN zl r5.2.1 z7 zh zj r5.2.2.1 r5.2.2.2 zu zd), (Zk r5.1 .sh .sh)]) ⟨zd, _, zy, rfl⟩
     ·refine ze<|zq ?_
      refine za (r1.1 == 40) ?_ ?_
      ·refine ze<|zi fun r6 hr6 => ?_
       obtain ⟨_, er6, znG, _, zCK, rfl⟩ := Zjc zn zl r1.2 z7 zh zj z2 z6 zu zd zy r6 hr6
       refine zc [0] (.p (.tup [(.agg (ZI r6.1 .sh .sh)), (.v (.bool r6.2.1))])) [(ZN zl r6.2.2.1 r6.2.2.2.1 r6.2.2.2.2.1 r6.2.2.2.2.2.1 r6.2.2.2.2.2.2.1 r6.2.2.2.2.2.2.2 zu znG), (Zk Z1D .nl .nl)] er6<|zq<|zq<|zt [(ZN zl r6.2.2.1 r6.2.2.2.1 r6.2.2.2.2.1 r6.2.2.2.2.2.1 r6.2.2.2.2.2.2.1 r6.2.2.2.2.2.2.2 zu znG), (Zk r6.1 .sh .sh)] ?_
       exact zr ((.p (.tup [(.agg (ZI r6.1 .sh .sh)), (.v (.bool r6.2.1))])), [(ZN zl r6.2.2.1 r6.2.2.2.1 r6.2.2.2.2.1 r6.2.2.2.2.2.1 r6.2.2.2.2.2.2.1 r6.2.2.2.2.2.2.2 zu znG), (Zk r6.1 .sh .sh)]) ⟨znG, _, zCK, rfl⟩
      ·refine ze<|zq ?_
       refine za (r1.1 == 42) ?_ ?_
       ·refine za (r1.1 == 42) ?_ ?_
        ·refine ze<|zi fun r7 hr7 => ?_
         obtain ⟨_, er7, _, rfl⟩ := Z1j 23 zn zl r1.2 z7 zh zj z2 z6 zu zd zy r7 hr7
         refine zc [0] (.p (.tup [])) [(ZN zl r7.1 z7 zh zj r7.2.1 r7.2.2 zu zd), (Zk Z1D .nl .nl)] er7 ?_
         exact zk (Z28 zl r7.1 z7 zh zj r7.2.1 r7.2.2 Z1D zu zd .nl .nl zy rfl rfl)
        ·refine ze<|zq ?_
         refine za (r1.1 == 93) ?_ ?_
         ·refine za (r1.1 == 93) ?_ ?_
          ·refine ze<|zi fun r8 hr8 => ?_
           obtain ⟨_, er8, _, rfl⟩ := Z1j 20 zn zl r1.2 z7 zh zj z2 z6 zu zd zy r8 hr8
           refine zc [0] (.p (.tup [])) [(ZN zl r8.1 z7 zh zj r8.2.1 r8.2.2 zu zd), (Zk Z1D .nl .nl)] er8 ?_
           exact zk (Z28 zl r8.1 z7 zh zj r8.2.1 r8.2.2 Z1D zu zd .nl .nl zy rfl rfl)
          ·refine ze<|zi fun r9 hr9 => ?_
           obtain ⟨_, er9, _, rfl⟩ := Z2l r1.1 r9 hr9
           refine zc [] (pA_ (ZU r9)) [(ZN zl r1.2 z7 zh zj z2 z6 zu zd), (Zk Z1D .nl .nl)] er9<|zq<|zi fun r10 hr10 => ?_
           obtain ⟨_, er10, _, rfl⟩ := Z48 false ([r9] : List Z8) .sh r10 hr10
           refine zc [] (pA_ (ZI r10 .sh .sh)) [(ZN zl r1.2 z7 zh zj z2 z6 zu zd), (Zk Z1D .nl .nl)] er10<|zt [(ZN zl r1.2 z7 zh zj z2 z6 zu zd), (Zk r10 .sh .sh)] ?_
           exact zr ((.p (.tup [(.agg (ZI r10 .sh .sh)), (.v (.bool true))])), [(ZN zl r1.2 z7 zh zj z2 z6 zu zd), (Zk r10 .sh .sh)]) ⟨zd, _, zy, rfl⟩
         ·refine ze<|zq ?_
          refine za (r1.1 == 125) ?_ ?_
          ·refine ze<|zi fun r11 hr11 => ?_
           obtain ⟨_, er11, _, rfl⟩ := Z1j 20 zn zl r1.2 z7 zh zj z2 z6 zu zd zy r11 hr11
           refine zc [0] (.p (.tup [])) [(ZN zl r11.1 z7 zh zj r11.2.1 r11.2.2 zu zd), (Zk Z1D .nl .nl)] er11 ?_
           exact zk (Z28 zl r11.1 z7 zh zj r11.2.1 r11.2.2 Z1D zu zd .nl .nl zy rfl rfl)
          ·refine ze<|zi fun r12 hr12 => ?_
           obtain ⟨_, er12, _, rfl⟩ := Z2l r1.1 r12 hr12
           refine zc [] (pA_ (ZU r12)) [(ZN zl r1.2 z7 zh zj z2 z6 zu zd), (Zk Z1D .nl .nl)] er12<|zq<|zi fun r13 hr13 => ?_
           obtain ⟨_, er13, _, rfl⟩ := Z48 false ([r12] : List Z8) .sh r13 hr13
           refine zc [] (pA_ (ZI r13 .sh .sh)) [(ZN zl r1.2 z7 zh zj z2 z6 zu zd), (Zk Z1D .nl .nl)] er13<|zt [(ZN zl r1.2 z7 zh zj z2 z6 zu zd), (Zk r13 .sh .sh)] ?_
           exact zr ((.p (.tup [(.agg (ZI r13 .sh .sh)), (.v (.bool true))])), [(ZN zl r1.2 z7 zh zj z2 z6 zu zd), (Zk r13 .sh .sh)]) ⟨zd, _, zy, rfl⟩
       ·refine ze<|zq ?_
        refine za (r1.1 == 43) ?_ ?_
        ·refine za (r1.1 == 43) ?_ ?_
         ·refine ze<|zi fun r14 hr14 => ?_
          obtain ⟨_, er14, _, rfl⟩ := Z1j 23 zn zl r1.2 z7 zh zj z2 z6 zu zd zy r14 hr14
          refine zc [0] (.p (.tup [])) [(ZN zl r14.1 z7 zh zj r14.2.1 r14.2.2 zu zd), (Zk Z1D .nl .nl)] er14 ?_
          exact zk (Z28 zl r14.1 z7 zh zj r14.2.1 r14.2.2 Z1D zu zd .nl .nl zy rfl rfl)
         ·refine ze<|zq ?_
          refine za (r1.1 == 93) ?_ ?_
          ·refine za (r1.1 == 93) ?_ ?_
           ·refine ze<|zi fun r15 hr15 => ?_
            obtain ⟨_, er15, _, rfl⟩ := Z1j 20 zn zl r1.2 z7 zh zj z2 z6 zu zd zy r15 hr15
            refine zc [0] (.p (.tup [])) [(ZN zl r15.1 z7 zh zj r15.2.1 r15.2.2 zu zd), (Zk Z1D .nl .nl)] er15 ?_
            exact zk (Z28 zl r15.1 z7 zh zj r15.2.1 r15.2.2 Z1D zu zd .nl .nl zy rfl rfl)
           ·refine ze<|zi fun r16 hr16 => ?_
            obtain ⟨_, er16, _, rfl⟩ := Z2l r1.1 r16 hr16
            refine zc [] (pA_ (ZU r16)) [(ZN zl r1.2 z7 zh zj z2 z6 zu zd), (Zk Z1D .nl .nl)] er16<|zq<|zi fun r17 hr17 => ?_
            obtain ⟨_, er17, _, rfl⟩ := Z48 false ([r16] : List Z8) .sh r17 hr17
            refine zc [] (pA_ (ZI r17 .sh .sh)) [(ZN zl r1.2 z7 zh zj z2 z6 zu zd), (Zk Z1D .nl .nl)] er17<|zt [(ZN zl r1.2 z7 zh zj z2 z6 zu zd), (Zk r17 .sh .sh)] ?_
            exact zr ((.p (.tup [(.agg (ZI r17 .sh .sh)), (.v (.bool true))])), [(ZN zl r1.2 z7 zh zj z2 z6 zu zd), (Zk r17 .sh .sh)]) ⟨zd, _, zy, rfl⟩
          ·refine ze<|zq ?_
           refine za (r1.1 == 125) ?_ ?_
           ·refine ze<|zi fun r18 hr18 => ?_
            obtain ⟨_, er18, _, rfl⟩ := Z1j 20 zn zl r1.2 z7 zh zj z2 z6 zu zd zy r18 hr18
            refine zc [0] (.p (.tup [])) [(ZN zl r18.1 z7 zh zj r18.2.1 r18.2.2 zu zd), (Zk Z1D .nl .nl)] er18 ?_
            exact zk (Z28 zl r18.1 z7 zh zj r18.2.1 r18.2.2 Z1D zu zd .nl .nl zy rfl rfl)
           ·refine ze<|zi fun r19 hr19 => ?_
            obtain ⟨_, er19, _, rfl⟩ := Z2l r1.1 r19 hr19
            refine zc [] (pA_ (ZU r19)) [(ZN zl r1.2 z7 zh zj z2 z6 zu zd), (Zk Z1D .nl .nl)] er19<|zq<|zi fun r20 hr20 => ?_
            obtain ⟨_, er20, _, rfl⟩ := Z48 false ([r19] : List Z8) .sh r20 hr20
            refine zc [] (pA_ (ZI r20 .sh .sh)) [(ZN zl r1.2 z7 zh zj z2 z6 zu zd), (Zk Z1D .nl .nl)] er20<|zt [(ZN zl r1.2 z7 zh zj z2 z6 zu zd), (Zk r20 .sh .sh)] ?_
            exact zr ((.p (.tup [(.agg (ZI r20 .sh .sh)), (.v (.bool true))])), [(ZN zl r1.2 z7 zh zj z2 z6 zu zd), (Zk r20 .sh .sh)]) ⟨zd, _, zy, rfl⟩
        ·refine ze<|zq ?_
         refine za (r1.1 == 63) ?_ ?_
         ·refine za (r1.1 == 63) ?_ ?_
          ·refine ze<|zi fun r21 hr21 => ?_
           obtain ⟨_, er21, _, rfl⟩ := Z1j 23 zn zl r1.2 z7 zh zj z2 z6 zu zd zy r21 hr21
           refine zc [0] (.p (.tup [])) [(ZN zl r21.1 z7 zh zj r21.2.1 r21.2.2 zu zd), (Zk Z1D .nl .nl)] er21 ?_
           exact zk (Z28 zl r21.1 z7 zh zj r21.2.1 r21.2.2 Z1D zu zd .nl .nl zy rfl rfl)
          ·refine ze<|zq ?_
           refine za (r1.1 == 93) ?_ ?_
           ·refine za (r1.1 == 93) ?_ ?_
            ·refine ze<|zi fun r22 hr22 => ?_
             obtain ⟨_, er22, _, rfl⟩ := Z1j 20 zn zl r1.2 z7 zh zj z2 z6 zu zd zy r22 hr22
             refine zc [0] (.p (.tup [])) [(ZN zl r22.1 z7 zh zj r22.2.1 r22.2.2 zu zd), (Zk Z1D .nl .nl)] er22 ?_
             exact zk (Z28 zl r22.1 z7 zh zj r22.2.1 r22.2.2 Z1D zu zd .nl .nl zy rfl rfl)
            ·refine ze<|zi fun r23 hr23 => ?_
             obtain ⟨_, er23, _, rfl⟩ := Z2l r1.1 r23 hr23
             refine zc [] (pA_ (ZU r23)) [(ZN zl r1.2 z7 zh zj z2 z6 zu zd), (Zk Z1D .nl .nl)] er23<|zq<|zi fun r24 hr24 => ?_
             obtain ⟨_, er24, _, rfl⟩ := Z48 false ([r23] : List Z8) .sh r24 hr24
             refine zc [] (pA_ (ZI r24 .sh .sh)) [(ZN zl r1.2 z7 zh zj z2 z6 zu zd), (Zk Z1D .nl .nl)] er24<|zt [(ZN zl r1.2 z7 zh zj z2 z6 zu zd), (Zk r24 .sh .sh)] ?_
             exact zr ((.p (.tup [(.agg (ZI r24 .sh .sh)), (.v (.bool true))])), [(ZN zl r1.2 z7 zh zj z2 z6 zu zd), (Zk r24 .sh .sh)]) ⟨zd, _, zy, rfl⟩
           ·refine ze<|zq ?_
            refine za (r1.1 == 125) ?_ ?_
            ·refine ze<|zi fun r25 hr25 => ?_
             obtain ⟨_, er25, _, rfl⟩ := Z1j 20 zn zl r1.2 z7 zh zj z2 z6 zu zd zy r25 hr25
             refine zc [0] (.p (.tup [])) [(ZN zl r25.1 z7 zh zj r25.2.1 r25.2.2 zu zd), (Zk Z1D .nl .nl)] er25 ?_
             exact zk (Z28 zl r25.1 z7 zh zj r25.2.1 r25.2.2 Z1D zu zd .nl .nl zy rfl rfl)
            ·refine ze<|zi fun r26 hr26 => ?_
             obtain ⟨_, er26, _, rfl⟩ := Z2l r1.1 r26 hr26
             refine zc [] (pA_ (ZU r26)) [(ZN zl r1.2 z7 zh zj z2 z6 zu zd), (Zk Z1D .nl .nl)] er26<|zq<|zi fun r27 hr27 => ?_
             obtain ⟨_, er27, _, rfl⟩ := Z48 false ([r26] : List Z8) .sh r27 hr27
             refine zc [] (pA_ (ZI r27 .sh .sh)) [(ZN zl r1.2 z7 zh zj z2 z6 zu zd), (Zk Z1D .nl .nl)] er27<|zt [(ZN zl r1.2 z7 zh zj z2 z6 zu zd), (Zk r27 .sh .sh)] ?_
             exact zr ((.p (.tup [(.agg (ZI r27 .sh .sh)), (.v (.bool true))])), [(ZN zl r1.2 z7 zh zj z2 z6 zu zd), (Zk r27 .sh .sh)]) ⟨zd, _, zy, rfl⟩
         ·refine ze<|zq ?_
          refine za (r1.1 == 123) ?_ ?_
          ·refine ze<|zi fun r28 hr28 => ?_
           obtain ⟨_, er28, _, rfl⟩ := Z1j 23 zn zl r1.2 z7 zh zj z2 z6 zu zd zy r28 hr28
           refine zc [0] (.p (.tup [])) [(ZN zl r28.1 z7 zh zj r28.2.1 r28.2.2 zu zd), (Zk Z1D .nl .nl)] er28 ?_
           exact zk (Z28 zl r28.1 z7 zh zj r28.2.1 r28.2.2 Z1D zu zd .nl .nl zy rfl rfl)
          ·refine ze<|zq ?_
           refine za (r1.1 == 93) ?_ ?_
           ·refine za (r1.1 == 93) ?_ ?_
            ·refine ze<|zi fun r29 hr29 => ?_
             obtain ⟨_, er29, _, rfl⟩ := Z1j 20 zn zl r1.2 z7 zh zj z2 z6 zu zd zy r29 hr29
             refine zc [0] (.p (.tup [])) [(ZN zl r29.1 z7 zh zj r29.2.1 r29.2.2 zu zd), (Zk Z1D .nl .nl)] er29 ?_
             exact zk (Z28 zl r29.1 z7 zh zj r29.2.1 r29.2.2 Z1D zu zd .nl .nl zy rfl rfl)
            ·refine ze<|zi fun r30 hr30 => ?_
             obtain ⟨_, er30, _, rfl⟩ := Z2l r1.1 r30 hr30
             refine zc [] (pA_ (ZU r30)) [(ZN zl r1.2 z7 zh zj z2 z6 zu zd), (Zk Z1D .nl .nl)] er30<|zq<|zi fun r31 hr31 => ?_
             obtain ⟨_, er31, _, rfl⟩ := Z48 false ([r30] : List Z8) .sh r31 hr31
             refine zc [] (pA_ (ZI r31 .sh .sh)) [(ZN zl r1.2 z7 zh zj z2 z6 zu zd), (Zk Z1D .nl .nl)] er31<|zt [(ZN zl r1.2 z7 zh zj z2 z6 zu zd), (Zk r31 .sh .sh)] ?_
             exact zr ((.p (.tup [(.agg (ZI r31 .sh .sh)), (.v (.bool true))])), [(ZN zl r1.2 z7 zh zj z2 z6 zu zd), (Zk r31 .sh .sh)]) ⟨zd, _, zy, rfl⟩
           ·refine ze<|zq ?_
            refine za (r1.1 == 125) ?_ ?_
            ·refine ze<|zi fun r32 hr32 => ?_
             obtain ⟨_, er32, _, rfl⟩ := Z1j 20 zn zl r1.2 z7 zh zj z2 z6 zu zd zy r32 hr32
             refine zc [0] (.p (.tup [])) [(ZN zl r32.1 z7 zh zj r32.2.1 r32.2.2 zu zd), (Zk Z1D .nl .nl)] er32 ?_
             exact zk (Z28 zl r32.1 z7 zh zj r32.2.1 r32.2.2 Z1D zu zd .nl .nl zy rfl rfl)
            ·refine ze<|zi fun r33 hr33 => ?_
             obtain ⟨_, er33, _, rfl⟩ := Z2l r1.1 r33 hr33
             refine zc [] (pA_ (ZU r33)) [(ZN zl r1.2 z7 zh zj z2 z6 zu zd), (Zk Z1D .nl .nl)] er33<|zq<|zi fun r34 hr34 => ?_
             obtain ⟨_, er34, _, rfl⟩ := Z48 false ([r33] : List Z8) .sh r34 hr34
             refine zc [] (pA_ (ZI r34 .sh .sh)) [(ZN zl r1.2 z7 zh zj z2 z6 zu zd), (Zk Z1D .nl .nl)] er34<|zt [(ZN zl r1.2 z7 zh zj z2 z6 zu zd), (Zk r34 .sh .sh)] ?_
             exact zr ((.p (.tup [(.agg (ZI r34 .sh .sh)), (.v (.bool true))])), [(ZN zl r1.2 z7 zh zj z2 z6 zu zd), (Zk r34 .sh .sh)]) ⟨zd, _, zy, rfl⟩
theorem ZjI zl zn z7 zh zj z2 z6 {r} (h : Z7K zl zn z7 zh zj z2 z6 = some r) : Z9G zl zn z7 zh zj z2 z6 = some r :=
 Z1l (fun _ _ ha hb => ru_ (ZdB _ _) (ha .ex .ex rfl) (hb .ex .ex rfl)) (fun zu zd zy => Zj8 zl zn z7 zh zj z2 z6 zu zd zy r h)
def Z9D (zl : List Int) (zn : Int) : Option (Int × Int) :=
 (ZdR zl zn).bind fun r1 =>
 some (r1.1, (IntKind.i64.wrap (zn + r1.2)))
theorem Zjf zl zn z7 zh zj z2 z6 zu zd (zy : ZO zd = true) : Sim (Z2b zl z7 zh zj z2 z6 zu zd) (Z9D zl zn) (EE 63 [(.ptr 0 0)] [(ZN zl zn z7 zh zj z2 z6 zu zd)]) := by
 unfold Z9D
 refine zf (ZG9 ..)<|ze<|ze<|zq<|zq<|zq<|zq<|zq<|zq<|zi fun r1 hr1 => ?_
 obtain ⟨_, er1, _, rfl⟩ := Zkx zl zn .sh r1 hr1
 refine zc [] (.p (.tup [(.v (.int .i64 r1.1)), (.v (.int .i64 r1.2))])) [(ZN zl zn z7 zh zj z2 z6 zu zd)] er1<|zq<|zq<|ze<|zq<|zq<|zq<|zq<|zq<|zq<|zt [(ZN zl (IntKind.i64.wrap (zn + r1.2)) z7 zh zj z2 z6 zu zd)]<|ze ?_
 exact zr ((iv r1.1), [(ZN zl (IntKind.i64.wrap (zn + r1.2)) z7 zh zj z2 z6 zu zd)]) ⟨_, rfl⟩
theorem ZjM zl zn {r} (h : Z9D zl zn = some r) : Z3m zl zn = some r :=
 Z1l (fun _ _ ha hb => ru_ (Z6F _ _ _ _ _ _ _ _) (ha default default default default default .ex .ex rfl) (hb default default default default default .ex .ex rfl)) (fun z7 zh zj z2 z6 zu zd zy => Zjf zl zn z7 zh zj z2 z6 zu zd zy r h)
def ZjA (x0 : Int) : Option Z8 :=
 some (Z8.mk x0 x0)
theorem Zqg x0 : Sim Zgf (ZjA x0) (EE 65 [(iv x0)] []) := by
 unfold ZjA
 refine zf (ZGc ..)<|ze<|zz (.ptr 0 0) [(Z2x (Z8.mk 0 0))]<|ze<|zq<|zt [(Z2x (Z8.mk x0 x0))] ?_
 exact zr ((pA_ (ZU (Z8.mk x0 x0))), [(Z2x (Z8.mk x0 x0))]) ⟨_, rfl⟩
theorem Zrt x0 {r} (h : ZjA x0 = some r) : Z2w x0 = some r :=
 Z1l (fun _ _ ha hb => ru_ Zsh ha hb) (Zqg x0 r h)
def ZcL (x5 : List Z8) : Option Z9 :=
 some (Z9.mk 1 0 0 0 0 x5 ([] : List Z9))
theorem ZgK (x5 : List Z8) b0 ox5 z1Y z1A (zCI : ZO z1Y = true) (zBr : ZO z1A = true) : Sim Z6E (ZcL x5) (ZpW 0 (.ptr 0 0) (ZR ox5 (x5.map Zv)) [(Zk b0 z1Y z1A)]) := by
 unfold ZcL
 refine zf (ZAI ..)<|ze<|zq<|zt [(Z2P 1 0 0 0 0 x5 ([] : List Z9) (shrO (shrO ox5)) .nl)] ?_
 exact zr ((pA_ (ZI (Z9.mk 1 0 0 0 0 x5 ([] : List Z9)) .sh .sh)), [(Z2P 1 0 0 0 0 x5 ([] : List Z9) (shrO (shrO ox5)) .nl)]) ⟨_, rfl⟩
def Zgh (x0 : Bool) (x1 : List Z8) : Option Z9 :=
 (ZeX x1).bind fun r1 =>
 if x0 = true then
 ((Za9 r1.1).bind fun r2 =>
 ZcL r2.1)
 else
 (ZcL r1.1)
theorem Zqh x0 (x1 : List Z8) ox1 : Sim Z6E (Zgh x0 x1) (EE 64 [(bv x0), (ZR ox1 (x1.map Zv))] []) := by
 unfold Zgh
 refine zf (ZGa ..)<|ze<|zz (.ptr 0 0) [(Zk Z1D .nl .nl)]<|ze<|zi fun r1 hr1 => ?_
 obtain ⟨_, er1, _, rfl⟩ := Zqe x1 .sh r1 hr1
 refine zc [] (.p (.tup [(.lst .sh (r1.1.map Zv)), (.v (.int .i64 r1.2))])) [(Zk Z1D .nl .nl)] er1<|zq<|zq<|ze ?_
 refine za x0 ?_ ?_
 ·refine ze<|zi fun r2 hr2 => ?_
  obtain ⟨_, er2, _, rfl⟩ := ZgC r1.1 .sh r2 hr2
  refine zc [] (.p (.tup [(.lst .sh (r2.1.map Zv)), (.v (.int .i64 r2.2))])) [(Zk Z1D .nl .nl)] er2<|zq<|zq ?_
  exact zk (ZgK r2.1 Z1D .sh .nl .nl rfl rfl)
 ·exact zk (ZgK r1.1 Z1D .sh .nl .nl rfl rfl)
theorem Zru x0 x1 {r} (h : Zgh x0 x1 = some r) : Z3Y x0 x1 = some r :=
 Z1l (fun _ _ ha hb => ru_ Zim (ha .ex) (hb .ex)) (fun ox1 => Zqh x0 x1 ox1 r h)
def ZbL (x0 : List Z8) : Option ((List Z8) × Int) :=
 (ZaN x0).bind fun r1 =>
 some (r1, 0)
theorem ZlL (x0 : List Z8) ox0 : Sim Z2T (ZbL x0) (ZuC 0 (ZR ox0 (x0.map Zv)) []) := by
 unfold ZbL
 refine zf (ZB2 ..)<|ze<|zi fun r1 hr1 => ?_
 obtain ⟨_, er1, _, rfl⟩ := Zdh x0 .sh r1 hr1
 refine zc [] (ZR .sh (r1.map Zv)) [] er1 ?_
 exact zr ((.p (.tup [(.lst .sh (r1.map Zv)), (.v (.int .i64 0))])), []) ⟨_, rfl⟩
def ZeQ (x0 : List Z8) : Option ((List Z8) × Int) :=
 (Z5b x0).bind fun r1 =>
 if r1 = true then
 (some (([] : List Z8), 13))
 else
 (ZbL x0)
theorem Zon (x0 : List Z8) ox0 : Sim Z2T (ZeQ x0) (EE 77 [(ZR ox0 (x0.map Zv))] []) := by
 unfold ZeQ
 refine zf (ZGu ..)<|ze<|ze<|zi fun r1 hr1 => ?_
 obtain ⟨_, er1, _, rfl⟩ := Zdr x0 .sh r1 hr1
 refine zc [] (bv r1) [] er1 ?_
 refine za r1 ?_ ?_
 ·refine ze ?_
  exact zr ((.p (.tup [(.lst .sh []), (.v (.int .i64 13))])), []) ⟨_, rfl⟩
 ·exact zk (ZlL x0 ox0)
theorem Zqd x0 {r} (h : ZeQ x0 = some r) : ZeX x0 = some r :=
 Z1l (fun _ _ ha hb => ru_ ZaE (ha .ex) (hb .ex)) (fun ox0 => Zon x0 ox0 r h)
def Z56 (x0 : List Z8) : Option Bool :=
 (Z6f x0).bind fun r1 =>
 some (decide (0 ≤ r1))
theorem ZcT (x0 : List Z8) ox0 : Sim ZW (Z56 x0) (EE 96 [(ZR ox0 (x0.map Zv)), (.clo 97 [] [])] []) := by
 unfold Z56
 refine zf (ZGK ..)<|ze<|ze<|zi fun r1 hr1 => ?_
 obtain ⟨_, er1, _, rfl⟩ := ZeP x0 .sh r1 hr1
 refine zc [] (iv r1) [] er1<|zq ?_
 exact zr ((bv (decide (0 ≤ r1))), []) ⟨_, rfl⟩
theorem Zdq x0 {r} (h : Z56 x0 = some r) : Z5b x0 = some r :=
 Z1l (fun _ _ ha hb => ru_ Z2L (ha .ex) (hb .ex)) (fun ox0 => ZcT x0 ox0 r h)
def Z69 (x0 : List Z8) : Option Int :=
 Z42 x0 (x0.length : Int) 0
theorem Zeb (x0 : List Z8) ox0 : Sim ZL (Z69 x0) (EE 104 [(ZR ox0 (x0.map Zv)), (.clo 97 [] [])] []) := by
 unfold Z69
 refine zf (ZE3 ..)<|ze<|ze<|zp (iv (x0.length : Int)) (et_ (Z2S (P := PP) (t := 27) (d := 47) (by kernel_rfl) Zv (shrO ox0) x0)) ?_
 exact zk (Z8Q x0 (x0.length : Int) 0 ox0)
theorem ZeO x0 {r} (h : Z69 x0 = some r) : Z6f x0 = some r :=
 Z1l (fun _ _ ha hb => ru_ Z1N (ha .ex) (hb .ex)) (fun ox0 => Zeb x0 ox0 r h)
def Z59 (x0 : List Z8) (x7 x8 : Int) : Option Int :=
 Z42 x0 x7 (IntKind.i64.wrap (x8 + 1))
theorem Zd0 (x0 : List Z8) x7 x8 ox0 : Sim ZL (Z59 x0 x7 x8) (Zr1 0 (ZR ox0 (x0.map Zv)) (.clo 97 [] []) (iv x7) (iv x8) []) := by
 unfold Z59
 refine zf (Zxe ..)<|ze<|zq ?_
 exact zk (Z8Q x0 x7 (IntKind.i64.wrap (x8 + 1)) ox0)
def Z58 (x0 : List Z8) (x7 x8 : Int) : Option Int :=
 (lget x0 x8).bind fun a1 =>
 (ZcR a1).bind fun r2 =>
 if r2 = true then
 (some x8)
 else
 (Z59 x0 x7 x8)
theorem ZcZ (x0 : List Z8) x7 x8 ox0 : Sim ZL (Z58 x0 x7 x8) (Zr0 0 (ZR ox0 (x0.map Zv)) (.clo 97 [] []) (iv x7) (iv x8) []) := by
 unfold Z58
 refine zf (Zxd ..)<|ze<|ze<|zi fun a1 ha1 => zp (.cptr (ZU a1)) (et_ (Z2k (o := (shrO ox0)) (k := .i64) (n := 2) (e := Zv) (cs := Z7Q) (fun _ => rfl) (fun _ => rfl) (by decide) ha1))<|zq<|zi fun r2 hr2 => ?_
 obtain ⟨_, er2, _, rfl⟩ := ZnN a1 r2 hr2
 refine zv [] (bv r2) [] er2 ?_
 refine za r2 ?_ ?_
 ·refine ze ?_
  exact zr ((iv x8), []) ⟨_, rfl⟩
 ·exact zk (Zd0 x0 x7 x8 ox0)
def Z72 : Option Int :=
 some (-1)
theorem Zd1 : Sim ZL Z72 (Zr2 0 []) := by
 unfold Z72
 refine zf (Zxf ..)<|ze ?_
 exact zr ((iv (-1)), []) ⟨_, rfl⟩
def Z40 (x0 : List Z8) (x7 x8 : Int) : Option Int :=
 if (decide (x8 < x7)) = true then
 (Z58 x0 x7 x8)
 else
 Z72
theorem ZcY (x0 : List Z8) x7 x8 ox0 : Sim ZL (Z40 x0 x7 x8) (Zk2 0 (ZR ox0 (x0.map Zv)) (.clo 97 [] []) (iv x7) (iv x8) []) := by
 unfold Z40
 refine zf (Zxc ..)<|ze<|zq ?_
 refine za (decide (x8 < x7)) ?_ ?_
 ·exact zk (ZcZ x0 x7 x8 ox0)
 ·exact zk Zd1
theorem Z8P x0 x7 x8 {r} (h : Z40 x0 x7 x8 = some r) : Z42 x0 x7 x8 = some r :=
 Z1l (fun _ _ ha hb => ru_ Z1N (ha .ex) (hb .ex)) (fun ox0 => ZcY x0 x7 x8 ox0 r h)
def ZcH (x0 : Z8) : Option Bool :=
 (Z7M x0).bind fun r1 =>
 some (!r1)
theorem Zmt x0 : Sim ZW (ZcH x0) (EE 97 [(pA_ (ZU x0))] []) := by
 unfold ZcH
 refine zf (ZGL ..)<|ze<|zx (.ptr 0 0) [(Z2x x0)]<|ze<|zq<|zi fun r1 hr1 => ?_
 obtain ⟨_, er1, _, rfl⟩ := ZdE x0 r1 hr1
 refine zc [] (bv r1) [(Z2x x0)] er1<|zq ?_
 exact zr ((bv (!r1)), [(Z2x x0)]) ⟨_, rfl⟩
theorem ZnM x0 {r} (h : ZcH x0 = some r) : ZcR x0 = some r :=
 Z1l (fun _ _ ha hb => ru_ Z2L ha hb) (Zmt x0 r h)
def Z9x (x0 : Z8) : Option Bool :=
 if (decide (0 ≤ x0.Lo)) = true then
 (if (decide (x0.Lo ≤ x0.Hi)) = true then
 (some (decide (x0.Hi ≤ 1114367)))
 else
 (some false))
 else
 (some false)
theorem Zj2 x0 : Sim ZW (Z9x x0) (EE 22 [(pA_ (ZU x0))] []) := by
 unfold Z9x
 refine zf (ZFe ..)<|ze<|zx (.ptr 0 0) [(Z2x x0)]<|ze<|zq<|zq<|zq ?_
 refine za (decide (0 ≤ x0.Lo)) ?_ ?_
 ·refine zq<|zq<|zq<|zq<|zq ?_
  refine za (decide (x0.Lo ≤ x0.Hi)) ?_ ?_
  ·refine zq<|zq<|zq ?_
   exact zr ((bv (decide (x0.Hi ≤ 1114367))), [(Z2x x0)]) ⟨_, rfl⟩
  ·exact zr ((bv false), [(Z2x x0)]) ⟨_, rfl⟩
 ·exact zr ((bv false), [(Z2x x0)]) ⟨_, rfl⟩
theorem ZjB x0 {r} (h : Z9x x0 = some r) : Z7M x0 = some r :=
 Z1l (fun _ _ ha hb => ru_ Z2L ha hb) (Zj2 x0 r h)
def Za1 (x0 : List Z8) : Option ((List Z8) × Int) :=
 (ZbV x0).bind fun r1 =>
 some (r1, 0)
theorem ZjD (x0 : List Z8) ox0 : Sim Z2T (Za1 x0) (Zth 0 (ZR ox0 (x0.map Zv)) []) := by
 unfold Za1
 refine zf (ZzF ..)<|ze<|zi fun r1 hr1 => ?_
 obtain ⟨_, er1, _, rfl⟩ := Zmy x0 .sh r1 hr1
 refine zc [] (ZR .sh (r1.map Zv)) [] er1 ?_
 exact zr ((.p (.tup [(.lst .sh (r1.map Zv)), (.v (.int .i64 0))])), []) ⟨_, rfl⟩
def ZbN (x0 : List Z8) : Option ((List Z8) × Int) :=
 (Z4N x0).bind fun r1 =>
 if (!r1) = true then
 (some (([] : List Z8), 10))
 else
 (Za1 x0)
theorem ZlP (x0 : List Z8) ox0 : Sim Z2T (ZbN x0) (EE 17 [(ZR ox0 (x0.map Zv))] []) := by
 unfold ZbN
 refine zf (ZF3 ..)<|ze<|ze<|zi fun r1 hr1 => ?_
 obtain ⟨_, er1, _, rfl⟩ := Z6P x0 .sh r1 hr1
 refine zc [] (bv r1) [] er1<|zq ?_
 refine za (!r1) ?_ ?_
 ·refine ze ?_
  exact zr ((.p (.tup [(.lst .sh []), (.v (.int .i64 10))])), []) ⟨_, rfl⟩
 ·exact zk (ZjD x0 ox0)
theorem Zmv x0 {r} (h : ZbN x0 = some r) : Za9 x0 = some r :=
 Z1l (fun _ _ ha hb => ru_ ZaE (ha .ex) (hb .ex)) (fun ox0 => ZlP x0 ox0 r h)
def Za0 (x0 : List Z8) : Option Bool :=
 Z6O (-2) x0 (x0.length : Int) 0
theorem ZjC (x0 : List Z8) ox0 : Sim ZW (Za0 x0) (EE 12 [(ZR ox0 (x0.map Zv))] []) := by
 unfold Za0
 refine zf (ZET ..)<|ze<|ze<|ze<|zp (iv (x0.length : Int)) (et_ (Z2S (P := PP) (t := 28) (d := 47) (by kernel_rfl) Zv (shrO ox0) x0)) ?_
 exact zk (Zcb (-2) x0 (x0.length : Int) 0 (shrO ox0))
theorem Zkk x0 {r} (h : Za0 x0 = some r) : Z4N x0 = some r :=
 Z1l (fun _ _ ha hb => ru_ Z2L (ha .ex) (hb .ex)) (fun ox0 => ZjC x0 ox0 r h)
def Z8n : Option Bool :=
 some false
theorem ZbU : Sim ZW Z8n (Zpe 0 []) := by
 unfold Z8n
 refine zf (Zzp ..)<|ze ?_
 exact zr ((bv false), []) ⟨_, rfl⟩
def Z8p (x3 : Int) (x6 : List Z8) (x7 x8 : Int) : Option Bool :=
 Z6O x3 x6 x7 (IntKind.i64.wrap (x8 + 1))
theorem ZhG x3 (x6 : List Z8) x7 x8 ox6 : Sim ZW (Z8p x3 x6 x7 x8) (Zt2 0 (iv x3) (ZR ox6 (x6.map Zv)) (iv x7) (iv x8) []) := by
 unfold Z8p
 refine zf (Zzr ..)<|ze<|zq ?_
 exact zk (Zcb x3 x6 x7 (IntKind.i64.wrap (x8 + 1)) ox6)
def Z8o (x6 : List Z8) (x7 x8 : Int) (b0 : Z8) : Option Bool :=
 Z8p b0.Hi x6 x7 x8
theorem ZhF (x6 : List Z8) x7 x8 b0 ox6 : Sim ZW (Z8o x6 x7 x8 b0) (Zt1 0 (.ptr 0 0) (ZR ox6 (x6.map Zv)) (iv x7) (iv x8) [(Z2x b0)]) := by
 unfold Z8o
 refine zf (Zzq ..)<|ze<|zq<|zq ?_
 exact zk (ZhG b0.Hi x6 x7 x8 ox6)
def Z8m (x3 : Int) (x6 : List Z8) (x7 x8 : Int) : Option Bool :=
 (lget x6 x8).bind fun a1 =>
 (Z7M a1).bind fun r2 =>
 if (!r2) = true then
 Z8n
 else
 (if (decide (a1.Lo < (IntKind.i64.wrap (x3 + 2)))) = true then
 Z8n
 else
 (Z8o x6 x7 x8 a1))
theorem ZhE x3 (x6 : List Z8) x7 x8 ox6 : Sim ZW (Z8m x3 x6 x7 x8) (Zt0 0 (iv x3) (ZR ox6 (x6.map Zv)) (iv x7) (iv x8) []) := by
 unfold Z8m
 refine zf (Zzo ..)<|ze<|zi fun a1 ha1 => zp (.cptr (ZU a1)) (et_ (Z2k (o := ox6) (k := .i64) (n := 2) (e := Zv) (cs := Z7Q) (fun _ => rfl) (fun _ => rfl) (by decide) ha1))<|zq<|zz (.ptr 0 0) [(Z2x (Z8.mk 0 0))]<|zt [(Z2x a1)]<|ze<|zq<|zi fun r2 hr2 => ?_
 obtain ⟨_, er2, _, rfl⟩ := ZdE a1 r2 hr2
 refine zc [] (bv r2) [(Z2x a1)] er2<|zq ?_
 refine za (!r2) ?_ ?_
 ·exact zk ZbU
 ·refine zq<|zq<|zq<|zq ?_
  refine za (decide (a1.Lo < (IntKind.i64.wrap (x3 + 2)))) ?_ ?_
  ·exact zk ZbU
  ·exact zk (ZhF x6 x7 x8 a1 ox6)
def ZaG : Option Bool :=
 some true
theorem ZhH : Sim ZW ZaG (Zt3 0 []) := by
 unfold ZaG
 refine zf (Zzs ..)<|ze ?_
 exact zr ((bv true), []) ⟨_, rfl⟩
def Z6G (x3 : Int) (x6 : List Z8) (x7 x8 : Int) : Option Bool :=
 if (decide (x8 < x7)) = true then
 (Z8m x3 x6 x7 x8)
 else
 ZaG
theorem ZhD x3 (x6 : List Z8) x7 x8 ox6 : Sim ZW (Z6G x3 x6 x7 x8) (Zm6 0 (iv x3) (ZR ox6 (x6.map Zv)) (iv x7) (iv x8) []) := by
 unfold Z6G
 refine zf (Zzn ..)<|ze<|zq ?_
 refine za (decide (x8 < x7)) ?_ ?_
 ·exact zk (ZhE x3 x6 x7 x8 ox6)
 ·exact zk ZhH
theorem Zca x3 x6 x7 x8 {r} (h : Z6G x3 x6 x7 x8 = some r) : Z6O x3 x6 x7 x8 = some r :=
 Z1l (fun _ _ ha hb => ru_ Z2L (ha .ex) (hb .ex)) (fun ox6 => ZhD x3 x6 x7 x8 ox6 r h)
def ZbO (x0 : List Z8) : Option (List Z8) :=
 Z8d ([] : List Z8) 0 x0 (x0.length : Int) 0
theorem ZlQ (x0 : List Z8) ox0 : Sim Z3M (ZbO x0) (EE 26 [(ZR ox0 (x0.map Zv))] []) := by
 unfold ZbO
 refine zf (ZFg ..)<|ze<|ze<|ze<|ze<|zp (iv (x0.length : Int)) (et_ (Z2S (P := PP) (t := 28) (d := 47) (by kernel_rfl) Zv (shrO ox0) x0)) ?_
 exact zk (Zes ([] : List Z8) 0 x0 (x0.length : Int) 0 .nl (shrO ox0) rfl)
theorem Zmx x0 {r} (h : ZbO x0 = some r) : ZbV x0 = some r :=
 Z1l (fun _ _ ha hb => ru_ Zb6 (ha .ex) (hb .ex)) (fun ox0 => ZlQ x0 ox0 r h)
def Za3 (x3 : List Z8) (x4 : Int) (x7 : List Z8) (x8 x9 : Int) : Option (List Z8) :=
 Z8d x3 x4 x7 x8 (IntKind.i64.wrap (x9 + 1))
theorem ZjG (x3 : List Z8) x4 (x7 : List Z8) x8 x9 ox3 ox7 (hox3 : ZO ox3 = true) : Sim Z3M (Za3 x3 x4 x7 x8 x9) (Ztt 0 (ZR ox3 (x3.map Zv)) (iv x4) (ZR ox7 (x7.map Zv)) (iv x8) (iv x9) []) := by
 unfold Za3
 refine zf (ZzQ ..)<|ze<|zq ?_
 exact zk (Zes x3 x4 x7 x8 (IntKind.i64.wrap (x9 + 1)) ox3 ox7 hox3)
def Z6H (x3 x7 : List Z8) (x8 x9 : Int) (b0 : Z8) : Option (List Z8) :=
 Za3 x3 (IntKind.i64.wrap (b0.Hi + 1)) x7 x8 x9
theorem ZdH (x3 x7 : List Z8) x8 x9 b0 ox3 ox7 (hox3 : ZO ox3 = true) : Sim Z3M (Z6H x3 x7 x8 x9 b0) (Zpr 0 (ZR ox3 (x3.map Zv)) (.ptr 0 0) (ZR ox7 (x7.map Zv)) (iv x8) (iv x9) [(Z2x b0)]) := by
 unfold Z6H
 refine zf (ZzP ..)<|ze<|zq<|zq<|zq ?_
 exact zk (ZjG x3 (IntKind.i64.wrap (b0.Hi + 1)) x7 x8 x9 ox3 ox7 hox3)
def Za2 (x3 : List Z8) (x4 : Int) (x7 : List Z8) (x8 x9 : Int) : Option (List Z8) :=
 (lget x7 x9).bind fun a1 =>
 if (decide (x4 < a1.Lo)) = true then
 ((lapp x3 ([(Z8.mk x4 (IntKind.i64.wrap (a1.Lo - 1)))] : List Z8)).bind fun a2 =>
 Z6H a2 x7 x8 x9 a1)
 else
 (Z6H x3 x7 x8 x9 a1)
theorem ZjF (x3 : List Z8) x4 (x7 : List Z8) x8 x9 ox3 ox7 (hox3 : ZO ox3 = true) : Sim Z3M (Za2 x3 x4 x7 x8 x9) (Zts 0 (ZR ox3 (x3.map Zv)) (iv x4) (ZR ox7 (x7.map Zv)) (iv x8) (iv x9) []) := by
 unfold Za2
 refine zf (ZzO ..)<|ze<|zi fun a1 ha1 => zp (.cptr (ZU a1)) (et_ (Z2k (o := ox7) (k := .i64) (n := 2) (e := Zv) (cs := Z7Q) (fun _ => rfl) (fun _ => rfl) (by decide) ha1))<|zq<|zz (.ptr 0 0) [(Z2x (Z8.mk 0 0))]<|zt [(Z2x a1)]<|ze<|zq<|zq<|zq ?_
 refine za (decide (x4 < a1.Lo)) ?_ ?_
 ·refine ze<|zq<|zq<|zq<|zq<|zq<|zi fun a2 ha2 => zp (ZR .un (a2.map Zv)) (Eq.trans (by kernel_rfl) <| ZeH (n := 2) (o := ox3) (o' := .ex) (e := Zv) (ys := ([(Z8.mk x4 (IntKind.i64.wrap (a1.Lo - 1)))] : List Z8)) (fun _ => rfl) (by decide) hox3 ha2) ?_
  exact zk (ZdH a2 x7 x8 x9 a1 .un ox7 rfl)
 ·exact zk (ZdH x3 x7 x8 x9 a1 ox3 ox7 hox3)
def Z6t (x3 : List Z8) : Option (List Z8) :=
 some x3
theorem Zdc (x3 : List Z8) ox3 (hox3 : ZO ox3 = true) : Sim Z3M (Z6t x3) (Znq 0 (ZR ox3 (x3.map Zv)) []) := by
 unfold Z6t
 refine zf (Zxn ..)<|ze ?_
 exact zr ((ZR .sh (x3.map Zv)), []) ⟨_, rfl⟩
def Z9B (x3 : List Z8) (x4 : Int) : Option (List Z8) :=
 if (decide (x4 ≤ 1114367)) = true then
 ((lapp x3 ([(Z8.mk x4 1114367)] : List Z8)).bind fun a1 =>
 Z6t a1)
 else
 (Z6t x3)
theorem Zj7 (x3 : List Z8) x4 ox3 (hox3 : ZO ox3 = true) : Sim Z3M (Z9B x3 x4) (Zr8 0 (ZR ox3 (x3.map Zv)) (iv x4) []) := by
 unfold Z9B
 refine zf (Zxm ..)<|ze<|zq ?_
 refine za (decide (x4 ≤ 1114367)) ?_ ?_
 ·refine ze<|zq<|zq<|zi fun a1 ha1 => zp (ZR .un (a1.map Zv)) (Eq.trans (by kernel_rfl) <| ZeH (n := 2) (o := ox3) (o' := .ex) (e := Zv) (ys := ([(Z8.mk x4 1114367)] : List Z8)) (fun _ => rfl) (by decide) hox3 ha1) ?_
  exact zk (Zdc a1 .un rfl)
 ·exact zk (Zdc x3 ox3 hox3)
def Z88 (x3 : List Z8) (x4 : Int) (x7 : List Z8) (x8 x9 : Int) : Option (List Z8) :=
 if (decide (x9 < x8)) = true then
 (Za2 x3 x4 x7 x8 x9)
 else
 (Z9B x3 x4)
theorem ZjE (x3 : List Z8) x4 (x7 : List Z8) x8 x9 ox3 ox7 (hox3 : ZO ox3 = true) : Sim Z3M (Z88 x3 x4 x7 x8 x9) (Zma 0 (ZR ox3 (x3.map Zv)) (iv x4) (ZR ox7 (x7.map Zv)) (iv x8) (iv x9) []) := by
 unfold Z88
 refine zf (ZzN ..)<|ze<|zq ?_
 refine za (decide (x9 < x8)) ?_ ?_
 ·exact zk (ZjF x3 x4 x7 x8 x9 ox3 ox7 hox3)
 ·exact zk (Zj7 x3 x4 ox3 hox3)
theorem Zer x3 x4 x7 x8 x9 {r} (h : Z88 x3 x4 x7 x8 x9 = some r) : Z8d x3 x4 x7 x8 x9 = some r :=
 Z1l (fun _ _ ha hb => ru_ Zb6 (ha .ex .ex rfl) (hb .ex .ex rfl)) (fun ox3 ox7 hox3 => ZjE x3 x4 x7 x8 x9 ox3 ox7 hox3 r h)
def Z5s (x1 x5 zn : Int) (zj : List Zz) (z2 z6 : Int) : Option (Z9 × Int × (List Zz) × Int × Int) :=
 (lapp zj ([(Zz.mk (IntKind.i64.wrap (x5 - 48)) x1)] : List Zz)).bind fun a1 =>
 some ((Z9.mk 6 0 0 0 (IntKind.i64.wrap (x5 - 48)) ([] : List Z8) ([] : List Z9)), zn, a1, z2, z6)
theorem Zfq x1 x5 zl zn z7 zh zj z2 z6 b1 zu zd zH zE (zy : ZO zd = true) (z19 : ZO zH = true) (z11 : ZO zE = true) : Sim (Z4s zl z7 zh zu) (Z5s x1 x5 zn zj z2 z6) (Zri 1 (.ptr 0 0) (iv x1) (.ptr 1 0) (iv x5) [(ZN zl zn z7 zh zj z2 z6 zu zd), (Zk b1 zH zE)]) := by
 unfold Z5s
 refine zf (ZxS ..)<|ze<|zq<|zq<|zw (ZR zd (zj.map Z2X)) [(ZN zl zn z7 zh zj z2 z6 zu (shrO zd)), (Zk b1 zH zE)]<|zq<|zq<|zq<|zi fun a1 ha1 => zp (ZR .un (a1.map Z2X)) (Eq.trans (by kernel_rfl) <| ZeH (n := 2) (o := zd) (o' := .ex) (e := Z2X) (ys := ([(Zz.mk (IntKind.i64.wrap (x5 - 48)) x1)] : List Zz)) (fun _ => rfl) (by decide) zy ha1)<|zq<|zq<|zt [(ZN zl zn z7 zh a1 z2 z6 zu .un), (Zk b1 zH zE)]<|ze<|zq<|zq<|zt [(ZN zl zn z7 zh a1 z2 z6 zu .un), (Z2P 6 0 0 0 (IntKind.i64.wrap (x5 - 48)) ([] : List Z8) ([] : List Z9) .nl .nl)] ?_
 exact zr ((pA_ (ZI (Z9.mk 6 0 0 0 (IntKind.i64.wrap (x5 - 48)) ([] : List Z8) ([] : List Z9)) .sh .sh)), [(ZN zl zn z7 zh a1 z2 z6 zu .un), (Z2P 6 0 0 0 (IntKind.i64.wrap (x5 - 48)) ([] : List Z8) ([] : List Z9) .nl .nl)]) ⟨.un, _, rfl, rfl⟩
def Z3o (x1 x5 : Int) (zl : List Int) (zn z7 zh : Int) (zj : List Zz) (z2 z6 : Int) : Option (Z9 × Int × (List Zz) × Int × Int) :=
 (Z7p x5 x1 zl zn z7 zh zj z2 z6).bind fun r1 =>
 (Z2w r1.1).bind fun r2 =>
 (Z3Y false ([r2] : List Z8)).bind fun r3 =>
 some (r3, r1.2.1, zj, r1.2.2.1, r1.2.2.2)
theorem Zaq x1 x5 zl zn z7 zh zj z2 z6 b1 zu zd zH zE (zy : ZO zd = true) (z19 : ZO zH = true) (z11 : ZO zE = true) : Sim (Z4s zl z7 zh zu) (Z3o x1 x5 zl zn z7 zh zj z2 z6) (Znw 1 (.ptr 0 0) (iv x1) (.ptr 1 0) (iv x5) [(ZN zl zn z7 zh zj z2 z6 zu zd), (Zk b1 zH zE)]) := by
 unfold Z3o
 refine zf (ZxT ..)<|ze<|zi fun r1 hr1 => ?_
 obtain ⟨_, er1, _, rfl⟩ := Zde x5 x1 zl zn z7 zh zj z2 z6 zu zd zy r1 hr1
 refine zc [0] (iv r1.1) [(ZN zl r1.2.1 z7 zh zj r1.2.2.1 r1.2.2.2 zu zd), (Zk b1 zH zE)] er1<|zi fun r2 hr2 => ?_
 obtain ⟨_, er2, _, rfl⟩ := Z2l r1.1 r2 hr2
 refine zc [] (pA_ (ZU r2)) [(ZN zl r1.2.1 z7 zh zj r1.2.2.1 r1.2.2.2 zu zd), (Zk b1 zH zE)] er2<|zq<|zi fun r3 hr3 => ?_
 obtain ⟨_, er3, _, rfl⟩ := Z48 false ([r2] : List Z8) .sh r3 hr3
 refine zc [] (pA_ (ZI r3 .sh .sh)) [(ZN zl r1.2.1 z7 zh zj r1.2.2.1 r1.2.2.2 zu zd), (Zk b1 zH zE)] er3<|zt [(ZN zl r1.2.1 z7 zh zj r1.2.2.1 r1.2.2.2 zu zd), (Zk r3 .sh .sh)] ?_
 exact zr ((pA_ (ZI r3 .sh .sh)), [(ZN zl r1.2.1 z7 zh zj r1.2.2.1 r1.2.2.2 zu zd), (Zk r3 .sh .sh)]) ⟨zd, _, zy, rfl⟩
def Z3x (x1 x5 : Int) (zl : List Int) (zn z7 zh : Int) (zj : List Zz) (z2 z6 : Int) : Option (Z9 × Int × (List Zz) × Int × Int) :=
 (Z3m zl zn).bind fun r1 =>
 (Z7A x5).bind fun r2 =>
 (nilO r2.1 r2.2).bind fun a3 =>
 if (!a3) = true then
 ((Z7A x5).bind fun r4 =>
 (Z3Y (decide (x5 < 97)) r4.2).bind fun r5 =>
 some (r5, r1.2, zj, z2, z6))
 else
 (if (x5 == 98) = true then
 (some ((Z9.mk 9 0 0 0 2 ([] : List Z8) ([] : List Z9)), r1.2, zj, z2, z6))
 else
 (if (x5 == 66) = true then
 (some ((Z9.mk 9 0 0 0 3 ([] : List Z8) ([] : List Z9)), r1.2, zj, z2, z6))
 else
 (if (decide (49 ≤ x5)) = true then
 (if (decide (x5 ≤ 57)) = true then
 (Z5s x1 x5 r1.2 zj z2 z6)
 else
 (Z3o x1 x5 zl r1.2 z7 zh zj z2 z6))
 else
 (Z3o x1 x5 zl r1.2 z7 zh zj z2 z6))))
theorem ZfJ x1 x5 zl zn z7 zh zj z2 z6 b1 zu zd zH zE (zy : ZO zd = true) (z19 : ZO zH = true) (z11 : ZO zE = true) : Sim (Z4s zl z7 zh zu) (Z3x x1 x5 zl zn z7 zh zj z2 z6) (Zuj 1 (.ptr 0 0) (iv x1) (.ptr 1 0) (iv x5) [(ZN zl zn z7 zh zj z2 z6 zu zd), (Zk b1 zH zE)]) := by
 unfold Z3x
 refine zf (ZAJ ..)<|ze<|zi fun r1 hr1 => ?_
 obtain ⟨_, er1, _, rfl⟩ := Z3K zl zn z7 zh zj z2 z6 zu zd zy r1 hr1
 refine zc [0] (iv r1.1) [(ZN zl r1.2 z7 zh zj z2 z6 zu zd), (Zk b1 zH zE)] er1<|ze<|zi fun r2 hr2 => ?_
 obtain ⟨_, er2, _, rfl⟩ := Zbh x5 r2 hr2
 refine zc [] (ZR r2.1 (r2.2.map Zv)) [(ZN zl r1.2 z7 zh zj z2 z6 zu zd), (Zk b1 zH zE)] er2<|zi fun a3 ha3 => zp (bv (!a3)) (et_ (ZlJ (P := PP) (t := 27) (c := .slice none 0 0) (e := Zv) (by kernel_rfl) ha3)) ?_
 refine za (!a3) ?_ ?_
 ·refine ze<|zq<|zi fun r4 hr4 => ?_
  obtain ⟨_, er4, _, rfl⟩ := Zbh x5 r4 hr4
  refine zc [] (ZR r4.1 (r4.2.map Zv)) [(ZN zl r1.2 z7 zh zj z2 z6 zu zd), (Zk b1 zH zE)] er4<|zi fun r5 hr5 => ?_
  obtain ⟨_, er5, _, rfl⟩ := Z48 (decide (x5 < 97)) r4.2 .sh r5 hr5
  refine zc [] (pA_ (ZI r5 .sh .sh)) [(ZN zl r1.2 z7 zh zj z2 z6 zu zd), (Zk b1 zH zE)] er5<|zt [(ZN zl r1.2 z7 zh zj z2 z6 zu zd), (Zk r5 .sh .sh)] ?_
  exact zr ((pA_ (ZI r5 .sh .sh)), [(ZN zl r1.2 z7 zh zj z2 z6 zu zd), (Zk r5 .sh .sh)]) ⟨zd, _, zy, rfl⟩
 ·refine ze<|zq ?_
  refine za (x5 == 98) ?_ ?_
  ·refine ze<|zq<|zt [(ZN zl r1.2 z7 zh zj z2 z6 zu zd), (Z2P 9 0 0 0 2 ([] : List Z8) ([] : List Z9) .nl .nl)] ?_
   exact zr ((pA_ (ZI (Z9.mk 9 0 0 0 2 ([] : List Z8) ([] : List Z9)) .sh .sh)), [(ZN zl r1.2 z7 zh zj z2 z6 zu zd), (Z2P 9 0 0 0 2 ([] : List Z8) ([] : List Z9) .nl .nl)]) ⟨zd, _, zy, rfl⟩
  ·refine ze<|zq ?_
   refine za (x5 == 66) ?_ ?_
   ·refine ze<|zq<|zt [(ZN zl r1.2 z7 zh zj z2 z6 zu zd), (Z2P 9 0 0 0 3 ([] : List Z8) ([] : List Z9) .nl .nl)] ?_
    exact zr ((pA_ (ZI (Z9.mk 9 0 0 0 3 ([] : List Z8) ([] : List Z9)) .sh .sh)), [(ZN zl r1.2 z7 zh zj z2 z6 zu zd), (Z2P 9 0 0 0 3 ([] : List Z8) ([] : List Z9) .nl .nl)]) ⟨zd, _, zy, rfl⟩
   ·refine ze<|zq ?_
    refine za (decide (49 ≤ x5)) ?_ ?_
    ·refine zq ?_
     refine za (decide (x5 ≤ 57)) ?_ ?_
     ·exact zk (Zfq x1 x5 zl r1.2 z7 zh zj z2 z6 b1 zu zd zH zE zy z19 z11)
     ·exact zk (Zaq x1 x5 zl r1.2 z7 zh zj z2 z6 b1 zu zd zH zE zy z19 z11)
    ·exact zk (Zaq x1 x5 zl r1.2 z7 zh zj z2 z6 b1 zu zd zH zE zy z19 z11)
def Z5E (x1 : Int) (zl : List Int) (zn z7 zh : Int) (zj : List Zz) (z2 z6 : Int) : Option (Z9 × Int × (List Zz) × Int × Int) :=
 (Z2F (Z1C.mk zl zn z7 zh zj (Z17.mk z2 z6))).bind fun r1 =>
 if (decide (r1 < 0)) = true then
 ((Z1f 21 x1 zl z2 z6).bind fun r2 =>
 some ((Z9.mk 0 0 0 0 0 ([] : List Z8) ([] : List Z9)), r2.1, zj, r2.2.1, r2.2.2))
 else
 (Z3x x1 r1 zl zn z7 zh zj z2 z6)
theorem ZhR x1 zl zn z7 zh zj z2 z6 zu zd (zy : ZO zd = true) : Sim (Z4s zl z7 zh zu) (Z5E x1 zl zn z7 zh zj z2 z6) (EE 66 [(.ptr 0 0), (iv x1)] [(ZN zl zn z7 zh zj z2 z6 zu zd)]) := by
 unfold Z5E
 refine zf (ZGd ..)<|ze<|zz (.ptr 1 0) [(ZN zl zn z7 zh zj z2 z6 zu zd), (Zk Z1D .nl .nl)]<|ze<|zi fun r1 hr1 => ?_
 obtain ⟨_, er1, _, rfl⟩ := Z2V (Z1C.mk zl zn z7 zh zj (Z17.mk z2 z6)) zu zd zy r1 hr1
 refine zc [0] (iv r1) [(ZN zl zn z7 zh zj z2 z6 zu zd), (Zk Z1D .nl .nl)] er1<|ze<|zq ?_
 refine za (decide (r1 < 0)) ?_ ?_
 ·refine ze<|zi fun r2 hr2 => ?_
  obtain ⟨_, er2, _, rfl⟩ := Z1j 21 x1 zl zn z7 zh zj z2 z6 zu zd zy r2 hr2
  refine zc [0] (.p (.tup [])) [(ZN zl r2.1 z7 zh zj r2.2.1 r2.2.2 zu zd), (Zk Z1D .nl .nl)] er2<|ze<|zq<|zt [(ZN zl r2.1 z7 zh zj r2.2.1 r2.2.2 zu zd), (Zk Z1D .nl .nl)] ?_
  exact zr ((pA_ (ZI Z1D .sh .sh)), [(ZN zl r2.1 z7 zh zj r2.2.1 r2.2.2 zu zd), (Zk Z1D .nl .nl)]) ⟨zd, _, zy, rfl⟩
 ·exact zk (ZfJ x1 r1 zl zn z7 zh zj z2 z6 Z1D zu zd .nl .nl zy rfl rfl)
theorem Ziz x1 zl zn z7 zh zj z2 z6 {r} (h : Z5E x1 zl zn z7 zh zj z2 z6 = some r) : Z4B x1 zl zn z7 zh zj z2 z6 = some r :=
 Z1l (fun _ _ ha hb => ru_ (ZiZ _ _ _ _) (ha .ex .ex rfl) (hb .ex .ex rfl)) (fun zu zd zy => ZhR x1 zl zn z7 zh zj z2 z6 zu zd zy r h)
def Z5c (zl : List Int) (z2 z6 : Int) : Option (Int × Int × Int) :=
 some ((zl.length : Int), z2, z6)
theorem Zbv zl zn z7 zh zj z2 z6 zu zd (zy : ZO zd = true) : Sim (Z7H zl z7 zh zj zu zd) (Z5c zl z2 z6) (Zpo 1 (.ptr 0 0) [(ZN zl zn z7 zh zj z2 z6 zu zd)]) := by
 unfold Z5c
 refine zf (ZzM ..)<|ze<|zq<|zq<|zq<|zp (iv (zl.length : Int)) (et_ (Z2S (P := PP) (t := 54) (d := 5) (by kernel_rfl) (eI .u8) (shrO zu) zl))<|zq<|zq<|zt [(ZN zl (zl.length : Int) z7 zh zj z2 z6 zu zd)] ?_
 exact zr ((.p (.tup [])), [(ZN zl (zl.length : Int) z7 zh zj z2 z6 zu zd)]) ⟨_, rfl⟩
def Z7L (x1 x2 : Int) (zl : List Int) (z2 z6 : Int) : Option (Int × Int × Int) :=
 if (z2 == 0) = true then
 (Z5c zl x1 x2)
 else
 (Z5c zl z2 z6)
theorem Zjb x1 x2 zl zn z7 zh zj z2 z6 zu zd (zy : ZO zd = true) : Sim (Z7H zl z7 zh zj zu zd) (Z7L x1 x2 zl z2 z6) (EE 21 [(.ptr 0 0), (iv x1), (iv x2)] [(ZN zl zn z7 zh zj z2 z6 zu zd)]) := by
 unfold Z7L
 refine zf (ZFc ..)<|ze<|zq<|zq<|zq<|zq<|zq ?_
 refine za (z2 == 0) ?_ ?_
 ·refine ze<|zq<|zq<|zq<|zt [(ZN zl zn z7 zh zj x1 x2 zu zd)] ?_
  exact zk (Zbv zl zn z7 zh zj x1 x2 zu zd zy)
 ·exact zk (Zbv zl zn z7 zh zj z2 z6 zu zd zy)
theorem ZdM x1 x2 zl z2 z6 {r} (h : Z7L x1 x2 zl z2 z6 = some r) : Z1f x1 x2 zl z2 z6 = some r :=
 Z1l (fun _ _ ha hb => ru_ (ZjW _ _ _ _ _ _) (ha default default default default .ex .ex rfl) (hb default default default default .ex .ex rfl)) (fun zn z7 zh zj zu zd zy => Zjb x1 x2 zl zn z7 zh zj z2 z6 zu zd zy r h)
def Z32 : Option (Own × (List Z8)) :=
 some (.nl, ([] : List Z8))
theorem Z3q : Sim Z7w Z32 (ZbB 0 []) := by
 unfold Z32
 refine zf (Zy9 ..)<|ze ?_
 exact zr ((ZR .nl []), []) ⟨_, rfl⟩
def Z3X (x0 : Int) : Option (Own × (List Z8)) :=
 if (x0 == 100) = true then
 (if (x0 == 100) = true then
 (some (.ex, ([(Z8.mk 48 57)] : List Z8)))
 else
 (if (x0 == 119) = true then
 (if (x0 == 119) = true then
 ((Z2w 95).bind fun r1 =>
 some (.ex, ([(Z8.mk 48 57), (Z8.mk 65 90), r1, (Z8.mk 97 122)] : List Z8)))
 else
 (if (x0 == 115) = true then
 (if (x0 == 115) = true then
 ((Z2w 32).bind fun r2 =>
 some (.ex, ([(Z8.mk 9 13), r2] : List Z8)))
 else
 Z32)
 else
 (if (x0 == 83) = true then
 ((Z2w 32).bind fun r3 =>
 some (.ex, ([(Z8.mk 9 13), r3] : List Z8)))
 else
 Z32)))
 else
 (if (x0 == 87) = true then
 ((Z2w 95).bind fun r4 =>
 some (.ex, ([(Z8.mk 48 57), (Z8.mk 65 90), r4, (Z8.mk 97 122)] : List Z8)))
 else
 (if (x0 == 115) = true then
 (if (x0 == 115) = true then
 ((Z2w 32).bind fun r5 =>
 some (.ex, ([(Z8.mk 9 13), r5] : List Z8)))
 else
 Z32)
 else
 (if (x0 == 83) = true then
 ((Z2w 32).bind fun r6 =>
 some (.ex, ([(Z8.mk 9 13), r6] : List Z8)))
 else
 Z32)))))
 else
 (if (x0 == 68) = true then
 (some (.ex, ([(Z8.mk 48 57)] : List Z8)))
 else
 (if (x0 == 119) = true then
 (if (x0 == 119) = true then
 ((Z2w 95).bind fun r7 =>
 some (.ex, ([(Z8.mk 48 57), (Z8.mk 65 90), r7, (Z8.mk 97 122)] : List Z8)))
 else
 (if (x0 == 115) = true then
 (if (x0 == 115) = true then
 ((Z2w 32).bind fun r8 =>
 some (.ex, ([(Z8.mk 9 13), r8] : List Z8)))
 else
 Z32)
 else
 (if (x0 == 83) = true then
 ((Z2w 32).bind fun r9 =>
 some (.ex, ([(Z8.mk 9 13), r9] : List Z8)))
 else
 Z32)))
 else
 (if (x0 == 87) = true then
 ((Z2w 95).bind fun r10 =>
 some (.ex, ([(Z8.mk 48 57), (Z8.mk 65 90), r10, (Z8.mk 97 122)] : List Z8)))
 else
 (if (x0 == 115) = true then
 (if (x0 == 115) = true then
 ((Z2w 32).bind fun r11 =>
 some (.ex, ([(Z8.mk 9 13), r11] : List Z8)))
 else
 Z32)
 else
 (if (x0 == 83) = true then
 ((Z2w 32).bind fun r12 =>
 some (.ex, ([(Z8.mk 9 13), r12] : List Z8)))
 else
 Z32)))))
theorem Zkr x0 : Sim Z7w (Z3X x0) (EE 78 [(iv x0)] []) := by
 unfold Z3X
 refine zf (ZGw ..)<|ze<|ze<|ze<|zq ?_
 refine za (x0 == 100) ?_ ?_
 ·refine za (x0 == 100) ?_ ?_
  ·refine ze<|zq<|zq ?_
   exact zr ((ZR .ex (([(Z8.mk 48 57)] : List Z8).map Zv)), []) ⟨_, rfl⟩
  ·refine ze<|zq ?_
   refine za (x0 == 119) ?_ ?_
   ·refine za (x0 == 119) ?_ ?_
    ·refine ze<|zq<|zq<|zi fun r1 hr1 => ?_
     obtain ⟨_, er1, _, rfl⟩ := Z2l 95 r1 hr1
     refine zc [] (pA_ (ZU r1)) [] er1<|zq<|zq ?_
     exact zr ((ZR .ex (([(Z8.mk 48 57), (Z8.mk 65 90), r1, (Z8.mk 97 122)] : List Z8).map Zv)), []) ⟨_, rfl⟩
    ·refine ze<|zq ?_
     refine za (x0 == 115) ?_ ?_
     ·refine za (x0 == 115) ?_ ?_
      ·refine ze<|zq<|zi fun r2 hr2 => ?_
       obtain ⟨_, er2, _, rfl⟩ := Z2l 32 r2 hr2
       refine zc [] (pA_ (ZU r2)) [] er2<|zq ?_
       exact zr ((ZR .ex (([(Z8.mk 9 13), r2] : List Z8).map Zv)), []) ⟨_, rfl⟩
      ·exact zk Z3q
     ·refine ze<|zq ?_
      refine za (x0 == 83) ?_ ?_
      ·refine ze<|zq<|zi fun r3 hr3 => ?_
       obtain ⟨_, er3, _, rfl⟩ := Z2l 32 r3 hr3
       refine zc [] (pA_ (ZU r3)) [] er3<|zq ?_
       exact zr ((ZR .ex (([(Z8.mk 9 13), r3] : List Z8).map Zv)), []) ⟨_, rfl⟩
      ·exact zk Z3q
   ·refine ze<|zq ?_
    refine za (x0 == 87) ?_ ?_
    ·refine ze<|zq<|zq<|zi fun r4 hr4 => ?_
     obtain ⟨_, er4, _, rfl⟩ := Z2l 95 r4 hr4
     refine zc [] (pA_ (ZU r4)) [] er4<|zq<|zq ?_
     exact zr ((ZR .ex (([(Z8.mk 48 57), (Z8.mk 65 90), r4, (Z8.mk 97 122)] : List Z8).map Zv)), []) ⟨_, rfl⟩
    ·refine ze<|zq ?_
     refine za (x0 == 115) ?_ ?_
     ·refine za (x0 == 115) ?_ ?_
      ·refine ze<|zq<|zi fun r5 hr5 => ?_
       obtain ⟨_, er5, _, rfl⟩ := Z2l 32 r5 hr5
       refine zc [] (pA_ (ZU r5)) [] er5<|zq ?_
       exact zr ((ZR .ex (([(Z8.mk 9 13), r5] : List Z8).map Zv)), []) ⟨_, rfl⟩
      ·exact zk Z3q
     ·refine ze<|zq ?_
      refine za (x0 == 83) ?_ ?_
      ·refine ze<|zq<|zi fun r6 hr6 => ?_
       obtain ⟨_, er6, _, rfl⟩ := Z2l 32 r6 hr6
       refine zc [] (pA_ (ZU r6)) [] er6<|zq ?_
       exact zr ((ZR .ex (([(Z8.mk 9 13), r6] : List Z8).map Zv)), []) ⟨_, rfl⟩
      ·exact zk Z3q
 ·refine ze<|zq ?_
  refine za (x0 == 68) ?_ ?_
  ·refine ze<|zq<|zq ?_
   exact zr ((ZR .ex (([(Z8.mk 48 57)] : List Z8).map Zv)), []) ⟨_, rfl⟩
  ·refine ze<|zq ?_
   refine za (x0 == 119) ?_ ?_
   ·refine za (x0 == 119) ?_ ?_
    ·refine ze<|zq<|zq<|zi fun r7 hr7 => ?_
     obtain ⟨_, er7, _, rfl⟩ := Z2l 95 r7 hr7
     refine zc [] (pA_ (ZU r7)) [] er7<|zq<|zq ?_
     exact zr ((ZR .ex (([(Z8.mk 48 57), (Z8.mk 65 90), r7, (Z8.mk 97 122)] : List Z8).map Zv)), []) ⟨_, rfl⟩
    ·refine ze<|zq ?_
     refine za (x0 == 115) ?_ ?_
     ·refine za (x0 == 115) ?_ ?_
      ·refine ze<|zq<|zi fun r8 hr8 => ?_
       obtain ⟨_, er8, _, rfl⟩ := Z2l 32 r8 hr8
       refine zc [] (pA_ (ZU r8)) [] er8<|zq ?_
       exact zr ((ZR .ex (([(Z8.mk 9 13), r8] : List Z8).map Zv)), []) ⟨_, rfl⟩
      ·exact zk Z3q
     ·refine ze<|zq ?_
      refine za (x0 == 83) ?_ ?_
      ·refine ze<|zq<|zi fun r9 hr9 => ?_
       obtain ⟨_, er9, _, rfl⟩ := Z2l 32 r9 hr9
       refine zc [] (pA_ (ZU r9)) [] er9<|zq ?_
       exact zr ((ZR .ex (([(Z8.mk 9 13), r9] : List Z8).map Zv)), []) ⟨_, rfl⟩
      ·exact zk Z3q
   ·refine ze<|zq ?_
    refine za (x0 == 87) ?_ ?_
    ·refine ze<|zq<|zq<|zi fun r10 hr10 => ?_
     obtain ⟨_, er10, _, rfl⟩ := Z2l 95 r10 hr10
     refine zc [] (pA_ (ZU r10)) [] er10<|zq<|zq ?_
     exact zr ((ZR .ex (([(Z8.mk 48 57), (Z8.mk 65 90), r10, (Z8.mk 97 122)] : List Z8).map Zv)), []) ⟨_, rfl⟩
    ·refine ze<|zq ?_
     refine za (x0 == 115) ?_ ?_
     ·refine za (x0 == 115) ?_ ?_
      ·refine ze<|zq<|zi fun r11 hr11 => ?_
       obtain ⟨_, er11, _, rfl⟩ := Z2l 32 r11 hr11
       refine zc [] (pA_ (ZU r11)) [] er11<|zq ?_
       exact zr ((ZR .ex (([(Z8.mk 9 13), r11] : List Z8).map Zv)), []) ⟨_, rfl⟩
      ·exact zk Z3q
     ·refine ze<|zq ?_
      refine za (x0 == 83) ?_ ?_
      ·refine ze<|zq<|zi fun r12 hr12 => ?_
       obtain ⟨_, er12, _, rfl⟩ := Z2l 32 r12 hr12
       refine zc [] (pA_ (ZU r12)) [] er12<|zq ?_
       exact zr ((ZR .ex (([(Z8.mk 9 13), r12] : List Z8).map Zv)), []) ⟨_, rfl⟩
      ·exact zk Z3q
theorem Zl9 x0 {r} (h : Z3X x0 = some r) : Z7A x0 = some r :=
 Z1l (fun _ _ ha hb => ru_ Zfw ha hb) (Zkr x0 r h)
def Z3a (x2 : Int) (zl : List Int) (z2 z6 : Int) : Option (Int × Int × Int × Int) :=
 (Z1f 21 x2 zl z2 z6).bind fun r1 =>
 some (0, r1.1, r1.2.1, r1.2.2)
theorem Z4C x2 zl zn z7 zh zj z2 z6 zu zd (zy : ZO zd = true) : Sim (Z63 zl z7 zh zj zu zd) (Z3a x2 zl z2 z6) (ZfC 1 (.ptr 0 0) (iv x2) [(ZN zl zn z7 zh zj z2 z6 zu zd)]) := by
 unfold Z3a
 refine zf (Zyb ..)<|ze<|zi fun r1 hr1 => ?_
 obtain ⟨_, er1, _, rfl⟩ := Z1j 21 x2 zl zn z7 zh zj z2 z6 zu zd zy r1 hr1
 refine zc [0] (.p (.tup [])) [(ZN zl r1.1 z7 zh zj r1.2.1 r1.2.2 zu zd)] er1<|ze ?_
 exact zr ((iv 0), [(ZN zl r1.1 z7 zh zj r1.2.1 r1.2.2 zu zd)]) ⟨_, rfl⟩
def Z9j (x1 zn z2 z6 : Int) : Option (Int × Int × Int × Int) :=
 some (x1, zn, z2, z6)
theorem ZfQ x1 zl zn z7 zh zj z2 z6 zu zd (zy : ZO zd = true) : Sim (Z63 zl z7 zh zj zu zd) (Z9j x1 zn z2 z6) (Zrp 1 (iv x1) [(ZN zl zn z7 zh zj z2 z6 zu zd)]) := by
 unfold Z9j
 refine zf (Zya ..)<|ze ?_
 exact zr ((iv x1), [(ZN zl zn z7 zh zj z2 z6 zu zd)]) ⟨_, rfl⟩
def Z8W (x1 x2 : Int) (zl : List Int) (zn z7 zh : Int) (zj : List Zz) (z2 z6 : Int) : Option (Int × Int × Int × Int) :=
 if (x1 == 110) = true then
 (some (10, zn, z2, z6))
 else
 (if (x1 == 116) = true then
 (some (9, zn, z2, z6))
 else
 (if (x1 == 114) = true then
 (some (13, zn, z2, z6))
 else
 (if (x1 == 120) = true then
 ((Z2F (Z1C.mk zl zn z7 zh zj (Z17.mk z2 z6))).bind fun r1 =>
 (ZdL r1).bind fun r2 =>
 if (decide (0 ≤ r2)) = true then
 ((Z3m zl zn).bind fun r3 =>
 (Z2F (Z1C.mk zl r3.2 z7 zh zj (Z17.mk z2 z6))).bind fun r4 =>
 (ZdL r4).bind fun r5 =>
 if (decide (0 ≤ r5)) = true then
 ((Z3m zl r3.2).bind fun r6 =>
 some ((IntKind.i64.wrap ((IntKind.i64.wrap (16 * r2)) + r5)), r6.2, z2, z6))
 else
 (Z3a x2 zl z2 z6))
 else
 (Z3a x2 zl z2 z6))
 else
 (if (decide (32 < x1)) = true then
 (if (decide (x1 < 127)) = true then
 ((Z7o ([(Z8.mk 48 57), (Z8.mk 65 90), (Z8.mk 97 122)] : List Z8) x1).bind fun r7 =>
 if (!r7) = true then
 (Z9j x1 zn z2 z6)
 else
 (Z3a x2 zl z2 z6))
 else
 (Z3a x2 zl z2 z6))
 else
 (Z3a x2 zl z2 z6)))))
theorem ZiD x1 x2 zl zn z7 zh zj z2 z6 zu zd (zy : ZO zd = true) : Sim (Z63 zl z7 zh zj zu zd) (Z8W x1 x2 zl zn z7 zh zj z2 z6) (EE 79 [(.ptr 0 0), (iv x1), (iv x2)] [(ZN zl zn z7 zh zj z2 z6 zu zd)]) := by
 unfold Z8W
 refine zf (ZGy ..)<|ze<|ze<|zq ?_
 refine za (x1 == 110) ?_ ?_
 ·refine ze ?_
  exact zr ((iv 10), [(ZN zl zn z7 zh zj z2 z6 zu zd)]) ⟨_, rfl⟩
 ·refine ze<|zq ?_
  refine za (x1 == 116) ?_ ?_
  ·refine ze ?_
   exact zr ((iv 9), [(ZN zl zn z7 zh zj z2 z6 zu zd)]) ⟨_, rfl⟩
  ·refine ze<|zq ?_
   refine za (x1 == 114) ?_ ?_
   ·refine ze ?_
    exact zr ((iv 13), [(ZN zl zn z7 zh zj z2 z6 zu zd)]) ⟨_, rfl⟩
   ·refine ze<|zq ?_
    refine za (x1 == 120) ?_ ?_
    ·refine ze<|zi fun r1 hr1 => ?_
     obtain ⟨_, er1, _, rfl⟩ := Z2V (Z1C.mk zl zn z7 zh zj (Z17.mk z2 z6)) zu zd zy r1 hr1
     refine zc [0] (iv r1) [(ZN zl zn z7 zh zj z2 z6 zu zd)] er1<|zi fun r2 hr2 => ?_
     obtain ⟨_, er2, _, rfl⟩ := Zkp r1 r2 hr2
     refine zc [] (iv r2) [(ZN zl zn z7 zh zj z2 z6 zu zd)] er2<|ze<|zq ?_
     refine za (decide (0 ≤ r2)) ?_ ?_
     ·refine ze<|zi fun r3 hr3 => ?_
      obtain ⟨_, er3, _, rfl⟩ := Z3K zl zn z7 zh zj z2 z6 zu zd zy r3 hr3
      refine zc [0] (iv r3.1) [(ZN zl r3.2 z7 zh zj z2 z6 zu zd)] er3<|ze<|zi fun r4 hr4 => ?_
      obtain ⟨_, er4, _, rfl⟩ := Z2V (Z1C.mk zl r3.2 z7 zh zj (Z17.mk z2 z6)) zu zd zy r4 hr4
      refine zc [0] (iv r4) [(ZN zl r3.2 z7 zh zj z2 z6 zu zd)] er4<|zi fun r5 hr5 => ?_
      obtain ⟨_, er5, _, rfl⟩ := Zkp r4 r5 hr5
      refine zc [] (iv r5) [(ZN zl r3.2 z7 zh zj z2 z6 zu zd)] er5<|ze<|zq ?_
      refine za (decide (0 ≤ r5)) ?_ ?_
      ·refine ze<|zi fun r6 hr6 => ?_
       obtain ⟨_, er6, _, rfl⟩ := Z3K zl r3.2 z7 zh zj z2 z6 zu zd zy r6 hr6
       refine zc [0] (iv r6.1) [(ZN zl r6.2 z7 zh zj z2 z6 zu zd)] er6<|ze<|zq<|zq ?_
       exact zr ((iv (IntKind.i64.wrap ((IntKind.i64.wrap (16 * r2)) + r5))), [(ZN zl r6.2 z7 zh zj z2 z6 zu zd)]) ⟨_, rfl⟩
      ·exact zk (Z4C x2 zl r3.2 z7 zh zj z2 z6 zu zd zy)
     ·exact zk (Z4C x2 zl zn z7 zh zj z2 z6 zu zd zy)
    ·refine ze<|zq ?_
     refine za (decide (32 < x1)) ?_ ?_
     ·refine zq ?_
      refine za (decide (x1 < 127)) ?_ ?_
      ·refine zq<|zq<|zq<|zq<|zi fun r7 hr7 => ?_
       obtain ⟨_, er7, _, rfl⟩ := Zc9 ([(Z8.mk 48 57), (Z8.mk 65 90), (Z8.mk 97 122)] : List Z8) x1 .sh r7 hr7
       refine zc [] (bv r7) [(ZN zl zn z7 zh zj z2 z6 zu zd)] er7<|zq ?_
       refine za (!r7) ?_ ?_
       ·exact zk (ZfQ x1 zl zn z7 zh zj z2 z6 zu zd zy)
       ·exact zk (Z4C x2 zl zn z7 zh zj z2 z6 zu zd zy)
      ·exact zk (Z4C x2 zl zn z7 zh zj z2 z6 zu zd zy)
     ·exact zk (Z4C x2 zl zn z7 zh zj z2 z6 zu zd zy)
theorem Zje x1 x2 zl zn z7 zh zj z2 z6 {r} (h : Z8W x1 x2 zl zn z7 zh zj z2 z6 = some r) : Z7p x1 x2 zl zn z7 zh zj z2 z6 = some r :=
 Z1l (fun _ _ ha hb => ru_ (Zjz _ _ _ _ _ _) (ha .ex .ex rfl) (hb .ex .ex rfl)) (fun zu zd zy => ZiD x1 x2 zl zn z7 zh zj z2 z6 zu zd zy r h)
def ZcI (x0 : Int) : Option Int :=
 some (IntKind.i64.wrap (x0 - 48))
theorem Zmz x0 : Sim ZL (ZcI x0) (ZuV 0 (iv x0) []) := by
 unfold ZcI
 refine zf (ZBe ..)<|ze<|zq ?_
 exact zr ((iv (IntKind.i64.wrap (x0 - 48))), []) ⟨_, rfl⟩
def ZcJ (x0 : Int) : Option Int :=
 some (IntKind.i64.wrap ((IntKind.i64.wrap (x0 - 97)) + 10))
theorem ZmA x0 : Sim ZL (ZcJ x0) (ZuW 0 (iv x0) []) := by
 unfold ZcJ
 refine zf (ZBg ..)<|ze<|zq<|zq ?_
 exact zr ((iv (IntKind.i64.wrap ((IntKind.i64.wrap (x0 - 97)) + 10))), []) ⟨_, rfl⟩
def ZaJ : Option Int :=
 some (-1)
theorem ZgF : Sim ZL ZaJ (Zqa 0 []) := by
 unfold ZaJ
 refine zf (ZBh ..)<|ze ?_
 exact zr ((iv (-1)), []) ⟨_, rfl⟩
def ZaI (x0 : Int) : Option Int :=
 if (decide (97 ≤ x0)) = true then
 (if (decide (x0 ≤ 102)) = true then
 (ZcJ x0)
 else
 ZaJ)
 else
 ZaJ
theorem ZgE x0 : Sim ZL (ZaI x0) (Zq9 0 (iv x0) []) := by
 unfold ZaI
 refine zf (ZBf ..)<|ze<|zq ?_
 refine za (decide (97 ≤ x0)) ?_ ?_
 ·refine zq ?_
  refine za (decide (x0 ≤ 102)) ?_ ?_
  ·exact zk (ZmA x0)
  ·exact zk ZgF
 ·exact zk ZgF
def Zgg (x0 : Int) : Option Int :=
 if (decide (48 ≤ x0)) = true then
 (if (decide (x0 ≤ 57)) = true then
 (ZcI x0)
 else
 (ZaI x0))
 else
 (ZaI x0)
theorem Zqf x0 : Sim ZL (Zgg x0) (EE 98 [(iv x0)] []) := by
 unfold Zgg
 refine zf (ZGM ..)<|ze<|ze<|zq ?_
 refine za (decide (48 ≤ x0)) ?_ ?_
 ·refine zq ?_
  refine za (decide (x0 ≤ 57)) ?_ ?_
  ·exact zk (Zmz x0)
  ·exact zk (ZgE x0)
 ·exact zk (ZgE x0)
theorem Zrs x0 {r} (h : Zgg x0 = some r) : ZdL x0 = some r :=
 Z1l (fun _ _ ha hb => ru_ Z1N ha hb) (Zqf x0 r h)
def ZbM (x0 : List Z8) (x1 : Int) : Option Bool :=
 (Z5a x0 x1).bind fun r1 =>
 some r1
theorem ZlO (x0 : List Z8) x1 ox0 : Sim ZW (ZbM x0 x1) (EE 24 [(ZR ox0 (x0.map Zv)), (iv x1)] []) := by
 unfold ZbM
 refine zf (ZFf ..)<|ze<|zx (.ptr 0 0) [[(iv x1)]]<|ze<|zi fun r1 hr1 => ?_
 obtain ⟨_, er1, _, rfl⟩ := Zdp x0 x1 .sh r1 hr1
 refine zc [0] (bv r1) [[(iv x1)]] er1 ?_
 exact zr ((bv r1), [[(iv x1)]]) ⟨_, rfl⟩
theorem Zmu x0 x1 {r} (h : ZbM x0 x1 = some r) : Z7o x0 x1 = some r :=
 Z1l (fun _ _ ha hb => ru_ Z2L (ha .ex) (hb .ex)) (fun ox0 => ZlO x0 x1 ox0 r h)
def Z55 (x0 : List Z8) (z1B : Int) : Option Bool :=
 (Z6e x0 z1B).bind fun r1 =>
 some (decide (0 ≤ r1))
theorem ZcS (x0 : List Z8) z1B ox0 : Sim (Z7v z1B) (Z55 x0 z1B) (EE 32 [(ZR ox0 (x0.map Zv)), (.clo 33 [] [(.ptr 0 0)])] [[(iv z1B)]]) := by
 unfold Z55
 refine zf (ZFv ..)<|ze<|ze<|zi fun r1 hr1 => ?_
 obtain ⟨_, er1, _, rfl⟩ := ZeN x0 z1B .sh r1 hr1
 refine zc [0] (iv r1) [[(iv z1B)]] er1<|zq ?_
 exact zr ((bv (decide (0 ≤ r1))), [[(iv z1B)]]) ⟨_, rfl⟩
theorem Zdo x0 z1B {r} (h : Z55 x0 z1B = some r) : Z5a x0 z1B = some r :=
 Z1l (fun _ _ ha hb => ru_ (Zfv _) (ha .ex) (hb .ex)) (fun ox0 => ZcS x0 z1B ox0 r h)
def Z68 (x0 : List Z8) (z1B : Int) : Option Int :=
 Z41 x0 (x0.length : Int) 0 z1B
theorem Zea (x0 : List Z8) z1B ox0 : Sim (Z2H z1B) (Z68 x0 z1B) (EE 50 [(ZR ox0 (x0.map Zv)), (.clo 33 [] [(.ptr 0 0)])] [[(iv z1B)]]) := by
 unfold Z68
 refine zf (ZFV ..)<|ze<|ze<|zp (iv (x0.length : Int)) (et_ (Z2S (P := PP) (t := 28) (d := 47) (by kernel_rfl) Zv (shrO ox0) x0)) ?_
 exact zk (Z8O x0 (x0.length : Int) 0 z1B ox0)
theorem ZeM x0 z1B {r} (h : Z68 x0 z1B = some r) : Z6e x0 z1B = some r :=
 Z1l (fun _ _ ha hb => ru_ (Z9V _) (ha .ex) (hb .ex)) (fun ox0 => Zea x0 z1B ox0 r h)
def Z57 (x0 : List Z8) (x7 x8 z1B : Int) : Option Int :=
 Z41 x0 x7 (IntKind.i64.wrap (x8 + 1)) z1B
theorem ZcW (x0 : List Z8) x7 x8 z1B ox0 : Sim (Z2H z1B) (Z57 x0 x7 x8 z1B) (Zu5 1 (ZR ox0 (x0.map Zv)) (.clo 33 [] [(.ptr 0 0)]) (iv x7) (iv x8) [[(iv z1B)]]) := by
 unfold Z57
 refine zf (ZAt ..)<|ze<|zq ?_
 exact zk (Z8O x0 x7 (IntKind.i64.wrap (x8 + 1)) z1B ox0)
def Z3Z (x0 : List Z8) (x7 x8 z1B : Int) : Option Int :=
 (lget x0 x8).bind fun a1 =>
 (ZaB a1 z1B).bind fun r2 =>
 if r2 = true then
 (some x8)
 else
 (Z57 x0 x7 x8 z1B)
theorem ZcV (x0 : List Z8) x7 x8 z1B ox0 : Sim (Z2H z1B) (Z3Z x0 x7 x8 z1B) (Zu4 1 (ZR ox0 (x0.map Zv)) (.clo 33 [] [(.ptr 0 0)]) (iv x7) (iv x8) [[(iv z1B)]]) := by
 unfold Z3Z
 refine zf (ZAs ..)<|ze<|ze<|zi fun a1 ha1 => zp (.cptr (ZU a1)) (et_ (Z2k (o := (shrO ox0)) (k := .i64) (n := 2) (e := Zv) (cs := Z7Q) (fun _ => rfl) (fun _ => rfl) (by decide) ha1))<|zq<|zi fun r2 hr2 => ?_
 obtain ⟨_, er2, _, rfl⟩ := Zl5 a1 z1B r2 hr2
 refine zv [0] (bv r2) [[(iv z1B)]] er2 ?_
 refine za r2 ?_ ?_
 ·refine ze ?_
  exact zr ((iv x8), [[(iv z1B)]]) ⟨_, rfl⟩
 ·exact zk (ZcW x0 x7 x8 z1B ox0)
def Z71 : Option Int :=
 some (-1)
theorem ZcX z1B : Sim (Z2H z1B) Z71 (Zu6 1 [[(iv z1B)]]) := by
 unfold Z71
 refine zf (ZAu ..)<|ze ?_
 exact zr ((iv (-1)), [[(iv z1B)]]) ⟨_, rfl⟩
def Z3u (x0 : List Z8) (x7 x8 z1B : Int) : Option Int :=
 if (decide (x8 < x7)) = true then
 (Z3Z x0 x7 x8 z1B)
 else
 Z71
theorem ZcU (x0 : List Z8) x7 x8 z1B ox0 : Sim (Z2H z1B) (Z3u x0 x7 x8 z1B) (Zmk 1 (ZR ox0 (x0.map Zv)) (.clo 33 [] [(.ptr 0 0)]) (iv x7) (iv x8) [[(iv z1B)]]) := by
 unfold Z3u
 refine zf (ZAr ..)<|ze<|zq ?_
 refine za (decide (x8 < x7)) ?_ ?_
 ·exact zk (ZcV x0 x7 x8 z1B ox0)
 ·exact zk (ZcX z1B)
theorem Z6l x0 x7 x8 z1B {r} (h : Z3u x0 x7 x8 z1B = some r) : Z41 x0 x7 x8 z1B = some r :=
 Z1l (fun _ _ ha hb => ru_ (Z9V _) (ha .ex) (hb .ex)) (fun ox0 => ZcU x0 x7 x8 z1B ox0 r h)
def Zav (x0 : Z8) (z1B : Int) : Option Bool :=
 if (decide (x0.Lo ≤ z1B)) = true then
 (some (decide (z1B ≤ x0.Hi)))
 else
 (some false)
theorem Zkj x0 z1B : Sim (Z7v z1B) (Zav x0 z1B) (EE 33 [(pA_ (ZU x0)), (.ptr 0 0)] [[(iv z1B)]]) := by
 unfold Zav
 refine zf (ZFw ..)<|ze<|zx (.ptr 1 0) [[(iv z1B)], (Z2x x0)]<|ze<|zq<|zq<|zq<|zq ?_
 refine za (decide (x0.Lo ≤ z1B)) ?_ ?_
 ·refine zq<|zq<|zq<|zq ?_
  exact zr ((bv (decide (z1B ≤ x0.Hi))), [[(iv z1B)], (Z2x x0)]) ⟨_, rfl⟩
 ·exact zr ((bv false), [[(iv z1B)], (Z2x x0)]) ⟨_, rfl⟩
theorem Zl4 x0 z1B {r} (h : Zav x0 z1B = some r) : ZaB x0 z1B = some r :=
 Z1l (fun _ _ ha hb => ru_ (Zfv _) ha hb) (Zkj x0 z1B r h)
def Z76 (x1 : Int) (zl : List Int) (zn z7 zh : Int) (zj : List Zz) (z2 z6 : Int) : Option (Z9 × Int × Int × Int) :=
 (Z1J (ByteArray.mk #[94]) zl zn).bind fun r1 =>
 Z43 x1 r1.1 0 zl r1.2 z7 zh zj z2 z6 ([] : List Z8)
theorem Zix x1 zl zn z7 zh zj z2 z6 zu zd (zy : ZO zd = true) : Sim (Z1I zl z7 zh zj zu zd) (Z76 x1 zl zn z7 zh zj z2 z6) (EE 67 [(.ptr 0 0), (iv x1)] [(ZN zl zn z7 zh zj z2 z6 zu zd)]) := by
 unfold Z76
 refine zf (ZGg ..)<|ze<|zz (.ptr 1 0) [(ZN zl zn z7 zh zj z2 z6 zu zd), (Zk Z1D .nl .nl)]<|ze<|zi fun r1 hr1 => ?_
 obtain ⟨_, er1, _, rfl⟩ := Z1U (ByteArray.mk #[94]) zl zn z7 zh zj z2 z6 zu zd zy r1 hr1
 refine zc [0] (bv r1.1) [(ZN zl r1.2 z7 zh zj z2 z6 zu zd), (Zk Z1D .nl .nl)] er1<|ze<|zz (.ptr 2 0) [(ZN zl r1.2 z7 zh zj z2 z6 zu zd), (Zk Z1D .nl .nl), [(ZR .nl [])]]<|ze<|ze ?_
 exact zk (Zbu x1 r1.1 0 zl r1.2 z7 zh zj z2 z6 Z1D ([] : List Z8) zu zd .nl .nl .nl zy rfl rfl)
theorem Zj9 x1 zl zn z7 zh zj z2 z6 {r} (h : Z76 x1 zl zn z7 zh zj z2 z6 = some r) : Z8Y x1 zl zn z7 zh zj z2 z6 = some r :=
 Z1l (fun _ _ ha hb => ru_ (Zal _ _ _ _ _ _) (ha .ex .ex rfl) (hb .ex .ex rfl)) (fun zu zd zy => Zix x1 zl zn z7 zh zj z2 z6 zu zd zy r h)
def Z1W (x1 : Int) (x5 : Bool) (x8 : Int) (zl : List Int) (zn z7 zh : Int) (zj : List Zz) (z2 z6 : Int) (z1x : List Z8) : Option (Z9 × Int × Int × Int) :=
 Z43 x1 x5 (IntKind.i64.wrap (x8 + 1)) zl zn z7 zh zj z2 z6 z1x
theorem Z2N x1 x5 x8 zl zn z7 zh zj z2 z6 b1 (z1x : List Z8) zu zd zH zE z1Z (zy : ZO zd = true) (z19 : ZO zH = true) (z11 : ZO zE = true) : Sim (Z1I zl z7 zh zj zu zd) (Z1W x1 x5 x8 zl zn z7 zh zj z2 z6 z1x) (Zc7 1 (.ptr 0 0) (iv x1) (.ptr 1 0) (bv x5) (.ptr 2 0) (.clo 80 [] [(.ptr 2 0)]) (iv x8) [(ZN zl zn z7 zh zj z2 z6 zu zd), (Zk b1 zH zE), [(ZR z1Z (z1x.map Zv))]]) := by
 unfold Z1W
 refine zf (ZAM ..)<|ze<|zq ?_
 exact zk (Zbu x1 x5 (IntKind.i64.wrap (x8 + 1)) zl zn z7 zh zj z2 z6 b1 z1x zu zd zH zE z1Z zy z19 z11)
def Z5T (zn z2 z6 : Int) (z1x : List Z8) : Option (Z9 × Int × Int × Int) :=
 some ((Z9.mk 1 0 0 0 0 z1x ([] : List Z9)), zn, z2, z6)
theorem ZaP zl zn z7 zh zj z2 z6 b1 (z1x : List Z8) zu zd zH zE z1Z (zy : ZO zd = true) (z19 : ZO zH = true) (z11 : ZO zE = true) : Sim (Z1I zl z7 zh zj zu zd) (Z5T zn z2 z6 z1x) (Znx 1 (.ptr 1 0) (.ptr 2 0) [(ZN zl zn z7 zh zj z2 z6 zu zd), (Zk b1 zH zE), [(ZR z1Z (z1x.map Zv))]]) := by
 unfold Z5T
 refine zf (ZxV ..)<|ze<|zq<|zq<|zt [(ZN zl zn z7 zh zj z2 z6 zu zd), (Z2P 1 0 0 0 0 z1x ([] : List Z9) (shrO (shrO z1Z)) .nl), [(ZR z1Z (z1x.map Zv))]] ?_
 exact zr ((pA_ (ZI (Z9.mk 1 0 0 0 0 z1x ([] : List Z9)) .sh .sh)), [(ZN zl zn z7 zh zj z2 z6 zu zd), (Z2P 1 0 0 0 0 z1x ([] : List Z9) (shrO (shrO z1Z)) .nl), [(ZR z1Z (z1x.map Zv))]]) ⟨_, rfl⟩
def Z77 (x5 : Bool) (zl : List Int) (zn z2 z6 : Int) (z1x : List Z8) : Option (Z9 × Int × Int × Int) :=
 (Z3m zl zn).bind fun r1 =>
 if x5 = true then
 ((Za9 z1x).bind fun r2 =>
 Z5T r1.2 z2 z6 r2.1)
 else
 (Z5T r1.2 z2 z6 z1x)
theorem ZfD x5 zl zn z7 zh zj z2 z6 b1 (z1x : List Z8) zu zd zH zE z1Z (zy : ZO zd = true) (z19 : ZO zH = true) (z11 : ZO zE = true) : Sim (Z1I zl z7 zh zj zu zd) (Z77 x5 zl zn z2 z6 z1x) (Zrj 1 (.ptr 0 0) (.ptr 1 0) (bv x5) (.ptr 2 0) [(ZN zl zn z7 zh zj z2 z6 zu zd), (Zk b1 zH zE), [(ZR z1Z (z1x.map Zv))]]) := by
 unfold Z77
 refine zf (ZxU ..)<|ze<|zi fun r1 hr1 => ?_
 obtain ⟨_, er1, _, rfl⟩ := Z3K zl zn z7 zh zj z2 z6 zu zd zy r1 hr1
 refine zc [0] (iv r1.1) [(ZN zl r1.2 z7 zh zj z2 z6 zu zd), (Zk b1 zH zE), [(ZR z1Z (z1x.map Zv))]] er1<|ze ?_
 refine za x5 ?_ ?_
 ·refine ze<|zq<|zi fun r2 hr2 => ?_
  obtain ⟨_, er2, _, rfl⟩ := ZgC z1x .sh r2 hr2
  refine zc [] (.p (.tup [(.lst .sh (r2.1.map Zv)), (.v (.int .i64 r2.2))])) [(ZN zl r1.2 z7 zh zj z2 z6 zu zd), (Zk b1 zH zE), [(ZR z1Z (z1x.map Zv))]] er2<|zq<|zq<|zt [(ZN zl r1.2 z7 zh zj z2 z6 zu zd), (Zk b1 zH zE), [(ZR .sh (r2.1.map Zv))]] ?_
  exact zk (ZaP zl r1.2 z7 zh zj z2 z6 b1 r2.1 zu zd zH zE .sh zy z19 z11)
 ·exact zk (ZaP zl r1.2 z7 zh zj z2 z6 b1 z1x zu zd zH zE z1Z zy z19 z11)
def Z3R (x1 : Int) (x5 : Bool) (x8 x9 : Int) (zl : List Int) (z7 zh : Int) (zj : List Zz) (z2 z6 : Int) (z1x : List Z8) : Option (Z9 × Int × Int × Int) :=
 (Z1f 22 x9 zl z2 z6).bind fun r1 =>
 Z1W x1 x5 x8 zl r1.1 z7 zh zj r1.2.1 r1.2.2 z1x
theorem Z6b x1 x5 x8 x9 zl zn z7 zh zj z2 z6 b1 (z1x : List Z8) zu zd zH zE z1Z (zy : ZO zd = true) (z19 : ZO zH = true) (z11 : ZO zE = true) : Sim (Z1I zl z7 zh zj zu zd) (Z3R x1 x5 x8 x9 zl z7 zh zj z2 z6 z1x) (Zie 1 (.ptr 0 0) (iv x1) (.ptr 1 0) (bv x5) (.ptr 2 0) (.clo 80 [] [(.ptr 2 0)]) (iv x8) (iv x9) [(ZN zl zn z7 zh zj z2 z6 zu zd), (Zk b1 zH zE), [(ZR z1Z (z1x.map Zv))]]) := by
 unfold Z3R
 refine zf (ZxY ..)<|ze<|zi fun r1 hr1 => ?_
 obtain ⟨_, er1, _, rfl⟩ := Z1j 22 x9 zl zn z7 zh zj z2 z6 zu zd zy r1 hr1
 refine zc [0] (.p (.tup [])) [(ZN zl r1.1 z7 zh zj r1.2.1 r1.2.2 zu zd), (Zk b1 zH zE), [(ZR z1Z (z1x.map Zv))]] er1 ?_
 exact zk (Z2N x1 x5 x8 zl r1.1 z7 zh zj r1.2.1 r1.2.2 b1 z1x zu zd zH zE z1Z zy z19 z11)
def Z2z (x1 : Int) (x5 : Bool) (x8 x11 x15 : Int) (zl : List Int) (zn z7 zh : Int) (zj : List Zz) (z2 z6 : Int) (z1x : List Z8) : Option (Z9 × Int × Int × Int) :=
 if (z2 == 0) = true then
 ((Z6v ([(Z8.mk x11 x15)] : List Z8) z1x).bind fun r1 =>
 Z1W x1 x5 x8 zl zn z7 zh zj z2 z6 r1)
 else
 (Z1W x1 x5 x8 zl zn z7 zh zj z2 z6 z1x)
theorem Z6c x1 x5 x8 x11 x15 zl zn z7 zh zj z2 z6 b1 (z1x : List Z8) zu zd zH zE z1Z (zy : ZO zd = true) (z19 : ZO zH = true) (z11 : ZO zE = true) : Sim (Z1I zl z7 zh zj zu zd) (Z2z x1 x5 x8 x11 x15 zl zn z7 zh zj z2 z6 z1x) (Zif 1 (.ptr 0 0) (iv x1) (.ptr 1 0) (bv x5) (.ptr 2 0) (.clo 80 [] [(.ptr 2 0)]) (iv x8) (iv x11) (iv x15) [(ZN zl zn z7 zh zj z2 z6 zu zd), (Zk b1 zH zE), [(ZR z1Z (z1x.map Zv))]]) := by
 unfold Z2z
 refine zf (Zy1 ..)<|ze<|zq<|zq<|zq<|zq<|zq ?_
 refine za (z2 == 0) ?_ ?_
 ·refine ze<|zq<|zq<|zi fun r1 hr1 => ?_
  obtain ⟨_, er1, zwO, _, rfl⟩ := ZbW ([(Z8.mk x11 x15)] : List Z8) z1x .sh z1Z r1 hr1
  refine zv [2] (.p (.tup [])) [(ZN zl zn z7 zh zj z2 z6 zu zd), (Zk b1 zH zE), [(ZR zwO (r1.map Zv))]] er1 ?_
  exact zk (Z2N x1 x5 x8 zl zn z7 zh zj z2 z6 b1 r1 zu zd zH zE zwO zy z19 z11)
 ·exact zk (Z2N x1 x5 x8 zl zn z7 zh zj z2 z6 b1 z1x zu zd zH zE z1Z zy z19 z11)
def Z4v (x1 : Int) (x5 : Bool) (x8 x9 x11 x15 : Int) (zl : List Int) (z7 zh : Int) (zj : List Zz) (z2 z6 : Int) (z1x : List Z8) : Option (Z9 × Int × Int × Int) :=
 (Z1f 22 x9 zl z2 z6).bind fun r1 =>
 Z2z x1 x5 x8 x11 x15 zl r1.1 z7 zh zj r1.2.1 r1.2.2 z1x
theorem ZaR x1 x5 x8 x9 x11 x15 zl zn z7 zh zj z2 z6 b1 (z1x : List Z8) zu zd zH zE z1Z (zy : ZO zd = true) (z19 : ZO zH = true) (z11 : ZO zE = true) : Sim (Z1I zl z7 zh zj zu zd) (Z4v x1 x5 x8 x9 x11 x15 zl z7 zh zj z2 z6 z1x) (Znz 1 (.ptr 0 0) (iv x1) (.ptr 1 0) (bv x5) (.ptr 2 0) (.clo 80 [] [(.ptr 2 0)]) (iv x8) (iv x9) (iv x11) (iv x15) [(ZN zl zn z7 zh zj z2 z6 zu zd), (Zk b1 zH zE), [(ZR z1Z (z1x.map Zv))]]) := by
 unfold Z4v
 refine zf (Zy0 ..)<|ze<|zi fun r1 hr1 => ?_
 obtain ⟨_, er1, _, rfl⟩ := Z1j 22 x9 zl zn z7 zh zj z2 z6 zu zd zy r1 hr1
 refine zc [0] (.p (.tup [])) [(ZN zl r1.1 z7 zh zj r1.2.1 r1.2.2 zu zd), (Zk b1 zH zE), [(ZR z1Z (z1x.map Zv))]] er1 ?_
 exact zk (Z6c x1 x5 x8 x11 x15 zl r1.1 z7 zh zj r1.2.1 r1.2.2 b1 z1x zu zd zH zE z1Z zy z19 z11)
def Z78 (x1 : Int) (x5 : Bool) (x8 x9 x11 : Int) (zl : List Int) (zn z7 zh : Int) (zj : List Zz) (z2 z6 : Int) (z1x : List Z8) : Option (Z9 × Int × Int × Int) :=
 (Z5J zl zn z7 zh zj z2 z6).bind fun r1 =>
 if (r1.2.2.2.2.1 == 0) = true then
 ((nilO (shrO (shrO (shrO (shrO r1.2.1.1)))) r1.2.1.2).bind fun a2 =>
 if (!a2) = true then
 (Z4v x1 x5 x8 x9 x11 r1.1 zl z7 zh zj r1.2.2.2.2.1 r1.2.2.2.2.2 z1x)
 else
 (if (decide (r1.1 < x11)) = true then
 (Z4v x1 x5 x8 x9 x11 r1.1 zl z7 zh zj r1.2.2.2.2.1 r1.2.2.2.2.2 z1x)
 else
 (Z2z x1 x5 x8 x11 r1.1 zl r1.2.2.2.1 z7 zh zj r1.2.2.2.2.1 r1.2.2.2.2.2 z1x)))
 else
 (Z2z x1 x5 x8 x11 r1.1 zl r1.2.2.2.1 z7 zh zj r1.2.2.2.2.1 r1.2.2.2.2.2 z1x)
theorem ZfF x1 x5 x8 x9 x11 zl zn z7 zh zj z2 z6 b1 (z1x : List Z8) zu zd zH zE z1Z (zy : ZO zd = true) (z19 : ZO zH = true) (z11 : ZO zE = true) : Sim (Z1I zl z7 zh zj zu zd) (Z78 x1 x5 x8 x9 x11 zl zn z7 zh zj z2 z6 z1x) (Zrl 1 (.ptr 0 0) (iv x1) (.ptr 1 0) (bv x5) (.ptr 2 0) (.clo 80 [] [(.ptr 2 0)]) (iv x8) (iv x9) (iv x11) [(ZN zl zn z7 zh zj z2 z6 zu zd), (Zk b1 zH zE), [(ZR z1Z (z1x.map Zv))]]) := by
 unfold Z78
 refine zf (ZxZ ..)<|ze<|zi fun r1 hr1 => ?_
 obtain ⟨_, er1, _, rfl⟩ := Zci zl zn z7 zh zj z2 z6 zu zd zy r1 hr1
 refine zc [0] (.p (.tup [(.v (.int .i64 r1.1)), (.lst r1.2.1.1 (r1.2.1.2.map Zv)), (.v (.bool r1.2.2.1))])) [(ZN zl r1.2.2.2.1 z7 zh zj r1.2.2.2.2.1 r1.2.2.2.2.2 zu zd), (Zk b1 zH zE), [(ZR z1Z (z1x.map Zv))]] er1<|zq<|zq<|zq<|ze<|zq<|zq<|zq<|zq<|zq ?_
 refine za (r1.2.2.2.2.1 == 0) ?_ ?_
 ·refine zi fun a2 ha2 => zp (bv (!a2)) (et_ (ZlJ (P := PP) (t := 27) (c := .slice none 0 0) (e := Zv) (by kernel_rfl) ha2)) ?_
  refine za (!a2) ?_ ?_
  ·exact zk (ZaR x1 x5 x8 x9 x11 r1.1 zl r1.2.2.2.1 z7 zh zj r1.2.2.2.2.1 r1.2.2.2.2.2 b1 z1x zu zd zH zE z1Z zy z19 z11)
  ·refine zq ?_
   refine za (decide (r1.1 < x11)) ?_ ?_
   ·exact zk (ZaR x1 x5 x8 x9 x11 r1.1 zl r1.2.2.2.1 z7 zh zj r1.2.2.2.2.1 r1.2.2.2.2.2 b1 z1x zu zd zH zE z1Z zy z19 z11)
   ·exact zk (Z6c x1 x5 x8 x11 r1.1 zl r1.2.2.2.1 z7 zh zj r1.2.2.2.2.1 r1.2.2.2.2.2 b1 z1x zu zd zH zE z1Z zy z19 z11)
 ·exact zk (Z6c x1 x5 x8 x11 r1.1 zl r1.2.2.2.1 z7 zh zj r1.2.2.2.2.1 r1.2.2.2.2.2 b1 z1x zu zd zH zE z1Z zy z19 z11)
def Z5V (x1 : Int) (x5 : Bool) (x8 x9 x11 : Int) (zl : List Int) (zn z7 zh : Int) (zj : List Zz) (z2 z6 : Int) (z1x : List Z8) : Option (Z9 × Int × Int × Int) :=
 (Z1J (ByteArray.mk #[45]) zl zn).bind fun r1 =>
 if r1.1 = true then
 ((Z2F (Z1C.mk zl r1.2 z7 zh zj (Z17.mk z2 z6))).bind fun r2 =>
 if (r2 == 93) = true then
 (Z3R x1 x5 x8 x9 zl z7 zh zj z2 z6 z1x)
 else
 (if (r2 == 91) = true then
 (Z3R x1 x5 x8 x9 zl z7 zh zj z2 z6 z1x)
 else
 (if (r2 == 45) = true then
 (Z3R x1 x5 x8 x9 zl z7 zh zj z2 z6 z1x)
 else
 (if (decide (r2 < 0)) = true then
 (Z3R x1 x5 x8 x9 zl z7 zh zj z2 z6 z1x)
 else
 (Z78 x1 x5 x8 x9 x11 zl r1.2 z7 zh zj z2 z6 z1x)))))
 else
 (Z2z x1 x5 x8 x11 x11 zl r1.2 z7 zh zj z2 z6 z1x)
theorem ZfE x1 x5 x8 x9 x11 zl zn z7 zh zj z2 z6 b1 (z1x : List Z8) zu zd zH zE z1Z (zy : ZO zd = true) (z19 : ZO zH = true) (z11 : ZO zE = true) : Sim (Z1I zl z7 zh zj zu zd) (Z5V x1 x5 x8 x9 x11 zl zn z7 zh zj z2 z6 z1x) (Zrk 1 (.ptr 0 0) (iv x1) (.ptr 1 0) (bv x5) (.ptr 2 0) (.clo 80 [] [(.ptr 2 0)]) (iv x8) (iv x9) (iv x11) [(ZN zl zn z7 zh zj z2 z6 zu zd), (Zk b1 zH zE), [(ZR z1Z (z1x.map Zv))]]) := by
 unfold Z5V
 refine zf (ZxX ..)<|ze<|ze<|zi fun r1 hr1 => ?_
 obtain ⟨_, er1, _, rfl⟩ := Z1U (ByteArray.mk #[45]) zl zn z7 zh zj z2 z6 zu zd zy r1 hr1
 refine zc [0] (bv r1.1) [(ZN zl r1.2 z7 zh zj z2 z6 zu zd), (Zk b1 zH zE), [(ZR z1Z (z1x.map Zv))]] er1 ?_
 refine za r1.1 ?_ ?_
 ·refine ze<|zi fun r2 hr2 => ?_
  obtain ⟨_, er2, _, rfl⟩ := Z2V (Z1C.mk zl r1.2 z7 zh zj (Z17.mk z2 z6)) zu zd zy r2 hr2
  refine zc [0] (iv r2) [(ZN zl r1.2 z7 zh zj z2 z6 zu zd), (Zk b1 zH zE), [(ZR z1Z (z1x.map Zv))]] er2<|ze<|zq ?_
  refine za (r2 == 93) ?_ ?_
  ·exact zk (Z6b x1 x5 x8 x9 zl r1.2 z7 zh zj z2 z6 b1 z1x zu zd zH zE z1Z zy z19 z11)
  ·refine zq ?_
   refine za (r2 == 91) ?_ ?_
   ·exact zk (Z6b x1 x5 x8 x9 zl r1.2 z7 zh zj z2 z6 b1 z1x zu zd zH zE z1Z zy z19 z11)
   ·refine zq ?_
    refine za (r2 == 45) ?_ ?_
    ·exact zk (Z6b x1 x5 x8 x9 zl r1.2 z7 zh zj z2 z6 b1 z1x zu zd zH zE z1Z zy z19 z11)
    ·refine zq ?_
     refine za (decide (r2 < 0)) ?_ ?_
     ·exact zk (Z6b x1 x5 x8 x9 zl r1.2 z7 zh zj z2 z6 b1 z1x zu zd zH zE z1Z zy z19 z11)
     ·exact zk (ZfF x1 x5 x8 x9 x11 zl r1.2 z7 zh zj z2 z6 b1 z1x zu zd zH zE z1Z zy z19 z11)
 ·exact zk (Z6c x1 x5 x8 x11 x11 zl r1.2 z7 zh zj z2 z6 b1 z1x zu zd zH zE z1Z zy z19 z11)
def Z5U (x1 : Int) (x5 : Bool) (x8 x9 : Int) (zl : List Int) (zn z7 zh : Int) (zj : List Zz) (z2 z6 : Int) (z1x : List Z8) : Option (Z9 × Int × Int × Int) :=
 (Z5J zl zn z7 zh zj z2 z6).bind fun r1 =>
 (nilO (shrO (shrO (shrO (shrO r1.2.1.1)))) r1.2.1.2).bind fun a2 =>
 if (!a2) = true then
 ((Z3Y r1.2.2.1 r1.2.1.2).bind fun r3 =>
 (Z6v r3.Set z1x).bind fun r4 =>
 (Z2F (Z1C.mk zl r1.2.2.2.1 z7 zh zj (Z17.mk r1.2.2.2.2.1 r1.2.2.2.2.2))).bind fun r5 =>
 if (r5 == 45) = true then
 ((Z1f 22 r1.2.2.2.1 zl r1.2.2.2.2.1 r1.2.2.2.2.2).bind fun r6 =>
 Z1W x1 x5 x8 zl r6.1 z7 zh zj r6.2.1 r6.2.2 r4)
 else
 (Z1W x1 x5 x8 zl r1.2.2.2.1 z7 zh zj r1.2.2.2.2.1 r1.2.2.2.2.2 r4))
 else
 (Z5V x1 x5 x8 x9 r1.1 zl r1.2.2.2.1 z7 zh zj r1.2.2.2.2.1 r1.2.2.2.2.2 z1x)
theorem ZaQ x1 x5 x8 x9 zl zn z7 zh zj z2 z6 b1 (z1x : List Z8) zu zd zH zE z1Z (zy : ZO zd = true) (z19 : ZO zH = true) (z11 : ZO zE = true) : Sim (Z1I zl z7 zh zj zu zd) (Z5U x1 x5 x8 x9 zl zn z7 zh zj z2 z6 z1x) (Zny 1 (.ptr 0 0) (iv x1) (.ptr 1 0) (bv x5) (.ptr 2 0) (.clo 80 [] [(.ptr 2 0)]) (iv x8) (iv x9) [(ZN zl zn z7 zh zj z2 z6 zu zd), (Zk b1 zH zE), [(ZR z1Z (z1x.map Zv))]]) := by
 unfold Z5U
 refine zf (ZxW ..)<|ze<|zi fun r1 hr1 => ?_
 obtain ⟨_, er1, _, rfl⟩ := Zci zl zn z7 zh zj z2 z6 zu zd zy r1 hr1
 refine zc [0] (.p (.tup [(.v (.int .i64 r1.1)), (.lst r1.2.1.1 (r1.2.1.2.map Zv)), (.v (.bool r1.2.2.1))])) [(ZN zl r1.2.2.2.1 z7 zh zj r1.2.2.2.2.1 r1.2.2.2.2.2 zu zd), (Zk b1 zH zE), [(ZR z1Z (z1x.map Zv))]] er1<|zq<|zq<|zq<|ze<|zi fun a2 ha2 => zp (bv (!a2)) (et_ (ZlJ (P := PP) (t := 27) (c := .slice none 0 0) (e := Zv) (by kernel_rfl) ha2)) ?_
 refine za (!a2) ?_ ?_
 ·refine ze<|zi fun r3 hr3 => ?_
  obtain ⟨_, er3, _, rfl⟩ := Z48 r1.2.2.1 r1.2.1.2 .sh r3 hr3
  refine zc [] (pA_ (ZI r3 .sh .sh)) [(ZN zl r1.2.2.2.1 z7 zh zj r1.2.2.2.2.1 r1.2.2.2.2.2 zu zd), (Zk b1 zH zE), [(ZR z1Z (z1x.map Zv))]] er3<|zz (.ptr 3 0) [(ZN zl r1.2.2.2.1 z7 zh zj r1.2.2.2.2.1 r1.2.2.2.2.2 zu zd), (Zk b1 zH zE), [(ZR z1Z (z1x.map Zv))], (Zk Z1D .nl .nl)]<|zt [(ZN zl r1.2.2.2.1 z7 zh zj r1.2.2.2.2.1 r1.2.2.2.2.2 zu zd), (Zk b1 zH zE), [(ZR z1Z (z1x.map Zv))], (Zk r3 .sh .sh)]<|ze<|zq<|zq<|zi fun r4 hr4 => ?_
  obtain ⟨_, er4, zkJ, _, rfl⟩ := ZbW r3.Set z1x .sh z1Z r4 hr4
  refine zv [2] (.p (.tup [])) [(ZN zl r1.2.2.2.1 z7 zh zj r1.2.2.2.2.1 r1.2.2.2.2.2 zu zd), (Zk b1 zH zE), [(ZR zkJ (r4.map Zv))], (Zk r3 .sh .sh)] er4<|ze<|zi fun r5 hr5 => ?_
  obtain ⟨_, er5, _, rfl⟩ := Z2V (Z1C.mk zl r1.2.2.2.1 z7 zh zj (Z17.mk r1.2.2.2.2.1 r1.2.2.2.2.2)) zu zd zy r5 hr5
  refine zc [0] (iv r5) [(ZN zl r1.2.2.2.1 z7 zh zj r1.2.2.2.2.1 r1.2.2.2.2.2 zu zd), (Zk b1 zH zE), [(ZR zkJ (r4.map Zv))], (Zk r3 .sh .sh)] er5<|zq ?_
  refine za (r5 == 45) ?_ ?_
  ·refine ze<|zq<|zq<|zq<|zi fun r6 hr6 => ?_
   obtain ⟨_, er6, _, rfl⟩ := Z1j 22 r1.2.2.2.1 zl r1.2.2.2.1 z7 zh zj r1.2.2.2.2.1 r1.2.2.2.2.2 zu zd zy r6 hr6
   refine zc [0] (.p (.tup [])) [(ZN zl r6.1 z7 zh zj r6.2.1 r6.2.2 zu zd), (Zk b1 zH zE), [(ZR zkJ (r4.map Zv))], (Zk r3 .sh .sh)] er6 ?_
   exact zk (Z2N x1 x5 x8 zl r6.1 z7 zh zj r6.2.1 r6.2.2 b1 r4 zu zd zH zE zkJ zy z19 z11)
  ·exact zk (Z2N x1 x5 x8 zl r1.2.2.2.1 z7 zh zj r1.2.2.2.2.1 r1.2.2.2.2.2 b1 r4 zu zd zH zE zkJ zy z19 z11)
 ·exact zk (ZfE x1 x5 x8 x9 r1.1 zl r1.2.2.2.1 z7 zh zj r1.2.2.2.2.1 r1.2.2.2.2.2 b1 z1x zu zd zH zE z1Z zy z19 z11)
def Z4Q (x1 : Int) (x5 : Bool) (x8 : Int) (zl : List Int) (zn z7 zh : Int) (zj : List Zz) (z2 z6 : Int) (z1x : List Z8) : Option (Z9 × Int × Int × Int) :=
 (Z2F (Z1C.mk zl zn z7 zh zj (Z17.mk z2 z6))).bind fun r1 =>
 if (r1 == (-1)) = true then
 ((Z1f 22 x1 zl z2 z6).bind fun r2 =>
 Z1W x1 x5 x8 zl r2.1 z7 zh zj r2.2.1 r2.2.2 z1x)
 else
 (if (r1 == 93) = true then
 (if (x8 == 0) = true then
 ((Z1f 22 x1 zl z2 z6).bind fun r3 =>
 Z1W x1 x5 x8 zl r3.1 z7 zh zj r3.2.1 r3.2.2 z1x)
 else
 (Z77 x5 zl zn z2 z6 z1x))
 else
 (if (r1 == 91) = true then
 (if (r1 == 91) = true then
 ((Z1f 22 zn zl z2 z6).bind fun r4 =>
 Z1W x1 x5 x8 zl r4.1 z7 zh zj r4.2.1 r4.2.2 z1x)
 else
 (Z5U x1 x5 x8 zn zl zn z7 zh zj z2 z6 z1x))
 else
 (if (r1 == 45) = true then
 ((Z1f 22 zn zl z2 z6).bind fun r5 =>
 Z1W x1 x5 x8 zl r5.1 z7 zh zj r5.2.1 r5.2.2 z1x)
 else
 (Z5U x1 x5 x8 zn zl zn z7 zh zj z2 z6 z1x))))
theorem ZgH x1 x5 x8 zl zn z7 zh zj z2 z6 b1 (z1x : List Z8) zu zd zH zE z1Z (zy : ZO zd = true) (z19 : ZO zH = true) (z11 : ZO zE = true) : Sim (Z1I zl z7 zh zj zu zd) (Z4Q x1 x5 x8 zl zn z7 zh zj z2 z6 z1x) (Zuo 1 (.ptr 0 0) (iv x1) (.ptr 1 0) (bv x5) (.ptr 2 0) (.clo 80 [] [(.ptr 2 0)]) (iv x8) [(ZN zl zn z7 zh zj z2 z6 zu zd), (Zk b1 zH zE), [(ZR z1Z (z1x.map Zv))]]) := by
 unfold Z4Q
 refine zf (ZAN ..)<|ze<|zq<|zq<|zq<|ze<|zi fun r1 hr1 => ?_
 obtain ⟨_, er1, _, rfl⟩ := Z2V (Z1C.mk zl zn z7 zh zj (Z17.mk z2 z6)) zu zd zy r1 hr1
 refine zc [0] (iv r1) [(ZN zl zn z7 zh zj z2 z6 zu zd), (Zk b1 zH zE), [(ZR z1Z (z1x.map Zv))]] er1<|ze<|ze<|zq ?_
 refine za (r1 == (-1)) ?_ ?_
 ·refine ze<|zi fun r2 hr2 => ?_
  obtain ⟨_, er2, _, rfl⟩ := Z1j 22 x1 zl zn z7 zh zj z2 z6 zu zd zy r2 hr2
  refine zc [0] (.p (.tup [])) [(ZN zl r2.1 z7 zh zj r2.2.1 r2.2.2 zu zd), (Zk b1 zH zE), [(ZR z1Z (z1x.map Zv))]] er2 ?_
  exact zk (Z2N x1 x5 x8 zl r2.1 z7 zh zj r2.2.1 r2.2.2 b1 z1x zu zd zH zE z1Z zy z19 z11)
 ·refine ze<|zq ?_
  refine za (r1 == 93) ?_ ?_
  ·refine ze<|zq ?_
   refine za (x8 == 0) ?_ ?_
   ·refine ze<|zi fun r3 hr3 => ?_
    obtain ⟨_, er3, _, rfl⟩ := Z1j 22 x1 zl zn z7 zh zj z2 z6 zu zd zy r3 hr3
    refine zc [0] (.p (.tup [])) [(ZN zl r3.1 z7 zh zj r3.2.1 r3.2.2 zu zd), (Zk b1 zH zE), [(ZR z1Z (z1x.map Zv))]] er3 ?_
    exact zk (Z2N x1 x5 x8 zl r3.1 z7 zh zj r3.2.1 r3.2.2 b1 z1x zu zd zH zE z1Z zy z19 z11)
   ·exact zk (ZfD x5 zl zn z7 zh zj z2 z6 b1 z1x zu zd zH zE z1Z zy z19 z11)
  ·refine ze<|zq ?_
   refine za (r1 == 91) ?_ ?_
   ·refine za (r1 == 91) ?_ ?_
    ·refine ze<|zi fun r4 hr4 => ?_
     obtain ⟨_, er4, _, rfl⟩ := Z1j 22 zn zl zn z7 zh zj z2 z6 zu zd zy r4 hr4
     refine zc [0] (.p (.tup [])) [(ZN zl r4.1 z7 zh zj r4.2.1 r4.2.2 zu zd), (Zk b1 zH zE), [(ZR z1Z (z1x.map Zv))]] er4 ?_
     exact zk (Z2N x1 x5 x8 zl r4.1 z7 zh zj r4.2.1 r4.2.2 b1 z1x zu zd zH zE z1Z zy z19 z11)
    ·exact zk (ZaQ x1 x5 x8 zn zl zn z7 zh zj z2 z6 b1 z1x zu zd zH zE z1Z zy z19 z11)
   ·refine ze<|zq ?_
    refine za (r1 == 45) ?_ ?_
    ·refine ze<|zi fun r5 hr5 => ?_
     obtain ⟨_, er5, _, rfl⟩ := Z1j 22 zn zl zn z7 zh zj z2 z6 zu zd zy r5 hr5
     refine zc [0] (.p (.tup [])) [(ZN zl r5.1 z7 zh zj r5.2.1 r5.2.2 zu zd), (Zk b1 zH zE), [(ZR z1Z (z1x.map Zv))]] er5 ?_
     exact zk (Z2N x1 x5 x8 zl r5.1 z7 zh zj r5.2.1 r5.2.2 b1 z1x zu zd zH zE z1Z zy z19 z11)
    ·exact zk (ZaQ x1 x5 x8 zn zl zn z7 zh zj z2 z6 b1 z1x zu zd zH zE z1Z zy z19 z11)
def Z9h (zn z2 z6 : Int) : Option (Z9 × Int × Int × Int) :=
 some ((Z9.mk 0 0 0 0 0 ([] : List Z8) ([] : List Z9)), zn, z2, z6)
theorem ZfG zl zn z7 zh zj z2 z6 b1 zu zd zH zE (zy : ZO zd = true) (z19 : ZO zH = true) (z11 : ZO zE = true) : Sim (Z1I zl z7 zh zj zu zd) (Z9h zn z2 z6) (Zrm 1 (.ptr 1 0) [(ZN zl zn z7 zh zj z2 z6 zu zd), (Zk b1 zH zE)]) := by
 unfold Z9h
 refine zf (Zy2 ..)<|ze<|zq<|zt [(ZN zl zn z7 zh zj z2 z6 zu zd), (Zk Z1D .nl .nl)] ?_
 exact zr ((pA_ (ZI Z1D .sh .sh)), [(ZN zl zn z7 zh zj z2 z6 zu zd), (Zk Z1D .nl .nl)]) ⟨_, rfl⟩
def Z6i (x1 : Int) (x5 : Bool) (x8 : Int) (zl : List Int) (zn z7 zh : Int) (zj : List Zz) (z2 z6 : Int) (z1x : List Z8) : Option (Z9 × Int × Int × Int) :=
 if (z2 == 0) = true then
 (Z4Q x1 x5 x8 zl zn z7 zh zj z2 z6 z1x)
 else
 (Z9h zn z2 z6)
theorem ZgG x1 x5 x8 zl zn z7 zh zj z2 z6 b1 (z1x : List Z8) zu zd zH zE z1Z (zy : ZO zd = true) (z19 : ZO zH = true) (z11 : ZO zE = true) : Sim (Z1I zl z7 zh zj zu zd) (Z6i x1 x5 x8 zl zn z7 zh zj z2 z6 z1x) (Zmm 1 (.ptr 0 0) (iv x1) (.ptr 1 0) (bv x5) (.ptr 2 0) (.clo 80 [] [(.ptr 2 0)]) (iv x8) [(ZN zl zn z7 zh zj z2 z6 zu zd), (Zk b1 zH zE), [(ZR z1Z (z1x.map Zv))]]) := by
 unfold Z6i
 refine zf (ZAL ..)<|ze<|zq<|zq<|zq<|zq<|zq ?_
 refine za (z2 == 0) ?_ ?_
 ·exact zk (ZgH x1 x5 x8 zl zn z7 zh zj z2 z6 b1 z1x zu zd zH zE z1Z zy z19 z11)
 ·exact zk (ZfG zl zn z7 zh zj z2 z6 b1 zu zd zH zE zy z19 z11)
theorem Zbt x1 x5 x8 zl zn z7 zh zj z2 z6 z1x {r} (h : Z6i x1 x5 x8 zl zn z7 zh zj z2 z6 z1x = some r) : Z43 x1 x5 x8 zl zn z7 zh zj z2 z6 z1x = some r :=
 Z1l (fun _ _ ha hb => ru_ (Zal _ _ _ _ _ _) (ha default .ex .ex .ex .ex .ex rfl rfl rfl) (hb default .ex .ex .ex .ex .ex rfl rfl rfl)) (fun b1 zu zd zH zE z1Z zy z19 z11 => ZgG x1 x5 x8 zl zn z7 zh zj z2 z6 b1 z1x zu zd zH zE z1Z zy z19 z11 r h)
end Go.Proofs.YtocikhhkicahoaaDoor.N2
end
