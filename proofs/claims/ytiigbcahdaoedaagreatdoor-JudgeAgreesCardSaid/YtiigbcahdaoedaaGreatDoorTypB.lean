/- The functions' typed texts. No condition. -/
import Derived.Test.YtiigbcahdaoedaaGreatDoorTypA

set_option linter.unusedSimpArgs false
set_option linter.unusedVariables false
set_option linter.defProp false
noncomputable section
namespace Go.Proofs.YtiigbcahdaoedaaGreatDoor.N2
open Go Go.Abs
set_option maxRecDepth 100000
def Z9y (x0 : List Z0) : Option (Int × Int × Bool) :=
 (Z6q x0).bind fun r1 =>
 Z65 r1 0 0 r1 (r1.length : Int) 0
theorem ZhY (x0 : List Z0) ox0 : Sim ZR (Z9y x0) (EE 12 [(Zh ox0 (x0.map Z3))] []) := by
 unfold Z9y
 refine zf (Zvj ..)<|ze<|ze<|zi fun r1 hr1 => ?_
 obtain ⟨_, er1, _, rfl⟩ := Z7J x0 .sh r1 hr1
 refine zc [] (Zh .sh (r1.map Z3)) [] er1<|ze<|zp (iv (r1.length : Int)) (et_ (ZU (P := PP) (t := 22) (d := 39) (by kernel_rfl) Z3 .sh r1)) ?_
 exact zk (Zb8 r1 0 0 r1 (r1.length : Int) 0 .sh .sh)
theorem Ziw x0 {r} (h : Z9y x0 = some r) : Z2f x0 = some r :=
 ZM (fun _ _ ha hb => ru_ Z3B (ha .ex) (hb .ex)) (fun ox0 => ZhY x0 ox0 r h)
def Z7s (x0 : List Z0) (x2 x3 : Int) (x11 : List Z0) (x12 x13 : Int) : Option (Int × Int × Bool) :=
 (lget x11 x13).bind fun a1 =>
 (lsl x0 0 x13).bind fun a2 =>
 Z66 x0 x2 x3 x13 x11 x12 x13 a2 (a2.length : Int) 0 a1
theorem Zfp (x0 : List Z0) x2 x3 (x11 : List Z0) x12 x13 ox0 ox11 : Sim ZR (Z7s x0 x2 x3 x11 x12 x13) (ZlC 0 (Zh ox0 (x0.map Z3)) (iv x2) (iv x3) (Zh ox11 (x11.map Z3)) (iv x12) (iv x13) []) := by
 unfold Z7s
 refine zf (ZqP ..)<|ze<|zi fun a1 ha1 => zp (.cptr (Zv a1 .sh)) (et_ (Z1g (o := ox11) (k := .i64) (n := 5) (e := Z3) (cs := Z20) (fun _ => rfl) (fun _ => rfl) (by decide) ha1))<|zq<|zz (.ptr 0 0) [(Ze ZeE .nl)]<|zt [(Ze a1 .sh)]<|ze<|zi fun a2 ha2 => zp (Zh (slO (shrO ox0)) (a2.map Z3)) (Eq.trans (by kernel_rfl) <| Zcp (n := 5) (o := (shrO ox0)) (lo := none) (hi := (some (iv x13))) (e := Z3) (fun _ => rfl) (by decide) (by kernel_rfl) (by kernel_rfl) ha2)<|zp (iv (a2.length : Int)) (et_ (ZU (P := PP) (t := 22) (d := 39) (by kernel_rfl) Z3 (slO (shrO ox0)) a2)) ?_
 exact zk (Zba x0 x2 x3 x13 x11 x12 x13 a2 (a2.length : Int) 0 a1 ox0 ox11 (slO (shrO ox0)) .sh)
def Z4r (x2 x3 : Int) : Option (Int × Int × Bool) :=
 some (x2, x3, (x3 == 0))
theorem Za1 x2 x3 : Sim ZR (Z4r x2 x3) (ZhM 0 (iv x2) (iv x3) []) := by
 unfold Z4r
 refine zf (Zps ..)<|ze<|zq ?_
 exact zr ((.p (.tup [(.v (.int .i64 x2)), (.v (.int .i64 x3)), (.v (.bool (x3 == 0)))])), []) ⟨_, rfl⟩
def Z5U (x0 : List Z0) (x2 x3 : Int) (x11 : List Z0) (x12 x13 : Int) : Option (Int × Int × Bool) :=
 if (decide (x13 < x12)) = true then
 (Z7s x0 x2 x3 x11 x12 x13)
 else
 (Z4r x2 x3)
theorem Zfn (x0 : List Z0) x2 x3 (x11 : List Z0) x12 x13 ox0 ox11 : Sim ZR (Z5U x0 x2 x3 x11 x12 x13) (Zgv 0 (Zh ox0 (x0.map Z3)) (iv x2) (iv x3) (Zh ox11 (x11.map Z3)) (iv x12) (iv x13) []) := by
 unfold Z5U
 refine zf (ZqN ..)<|ze<|zq ?_
 refine za (decide (x13 < x12)) ?_ ?_
 ·exact zk (Zfp x0 x2 x3 x11 x12 x13 ox0 ox11)
 ·exact zk (Za1 x2 x3)
theorem Zb7 x0 x2 x3 x11 x12 x13 {r} (h : Z5U x0 x2 x3 x11 x12 x13 = some r) : Z65 x0 x2 x3 x11 x12 x13 = some r :=
 ZM (fun _ _ ha hb => ru_ Z3B (ha .ex .ex) (hb .ex .ex)) (fun ox0 ox11 => Zfn x0 x2 x3 x11 x12 x13 ox0 ox11 r h)
def Z71 (x0 : List Z0) (x2 x3 x5 : Int) (x11 : List Z0) (x12 x13 : Int) (x20 : List Z0) (x21 x22 : Int) (b0 : Z0) : Option (Int × Int × Bool) :=
 Z66 x0 x2 x3 x5 x11 x12 x13 x20 x21 (IntKind.i64.wrap (x22 + 1)) b0
theorem ZeP (x0 : List Z0) x2 x3 x5 (x11 : List Z0) x12 x13 (x20 : List Z0) x21 x22 b0 ox0 ox11 ox20 zj : Sim ZR (Z71 x0 x2 x3 x5 x11 x12 x13 x20 x21 x22 b0) (Zko 0 (Zh ox0 (x0.map Z3)) (iv x2) (iv x3) (iv x5) (.ptr 0 0) (Zh ox11 (x11.map Z3)) (iv x12) (iv x13) (Zh ox20 (x20.map Z3)) (iv x21) (iv x22) [(Ze b0 zj)]) := by
 unfold Z71
 refine zf (Zpq ..)<|ze<|zq ?_
 exact zk (Zba x0 x2 x3 x5 x11 x12 x13 x20 x21 (IntKind.i64.wrap (x22 + 1)) b0 ox0 ox11 ox20 zj)
def Z7u (x5 x7 : Int) : Option (Int × Int × Bool) :=
 Z4r x7 x5
theorem Zfr x5 x7 : Sim ZR (Z7u x5 x7) (ZlE 0 (iv x5) (iv x7) []) := by
 unfold Z7u
 refine zf (ZqR ..)<|ze ?_
 exact zk (Za1 x7 x5)
def Z7t (x0 : List Z0) (x2 x3 x5 : Int) (x11 : List Z0) (x12 x13 : Int) (x20 : List Z0) (x21 x22 : Int) (b0 : Z0) : Option (Int × Int × Bool) :=
 (lget x20 x22).bind fun a1 =>
 (Z7e a1).bind fun r2 =>
 (Z7e b0).bind fun r3 =>
 (Z8K r2 r3).bind fun r4 =>
 if r4 = true then
 (Z71 x0 x2 x3 x5 x11 x12 x13 x20 x21 x22 b0)
 else
 (Z7u x5 x22)
theorem Zfq (x0 : List Z0) x2 x3 x5 (x11 : List Z0) x12 x13 (x20 : List Z0) x21 x22 b0 ox0 ox11 ox20 zj : Sim ZR (Z7t x0 x2 x3 x5 x11 x12 x13 x20 x21 x22 b0) (ZlD 0 (Zh ox0 (x0.map Z3)) (iv x2) (iv x3) (iv x5) (.ptr 0 0) (Zh ox11 (x11.map Z3)) (iv x12) (iv x13) (Zh ox20 (x20.map Z3)) (iv x21) (iv x22) [(Ze b0 zj)]) := by
 unfold Z7t
 refine zf (ZqQ ..)<|ze<|zi fun a1 ha1 => zp (.cptr (Zv a1 .sh)) (et_ (Z1g (o := ox20) (k := .i64) (n := 5) (e := Z3) (cs := Z20) (fun _ => rfl) (fun _ => rfl) (by decide) ha1))<|zq<|zz (.ptr 1 0) [(Ze b0 zj), (Ze ZeE .nl)]<|zt [(Ze b0 zj), (Ze a1 .sh)]<|ze<|zq<|zi fun r2 hr2 => ?_
 obtain ⟨_, er2, _, rfl⟩ := ZaD a1 .sh r2 hr2
 refine zc [] (Zh .sh (r2.map Za)) [(Ze b0 zj), (Ze a1 .sh)] er2<|zq<|zi fun r3 hr3 => ?_
 obtain ⟨_, er3, _, rfl⟩ := ZaD b0 .sh r3 hr3
 refine zc [] (Zh .sh (r3.map Za)) [(Ze b0 zj), (Ze a1 .sh)] er3<|zi fun r4 hr4 => ?_
 obtain ⟨_, er4, _, rfl⟩ := Zi1 r2 r3 .sh .sh r4 hr4
 refine zc [] (bv r4) [(Ze b0 zj), (Ze a1 .sh)] er4<|zg ?_
 refine za r4 ?_ ?_
 ·exact zk (ZeP x0 x2 x3 x5 x11 x12 x13 x20 x21 x22 b0 ox0 ox11 ox20 zj)
 ·exact zk (Zfr x5 x22)
def Z4q (x0 : List Z0) (x2 x3 : Int) (x11 : List Z0) (x12 x13 : Int) : Option (Int × Int × Bool) :=
 Z65 x0 x2 x3 x11 x12 (IntKind.i64.wrap (x13 + 1))
theorem ZeQ (x0 : List Z0) x2 x3 (x11 : List Z0) x12 x13 ox0 ox11 : Sim ZR (Z4q x0 x2 x3 x11 x12 x13) (Zkp 0 (Zh ox0 (x0.map Z3)) (iv x2) (iv x3) (Zh ox11 (x11.map Z3)) (iv x12) (iv x13) []) := by
 unfold Z4q
 refine zf (Zpr ..)<|ze<|zq ?_
 exact zk (Zb8 x0 x2 x3 x11 x12 (IntKind.i64.wrap (x13 + 1)) ox0 ox11)
def Z5V (x0 : List Z0) (x2 x3 x5 : Int) (x11 : List Z0) (x12 x13 : Int) (x20 : List Z0) (x21 x22 : Int) (b0 : Z0) : Option (Int × Int × Bool) :=
 if (decide (x22 < x21)) = true then
 (Z7t x0 x2 x3 x5 x11 x12 x13 x20 x21 x22 b0)
 else
 (Z4q x0 x2 x3 x11 x12 x13)
theorem Zfo (x0 : List Z0) x2 x3 x5 (x11 : List Z0) x12 x13 (x20 : List Z0) x21 x22 b0 ox0 ox11 ox20 zj : Sim ZR (Z5V x0 x2 x3 x5 x11 x12 x13 x20 x21 x22 b0) (Zgw 0 (Zh ox0 (x0.map Z3)) (iv x2) (iv x3) (iv x5) (.ptr 0 0) (Zh ox11 (x11.map Z3)) (iv x12) (iv x13) (Zh ox20 (x20.map Z3)) (iv x21) (iv x22) [(Ze b0 zj)]) := by
 unfold Z5V
 refine zf (ZqO ..)<|ze<|zq ?_
 refine za (decide (x22 < x21)) ?_ ?_
 ·exact zk (Zfq x0 x2 x3 x5 x11 x12 x13 x20 x21 x22 b0 ox0 ox11 ox20 zj)
 ·exact zk (ZeQ x0 x2 x3 x11 x12 x13 ox0 ox11)
theorem Zb9 x0 x2 x3 x5 x11 x12 x13 x20 x21 x22 b0 {r} (h : Z5V x0 x2 x3 x5 x11 x12 x13 x20 x21 x22 b0 = some r) : Z66 x0 x2 x3 x5 x11 x12 x13 x20 x21 x22 b0 = some r :=
 ZM (fun _ _ ha hb => ru_ Z3B (ha .ex .ex .ex .ex) (hb .ex .ex .ex .ex)) (fun ox0 ox11 ox20 zj => Zfo x0 x2 x3 x5 x11 x12 x13 x20 x21 x22 b0 ox0 ox11 ox20 zj r h)
def Z9z (x0 : List Z0) : Option (List Z0) :=
 Z67 ([] : List Z0) x0 (x0.length : Int) 0
theorem Zi2 (x0 : List Z0) ox0 : Sim Z2D (Z9z x0) (EE 28 [(Zh ox0 (x0.map Z3))] []) := by
 unfold Z9z
 refine zf (ZvK ..)<|ze<|ze<|ze<|zp (iv (x0.length : Int)) (et_ (ZU (P := PP) (t := 22) (d := 39) (by kernel_rfl) Z3 (shrO ox0) x0)) ?_
 exact zk (Zbc ([] : List Z0) x0 (x0.length : Int) 0 .nl (shrO ox0) rfl)
theorem Ziz x0 {r} (h : Z9z x0 = some r) : Z6q x0 = some r :=
 ZM (fun _ _ ha hb => ru_ ZdZ (ha .ex) (hb .ex)) (fun ox0 => Zi2 x0 ox0 r h)
def Z4I (x3 x6 : List Z0) (x7 x8 : Int) : Option (List Z0) :=
 Z67 x3 x6 x7 (IntKind.i64.wrap (x8 + 1))
theorem ZaE (x3 x6 : List Z0) x7 x8 ox3 ox6 (hox3 : Z1i ox3 = true) : Sim Z2D (Z4I x3 x6 x7 x8) (Zmf 0 (Zh ox3 (x3.map Z3)) (Zh ox6 (x6.map Z3)) (iv x7) (iv x8) []) := by
 unfold Z4I
 refine zf (Zrj ..)<|ze<|zq ?_
 exact zk (Zbc x3 x6 x7 (IntKind.i64.wrap (x8 + 1)) ox3 ox6 hox3)
def Z7y (x3 x6 : List Z0) (x7 x8 : Int) (b0 : Z0) : Option (List Z0) :=
 (lapp x3 ([b0] : List Z0)).bind fun a1 =>
 Z4I a1 x6 x7 x8
theorem Zfw (x3 x6 : List Z0) x7 x8 b0 ox3 ox6 zj (hox3 : Z1i ox3 = true) (zxk : Z1i zj = true) : Sim Z2D (Z7y x3 x6 x7 x8 b0) (ZgN 0 (Zh ox3 (x3.map Z3)) (.ptr 0 0) (Zh ox6 (x6.map Z3)) (iv x7) (iv x8) [(Ze b0 zj)]) := by
 unfold Z7y
 refine zf (Zl5 ..)<|ze<|zq<|zq<|zi fun a1 ha1 => zp (Zh .un (a1.map Z3)) (Eq.trans (by kernel_rfl) <| Za6 (n := 5) (o := ox3) (o' := .ex) (e := Z3) (ys := ([b0] : List Z0)) (fun _ => rfl) (by decide) hox3 ha1) ?_
 exact zk (ZaE a1 x6 x7 x8 .un ox6 rfl)
def Z6A (x3 x6 : List Z0) (x7 x8 : Int) (b0 : Z0) : Option (List Z0) :=
 (lapp x3 ([b0] : List Z0)).bind fun a1 =>
 Z4I a1 x6 x7 x8
theorem Zel (x3 x6 : List Z0) x7 x8 b0 ox3 ox6 zj (hox3 : Z1i ox3 = true) : Sim Z2D (Z6A x3 x6 x7 x8 b0) (ZgN 0 (Zh ox3 (x3.map Z3)) (.ptr 0 0) (Zh ox6 (x6.map Z3)) (iv x7) (iv x8) [(Ze b0 zj)]) := by
 unfold Z6A
 refine zf (Zl5 ..)<|ze<|zq<|zq<|zi fun a1 ha1 => zp (Zh .un (a1.map Z3)) (Eq.trans (by kernel_rfl) <| Za6 (n := 5) (o := ox3) (o' := .ex) (e := Z3) (ys := ([b0] : List Z0)) (fun _ => rfl) (by decide) hox3 ha1) ?_
 exact zk (ZaE a1 x6 x7 x8 .un ox6 rfl)
def Z7x (x3 x6 : List Z0) (x7 x8 : Int) : Option (List Z0) :=
 (lget x6 x8).bind fun a1 =>
 (Z3r a1).bind fun r2 =>
 if (!r2) = true then
 (Z7y x3 x6 x7 x8 (Z0.mk 0 0 0 0 ([] : List Z8)))
 else
 (Z6A x3 x6 x7 x8 a1)
theorem Zfv (x3 x6 : List Z0) x7 x8 ox3 ox6 (hox3 : Z1i ox3 = true) : Sim Z2D (Z7x x3 x6 x7 x8) (Zme 0 (Zh ox3 (x3.map Z3)) (Zh ox6 (x6.map Z3)) (iv x7) (iv x8) []) := by
 unfold Z7x
 refine zf (Zri ..)<|ze<|zi fun a1 ha1 => zp (.cptr (Zv a1 .sh)) (et_ (Z1g (o := ox6) (k := .i64) (n := 5) (e := Z3) (cs := Z20) (fun _ => rfl) (fun _ => rfl) (by decide) ha1))<|zq<|zz (.ptr 0 0) [(Ze ZeE .nl)]<|zt [(Ze a1 .sh)]<|ze<|zq<|zi fun r2 hr2 => ?_
 obtain ⟨_, er2, _, rfl⟩ := Z90 a1 .sh r2 hr2
 refine zc [] (bv r2) [(Ze a1 .sh)] er2<|zq ?_
 refine za (!r2) ?_ ?_
 ·refine ze<|zq<|zt [(Ze ZeE .nl)] ?_
  exact zk (Zfw x3 x6 x7 x8 ZeE ox3 ox6 .nl hox3 rfl)
 ·exact zk (Zel x3 x6 x7 x8 a1 ox3 ox6 .sh hox3)
def Z7z (x3 : List Z0) : Option (List Z0) :=
 some x3
theorem Zfx (x3 : List Z0) ox3 (hox3 : Z1i ox3 = true) : Sim Z2D (Z7z x3) (Zmg 0 (Zh ox3 (x3.map Z3)) []) := by
 unfold Z7z
 refine zf (Zrk ..)<|ze ?_
 exact zr ((Zh .sh (x3.map Z3)), []) ⟨_, rfl⟩
def Z5W (x3 x6 : List Z0) (x7 x8 : Int) : Option (List Z0) :=
 if (decide (x8 < x7)) = true then
 (Z7x x3 x6 x7 x8)
 else
 (Z7z x3)
theorem Zfu (x3 x6 : List Z0) x7 x8 ox3 ox6 (hox3 : Z1i ox3 = true) : Sim Z2D (Z5W x3 x6 x7 x8) (ZgM 0 (Zh ox3 (x3.map Z3)) (Zh ox6 (x6.map Z3)) (iv x7) (iv x8) []) := by
 unfold Z5W
 refine zf (Zrh ..)<|ze<|zq ?_
 refine za (decide (x8 < x7)) ?_ ?_
 ·exact zk (Zfv x3 x6 x7 x8 ox3 ox6 hox3)
 ·exact zk (Zfx x3 ox3 hox3)
theorem Zbb x3 x6 x7 x8 {r} (h : Z5W x3 x6 x7 x8 = some r) : Z67 x3 x6 x7 x8 = some r :=
 ZM (fun _ _ ha hb => ru_ ZdZ (ha .ex .ex rfl) (hb .ex .ex rfl)) (fun ox3 ox6 hox3 => Zfu x3 x6 x7 x8 ox3 ox6 hox3 r h)
def Z5C (x0 : Z0) : Option Bool :=
 if (decide (0 ≤ x0.View)) = true then
 (if (decide (x0.View ≤ 1099511627776)) = true then
 (if (decide (0 ≤ x0.Normal)) = true then
 (if (decide (x0.Normal ≤ x0.View)) = true then
 (if (decide ((x0.Log.length : Int) ≤ 64)) = true then
 (if (decide (0 ≤ x0.Commit)) = true then
 (if (decide (x0.Commit ≤ (x0.Log.length : Int))) = true then
 (if (decide (0 ≤ x0.Active)) = true then
 (if (decide (x0.Active ≤ 64)) = true then
 ((Z2Q x0.Log).bind fun r1 =>
 some (!r1))
 else
 (some false))
 else
 (some false))
 else
 (some false))
 else
 (some false))
 else
 (some false))
 else
 (some false))
 else
 (some false))
 else
 (some false))
 else
 (some false)
theorem Zdx x0 zl : Sim Z6 (Z5C x0) (EE 23 [(pA_ (Zv x0 zl))] []) := by
 unfold Z5C
 refine zf (ZvG ..)<|ze<|zx (.ptr 0 0) [(Ze x0 zl)]<|ze<|zq<|zq<|zq ?_
 refine za (decide (0 ≤ x0.View)) ?_ ?_
 ·refine zq<|zq<|zq ?_
  refine za (decide (x0.View ≤ 1099511627776)) ?_ ?_
  ·refine zq<|zq<|zq ?_
   refine za (decide (0 ≤ x0.Normal)) ?_ ?_
   ·refine zq<|zq<|zq<|zq<|zq ?_
    refine za (decide (x0.Normal ≤ x0.View)) ?_ ?_
    ·refine zq<|zq<|zp (iv (x0.Log.length : Int)) (et_ (ZU (P := PP) (t := 37) (d := 81) (by kernel_rfl) Za (shrO zl) x0.Log))<|zq ?_
     refine za (decide ((x0.Log.length : Int) ≤ 64)) ?_ ?_
     ·refine zq<|zq<|zq ?_
      refine za (decide (0 ≤ x0.Commit)) ?_ ?_
      ·refine zq<|zq<|zq<|zq<|zp (iv (x0.Log.length : Int)) (et_ (ZU (P := PP) (t := 37) (d := 81) (by kernel_rfl) Za (shrO zl) x0.Log))<|zq ?_
       refine za (decide (x0.Commit ≤ (x0.Log.length : Int))) ?_ ?_
       ·refine zq<|zq<|zq ?_
        refine za (decide (0 ≤ x0.Active)) ?_ ?_
        ·refine zq<|zq<|zq ?_
         refine za (decide (x0.Active ≤ 64)) ?_ ?_
         ·refine zq<|zq<|zi fun r1 hr1 => ?_
          obtain ⟨_, er1, _, rfl⟩ := Z99 x0.Log .sh r1 hr1
          refine zc [] (bv r1) [(Ze x0 zl)] er1<|zq ?_
          exact zr ((bv (!r1)), [(Ze x0 zl)]) ⟨_, rfl⟩
         ·exact zr ((bv false), [(Ze x0 zl)]) ⟨_, rfl⟩
        ·exact zr ((bv false), [(Ze x0 zl)]) ⟨_, rfl⟩
       ·exact zr ((bv false), [(Ze x0 zl)]) ⟨_, rfl⟩
      ·exact zr ((bv false), [(Ze x0 zl)]) ⟨_, rfl⟩
     ·exact zr ((bv false), [(Ze x0 zl)]) ⟨_, rfl⟩
    ·exact zr ((bv false), [(Ze x0 zl)]) ⟨_, rfl⟩
   ·exact zr ((bv false), [(Ze x0 zl)]) ⟨_, rfl⟩
  ·exact zr ((bv false), [(Ze x0 zl)]) ⟨_, rfl⟩
 ·exact zr ((bv false), [(Ze x0 zl)]) ⟨_, rfl⟩
theorem ZdR x0 {r} (h : Z5C x0 = some r) : Z3r x0 = some r :=
 ZM (fun _ _ ha hb => ru_ ZE (ha .ex) (hb .ex)) (fun zl => Zdx x0 zl r h)
def Z2L (x0 : List Z8) : Option Bool :=
 (Z3u x0).bind fun r1 =>
 some (decide (0 ≤ r1))
theorem Z8L (x0 : List Z8) ox0 : Sim Z6 (Z2L x0) (EE 42 [(Zh ox0 (x0.map Za)), (.clo 43 [] [])] []) := by
 unfold Z2L
 refine zf (Zw2 ..)<|ze<|ze<|zi fun r1 hr1 => ?_
 obtain ⟨_, er1, _, rfl⟩ := Zaf x0 .sh r1 hr1
 refine zc [] (iv r1) [] er1<|zq ?_
 exact zr ((bv (decide (0 ≤ r1))), []) ⟨_, rfl⟩
theorem Z98 x0 {r} (h : Z2L x0 = some r) : Z2Q x0 = some r :=
 ZM (fun _ _ ha hb => ru_ ZE (ha .ex) (hb .ex)) (fun ox0 => Z8L x0 ox0 r h)
def Z3q (x0 : List Z8) : Option Int :=
 Z2a x0 (x0.length : Int) 0
theorem Z9S (x0 : List Z8) ox0 : Sim Zd (Z3q x0) (EE 59 [(Zh ox0 (x0.map Za)), (.clo 43 [] [])] []) := by
 unfold Z3q
 refine zf (Zwn ..)<|ze<|ze<|zp (iv (x0.length : Int)) (et_ (ZU (P := PP) (t := 37) (d := 81) (by kernel_rfl) Za (shrO ox0) x0)) ?_
 exact zk (Z5x x0 (x0.length : Int) 0 ox0)
theorem Zae x0 {r} (h : Z3q x0 = some r) : Z3u x0 = some r :=
 ZM (fun _ _ ha hb => ru_ Z11 (ha .ex) (hb .ex)) (fun ox0 => Z9S x0 ox0 r h)
def Z2P (x0 : List Z8) (x7 x8 : Int) : Option Int :=
 Z2a x0 x7 (IntKind.i64.wrap (x8 + 1))
theorem Z8S (x0 : List Z8) x7 x8 ox0 : Sim Zd (Z2P x0 x7 x8) (ZmZ 0 (Zh ox0 (x0.map Za)) (.clo 43 [] []) (iv x7) (iv x8) []) := by
 unfold Z2P
 refine zf (Zs8 ..)<|ze<|zq ?_
 exact zk (Z5x x0 x7 (IntKind.i64.wrap (x8 + 1)) ox0)
def Z28 (x0 : List Z8) (x7 x8 : Int) : Option Int :=
 (lget x0 x8).bind fun a1 =>
 (Z58 a1).bind fun r2 =>
 if r2 = true then
 (some x8)
 else
 (Z2P x0 x7 x8)
theorem Z8R (x0 : List Z8) x7 x8 ox0 : Sim Zd (Z28 x0 x7 x8) (ZmY 0 (Zh ox0 (x0.map Za)) (.clo 43 [] []) (iv x7) (iv x8) []) := by
 unfold Z28
 refine zf (Zs7 ..)<|ze<|ze<|zi fun a1 ha1 => zp (.cptr (Z17 a1 .sh .sh)) (et_ (Z1g (o := (shrO ox0)) (k := .i64) (n := 9) (e := Za) (cs := Z3m) (fun _ => rfl) (fun _ => rfl) (by decide) ha1))<|zq<|zi fun r2 hr2 => ?_
 obtain ⟨_, er2, _, rfl⟩ := Zd6 a1 .sh .sh r2 hr2
 refine zv [] (bv r2) [] er2 ?_
 refine za r2 ?_ ?_
 ·refine ze ?_
  exact zr ((iv x8), []) ⟨_, rfl⟩
 ·exact zk (Z8S x0 x7 x8 ox0)
def Z4f : Option Int :=
 some (-1)
theorem Z8T : Sim Zd Z4f (Zn0 0 []) := by
 unfold Z4f
 refine zf (Zs9 ..)<|ze ?_
 exact zr ((iv (-1)), []) ⟨_, rfl⟩
def Z1K (x0 : List Z8) (x7 x8 : Int) : Option Int :=
 if (decide (x8 < x7)) = true then
 (Z28 x0 x7 x8)
 else
 Z4f
theorem Z8Q (x0 : List Z8) x7 x8 ox0 : Sim Zd (Z1K x0 x7 x8) (Zh5 0 (Zh ox0 (x0.map Za)) (.clo 43 [] []) (iv x7) (iv x8) []) := by
 unfold Z1K
 refine zf (Zs6 ..)<|ze<|zq ?_
 refine za (decide (x8 < x7)) ?_ ?_
 ·exact zk (Z8R x0 x7 x8 ox0)
 ·exact zk Z8T
theorem Z3A x0 x7 x8 {r} (h : Z1K x0 x7 x8 = some r) : Z2a x0 x7 x8 = some r :=
 ZM (fun _ _ ha hb => ru_ Z11 (ha .ex) (hb .ex)) (fun ox0 => Z8Q x0 x7 x8 ox0 r h)
def Z4S (x0 : Z8) : Option Bool :=
 (Z6K x0).bind fun r1 =>
 some (!r1)
theorem Zcy x0 z9 z7 : Sim Z6 (Z4S x0) (EE 43 [(pA_ (Z17 x0 z9 z7))] []) := by
 unfold Z4S
 refine zf (Zw3 ..)<|ze<|zx (.ptr 0 0) [(Zk x0 z9 z7)]<|ze<|zq<|zi fun r1 hr1 => ?_
 obtain ⟨_, er1, _, rfl⟩ := ZeW x0 .sh .sh r1 hr1
 refine zc [] (bv r1) [(Zk x0 z9 z7)] er1<|zq ?_
 exact zr ((bv (!r1)), [(Zk x0 z9 z7)]) ⟨_, rfl⟩
theorem Zd5 x0 {r} (h : Z4S x0 = some r) : Z58 x0 = some r :=
 ZM (fun _ _ ha hb => ru_ ZE (ha .ex .ex) (hb .ex .ex)) (fun z9 z7 => Zcy x0 z9 z7 r h)
def Z6B (x0 : Z8) : Option Bool :=
 (Z2G x0.View 0).bind fun r1 =>
 if r1 = true then
 ((Z2G x0.Client 1).bind fun r2 =>
 if r2 = true then
 ((Z2G x0.Request 1).bind fun r3 =>
 if r3 = true then
 ((Z2G x0.Delta.Default (-1)).bind fun r4 =>
 if r4 = true then
 ((Z2G x0.Delta.Closed (-1)).bind fun r5 =>
 if r5 = true then
 ((Z2G x0.Delta.Fuel (-1)).bind fun r6 =>
 if r6 = true then
 ((Z2G x0.Delta.Stack (-1)).bind fun r7 =>
 if r7 = true then
 (if (decide ((x0.Delta.Put.length : Int) ≤ 16)) = true then
 (if (decide ((x0.Delta.Drop.length : Int) ≤ 16)) = true then
 ((Z35 x0.Delta.Put).bind fun r8 =>
 if (!r8) = true then
 ((Z3c x0.Delta.Drop).bind fun r9 =>
 some (!r9))
 else
 (some false))
 else
 (some false))
 else
 (some false))
 else
 (some false))
 else
 (some false))
 else
 (some false))
 else
 (some false))
 else
 (some false))
 else
 (some false))
 else
 (some false)
theorem Zem x0 z9 z7 : Sim Z6 (Z6B x0) (EE 44 [(pA_ (Z17 x0 z9 z7))] []) := by
 unfold Z6B
 refine zf (Zw4 ..)<|ze<|zx (.ptr 0 0) [(Zk x0 z9 z7)]<|ze<|zq<|zq<|zz (.ptr 1 0) [(Zk x0 z9 z7), (Zo Zob .nl .nl)]<|zt [(Zk x0 z9 z7), (Zo x0.Delta (shrO z9) (shrO z7))]<|ze<|zq<|zq<|zi fun r1 hr1 => ?_
 obtain ⟨_, er1, _, rfl⟩ := Z3h x0.View 0 r1 hr1
 refine zc [] (bv r1) [(Zk x0 z9 z7), (Zo x0.Delta (shrO z9) (shrO z7))] er1 ?_
 refine za r1 ?_ ?_
 ·refine zq<|zq<|zi fun r2 hr2 => ?_
  obtain ⟨_, er2, _, rfl⟩ := Z3h x0.Client 1 r2 hr2
  refine zc [] (bv r2) [(Zk x0 z9 z7), (Zo x0.Delta (shrO z9) (shrO z7))] er2 ?_
  refine za r2 ?_ ?_
  ·refine zq<|zq<|zi fun r3 hr3 => ?_
   obtain ⟨_, er3, _, rfl⟩ := Z3h x0.Request 1 r3 hr3
   refine zc [] (bv r3) [(Zk x0 z9 z7), (Zo x0.Delta (shrO z9) (shrO z7))] er3 ?_
   refine za r3 ?_ ?_
   ·refine zq<|zq<|zi fun r4 hr4 => ?_
    obtain ⟨_, er4, _, rfl⟩ := Z3h x0.Delta.Default (-1) r4 hr4
    refine zc [] (bv r4) [(Zk x0 z9 z7), (Zo x0.Delta (shrO z9) (shrO z7))] er4 ?_
    refine za r4 ?_ ?_
    ·refine zq<|zq<|zi fun r5 hr5 => ?_
     obtain ⟨_, er5, _, rfl⟩ := Z3h x0.Delta.Closed (-1) r5 hr5
     refine zc [] (bv r5) [(Zk x0 z9 z7), (Zo x0.Delta (shrO z9) (shrO z7))] er5 ?_
     refine za r5 ?_ ?_
     ·refine zq<|zq<|zi fun r6 hr6 => ?_
      obtain ⟨_, er6, _, rfl⟩ := Z3h x0.Delta.Fuel (-1) r6 hr6
      refine zc [] (bv r6) [(Zk x0 z9 z7), (Zo x0.Delta (shrO z9) (shrO z7))] er6 ?_
      refine za r6 ?_ ?_
      ·refine zq<|zq<|zi fun r7 hr7 => ?_
       obtain ⟨_, er7, _, rfl⟩ := Z3h x0.Delta.Stack (-1) r7 hr7
       refine zc [] (bv r7) [(Zk x0 z9 z7), (Zo x0.Delta (shrO z9) (shrO z7))] er7 ?_
       refine za r7 ?_ ?_
       ·refine zq<|zq<|zp (iv (x0.Delta.Put.length : Int)) (et_ (ZU (P := PP) (t := 49) (d := 104) (by kernel_rfl) Z2 (shrO (shrO z9)) x0.Delta.Put))<|zq ?_
        refine za (decide ((x0.Delta.Put.length : Int) ≤ 16)) ?_ ?_
        ·refine zq<|zq<|zp (iv (x0.Delta.Drop.length : Int)) (et_ (ZU (P := PP) (t := 77) (d := 3) (by kernel_rfl) (eI .i64) (shrO (shrO z7)) x0.Delta.Drop))<|zq ?_
         refine za (decide ((x0.Delta.Drop.length : Int) ≤ 16)) ?_ ?_
         ·refine zq<|zq<|zi fun r8 hr8 => ?_
          obtain ⟨_, er8, _, rfl⟩ := Z9o x0.Delta.Put .sh r8 hr8
          refine zc [] (bv r8) [(Zk x0 z9 z7), (Zo x0.Delta (shrO z9) (shrO z7))] er8<|zq ?_
          refine za (!r8) ?_ ?_
          ·refine zq<|zq<|zi fun r9 hr9 => ?_
           obtain ⟨_, er9, _, rfl⟩ := Z9Q x0.Delta.Drop .sh r9 hr9
           refine zc [] (bv r9) [(Zk x0 z9 z7), (Zo x0.Delta (shrO z9) (shrO z7))] er9<|zq ?_
           exact zr ((bv (!r9)), [(Zk x0 z9 z7), (Zo x0.Delta (shrO z9) (shrO z7))]) ⟨_, rfl⟩
          ·exact zr ((bv false), [(Zk x0 z9 z7), (Zo x0.Delta (shrO z9) (shrO z7))]) ⟨_, rfl⟩
         ·exact zr ((bv false), [(Zk x0 z9 z7), (Zo x0.Delta (shrO z9) (shrO z7))]) ⟨_, rfl⟩
        ·exact zr ((bv false), [(Zk x0 z9 z7), (Zo x0.Delta (shrO z9) (shrO z7))]) ⟨_, rfl⟩
       ·exact zr ((bv false), [(Zk x0 z9 z7), (Zo x0.Delta (shrO z9) (shrO z7))]) ⟨_, rfl⟩
      ·exact zr ((bv false), [(Zk x0 z9 z7), (Zo x0.Delta (shrO z9) (shrO z7))]) ⟨_, rfl⟩
     ·exact zr ((bv false), [(Zk x0 z9 z7), (Zo x0.Delta (shrO z9) (shrO z7))]) ⟨_, rfl⟩
    ·exact zr ((bv false), [(Zk x0 z9 z7), (Zo x0.Delta (shrO z9) (shrO z7))]) ⟨_, rfl⟩
   ·exact zr ((bv false), [(Zk x0 z9 z7), (Zo x0.Delta (shrO z9) (shrO z7))]) ⟨_, rfl⟩
  ·exact zr ((bv false), [(Zk x0 z9 z7), (Zo x0.Delta (shrO z9) (shrO z7))]) ⟨_, rfl⟩
 ·exact zr ((bv false), [(Zk x0 z9 z7), (Zo x0.Delta (shrO z9) (shrO z7))]) ⟨_, rfl⟩
theorem ZeV x0 {r} (h : Z6B x0 = some r) : Z6K x0 = some r :=
 ZM (fun _ _ ha hb => ru_ ZE (ha .ex .ex) (hb .ex .ex)) (fun z9 z7 => Zem x0 z9 z7 r h)
def Z9A (x0 x1 : Int) : Option Bool :=
 if (decide (x1 ≤ x0)) = true then
 (some (decide (x0 ≤ 1099511627776)))
 else
 (some false)
theorem Zi3 x0 x1 : Sim Z6 (Z9A x0 x1) (EE 60 [(iv x0), (iv x1)] []) := by
 unfold Z9A
 refine zf (Zwp ..)<|ze<|ze<|zq ?_
 refine za (decide (x1 ≤ x0)) ?_ ?_
 ·refine zq ?_
  exact zr ((bv (decide (x0 ≤ 1099511627776))), []) ⟨_, rfl⟩
 ·exact zr ((bv false), []) ⟨_, rfl⟩
theorem ZiA x0 x1 {r} (h : Z9A x0 x1 = some r) : Z2G x0 x1 = some r :=
 ZM (fun _ _ ha hb => ru_ ZE ha hb) (Zi3 x0 x1 r h)
def Z30 (x0 : List Z4) : Option Bool :=
 (Z3H x0).bind fun r1 =>
 some (decide (0 ≤ r1))
theorem Z9a (x0 : List Z4) ox0 : Sim Z6 (Z30 x0) (EE 61 [(Zh ox0 (x0.map Z2)), (.clo 62 [] [])] []) := by
 unfold Z30
 refine zf (Zwq ..)<|ze<|ze<|zi fun r1 hr1 => ?_
 obtain ⟨_, er1, _, rfl⟩ := ZaJ x0 .sh r1 hr1
 refine zc [] (iv r1) [] er1<|zq ?_
 exact zr ((bv (decide (0 ≤ r1))), []) ⟨_, rfl⟩
theorem Z9n x0 {r} (h : Z30 x0 = some r) : Z35 x0 = some r :=
 ZM (fun _ _ ha hb => ru_ ZE (ha .ex) (hb .ex)) (fun ox0 => Z9a x0 ox0 r h)
def Z3G (x0 : List Z4) : Option Int :=
 Z2j x0 (x0.length : Int) 0
theorem Zag (x0 : List Z4) ox0 : Sim Zd (Z3G x0) (EE 80 [(Zh ox0 (x0.map Z2)), (.clo 62 [] [])] []) := by
 unfold Z3G
 refine zf (ZwI ..)<|ze<|ze<|zp (iv (x0.length : Int)) (et_ (ZU (P := PP) (t := 49) (d := 104) (by kernel_rfl) Z2 (shrO ox0) x0)) ?_
 exact zk (Z5R x0 (x0.length : Int) 0 ox0)
theorem ZaI x0 {r} (h : Z3G x0 = some r) : Z3H x0 = some r :=
 ZM (fun _ _ ha hb => ru_ Z11 (ha .ex) (hb .ex)) (fun ox0 => Zag x0 ox0 r h)
def Z31 (x0 : List Z4) (x7 x8 : Int) : Option Int :=
 Z2j x0 x7 (IntKind.i64.wrap (x8 + 1))
theorem Z9d (x0 : List Z4) x7 x8 ox0 : Sim Zd (Z31 x0 x7 x8) (Znq 0 (Zh ox0 (x0.map Z2)) (.clo 62 [] []) (iv x7) (iv x8) []) := by
 unfold Z31
 refine zf (ZsE ..)<|ze<|zq ?_
 exact zk (Z5R x0 x7 (IntKind.i64.wrap (x8 + 1)) ox0)
def Z2h (x0 : List Z4) (x7 x8 : Int) : Option Int :=
 (lget x0 x8).bind fun a1 =>
 (Z5L a1).bind fun r2 =>
 if r2 = true then
 (some x8)
 else
 (Z31 x0 x7 x8)
theorem Z9c (x0 : List Z4) x7 x8 ox0 : Sim Zd (Z2h x0 x7 x8) (Znp 0 (Zh ox0 (x0.map Z2)) (.clo 62 [] []) (iv x7) (iv x8) []) := by
 unfold Z2h
 refine zf (ZsD ..)<|ze<|ze<|zi fun a1 ha1 => zp (.cptr (ZJ a1)) (et_ (Z1g (o := (shrO ox0)) (k := .i64) (n := 5) (e := Z2) (cs := Z1o) (fun _ => rfl) (fun _ => rfl) (by decide) ha1))<|zq<|zi fun r2 hr2 => ?_
 obtain ⟨_, er2, _, rfl⟩ := ZdT a1 r2 hr2
 refine zv [] (bv r2) [] er2 ?_
 refine za r2 ?_ ?_
 ·refine ze ?_
  exact zr ((iv x8), []) ⟨_, rfl⟩
 ·exact zk (Z9d x0 x7 x8 ox0)
def Z4l : Option Int :=
 some (-1)
theorem Z9e : Sim Zd Z4l (Znr 0 []) := by
 unfold Z4l
 refine zf (ZsF ..)<|ze ?_
 exact zr ((iv (-1)), []) ⟨_, rfl⟩
def Z1P (x0 : List Z4) (x7 x8 : Int) : Option Int :=
 if (decide (x8 < x7)) = true then
 (Z2h x0 x7 x8)
 else
 Z4l
theorem Z9b (x0 : List Z4) x7 x8 ox0 : Sim Zd (Z1P x0 x7 x8) (Zhe 0 (Zh ox0 (x0.map Z2)) (.clo 62 [] []) (iv x7) (iv x8) []) := by
 unfold Z1P
 refine zf (ZsC ..)<|ze<|zq ?_
 refine za (decide (x8 < x7)) ?_ ?_
 ·exact zk (Z9c x0 x7 x8 ox0)
 ·exact zk Z9e
theorem Z3Q x0 x7 x8 {r} (h : Z1P x0 x7 x8 = some r) : Z2j x0 x7 x8 = some r :=
 ZM (fun _ _ ha hb => ru_ Z11 (ha .ex) (hb .ex)) (fun ox0 => Z9b x0 x7 x8 ox0 r h)
def Z5D (x0 : Z4) : Option Bool :=
 (Z76 x0).bind fun r1 =>
 some (!r1)
theorem Zdy x0 : Sim Z6 (Z5D x0) (EE 62 [(pA_ (ZJ x0))] []) := by
 unfold Z5D
 refine zf (Zwr ..)<|ze<|zx (.ptr 0 0) [(ZG x0)]<|ze<|zq<|zi fun r1 hr1 => ?_
 obtain ⟨_, er1, _, rfl⟩ := ZfO x0 r1 hr1
 refine zc [] (bv r1) [(ZG x0)] er1<|zq ?_
 exact zr ((bv (!r1)), [(ZG x0)]) ⟨_, rfl⟩
theorem ZdS x0 {r} (h : Z5D x0 = some r) : Z5L x0 = some r :=
 ZM (fun _ _ ha hb => ru_ ZE ha hb) (Zdy x0 r h)
def Z75 (x0 : Z4) : Option Bool :=
 if (decide (1 ≤ x0.ID)) = true then
 (if (decide (x0.ID ≤ 1099511627776)) = true then
 (if (decide (0 ≤ x0.Priority)) = true then
 (if (decide (x0.Priority ≤ 1000)) = true then
 (if (decide (0 ≤ x0.Action)) = true then
 (if (decide (x0.Action ≤ 255)) = true then
 (if (decide (1 ≤ x0.Scope)) = true then
 (if (decide (x0.Scope ≤ 65535)) = true then
 (some (decide ((x0.Pattern.size : Int) ≤ 256)))
 else
 (some false))
 else
 (some false))
 else
 (some false))
 else
 (some false))
 else
 (some false))
 else
 (some false))
 else
 (some false))
 else
 (some false)
theorem Zf1 x0 : Sim Z6 (Z75 x0) (EE 63 [(pA_ (ZJ x0))] []) := by
 unfold Z75
 refine zf (Zws ..)<|ze<|zx (.ptr 0 0) [(ZG x0)]<|ze<|zq<|zq<|zq ?_
 refine za (decide (1 ≤ x0.ID)) ?_ ?_
 ·refine zq<|zq<|zq ?_
  refine za (decide (x0.ID ≤ 1099511627776)) ?_ ?_
  ·refine zq<|zq<|zq ?_
   refine za (decide (0 ≤ x0.Priority)) ?_ ?_
   ·refine zq<|zq<|zq ?_
    refine za (decide (x0.Priority ≤ 1000)) ?_ ?_
    ·refine zq<|zq<|zq ?_
     refine za (decide (0 ≤ x0.Action)) ?_ ?_
     ·refine zq<|zq<|zq ?_
      refine za (decide (x0.Action ≤ 255)) ?_ ?_
      ·refine zq<|zq<|zq ?_
       refine za (decide (1 ≤ x0.Scope)) ?_ ?_
       ·refine zq<|zq<|zq ?_
        refine za (decide (x0.Scope ≤ 65535)) ?_ ?_
        ·refine zq<|zq<|zq<|zq ?_
         exact zr ((bv (decide ((x0.Pattern.size : Int) ≤ 256))), [(ZG x0)]) ⟨_, rfl⟩
        ·exact zr ((bv false), [(ZG x0)]) ⟨_, rfl⟩
       ·exact zr ((bv false), [(ZG x0)]) ⟨_, rfl⟩
      ·exact zr ((bv false), [(ZG x0)]) ⟨_, rfl⟩
     ·exact zr ((bv false), [(ZG x0)]) ⟨_, rfl⟩
    ·exact zr ((bv false), [(ZG x0)]) ⟨_, rfl⟩
   ·exact zr ((bv false), [(ZG x0)]) ⟨_, rfl⟩
  ·exact zr ((bv false), [(ZG x0)]) ⟨_, rfl⟩
 ·exact zr ((bv false), [(ZG x0)]) ⟨_, rfl⟩
theorem ZfN x0 {r} (h : Z75 x0 = some r) : Z76 x0 = some r :=
 ZM (fun _ _ ha hb => ru_ ZE ha hb) (Zf1 x0 r h)
def Z38 (x0 : List Int) : Option Bool :=
 (Z3W x0).bind fun r1 =>
 some (decide (0 ≤ r1))
theorem Z9p (x0 : List Int) ox0 : Sim Z6 (Z38 x0) (EE 64 [(Zh ox0 (x0.map (eI .i64))), (.clo 65 [] [])] []) := by
 unfold Z38
 refine zf (Zwt ..)<|ze<|ze<|zi fun r1 hr1 => ?_
 obtain ⟨_, er1, _, rfl⟩ := Zb6 x0 .sh r1 hr1
 refine zc [] (iv r1) [] er1<|zq ?_
 exact zr ((bv (decide (0 ≤ r1))), []) ⟨_, rfl⟩
theorem Z9P x0 {r} (h : Z38 x0 = some r) : Z3c x0 = some r :=
 ZM (fun _ _ ha hb => ru_ ZE (ha .ex) (hb .ex)) (fun ox0 => Z9p x0 ox0 r h)
def Z3T (x0 : List Int) : Option Int :=
 Z2s x0 (x0.length : Int) 0
theorem ZaK (x0 : List Int) ox0 : Sim Zd (Z3T x0) (EE 81 [(Zh ox0 (x0.map (eI .i64))), (.clo 65 [] [])] []) := by
 unfold Z3T
 refine zf (ZwK ..)<|ze<|ze<|zp (iv (x0.length : Int)) (et_ (ZU (P := PP) (t := 77) (d := 3) (by kernel_rfl) (eI .i64) (shrO ox0) x0)) ?_
 exact zk (Z6b x0 (x0.length : Int) 0 ox0)
theorem Zb5 x0 {r} (h : Z3T x0 = some r) : Z3W x0 = some r :=
 ZM (fun _ _ ha hb => ru_ Z11 (ha .ex) (hb .ex)) (fun ox0 => ZaK x0 ox0 r h)
def Z39 (x0 : List Int) (x7 x8 : Int) : Option Int :=
 Z2s x0 x7 (IntKind.i64.wrap (x8 + 1))
theorem Z9s (x0 : List Int) x7 x8 ox0 : Sim Zd (Z39 x0 x7 x8) (Znw 0 (Zh ox0 (x0.map (eI .i64))) (.clo 65 [] []) (iv x7) (iv x8) []) := by
 unfold Z39
 refine zf (ZsK ..)<|ze<|zq ?_
 exact zk (Z6b x0 x7 (IntKind.i64.wrap (x8 + 1)) ox0)
def Z2r (x0 : List Int) (x7 x8 : Int) : Option Int :=
 (lget x0 x8).bind fun a1 =>
 (Z5M a1).bind fun r2 =>
 if r2 = true then
 (some x8)
 else
 (Z39 x0 x7 x8)
theorem Z9r (x0 : List Int) x7 x8 ox0 : Sim Zd (Z2r x0 x7 x8) (Znv 0 (Zh ox0 (x0.map (eI .i64))) (.clo 65 [] []) (iv x7) (iv x8) []) := by
 unfold Z2r
 refine zf (ZsJ ..)<|ze<|ze<|zi fun a1 ha1 => zp (.cptr [(.v (.int .i64 a1))]) (et_ (Z1g (o := (shrO ox0)) (k := .i64) (n := 1) (e := (eI .i64)) (cs := (fun a => [(eI .i64) a])) (fun _ => rfl) (fun _ => rfl) (by decide) ha1))<|zq<|zi fun r2 hr2 => ?_
 obtain ⟨_, er2, _, rfl⟩ := ZdV a1 r2 hr2
 refine zv [] (bv r2) [] er2 ?_
 refine za r2 ?_ ?_
 ·refine ze ?_
  exact zr ((iv x8), []) ⟨_, rfl⟩
 ·exact zk (Z9s x0 x7 x8 ox0)
def Z4u : Option Int :=
 some (-1)
theorem Z9t : Sim Zd Z4u (Znx 0 []) := by
 unfold Z4u
 refine zf (ZsL ..)<|ze ?_
 exact zr ((iv (-1)), []) ⟨_, rfl⟩
def Z1T (x0 : List Int) (x7 x8 : Int) : Option Int :=
 if (decide (x8 < x7)) = true then
 (Z2r x0 x7 x8)
 else
 Z4u
theorem Z9q (x0 : List Int) x7 x8 ox0 : Sim Zd (Z1T x0 x7 x8) (Zhf 0 (Zh ox0 (x0.map (eI .i64))) (.clo 65 [] []) (iv x7) (iv x8) []) := by
 unfold Z1T
 refine zf (ZsI ..)<|ze<|zq ?_
 refine za (decide (x8 < x7)) ?_ ?_
 ·exact zk (Z9r x0 x7 x8 ox0)
 ·exact zk Z9t
theorem Z3Y x0 x7 x8 {r} (h : Z1T x0 x7 x8 = some r) : Z2s x0 x7 x8 = some r :=
 ZM (fun _ _ ha hb => ru_ Z11 (ha .ex) (hb .ex)) (fun ox0 => Z9q x0 x7 x8 ox0 r h)
def Z5E (x0 : Int) : Option Bool :=
 (Z2G x0 1).bind fun r1 =>
 some (!r1)
theorem Zdz x0 : Sim Z6 (Z5E x0) (EE 65 [(iv x0)] []) := by
 unfold Z5E
 refine zf (Zwu ..)<|ze<|ze<|zi fun r1 hr1 => ?_
 obtain ⟨_, er1, _, rfl⟩ := Z3h x0 1 r1 hr1
 refine zc [] (bv r1) [] er1<|zq ?_
 exact zr ((bv (!r1)), []) ⟨_, rfl⟩
theorem ZdU x0 {r} (h : Z5E x0 = some r) : Z5M x0 = some r :=
 ZM (fun _ _ ha hb => ru_ ZE ha hb) (Zdz x0 r h)
def Zal (x0 : Z0) : Option (List Z8) :=
 (lsl x0.Log 0 x0.Commit).bind fun a1 =>
 some a1
theorem Ziy x0 zl : Sim Zah (Zal x0) (EE 30 [(pA_ (Zv x0 zl))] []) := by
 unfold Zal
 refine zf (ZvP ..)<|ze<|zx (.ptr 0 0) [(Ze x0 zl)]<|ze<|zq<|zq<|zq<|zq<|zi fun a1 ha1 => zp (Zh (slO (shrO zl)) (a1.map Za)) (Eq.trans (by kernel_rfl) <| Zcp (n := 9) (o := (shrO zl)) (lo := none) (hi := (some (iv x0.Commit))) (e := Za) (fun _ => rfl) (by decide) (by kernel_rfl) (by kernel_rfl) ha1) ?_
 exact zr ((Zh .sh (a1.map Za)), [(Ze x0 zl)]) ⟨_, rfl⟩
theorem ZjL x0 {r} (h : Zal x0 = some r) : Z7e x0 = some r :=
 ZM (fun _ _ ha hb => ru_ Zkk (ha .ex) (hb .ex)) (fun zl => Ziy x0 zl r h)
def Z8E (x0 x1 : List Z8) : Option Bool :=
 (lsl x0 0 (min (x0.length : Int) (x1.length : Int))).bind fun a1 =>
 (lsl x1 0 (min (x0.length : Int) (x1.length : Int))).bind fun a2 =>
 (Z9m a1 a2).bind fun r3 =>
 some r3
theorem Zhi (x0 x1 : List Z8) ox0 ox1 : Sim Z6 (Z8E x0 x1) (EE 29 [(Zh ox0 (x0.map Za)), (Zh ox1 (x1.map Za))] []) := by
 unfold Z8E
 refine zf (ZvO ..)<|ze<|ze<|zp (iv (x0.length : Int)) (et_ (ZU (P := PP) (t := 37) (d := 81) (by kernel_rfl) Za (shrO ox0) x0))<|zp (iv (x1.length : Int)) (et_ (ZU (P := PP) (t := 37) (d := 81) (by kernel_rfl) Za (shrO ox1) x1))<|zp (iv (min (x0.length : Int) (x1.length : Int))) (Zoa _ _)<|ze<|zi fun a1 ha1 => zp (Zh (slO (shrO ox0)) (a1.map Za)) (Eq.trans (by kernel_rfl) <| Zcp (n := 9) (o := (shrO ox0)) (lo := none) (hi := (some (iv (min (x0.length : Int) (x1.length : Int))))) (e := Za) (fun _ => rfl) (by decide) (by kernel_rfl) (by kernel_rfl) ha1)<|zi fun a2 ha2 => zp (Zh (slO (shrO ox1)) (a2.map Za)) (Eq.trans (by kernel_rfl) <| Zcp (n := 9) (o := (shrO ox1)) (lo := none) (hi := (some (iv (min (x0.length : Int) (x1.length : Int))))) (e := Za) (fun _ => rfl) (by decide) (by kernel_rfl) (by kernel_rfl) ha2)<|zi fun r3 hr3 => ?_
 obtain ⟨_, er3, _, rfl⟩ := ZeX a1 a2 .sh .sh r3 hr3
 refine zc [] (bv r3) [] er3 ?_
 exact zr ((bv r3), []) ⟨_, rfl⟩
theorem Zi0 x0 x1 {r} (h : Z8E x0 x1 = some r) : Z8K x0 x1 = some r :=
 ZM (fun _ _ ha hb => ru_ ZE (ha .ex .ex) (hb .ex .ex)) (fun ox0 ox1 => Zhi x0 x1 ox0 ox1 r h)
def ZbH (x0 x1 : List Z8) : Option Bool :=
 (Z3t x0 x1).bind fun r1 =>
 some r1
theorem ZjM (x0 x1 : List Z8) ox0 ox1 : Sim Z6 (ZbH x0 x1) (EE 34 [(Zh ox0 (x0.map Za)), (Zh ox1 (x1.map Za))] []) := by
 unfold ZbH
 refine zf (ZvT ..)<|ze<|ze<|zi fun r1 hr1 => ?_
 obtain ⟨_, er1, _, rfl⟩ := Zad x0 x1 .sh .sh r1 hr1
 refine zc [] (bv r1) [] er1 ?_
 exact zr ((bv r1), []) ⟨_, rfl⟩
theorem ZkK x0 x1 {r} (h : ZbH x0 x1 = some r) : Z9m x0 x1 = some r :=
 ZM (fun _ _ ha hb => ru_ ZE (ha .ex .ex) (hb .ex .ex)) (fun ox0 ox1 => ZjM x0 x1 ox0 ox1 r h)
def Z2M (x0 x1 : List Z8) : Option Bool :=
 Z29 x1 x0 (x0.length : Int) 0
theorem Z8N (x0 x1 : List Z8) ox0 ox1 : Sim Z6 (Z2M x0 x1) (ZmN 0 (Zh ox0 (x0.map Za)) (Zh ox1 (x1.map Za)) (.clo 52 [] []) []) := by
 unfold Z2M
 refine zf (ZrS ..)<|ze<|zp (iv (x0.length : Int)) (et_ (ZU (P := PP) (t := 37) (d := 81) (by kernel_rfl) Za (shrO ox0) x0)) ?_
 exact zk (Z5w x1 x0 (x0.length : Int) 0 ox1 (shrO ox0))
def Z3p (x0 x1 : List Z8) : Option Bool :=
 if ((x0.length : Int) != (x1.length : Int)) = true then
 (some false)
 else
 (Z2M x0 x1)
theorem Z9R (x0 x1 : List Z8) ox0 ox1 : Sim Z6 (Z3p x0 x1) (EE 51 [(Zh ox0 (x0.map Za)), (Zh ox1 (x1.map Za)), (.clo 52 [] [])] []) := by
 unfold Z3p
 refine zf (Zwf ..)<|ze<|ze<|zp (iv (x0.length : Int)) (et_ (ZU (P := PP) (t := 37) (d := 81) (by kernel_rfl) Za (shrO ox0) x0))<|zp (iv (x1.length : Int)) (et_ (ZU (P := PP) (t := 37) (d := 81) (by kernel_rfl) Za (shrO ox1) x1))<|zq ?_
 refine za ((x0.length : Int) != (x1.length : Int)) ?_ ?_
 ·refine ze ?_
  exact zr ((bv false), []) ⟨_, rfl⟩
 ·exact zk (Z8N x0 x1 ox0 ox1)
theorem Zac x0 x1 {r} (h : Z3p x0 x1 = some r) : Z3t x0 x1 = some r :=
 ZM (fun _ _ ha hb => ru_ ZE (ha .ex .ex) (hb .ex .ex)) (fun ox0 ox1 => Z9R x0 x1 ox0 ox1 r h)
def Z2O (x1 x15 : List Z8) (x16 x17 : Int) : Option Bool :=
 Z29 x1 x15 x16 (IntKind.i64.wrap (x17 + 1))
theorem Z8P (x1 x15 : List Z8) x16 x17 ox1 ox15 : Sim Z6 (Z2O x1 x15 x16 x17) (ZmP 0 (Zh ox1 (x1.map Za)) (.clo 52 [] []) (Zh ox15 (x15.map Za)) (iv x16) (iv x17) []) := by
 unfold Z2O
 refine zf (ZrU ..)<|ze<|zq ?_
 exact zk (Z5w x1 x15 x16 (IntKind.i64.wrap (x17 + 1)) ox1 ox15)
def Z2N (x1 x15 : List Z8) (x16 x17 : Int) : Option Bool :=
 (lget x15 x17).bind fun a1 =>
 (lget x1 x17).bind fun a2 =>
 (ZbM a1 a2).bind fun r3 =>
 if (!r3) = true then
 (some false)
 else
 (Z2O x1 x15 x16 x17)
theorem Z8O (x1 x15 : List Z8) x16 x17 ox1 ox15 : Sim Z6 (Z2N x1 x15 x16 x17) (ZmO 0 (Zh ox1 (x1.map Za)) (.clo 52 [] []) (Zh ox15 (x15.map Za)) (iv x16) (iv x17) []) := by
 unfold Z2N
 refine zf (ZrT ..)<|ze<|zi fun a1 ha1 => zp (.cptr (Z17 a1 .sh .sh)) (et_ (Z1g (o := ox15) (k := .i64) (n := 9) (e := Za) (cs := Z3m) (fun _ => rfl) (fun _ => rfl) (by decide) ha1))<|zq<|zz (.ptr 0 0) [(Zk Zoc .nl .nl)]<|zt [(Zk a1 .sh .sh)]<|ze<|zi fun a2 ha2 => zp (.cptr (Z17 a2 .sh .sh)) (et_ (Z1g (o := (shrO ox1)) (k := .i64) (n := 9) (e := Za) (cs := Z3m) (fun _ => rfl) (fun _ => rfl) (by decide) ha2))<|zq<|zz (.ptr 1 0) [(Zk a1 .sh .sh), (Zk Zoc .nl .nl)]<|zt [(Zk a1 .sh .sh), (Zk a2 .sh .sh)]<|ze<|zq<|zq<|zi fun r3 hr3 => ?_
 obtain ⟨_, er3, _, rfl⟩ := ZkM a1 a2 .sh .sh .sh .sh r3 hr3
 refine zv [] (bv r3) [(Zk a1 .sh .sh), (Zk a2 .sh .sh)] er3<|zq ?_
 refine za (!r3) ?_ ?_
 ·refine ze ?_
  exact zr ((bv false), [(Zk a1 .sh .sh), (Zk a2 .sh .sh)]) ⟨_, rfl⟩
 ·exact zk (Z8P x1 x15 x16 x17 ox1 ox15)
def Z2C : Option Bool :=
 some true
theorem Z8o : Sim Z6 Z2C (ZkC 0 []) := by
 unfold Z2C
 refine zf (ZpH ..)<|ze ?_
 exact zr ((bv true), []) ⟨_, rfl⟩
def Z27 (x1 x15 : List Z8) (x16 x17 : Int) : Option Bool :=
 if (decide (x17 < x16)) = true then
 (Z2N x1 x15 x16 x17)
 else
 Z2C
theorem Z8M (x1 x15 : List Z8) x16 x17 ox1 ox15 : Sim Z6 (Z27 x1 x15 x16 x17) (ZgZ 0 (Zh ox1 (x1.map Za)) (.clo 52 [] []) (Zh ox15 (x15.map Za)) (iv x16) (iv x17) []) := by
 unfold Z27
 refine zf (ZrR ..)<|ze<|zq ?_
 refine za (decide (x17 < x16)) ?_ ?_
 ·exact zk (Z8O x1 x15 x16 x17 ox1 ox15)
 ·exact zk Z8o
theorem Z5v x1 x15 x16 x17 {r} (h : Z27 x1 x15 x16 x17 = some r) : Z29 x1 x15 x16 x17 = some r :=
 ZM (fun _ _ ha hb => ru_ ZE (ha .ex .ex) (hb .ex .ex)) (fun ox1 ox15 => Z8M x1 x15 x16 x17 ox1 ox15 r h)
def ZbI (x0 x1 : Z8) : Option Bool :=
 if (x0.View == x1.View) = true then
 (if (x0.Client == x1.Client) = true then
 (if (x0.Request == x1.Request) = true then
 (if (x0.Delta.Default == x1.Delta.Default) = true then
 (if (x0.Delta.Closed == x1.Delta.Closed) = true then
 (if (x0.Delta.Fuel == x1.Delta.Fuel) = true then
 (if (x0.Delta.Stack == x1.Delta.Stack) = true then
 ((Z6o x0.Delta.Put x1.Delta.Put).bind fun r1 =>
 if r1 = true then
 ((Z6N x0.Delta.Drop x1.Delta.Drop).bind fun r2 =>
 some r2)
 else
 (some false))
 else
 (some false))
 else
 (some false))
 else
 (some false))
 else
 (some false))
 else
 (some false))
 else
 (some false))
 else
 (some false)
theorem ZjN x0 x1 z9 z7 zN zK : Sim Z6 (ZbI x0 x1) (EE 52 [(pA_ (Z17 x0 z9 z7)), (pA_ (Z17 x1 zN zK))] []) := by
 unfold ZbI
 refine zf (Zwh ..)<|ze<|zx (.ptr 0 0) [(Zk x0 z9 z7)]<|zx (.ptr 1 0) [(Zk x0 z9 z7), (Zk x1 zN zK)]<|ze<|zq<|zq<|zq<|zq<|zz (.ptr 2 0) [(Zk x0 z9 z7), (Zk x1 zN zK), (Zo Zob .nl .nl)]<|zz (.ptr 3 0) [(Zk x0 z9 z7), (Zk x1 zN zK), (Zo Zob .nl .nl), (Zo Zob .nl .nl)]<|zt [(Zk x0 z9 z7), (Zk x1 zN zK), (Zo x0.Delta (shrO z9) (shrO z7)), (Zo Zob .nl .nl)]<|zt [(Zk x0 z9 z7), (Zk x1 zN zK), (Zo x0.Delta (shrO z9) (shrO z7)), (Zo x1.Delta (shrO zN) (shrO zK))]<|zg<|zg<|zg<|zg<|zg<|ze<|zq<|zq<|zq<|zq<|zq ?_
 refine za (x0.View == x1.View) ?_ ?_
 ·refine zq<|zq<|zq<|zq<|zq ?_
  refine za (x0.Client == x1.Client) ?_ ?_
  ·refine zq<|zq<|zq<|zq<|zq ?_
   refine za (x0.Request == x1.Request) ?_ ?_
   ·refine zq<|zq<|zq<|zq<|zq ?_
    refine za (x0.Delta.Default == x1.Delta.Default) ?_ ?_
    ·refine zq<|zq<|zq<|zq<|zq ?_
     refine za (x0.Delta.Closed == x1.Delta.Closed) ?_ ?_
     ·refine zq<|zq<|zq<|zq<|zq ?_
      refine za (x0.Delta.Fuel == x1.Delta.Fuel) ?_ ?_
      ·refine zq<|zq<|zq<|zq<|zq ?_
       refine za (x0.Delta.Stack == x1.Delta.Stack) ?_ ?_
       ·refine zq<|zq<|zq<|zq<|zi fun r1 hr1 => ?_
        obtain ⟨_, er1, _, rfl⟩ := Zeu x0.Delta.Put x1.Delta.Put .sh .sh r1 hr1
        refine zc [] (bv r1) [(Zk x0 z9 z7), (Zk x1 zN zK), (Zo x0.Delta (shrO z9) (shrO z7)), (Zo x1.Delta (shrO zN) (shrO zK))] er1 ?_
        refine za r1 ?_ ?_
        ·refine zq<|zq<|zq<|zq<|zi fun r2 hr2 => ?_
         obtain ⟨_, er2, _, rfl⟩ := Zf4 x0.Delta.Drop x1.Delta.Drop .sh .sh r2 hr2
         refine zc [] (bv r2) [(Zk x0 z9 z7), (Zk x1 zN zK), (Zo x0.Delta (shrO z9) (shrO z7)), (Zo x1.Delta (shrO zN) (shrO zK))] er2 ?_
         exact zr ((bv r2), [(Zk x0 z9 z7), (Zk x1 zN zK), (Zo x0.Delta (shrO z9) (shrO z7)), (Zo x1.Delta (shrO zN) (shrO zK))]) ⟨_, rfl⟩
        ·exact zr ((bv false), [(Zk x0 z9 z7), (Zk x1 zN zK), (Zo x0.Delta (shrO z9) (shrO z7)), (Zo x1.Delta (shrO zN) (shrO zK))]) ⟨_, rfl⟩
       ·exact zr ((bv false), [(Zk x0 z9 z7), (Zk x1 zN zK), (Zo x0.Delta (shrO z9) (shrO z7)), (Zo x1.Delta (shrO zN) (shrO zK))]) ⟨_, rfl⟩
      ·exact zr ((bv false), [(Zk x0 z9 z7), (Zk x1 zN zK), (Zo x0.Delta (shrO z9) (shrO z7)), (Zo x1.Delta (shrO zN) (shrO zK))]) ⟨_, rfl⟩
     ·exact zr ((bv false), [(Zk x0 z9 z7), (Zk x1 zN zK), (Zo x0.Delta (shrO z9) (shrO z7)), (Zo x1.Delta (shrO zN) (shrO zK))]) ⟨_, rfl⟩
    ·exact zr ((bv false), [(Zk x0 z9 z7), (Zk x1 zN zK), (Zo x0.Delta (shrO z9) (shrO z7)), (Zo x1.Delta (shrO zN) (shrO zK))]) ⟨_, rfl⟩
   ·exact zr ((bv false), [(Zk x0 z9 z7), (Zk x1 zN zK), (Zo x0.Delta (shrO z9) (shrO z7)), (Zo x1.Delta (shrO zN) (shrO zK))]) ⟨_, rfl⟩
  ·exact zr ((bv false), [(Zk x0 z9 z7), (Zk x1 zN zK), (Zo x0.Delta (shrO z9) (shrO z7)), (Zo x1.Delta (shrO zN) (shrO zK))]) ⟨_, rfl⟩
 ·exact zr ((bv false), [(Zk x0 z9 z7), (Zk x1 zN zK), (Zo x0.Delta (shrO z9) (shrO z7)), (Zo x1.Delta (shrO zN) (shrO zK))]) ⟨_, rfl⟩
theorem ZkL x0 x1 {r} (h : ZbI x0 x1 = some r) : ZbM x0 x1 = some r :=
 ZM (fun _ _ ha hb => ru_ ZE (ha .ex .ex .ex .ex) (hb .ex .ex .ex .ex)) (fun z9 z7 zN zK => ZjN x0 x1 z9 z7 zN zK r h)
def Z51 (x0 x1 : List Z4) : Option Bool :=
 Z3P x0 x1 (x0.length : Int) 0
theorem ZcK (x0 x1 : List Z4) ox0 ox1 : Sim Z6 (Z51 x0 x1) (Zne 0 (Zh ox0 (x0.map Z2)) (Zh ox1 (x1.map Z2)) []) := by
 unfold Z51
 refine zf (Zsp ..)<|ze<|zp (iv (x0.length : Int)) (et_ (ZU (P := PP) (t := 49) (d := 104) (by kernel_rfl) Z2 (shrO ox0) x0)) ?_
 exact zk (Z8h x0 x1 (x0.length : Int) 0 ox0 ox1)
def Z6k (x0 x1 : List Z4) : Option Bool :=
 if ((x0.length : Int) != (x1.length : Int)) = true then
 (some false)
 else
 (Z51 x0 x1)
theorem ZdY (x0 x1 : List Z4) ox0 ox1 : Sim Z6 (Z6k x0 x1) (EE 69 [(Zh ox0 (x0.map Z2)), (Zh ox1 (x1.map Z2))] []) := by
 unfold Z6k
 refine zf (ZwD ..)<|ze<|ze<|zp (iv (x0.length : Int)) (et_ (ZU (P := PP) (t := 49) (d := 104) (by kernel_rfl) Z2 (shrO ox0) x0))<|zp (iv (x1.length : Int)) (et_ (ZU (P := PP) (t := 49) (d := 104) (by kernel_rfl) Z2 (shrO ox1) x1))<|zq ?_
 refine za ((x0.length : Int) != (x1.length : Int)) ?_ ?_
 ·refine ze ?_
  exact zr ((bv false), []) ⟨_, rfl⟩
 ·exact zk (ZcK x0 x1 ox0 ox1)
theorem Zet x0 x1 {r} (h : Z6k x0 x1 = some r) : Z6o x0 x1 = some r :=
 ZM (fun _ _ ha hb => ru_ ZE (ha .ex .ex) (hb .ex .ex)) (fun ox0 ox1 => ZdY x0 x1 ox0 ox1 r h)
def Z53 (x0 x1 : List Z4) (x12 x13 : Int) : Option Bool :=
 Z3P x0 x1 x12 (IntKind.i64.wrap (x13 + 1))
theorem ZcM (x0 x1 : List Z4) x12 x13 ox0 ox1 : Sim Z6 (Z53 x0 x1 x12 x13) (Zng 0 (Zh ox0 (x0.map Z2)) (Zh ox1 (x1.map Z2)) (iv x12) (iv x13) []) := by
 unfold Z53
 refine zf (Zsr ..)<|ze<|zq ?_
 exact zk (Z8h x0 x1 x12 (IntKind.i64.wrap (x13 + 1)) ox0 ox1)
def Z52 (x0 x1 : List Z4) (x12 x13 : Int) : Option Bool :=
 (lget x0 x13).bind fun a1 =>
 (lget x1 x13).bind fun a2 =>
 if ((!((a1.ID == a2.ID) && ((a1.Priority == a2.Priority) && ((a1.Action == a2.Action) && ((a1.Scope == a2.Scope) && ((seq a1.Pattern a2.Pattern) && true))))))) = true then
 (some false)
 else
 (Z53 x0 x1 x12 x13)
theorem ZcL (x0 x1 : List Z4) x12 x13 ox0 ox1 : Sim Z6 (Z52 x0 x1 x12 x13) (Znf 0 (Zh ox0 (x0.map Z2)) (Zh ox1 (x1.map Z2)) (iv x12) (iv x13) []) := by
 unfold Z52
 refine zf (Zsq ..)<|ze<|ze<|zi fun a1 ha1 => zp (.cptr (ZJ a1)) (et_ (Z1g (o := (shrO ox0)) (k := .i64) (n := 5) (e := Z2) (cs := Z1o) (fun _ => rfl) (fun _ => rfl) (by decide) ha1))<|zq<|zi fun a2 ha2 => zp (.cptr (ZJ a2)) (et_ (Z1g (o := (shrO ox1)) (k := .i64) (n := 5) (e := Z2) (cs := Z1o) (fun _ => rfl) (fun _ => rfl) (by decide) ha2))<|zq<|zp (bv (!((a1.ID == a2.ID) && ((a1.Priority == a2.Priority) && ((a1.Action == a2.Action) && ((a1.Scope == a2.Scope) && ((seq a1.Pattern a2.Pattern) && true))))))) (Eq.trans (b := xbin PP .neq 104 (pA_ (ZJ a1)) (pA_ (ZJ a2))) (by kernel_rfl) (Zp7 (by kernel_rfl) (by kernel_rfl) (by kernel_rfl) (by kernel_rfl) (by kernel_rfl))) ?_
 refine za ((!((a1.ID == a2.ID) && ((a1.Priority == a2.Priority) && ((a1.Action == a2.Action) && ((a1.Scope == a2.Scope) && ((seq a1.Pattern a2.Pattern) && true))))))) ?_ ?_
 ·refine ze ?_
  exact zr ((bv false), []) ⟨_, rfl⟩
 ·exact zk (ZcM x0 x1 x12 x13 ox0 ox1)
def Z54 : Option Bool :=
 some true
theorem ZcN : Sim Z6 Z54 (Znh 0 []) := by
 unfold Z54
 refine zf (Zss ..)<|ze ?_
 exact zr ((bv true), []) ⟨_, rfl⟩
def Z3N (x0 x1 : List Z4) (x12 x13 : Int) : Option Bool :=
 if (decide (x13 < x12)) = true then
 (Z52 x0 x1 x12 x13)
 else
 Z54
theorem ZcJ (x0 x1 : List Z4) x12 x13 ox0 ox1 : Sim Z6 (Z3N x0 x1 x12 x13) (Zha 0 (Zh ox0 (x0.map Z2)) (Zh ox1 (x1.map Z2)) (iv x12) (iv x13) []) := by
 unfold Z3N
 refine zf (Zso ..)<|ze<|zq ?_
 refine za (decide (x13 < x12)) ?_ ?_
 ·exact zk (ZcL x0 x1 x12 x13 ox0 ox1)
 ·exact zk ZcN
theorem Z8g x0 x1 x12 x13 {r} (h : Z3N x0 x1 x12 x13 = some r) : Z3P x0 x1 x12 x13 = some r :=
 ZM (fun _ _ ha hb => ru_ ZE (ha .ex .ex) (hb .ex .ex)) (fun ox0 ox1 => ZcJ x0 x1 x12 x13 ox0 ox1 r h)
def Z5k (x0 x1 : List Int) : Option Bool :=
 Z42 x0 x1 (x0.length : Int) 0
theorem Zdb (x0 x1 : List Int) ox0 ox1 : Sim Z6 (Z5k x0 x1) (Znj 0 (Zh ox0 (x0.map (eI .i64))) (Zh ox1 (x1.map (eI .i64))) []) := by
 unfold Z5k
 refine zf (Zsw ..)<|ze<|zp (iv (x0.length : Int)) (et_ (ZU (P := PP) (t := 77) (d := 3) (by kernel_rfl) (eI .i64) (shrO ox0) x0)) ?_
 exact zk (Z8q x0 x1 (x0.length : Int) 0 ox0 ox1)
def Z6E (x0 x1 : List Int) : Option Bool :=
 if ((x0.length : Int) != (x1.length : Int)) = true then
 (some false)
 else
 (Z5k x0 x1)
theorem Zev (x0 x1 : List Int) ox0 ox1 : Sim Z6 (Z6E x0 x1) (EE 70 [(Zh ox0 (x0.map (eI .i64))), (Zh ox1 (x1.map (eI .i64)))] []) := by
 unfold Z6E
 refine zf (ZwF ..)<|ze<|ze<|zp (iv (x0.length : Int)) (et_ (ZU (P := PP) (t := 77) (d := 3) (by kernel_rfl) (eI .i64) (shrO ox0) x0))<|zp (iv (x1.length : Int)) (et_ (ZU (P := PP) (t := 77) (d := 3) (by kernel_rfl) (eI .i64) (shrO ox1) x1))<|zq ?_
 refine za ((x0.length : Int) != (x1.length : Int)) ?_ ?_
 ·refine ze ?_
  exact zr ((bv false), []) ⟨_, rfl⟩
 ·exact zk (Zdb x0 x1 ox0 ox1)
theorem Zf3 x0 x1 {r} (h : Z6E x0 x1 = some r) : Z6N x0 x1 = some r :=
 ZM (fun _ _ ha hb => ru_ ZE (ha .ex .ex) (hb .ex .ex)) (fun ox0 ox1 => Zev x0 x1 ox0 ox1 r h)
def Z5m (x0 x1 : List Int) (x12 x13 : Int) : Option Bool :=
 Z42 x0 x1 x12 (IntKind.i64.wrap (x13 + 1))
theorem Zdd (x0 x1 : List Int) x12 x13 ox0 ox1 : Sim Z6 (Z5m x0 x1 x12 x13) (Znl 0 (Zh ox0 (x0.map (eI .i64))) (Zh ox1 (x1.map (eI .i64))) (iv x12) (iv x13) []) := by
 unfold Z5m
 refine zf (Zsy ..)<|ze<|zq ?_
 exact zk (Z8q x0 x1 x12 (IntKind.i64.wrap (x13 + 1)) ox0 ox1)
def Z5l (x0 x1 : List Int) (x12 x13 : Int) : Option Bool :=
 (lget x0 x13).bind fun a1 =>
 (lget x1 x13).bind fun a2 =>
 if (a1 != a2) = true then
 (some false)
 else
 (Z5m x0 x1 x12 x13)
theorem Zdc (x0 x1 : List Int) x12 x13 ox0 ox1 : Sim Z6 (Z5l x0 x1 x12 x13) (Znk 0 (Zh ox0 (x0.map (eI .i64))) (Zh ox1 (x1.map (eI .i64))) (iv x12) (iv x13) []) := by
 unfold Z5l
 refine zf (Zsx ..)<|ze<|ze<|zi fun a1 ha1 => zp (.cptr [(.v (.int .i64 a1))]) (et_ (Z1g (o := (shrO ox0)) (k := .i64) (n := 1) (e := (eI .i64)) (cs := (fun a => [(eI .i64) a])) (fun _ => rfl) (fun _ => rfl) (by decide) ha1))<|zq<|zi fun a2 ha2 => zp (.cptr [(.v (.int .i64 a2))]) (et_ (Z1g (o := (shrO ox1)) (k := .i64) (n := 1) (e := (eI .i64)) (cs := (fun a => [(eI .i64) a])) (fun _ => rfl) (fun _ => rfl) (by decide) ha2))<|zq<|zq ?_
 refine za (a1 != a2) ?_ ?_
 ·refine ze ?_
  exact zr ((bv false), []) ⟨_, rfl⟩
 ·exact zk (Zdd x0 x1 x12 x13 ox0 ox1)
def Z5n : Option Bool :=
 some true
theorem Zde : Sim Z6 Z5n (Znm 0 []) := by
 unfold Z5n
 refine zf (Zsz ..)<|ze ?_
 exact zr ((bv true), []) ⟨_, rfl⟩
def Z40 (x0 x1 : List Int) (x12 x13 : Int) : Option Bool :=
 if (decide (x13 < x12)) = true then
 (Z5l x0 x1 x12 x13)
 else
 Z5n
theorem Zda (x0 x1 : List Int) x12 x13 ox0 ox1 : Sim Z6 (Z40 x0 x1 x12 x13) (Zhc 0 (Zh ox0 (x0.map (eI .i64))) (Zh ox1 (x1.map (eI .i64))) (iv x12) (iv x13) []) := by
 unfold Z40
 refine zf (Zsv ..)<|ze<|zq ?_
 refine za (decide (x13 < x12)) ?_ ?_
 ·exact zk (Zdc x0 x1 x12 x13 ox0 ox1)
 ·exact zk Zde
theorem Z8p x0 x1 x12 x13 {r} (h : Z40 x0 x1 x12 x13 = some r) : Z42 x0 x1 x12 x13 = some r :=
 ZM (fun _ _ ha hb => ru_ ZE (ha .ex .ex) (hb .ex .ex)) (fun ox0 ox1 => Zda x0 x1 x12 x13 ox0 ox1 r h)
def Z8D (x0 : List Z0) : Option Int :=
 (Z6q x0).bind fun r1 =>
 Z5s r1 0 r1 (r1.length : Int) 0
theorem Zhg (x0 : List Z0) ox0 : Sim Zd (Z8D x0) (EE 17 [(Zh ox0 (x0.map Z3))] []) := by
 unfold Z8D
 refine zf (Zvw ..)<|ze<|ze<|zi fun r1 hr1 => ?_
 obtain ⟨_, er1, _, rfl⟩ := Z7J x0 .sh r1 hr1
 refine zc [] (Zh .sh (r1.map Z3)) [] er1<|ze<|ze<|zp (iv (r1.length : Int)) (et_ (ZU (P := PP) (t := 22) (d := 39) (by kernel_rfl) Z3 .sh r1)) ?_
 exact zk (ZaA r1 0 r1 (r1.length : Int) 0 .sh .sh)
theorem ZhZ x0 {r} (h : Z8D x0 = some r) : Z2v x0 = some r :=
 ZM (fun _ _ ha hb => ru_ Z11 (ha .ex) (hb .ex)) (fun ox0 => Zhg x0 ox0 r h)
def Z72 (x0 : List Z0) (x3 : Int) (x12 : List Z0) (x13 x14 : Int) : Option Int :=
 (lget x12 x14).bind fun a1 =>
 Z5t x0 x3 (a1.Log.length : Int) x12 x13 x14 a1
theorem ZeT (x0 : List Z0) x3 (x12 : List Z0) x13 x14 ox0 ox12 : Sim Zd (Z72 x0 x3 x12 x13 x14) (ZlY 0 (Zh ox0 (x0.map Z3)) (iv x3) (Zh ox12 (x12.map Z3)) (iv x13) (iv x14) []) := by
 unfold Z72
 refine zf (Zr5 ..)<|ze<|zi fun a1 ha1 => zp (.cptr (Zv a1 .sh)) (et_ (Z1g (o := ox12) (k := .i64) (n := 5) (e := Z3) (cs := Z20) (fun _ => rfl) (fun _ => rfl) (by decide) ha1))<|zq<|zz (.ptr 0 0) [(Ze ZeE .nl)]<|zt [(Ze a1 .sh)]<|ze<|zq<|zq<|zp (iv (a1.Log.length : Int)) (et_ (ZU (P := PP) (t := 37) (d := 81) (by kernel_rfl) Za .sh a1.Log)) ?_
 exact zk (ZaC x0 x3 (a1.Log.length : Int) x12 x13 x14 a1 ox0 ox12 .sh)
def Z6y (x3 : Int) : Option Int :=
 some x3
theorem Zek x3 : Sim Zd (Z6y x3) (Zkw 0 (iv x3) []) := by
 unfold Z6y
 refine zf (Zpz ..)<|ze ?_
 exact zr ((iv x3), []) ⟨_, rfl⟩
def Z5q (x0 : List Z0) (x3 : Int) (x12 : List Z0) (x13 x14 : Int) : Option Int :=
 if (decide (x14 < x13)) = true then
 (Z72 x0 x3 x12 x13 x14)
 else
 (Z6y x3)
theorem ZeR (x0 : List Z0) x3 (x12 : List Z0) x13 x14 ox0 ox12 : Sim Zd (Z5q x0 x3 x12 x13 x14) (ZgD 0 (Zh ox0 (x0.map Z3)) (iv x3) (Zh ox12 (x12.map Z3)) (iv x13) (iv x14) []) := by
 unfold Z5q
 refine zf (Zr3 ..)<|ze<|zq ?_
 refine za (decide (x14 < x13)) ?_ ?_
 ·exact zk (ZeT x0 x3 x12 x13 x14 ox0 ox12)
 ·exact zk (Zek x3)
theorem Zaz x0 x3 x12 x13 x14 {r} (h : Z5q x0 x3 x12 x13 x14 = some r) : Z5s x0 x3 x12 x13 x14 = some r :=
 ZM (fun _ _ ha hb => ru_ Z11 (ha .ex .ex) (hb .ex .ex)) (fun ox0 ox12 => ZeR x0 x3 x12 x13 x14 ox0 ox12 r h)
def Z73 (x0 : List Z0) (x3 x6 : Int) (x12 : List Z0) (x13 x14 : Int) (b0 : Z0) : Option Int :=
 Z41 x0 x3 x6 0 x12 x13 x14 x0 (x0.length : Int) 0 b0
theorem ZeU (x0 : List Z0) x3 x6 (x12 : List Z0) x13 x14 b0 ox0 ox12 zj : Sim Zd (Z73 x0 x3 x6 x12 x13 x14 b0) (ZlZ 0 (Zh ox0 (x0.map Z3)) (iv x3) (.ptr 0 0) (iv x6) (Zh ox12 (x12.map Z3)) (iv x13) (iv x14) [(Ze b0 zj)]) := by
 unfold Z73
 refine zf (Zr7 ..)<|ze<|ze<|zp (iv (x0.length : Int)) (et_ (ZU (P := PP) (t := 22) (d := 39) (by kernel_rfl) Z3 (shrO ox0) x0)) ?_
 exact zk (Za3 x0 x3 x6 0 x12 x13 x14 x0 (x0.length : Int) 0 b0 ox0 ox12 (shrO ox0) zj)
def Z5c (x0 : List Z0) (x3 : Int) (x12 : List Z0) (x13 x14 : Int) : Option Int :=
 Z5s x0 x3 x12 x13 (IntKind.i64.wrap (x14 + 1))
theorem Zej (x0 : List Z0) x3 (x12 : List Z0) x13 x14 ox0 ox12 : Sim Zd (Z5c x0 x3 x12 x13 x14) (Zkv 0 (Zh ox0 (x0.map Z3)) (iv x3) (Zh ox12 (x12.map Z3)) (iv x13) (iv x14) []) := by
 unfold Z5c
 refine zf (Zpy ..)<|ze<|zq ?_
 exact zk (ZaA x0 x3 x12 x13 (IntKind.i64.wrap (x14 + 1)) ox0 ox12)
def Z5r (x0 : List Z0) (x3 x6 : Int) (x12 : List Z0) (x13 x14 : Int) (b0 : Z0) : Option Int :=
 if (decide (x3 < x6)) = true then
 (Z73 x0 x3 x6 x12 x13 x14 b0)
 else
 (Z5c x0 x3 x12 x13 x14)
theorem ZeS (x0 : List Z0) x3 x6 (x12 : List Z0) x13 x14 b0 ox0 ox12 zj : Sim Zd (Z5r x0 x3 x6 x12 x13 x14 b0) (ZgE 0 (Zh ox0 (x0.map Z3)) (iv x3) (.ptr 0 0) (iv x6) (Zh ox12 (x12.map Z3)) (iv x13) (iv x14) [(Ze b0 zj)]) := by
 unfold Z5r
 refine zf (Zr4 ..)<|ze<|zq ?_
 refine za (decide (x3 < x6)) ?_ ?_
 ·exact zk (ZeU x0 x3 x6 x12 x13 x14 b0 ox0 ox12 zj)
 ·exact zk (Zej x0 x3 x12 x13 x14 ox0 ox12)
theorem ZaB x0 x3 x6 x12 x13 x14 b0 {r} (h : Z5r x0 x3 x6 x12 x13 x14 b0 = some r) : Z5t x0 x3 x6 x12 x13 x14 b0 = some r :=
 ZM (fun _ _ ha hb => ru_ Z11 (ha .ex .ex .ex) (hb .ex .ex .ex)) (fun ox0 ox12 zj => ZeS x0 x3 x6 x12 x13 x14 b0 ox0 ox12 zj r h)
def Z3e (x0 : List Z0) (x3 x6 x7 : Int) (x12 : List Z0) (x13 x14 : Int) (x26 : List Z0) (x27 x28 : Int) (b0 : Z0) : Option Int :=
 Z41 x0 x3 x6 x7 x12 x13 x14 x26 x27 (IntKind.i64.wrap (x28 + 1)) b0
theorem Z6S (x0 : List Z0) x3 x6 x7 (x12 : List Z0) x13 x14 (x26 : List Z0) x27 x28 b0 ox0 ox12 ox26 zj : Sim Zd (Z3e x0 x3 x6 x7 x12 x13 x14 x26 x27 x28 b0) (ZeI 0 (Zh ox0 (x0.map Z3)) (iv x3) (.ptr 0 0) (iv x6) (iv x7) (Zh ox12 (x12.map Z3)) (iv x13) (iv x14) (Zh ox26 (x26.map Z3)) (iv x27) (iv x28) [(Ze b0 zj)]) := by
 unfold Z3e
 refine zf (Zpw ..)<|ze<|zq ?_
 exact zk (Za3 x0 x3 x6 x7 x12 x13 x14 x26 x27 (IntKind.i64.wrap (x28 + 1)) b0 ox0 ox12 ox26 zj)
def Z6x (x0 : List Z0) (x3 x6 x7 : Int) (x12 : List Z0) (x13 x14 : Int) (x26 : List Z0) (x27 x28 : Int) (b0 : Z0) : Option Int :=
 Z3e x0 x3 x6 (IntKind.i64.wrap (x7 + 1)) x12 x13 x14 x26 x27 x28 b0
theorem Zeh (x0 : List Z0) x3 x6 x7 (x12 : List Z0) x13 x14 (x26 : List Z0) x27 x28 b0 ox0 ox12 ox26 zj : Sim Zd (Z6x x0 x3 x6 x7 x12 x13 x14 x26 x27 x28 b0) (Zkt 0 (Zh ox0 (x0.map Z3)) (iv x3) (.ptr 0 0) (iv x6) (iv x7) (Zh ox12 (x12.map Z3)) (iv x13) (iv x14) (Zh ox26 (x26.map Z3)) (iv x27) (iv x28) [(Ze b0 zj)]) := by
 unfold Z6x
 refine zf (Zpv ..)<|ze<|zq ?_
 exact zk (Z6S x0 x3 x6 (IntKind.i64.wrap (x7 + 1)) x12 x13 x14 x26 x27 x28 b0 ox0 ox12 ox26 zj)
def Z6w (x0 : List Z0) (x3 x6 x7 : Int) (x12 : List Z0) (x13 x14 : Int) (x26 : List Z0) (x27 x28 : Int) (b0 : Z0) : Option Int :=
 (lget x26 x28).bind fun a1 =>
 if (decide (x6 ≤ (a1.Log.length : Int))) = true then
 ((lsl a1.Log 0 x6).bind fun a2 =>
 (lsl b0.Log 0 x6).bind fun a3 =>
 (Z9m a2 a3).bind fun r4 =>
 if r4 = true then
 (Z6x x0 x3 x6 x7 x12 x13 x14 x26 x27 x28 b0)
 else
 (Z3e x0 x3 x6 x7 x12 x13 x14 x26 x27 x28 b0))
 else
 (Z3e x0 x3 x6 x7 x12 x13 x14 x26 x27 x28 b0)
theorem Zeg (x0 : List Z0) x3 x6 x7 (x12 : List Z0) x13 x14 (x26 : List Z0) x27 x28 b0 ox0 ox12 ox26 zj : Sim Zd (Z6w x0 x3 x6 x7 x12 x13 x14 x26 x27 x28 b0) (Zks 0 (Zh ox0 (x0.map Z3)) (iv x3) (.ptr 0 0) (iv x6) (iv x7) (Zh ox12 (x12.map Z3)) (iv x13) (iv x14) (Zh ox26 (x26.map Z3)) (iv x27) (iv x28) [(Ze b0 zj)]) := by
 unfold Z6w
 refine zf (Zpu ..)<|ze<|zi fun a1 ha1 => zp (.cptr (Zv a1 .sh)) (et_ (Z1g (o := ox26) (k := .i64) (n := 5) (e := Z3) (cs := Z20) (fun _ => rfl) (fun _ => rfl) (by decide) ha1))<|zq<|zz (.ptr 1 0) [(Ze b0 zj), (Ze ZeE .nl)]<|zt [(Ze b0 zj), (Ze a1 .sh)]<|ze<|zq<|zq<|zp (iv (a1.Log.length : Int)) (et_ (ZU (P := PP) (t := 37) (d := 81) (by kernel_rfl) Za .sh a1.Log))<|zq ?_
 refine za (decide (x6 ≤ (a1.Log.length : Int))) ?_ ?_
 ·refine zq<|zq<|zi fun a2 ha2 => zp (Zh .sh (a2.map Za)) (Eq.trans (by kernel_rfl) <| Zcp (n := 9) (o := .sh) (lo := none) (hi := (some (iv x6))) (e := Za) (fun _ => rfl) (by decide) (by kernel_rfl) (by kernel_rfl) ha2)<|zq<|zq<|zi fun a3 ha3 => zp (Zh (slO (shrO zj)) (a3.map Za)) (Eq.trans (by kernel_rfl) <| Zcp (n := 9) (o := (shrO zj)) (lo := none) (hi := (some (iv x6))) (e := Za) (fun _ => rfl) (by decide) (by kernel_rfl) (by kernel_rfl) ha3)<|zi fun r4 hr4 => ?_
  obtain ⟨_, er4, _, rfl⟩ := ZeX a2 a3 .sh .sh r4 hr4
  refine zc [] (bv r4) [(Ze b0 zj), (Ze a1 .sh)] er4 ?_
  refine za r4 ?_ ?_
  ·exact zk (Zeh x0 x3 x6 x7 x12 x13 x14 x26 x27 x28 b0 ox0 ox12 ox26 zj)
  ·exact zk (Z6S x0 x3 x6 x7 x12 x13 x14 x26 x27 x28 b0 ox0 ox12 ox26 zj)
 ·exact zk (Z6S x0 x3 x6 x7 x12 x13 x14 x26 x27 x28 b0 ox0 ox12 ox26 zj)
def Z4s (x0 : List Z0) (x3 x6 : Int) (x12 : List Z0) (x13 x14 : Int) (b0 : Z0) : Option Int :=
 Z5t x0 x3 (IntKind.i64.wrap (x6 - 1)) x12 x13 x14 b0
theorem Za4 (x0 : List Z0) x3 x6 (x12 : List Z0) x13 x14 b0 ox0 ox12 zj : Sim Zd (Z4s x0 x3 x6 x12 x13 x14 b0) (Zjg 0 (Zh ox0 (x0.map Z3)) (iv x3) (.ptr 0 0) (iv x6) (Zh ox12 (x12.map Z3)) (iv x13) (iv x14) [(Ze b0 zj)]) := by
 unfold Z4s
 refine zf (Zr6 ..)<|ze<|zq ?_
 exact zk (ZaC x0 x3 (IntKind.i64.wrap (x6 - 1)) x12 x13 x14 b0 ox0 ox12 zj)
def Z3f (x0 : List Z0) (x3 x6 x7 : Int) (x12 : List Z0) (x13 x14 : Int) (b0 : Z0) : Option Int :=
 if (decide ((x0.length : Int) < (IntKind.i64.wrap (2 * x7)))) = true then
 (Z4s x0 x6 x6 x12 x13 x14 b0)
 else
 (Z4s x0 x3 x6 x12 x13 x14 b0)
theorem Zei (x0 : List Z0) x3 x6 x7 (x12 : List Z0) x13 x14 b0 ox0 ox12 zj : Sim Zd (Z3f x0 x3 x6 x7 x12 x13 x14 b0) (Zku 0 (Zh ox0 (x0.map Z3)) (iv x3) (.ptr 0 0) (iv x6) (iv x7) (Zh ox12 (x12.map Z3)) (iv x13) (iv x14) [(Ze b0 zj)]) := by
 unfold Z3f
 refine zf (Zpx ..)<|ze<|zq<|zp (iv (x0.length : Int)) (et_ (ZU (P := PP) (t := 22) (d := 39) (by kernel_rfl) Z3 (shrO ox0) x0))<|zq ?_
 refine za (decide ((x0.length : Int) < (IntKind.i64.wrap (2 * x7)))) ?_ ?_
 ·refine ze ?_
  exact zk (Za4 x0 x6 x6 x12 x13 x14 b0 ox0 ox12 zj)
 ·exact zk (Za4 x0 x3 x6 x12 x13 x14 b0 ox0 ox12 zj)
def Z5b (x0 : List Z0) (x3 x6 x7 : Int) (x12 : List Z0) (x13 x14 : Int) (x26 : List Z0) (x27 x28 : Int) (b0 : Z0) : Option Int :=
 if (decide (x28 < x27)) = true then
 (Z6w x0 x3 x6 x7 x12 x13 x14 x26 x27 x28 b0)
 else
 (Z3f x0 x3 x6 x7 x12 x13 x14 b0)
theorem Zef (x0 : List Z0) x3 x6 x7 (x12 : List Z0) x13 x14 (x26 : List Z0) x27 x28 b0 ox0 ox12 ox26 zj : Sim Zd (Z5b x0 x3 x6 x7 x12 x13 x14 x26 x27 x28 b0) (ZeH 0 (Zh ox0 (x0.map Z3)) (iv x3) (.ptr 0 0) (iv x6) (iv x7) (Zh ox12 (x12.map Z3)) (iv x13) (iv x14) (Zh ox26 (x26.map Z3)) (iv x27) (iv x28) [(Ze b0 zj)]) := by
 unfold Z5b
 refine zf (Zpt ..)<|ze<|zq ?_
 refine za (decide (x28 < x27)) ?_ ?_
 ·exact zk (Zeg x0 x3 x6 x7 x12 x13 x14 x26 x27 x28 b0 ox0 ox12 ox26 zj)
 ·exact zk (Zei x0 x3 x6 x7 x12 x13 x14 b0 ox0 ox12 zj)
theorem Za2 x0 x3 x6 x7 x12 x13 x14 x26 x27 x28 b0 {r} (h : Z5b x0 x3 x6 x7 x12 x13 x14 x26 x27 x28 b0 = some r) : Z41 x0 x3 x6 x7 x12 x13 x14 x26 x27 x28 b0 = some r :=
 ZM (fun _ _ ha hb => ru_ Z11 (ha .ex .ex .ex .ex) (hb .ex .ex .ex .ex)) (fun ox0 ox12 ox26 zj => Zef x0 x3 x6 x7 x12 x13 x14 x26 x27 x28 b0 ox0 ox12 ox26 zj r h)
def Zaj (x0 : Z0) : Option (List Zp) :=
 (Z9E).bind fun r1 =>
 (Z6q ([x0] : List Z0)).bind fun r2 =>
 (lget r2 0).bind fun a3 =>
 (Z7e a3).bind fun r4 =>
 Z6J r4 (r4.length : Int) 0 r1.1 r1.2.1 r1.2.2
theorem Zix x0 zl : Sim Z1M (Zaj x0) (EE 19 [(pA_ (Zv x0 zl))] []) := by
 unfold Zaj
 refine zf (ZvB ..)<|ze<|zx (.ptr 0 0) [(Ze x0 zl)]<|ze<|zi fun r1 hr1 => ?_
 obtain ⟨_, er1, zhT, _, ztE, rfl, _⟩ := Ziv r1 hr1
 refine zc [] (.ptr 2 0) [(Ze x0 zl), (rM_ ZF r1.1), [(Zh zhT (r1.2.1.map Zz)), (.mp 1), (iv r1.2.2)]] er1<|ze<|zq<|zq<|zi fun r2 hr2 => ?_
 obtain ⟨_, er2, _, rfl⟩ := Z7J ([x0] : List Z0) .sh r2 hr2
 refine zc [] (Zh .sh (r2.map Z3)) [(Ze x0 zl), (rM_ ZF r1.1), [(Zh zhT (r1.2.1.map Zz)), (.mp 1), (iv r1.2.2)]] er2<|zi fun a3 ha3 => zp (.cptr (Zv a3 .sh)) (et_ (Z1g (o := .sh) (k := .i64) (n := 5) (e := Z3) (cs := Z20) (fun _ => rfl) (fun _ => rfl) (by decide) ha3))<|zq<|zi fun r4 hr4 => ?_
 obtain ⟨_, er4, _, rfl⟩ := ZaD a3 .sh r4 hr4
 refine zc [] (Zh .sh (r4.map Za)) [(Ze x0 zl), (rM_ ZF r1.1), [(Zh zhT (r1.2.1.map Zz)), (.mp 1), (iv r1.2.2)]] er4<|zp (iv (r4.length : Int)) (et_ (ZU (P := PP) (t := 37) (d := 81) (by kernel_rfl) Za .sh r4)) ?_
 exact zk (Zc3 r4 (r4.length : Int) 0 x0 r1.1 r1.2.1 r1.2.2 .sh zl zhT ztE)
theorem ZjK x0 {r} (h : Zaj x0 = some r) : Z3O x0 = some r :=
 ZM (fun _ _ ha hb => ru_ Z8z (ha .ex) (hb .ex)) (fun zl => Zix x0 zl r h)
def Zak (x16 : List Z8) (x17 x18 : Int) (zW : List (Int × ZT)) (z1y : List Zp) (z24 : Int) : Option (List Zp) :=
 (lget x16 x18).bind fun a1 =>
 (Z8b a1 z1y z24 zW).bind fun r2 =>
 Z6J x16 x17 (IntKind.i64.wrap (x18 + 1)) zW z1y z24
theorem Zgh (x16 : List Z8) x17 x18 b0 zW (z1y : List Zp) z24 ox16 zj z1E (z3j : Z1i z1E = true) : Sim Z1M (Zak x16 x17 x18 zW z1y z24) (Zm4 0 (.ptr 2 0) (Zh ox16 (x16.map Za)) (iv x17) (iv x18) [(Ze b0 zj), (rM_ ZF zW), [(Zh z1E (z1y.map Zz)), (.mp 1), (iv z24)]]) := by
 unfold Zak
 refine zf (Zra ..)<|ze<|zi fun a1 ha1 => zp (.cptr (Z17 a1 .sh .sh)) (et_ (Z1g (o := ox16) (k := .i64) (n := 9) (e := Za) (cs := Z3m) (fun _ => rfl) (fun _ => rfl) (by decide) ha1))<|zq<|zz (.ptr 3 0) [(Ze b0 zj), (rM_ ZF zW), [(Zh z1E (z1y.map Zz)), (.mp 1), (iv z24)], (Zk Zoc .nl .nl)]<|zt [(Ze b0 zj), (rM_ ZF zW), [(Zh z1E (z1y.map Zz)), (.mp 1), (iv z24)], (Zk a1 .sh .sh)]<|ze<|zq<|zi fun r2 hr2 => ?_
 obtain ⟨_, er2, _, rfl⟩ := Zbt a1 z1y z24 zW .sh .sh z1E z3j r2 hr2
 refine zc [2, 1] (.p (.tup [(.agg (Zcf r2.1)), (.v (.int .i64 r2.2))])) [(Ze b0 zj), (rM_ ZF zW), [(Zh z1E (z1y.map Zz)), (.mp 1), (iv z24)], (Zk a1 .sh .sh)] er2<|ze<|zq ?_
 exact zk (Zc3 x16 x17 (IntKind.i64.wrap (x18 + 1)) b0 zW z1y z24 ox16 zj z1E z3j)
def Z85 (z1y : List Zp) : Option (List Zp) :=
 (Z3b z1y).bind fun r1 =>
 Z5o ([] : List Zp) (IntKind.i64.wrap (r1 + 1)) 0 z1y
theorem Zgi b0 zW (z1y : List Zp) z24 zj z1E (z3j : Z1i z1E = true) : Sim Z1M (Z85 z1y) (Zm5 0 (.ptr 2 0) [(Ze b0 zj), (rM_ ZF zW), [(Zh z1E (z1y.map Zz)), (.mp 1), (iv z24)]]) := by
 unfold Z85
 refine zf (Zrb ..)<|ze<|ze<|zi fun r1 hr1 => ?_
 obtain ⟨_, er1, _, rfl⟩ := Z9M z1y z24 zW z1E z3j r1 hr1
 refine zc [2, 1] (iv r1) [(Ze b0 zj), (rM_ ZF zW), [(Zh z1E (z1y.map Zz)), (.mp 1), (iv z24)]] er1<|zq ?_
 exact zk (Zc5 ([] : List Zp) (IntKind.i64.wrap (r1 + 1)) 0 b0 zW z1y z24 .nl zj z1E rfl z3j)
def Z84 (x16 : List Z8) (x17 x18 : Int) (zW : List (Int × ZT)) (z1y : List Zp) (z24 : Int) : Option (List Zp) :=
 if (decide (x18 < x17)) = true then
 (Zak x16 x17 x18 zW z1y z24)
 else
 (Z85 z1y)
theorem Zgf (x16 : List Z8) x17 x18 b0 zW (z1y : List Zp) z24 ox16 zj z1E (z3j : Z1i z1E = true) : Sim Z1M (Z84 x16 x17 x18 zW z1y z24) (ZgH 0 (.ptr 2 0) (Zh ox16 (x16.map Za)) (iv x17) (iv x18) [(Ze b0 zj), (rM_ ZF zW), [(Zh z1E (z1y.map Zz)), (.mp 1), (iv z24)]]) := by
 unfold Z84
 refine zf (Zr8 ..)<|ze<|zq ?_
 refine za (decide (x18 < x17)) ?_ ?_
 ·exact zk (Zgh x16 x17 x18 b0 zW z1y z24 ox16 zj z1E z3j)
 ·exact zk (Zgi b0 zW z1y z24 zj z1E z3j)
theorem Zhh x16 x17 x18 zW z1y z24 {r} (h : Z84 x16 x17 x18 zW z1y z24 = some r) : Z6J x16 x17 x18 zW z1y z24 = some r :=
 ZM (fun _ _ ha hb => ru_ Z8z (ha default .ex .ex .ex rfl) (hb default .ex .ex .ex rfl)) (fun b0 ox16 zj z1E z3j => Zgf x16 x17 x18 b0 zW z1y z24 ox16 zj z1E z3j r h)
def Z7v (x6 : List Zp) (x28 x29 : Int) (z1y : List Zp) : Option (List Zp) :=
 (Z4c x29 z1y).bind fun r1 =>
 (lapp x6 ([r1.1] : List Zp)).bind fun a2 =>
 Z5o a2 x28 (IntKind.i64.wrap (x29 + 1)) z1y
theorem Zfs (x6 : List Zp) x28 x29 b0 zW (z1y : List Zp) z24 ox6 zj z1E (hox6 : Z1i ox6 = true) (z3j : Z1i z1E = true) : Sim Z1M (Z7v x6 x28 x29 z1y) (Zkx 0 (.ptr 2 0) (Zh ox6 (x6.map Zz)) (iv x28) (iv x29) [(Ze b0 zj), (rM_ ZF zW), [(Zh z1E (z1y.map Zz)), (.mp 1), (iv z24)]]) := by
 unfold Z7v
 refine zf (ZpA ..)<|ze<|ze<|zi fun r1 hr1 => ?_
 obtain ⟨_, er1, _, rfl⟩ := Zbv x29 z1y z24 zW z1E z3j r1 hr1
 refine zc [2, 1] (.p (.tup [(.agg (Z2z r1.1 .sh)), (.v (.bool r1.2))])) [(Ze b0 zj), (rM_ ZF zW), [(Zh z1E (z1y.map Zz)), (.mp 1), (iv z24)]] er1<|zq<|zq<|zz (.ptr 3 0) [(Ze b0 zj), (rM_ ZF zW), [(Zh z1E (z1y.map Zz)), (.mp 1), (iv z24)], (Z1t ZdM .nl)]<|zt [(Ze b0 zj), (rM_ ZF zW), [(Zh z1E (z1y.map Zz)), (.mp 1), (iv z24)], (Z1t r1.1 .sh)]<|ze<|zq<|zq<|zi fun a2 ha2 => zp (Zh .un (a2.map Zz)) (Eq.trans (by kernel_rfl) <| Za6 (n := 5) (o := ox6) (o' := .ex) (e := Zz) (ys := ([r1.1] : List Zp)) (fun _ => rfl) (by decide) hox6 ha2)<|ze<|zq ?_
 exact zk (Zc5 a2 x28 (IntKind.i64.wrap (x29 + 1)) b0 zW z1y z24 .un zj z1E rfl z3j)
def Z7w (x6 : List Zp) : Option (List Zp) :=
 some x6
theorem Zft (x6 : List Zp) ox6 (hox6 : Z1i ox6 = true) : Sim Z1M (Z7w x6) (Zky 0 (Zh ox6 (x6.map Zz)) []) := by
 unfold Z7w
 refine zf (ZpB ..)<|ze ?_
 exact zr ((Zh .sh (x6.map Zz)), []) ⟨_, rfl⟩
def Z6z (x6 : List Zp) (x28 x29 : Int) (z1y : List Zp) : Option (List Zp) :=
 if (decide (x29 < x28)) = true then
 (Z7v x6 x28 x29 z1y)
 else
 (Z7w x6)
theorem Zgg (x6 : List Zp) x28 x29 b0 zW (z1y : List Zp) z24 ox6 zj z1E (hox6 : Z1i ox6 = true) (z3j : Z1i z1E = true) : Sim Z1M (Z6z x6 x28 x29 z1y) (ZgI 0 (.ptr 2 0) (Zh ox6 (x6.map Zz)) (iv x28) (iv x29) [(Ze b0 zj), (rM_ ZF zW), [(Zh z1E (z1y.map Zz)), (.mp 1), (iv z24)]]) := by
 unfold Z6z
 refine zf (Zr9 ..)<|ze<|zq ?_
 refine za (decide (x29 < x28)) ?_ ?_
 ·exact zk (Zfs x6 x28 x29 b0 zW z1y z24 ox6 zj z1E hox6 z3j)
 ·exact zk (Zft x6 ox6 hox6)
theorem Zc4 x6 x28 x29 z1y {r} (h : Z6z x6 x28 x29 z1y = some r) : Z5o x6 x28 x29 z1y = some r :=
 ZM (fun _ _ ha hb => ru_ Z8z (ha default default default .ex .ex .ex rfl rfl) (hb default default default .ex .ex .ex rfl rfl)) (fun b0 zW z24 ox6 zj z1E hox6 z3j => Zgg x6 x28 x29 b0 zW z1y z24 ox6 zj z1E hox6 z3j r h)
def Z9x : Option ((List (Int × ZT)) × (List Zp) × Int) :=
 (ZaH).bind fun r1 =>
 some (([] : List (Int × ZT)), ([r1] : List Zp), 0)
theorem ZhX : Sim Z9w Z9x (EE 36 [] []) := by
 unfold Z9x
 refine zf (ZvY ..)<|ze<|ze<|zi fun r1 hr1 => ?_
 obtain ⟨_, er1, _, rfl⟩ := ZjR r1 hr1
 refine zc [] (pA_ (Z2z r1 .sh)) [] er1<|zq<|zm (.mp 0) [(rM_ ZF ([] : List (Int × ZT)))]<|zq<|zx (.ptr 1 0) [(rM_ ZF ([] : List (Int × ZT))), [(Zh .ex (([r1] : List Zp).map Zz)), (.mp 0), (iv 0)]] ?_
 exact zr ((.ptr 1 0), [(rM_ ZF ([] : List (Int × ZT))), [(Zh .ex (([r1] : List Zp).map Zz)), (.mp 0), (iv 0)]]) ⟨.ex, [], rfl, rfl, rfl⟩
theorem Ziu {r} (h : Z9x = some r) : Z9E = some r :=
 ZM (fun _ _ ha hb => ru_ ZiX ha hb) (ZhX r h)
def Zdn : Option Zp :=
 some (Zp.mk 0 255 10000 500 ([] : List Z4))
theorem ZiG : Sim Zai Zdn (EE 54 [] []) := by
 unfold Zdn
 refine zf (Zwm ..)<|ze<|zz (.ptr 0 0) [(Z1t ZdM .nl)]<|ze<|zq<|zt [(Z1t (Zp.mk 0 255 10000 500 ([] : List Z4)) .nl)] ?_
 exact zr ((pA_ (Z2z (Zp.mk 0 255 10000 500 ([] : List Z4)) .sh)), [(Z1t (Zp.mk 0 255 10000 500 ([] : List Z4)) .nl)]) ⟨_, rfl⟩
theorem ZjQ {r} (h : Zdn = some r) : ZaH = some r :=
 ZM (fun _ _ ha hb => ru_ Zkl ha hb) (ZiG r h)
def Z37 (z1d : List Zp) : Option Int :=
 some (IntKind.i64.wrap ((z1d.length : Int) - 1))
theorem Z9l (z1d : List Zp) z1G zW z15 (z4n : Z1i z15 = true) : Sim (Z36 z1d z1G zW z15) (Z37 z1d) (EE 38 [(.ptr 0 0)] [[(Zh z15 (z1d.map Zz)), (.mp 1), (iv z1G)], (rM_ ZF zW)]) := by
 unfold Z37
 refine zf (ZvZ ..)<|ze<|ze<|zq<|zq<|zq<|zp (iv (z1d.length : Int)) (et_ (ZU (P := PP) (t := 40) (d := 51) (by kernel_rfl) Zz (shrO z15) z1d))<|zq ?_
 exact zr ((iv (IntKind.i64.wrap ((z1d.length : Int) - 1))), [[(Zh z15 (z1d.map Zz)), (.mp 1), (iv z1G)], (rM_ ZF zW)]) ⟨_, rfl⟩
theorem Z9L z1d {r} (h : Z37 z1d = some r) : Z3b z1d = some r :=
 ZM (fun _ _ ha hb => ru_ (Za7 _ _ _ _) (ha default default .ex rfl) (hb default default .ex rfl)) (fun z1G zW z15 z4n => Z9l z1d z1G zW z15 z4n r h)
def Z3n : Option (Zp × Bool) :=
 some ((Zp.mk 0 0 0 0 ([] : List Z4)), false)
theorem Z64 (z1d : List Zp) z1G zW b2 z15 z6O (z4n : Z1i z15 = true) (zpT : Z1i z6O = true) : Sim (Z2o z1d z1G zW z15) Z3n (Zjr 2 (.ptr 2 0) [[(Zh z15 (z1d.map Zz)), (.mp 1), (iv z1G)], (rM_ ZF zW), (Z1t b2 z6O)]) := by
 unfold Z3n
 refine zf (Zrw ..)<|ze<|zq<|zt [[(Zh z15 (z1d.map Zz)), (.mp 1), (iv z1G)], (rM_ ZF zW), (Z1t ZdM .nl)] ?_
 exact zr ((.p (.tup [(.agg (Z2z ZdM .sh)), (.v (.bool false))])), [[(Zh z15 (z1d.map Zz)), (.mp 1), (iv z1G)], (rM_ ZF zW), (Z1t ZdM .nl)]) ⟨_, rfl⟩
def Z3o (x1 : Int) (z1d : List Zp) : Option (Zp × Bool) :=
 (lget z1d x1).bind fun a1 =>
 (Z81 a1.Rules).bind fun r2 =>
 some ((Zp.mk a1.Default a1.Closed a1.Fuel a1.Stack r2), true)
theorem Z9K x1 (z1d : List Zp) z1G zW b2 z15 z6O (z4n : Z1i z15 = true) (zpT : Z1i z6O = true) : Sim (Z2o z1d z1G zW z15) (Z3o x1 z1d) (Zmt 2 (.ptr 0 0) (iv x1) (.ptr 2 0) [[(Zh z15 (z1d.map Zz)), (.mp 1), (iv z1G)], (rM_ ZF zW), (Z1t b2 z6O)]) := by
 unfold Z3o
 refine zf (Zrx ..)<|ze<|zq<|zq<|zq<|zi fun a1 ha1 => zp (.cptr (Z2z a1 .sh)) (et_ (Z1g (o := (shrO z15)) (k := .i64) (n := 5) (e := Zz) (cs := ZbJ) (fun _ => rfl) (fun _ => rfl) (by decide) ha1))<|zq<|zz (.ptr 3 0) [[(Zh z15 (z1d.map Zz)), (.mp 1), (iv z1G)], (rM_ ZF zW), (Z1t b2 z6O), (Z1t ZdM .nl)]<|zt [[(Zh z15 (z1d.map Zz)), (.mp 1), (iv z1G)], (rM_ ZF zW), (Z1t b2 z6O), (Z1t a1 .sh)]<|ze<|zq<|zq<|zi fun r2 hr2 => ?_
 obtain ⟨_, er2, _, rfl⟩ := Zes a1.Rules .sh r2 hr2
 refine zc [] (Zh .sh (r2.map Z2)) [[(Zh z15 (z1d.map Zz)), (.mp 1), (iv z1G)], (rM_ ZF zW), (Z1t b2 z6O), (Z1t a1 .sh)] er2<|zq<|zt [[(Zh z15 (z1d.map Zz)), (.mp 1), (iv z1G)], (rM_ ZF zW), (Z1t b2 z6O), (Z1t (Zp.mk a1.Default a1.Closed a1.Fuel a1.Stack r2) .sh)]<|ze<|zq<|zt [[(Zh z15 (z1d.map Zz)), (.mp 1), (iv z1G)], (rM_ ZF zW), (Z1t (Zp.mk a1.Default a1.Closed a1.Fuel a1.Stack r2) .sh), (Z1t (Zp.mk a1.Default a1.Closed a1.Fuel a1.Stack r2) .sh)] ?_
 exact zr ((.p (.tup [(.agg (Z2z (Zp.mk a1.Default a1.Closed a1.Fuel a1.Stack r2) .sh)), (.v (.bool true))])), [[(Zh z15 (z1d.map Zz)), (.mp 1), (iv z1G)], (rM_ ZF zW), (Z1t (Zp.mk a1.Default a1.Closed a1.Fuel a1.Stack r2) .sh), (Z1t (Zp.mk a1.Default a1.Closed a1.Fuel a1.Stack r2) .sh)]) ⟨_, rfl⟩
def Z49 (x1 : Int) (z1d : List Zp) : Option (Zp × Bool) :=
 if (decide (x1 < 0)) = true then
 Z3n
 else
 (if (decide ((z1d.length : Int) ≤ x1)) = true then
 Z3n
 else
 (Z3o x1 z1d))
theorem Zb4 x1 (z1d : List Zp) z1G zW z15 (z4n : Z1i z15 = true) : Sim (Z2o z1d z1G zW z15) (Z49 x1 z1d) (EE 39 [(.ptr 0 0), (iv x1)] [[(Zh z15 (z1d.map Zz)), (.mp 1), (iv z1G)], (rM_ ZF zW)]) := by
 unfold Z49
 refine zf (Zw0 ..)<|ze<|zz (.ptr 2 0) [[(Zh z15 (z1d.map Zz)), (.mp 1), (iv z1G)], (rM_ ZF zW), (Z1t ZdM .nl)]<|ze<|zq ?_
 refine za (decide (x1 < 0)) ?_ ?_
 ·exact zk (Z64 z1d z1G zW ZdM z15 .nl z4n rfl)
 ·refine zq<|zq<|zq<|zp (iv (z1d.length : Int)) (et_ (ZU (P := PP) (t := 40) (d := 51) (by kernel_rfl) Zz (shrO z15) z1d))<|zq ?_
  refine za (decide ((z1d.length : Int) ≤ x1)) ?_ ?_
  ·exact zk (Z64 z1d z1G zW ZdM z15 .nl z4n rfl)
  ·exact zk (Z9K x1 z1d z1G zW ZdM z15 .nl z4n rfl)
theorem Zbu x1 z1d {r} (h : Z49 x1 z1d = some r) : Z4c x1 z1d = some r :=
 ZM (fun _ _ ha hb => ru_ (ZbQ _ _ _ _) (ha default default .ex rfl) (hb default default .ex rfl)) (fun z1G zW z15 z4n => Zb4 x1 z1d z1G zW z15 z4n r h)
def Z5g (x0 : List Z0) : Option Bool :=
 Z3g x0 x0 (x0.length : Int) 0
theorem Zd1 (x0 : List Z0) ox0 : Sim Z6 (Z5g x0) (EE 11 [(Zh ox0 (x0.map Z3))] []) := by
 unfold Z5g
 refine zf (Zvf ..)<|ze<|ze<|zp (iv (x0.length : Int)) (et_ (ZU (P := PP) (t := 22) (d := 39) (by kernel_rfl) Z3 (shrO ox0) x0)) ?_
 exact zk (Z7m x0 x0 (x0.length : Int) 0 ox0 (shrO ox0))
theorem Zdt x0 {r} (h : Z5g x0 = some r) : Z1u x0 = some r :=
 ZM (fun _ _ ha hb => ru_ ZE (ha .ex) (hb .ex)) (fun ox0 => Zd1 x0 ox0 r h)
def Z2t : Option Bool :=
 some false
theorem Z78 : Sim Z6 Z2t (Zj5 0 []) := by
 unfold Z2t
 refine zf (ZqK ..)<|ze ?_
 exact zr ((bv false), []) ⟨_, rfl⟩
def Z2u (x0 x5 : List Z0) (x6 x7 : Int) : Option Bool :=
 Z3g x0 x5 x6 (IntKind.i64.wrap (x7 + 1))
theorem Z79 (x0 x5 : List Z0) x6 x7 ox0 ox5 : Sim Z6 (Z2u x0 x5 x6 x7) (Zj6 0 (Zh ox0 (x0.map Z3)) (Zh ox5 (x5.map Z3)) (iv x6) (iv x7) []) := by
 unfold Z2u
 refine zf (ZqL ..)<|ze<|zq ?_
 exact zk (Z7m x0 x5 x6 (IntKind.i64.wrap (x7 + 1)) ox0 ox5)
def Z22 (x0 x5 : List Z0) (x6 x7 : Int) : Option Bool :=
 (lget x5 x7).bind fun a1 =>
 (Z4b a1).bind fun r2 =>
 if (!r2) = true then
 Z2t
 else
 (if (decide (10 < (a1.Log.length : Int))) = true then
 (if (decide ((a1.Log.length : Int) ≤ 64)) = true then
 Z2t
 else
 (Z2u x0 x5 x6 x7))
 else
 (Z2u x0 x5 x6 x7))
theorem Zbp (x0 x5 : List Z0) x6 x7 ox0 ox5 : Sim Z6 (Z22 x0 x5 x6 x7) (Zlw 0 (Zh ox0 (x0.map Z3)) (Zh ox5 (x5.map Z3)) (iv x6) (iv x7) []) := by
 unfold Z22
 refine zf (ZqJ ..)<|ze<|zi fun a1 ha1 => zp (.cptr (Zv a1 .sh)) (et_ (Z1g (o := ox5) (k := .i64) (n := 5) (e := Z3) (cs := Z20) (fun _ => rfl) (fun _ => rfl) (by decide) ha1))<|zq<|zz (.ptr 0 0) [(Ze ZeE .nl)]<|zt [(Ze a1 .sh)]<|ze<|zq<|zi fun r2 hr2 => ?_
 obtain ⟨_, er2, _, rfl⟩ := Zbs a1 .sh r2 hr2
 refine zc [] (bv r2) [(Ze a1 .sh)] er2<|zq ?_
 refine za (!r2) ?_ ?_
 ·exact zk Z78
 ·refine zq<|zq<|zp (iv (a1.Log.length : Int)) (et_ (ZU (P := PP) (t := 37) (d := 81) (by kernel_rfl) Za .sh a1.Log))<|zq ?_
  refine za (decide (10 < (a1.Log.length : Int))) ?_ ?_
  ·refine zq<|zq<|zp (iv (a1.Log.length : Int)) (et_ (ZU (P := PP) (t := 37) (d := 81) (by kernel_rfl) Za .sh a1.Log))<|zq ?_
   refine za (decide ((a1.Log.length : Int) ≤ 64)) ?_ ?_
   ·exact zk Z78
   ·exact zk (Z79 x0 x5 x6 x7 ox0 ox5)
  ·exact zk (Z79 x0 x5 x6 x7 ox0 ox5)
def Z4h (x0 : List Z0) : Option Bool :=
 some (decide ((x0.length : Int) ≤ 9))
theorem Zbq (x0 : List Z0) ox0 : Sim Z6 (Z4h x0) (Zlx 0 (Zh ox0 (x0.map Z3)) []) := by
 unfold Z4h
 refine zf (ZqM ..)<|ze<|zp (iv (x0.length : Int)) (et_ (ZU (P := PP) (t := 22) (d := 39) (by kernel_rfl) Z3 (shrO ox0) x0))<|zq ?_
 exact zr ((bv (decide ((x0.length : Int) ≤ 9))), []) ⟨_, rfl⟩
def Z1O (x0 x5 : List Z0) (x6 x7 : Int) : Option Bool :=
 if (decide (x7 < x6)) = true then
 (Z22 x0 x5 x6 x7)
 else
 (Z4h x0)
theorem Zbo (x0 x5 : List Z0) x6 x7 ox0 ox5 : Sim Z6 (Z1O x0 x5 x6 x7) (Zgt 0 (Zh ox0 (x0.map Z3)) (Zh ox5 (x5.map Z3)) (iv x6) (iv x7) []) := by
 unfold Z1O
 refine zf (ZqI ..)<|ze<|zq ?_
 refine za (decide (x7 < x6)) ?_ ?_
 ·exact zk (Zbp x0 x5 x6 x7 ox0 ox5)
 ·exact zk (Zbq x0 ox0)
theorem Z2A x0 x5 x6 x7 {r} (h : Z1O x0 x5 x6 x7 = some r) : Z3g x0 x5 x6 x7 = some r :=
 ZM (fun _ _ ha hb => ru_ ZE (ha .ex .ex) (hb .ex .ex)) (fun ox0 ox5 => Zbo x0 x5 x6 x7 ox0 ox5 r h)
def Z48 (x0 : Z0) : Option Bool :=
 (Z4E x0.Log).bind fun r1 =>
 some r1
theorem Zb3 x0 zl : Sim Z6 (Z48 x0) (EE 27 [(pA_ (Zv x0 zl))] []) := by
 unfold Z48
 refine zf (ZvJ ..)<|ze<|zx (.ptr 0 0) [(Ze x0 zl)]<|ze<|zq<|zq<|zi fun r1 hr1 => ?_
 obtain ⟨_, er1, _, rfl⟩ := Zcx x0.Log .sh r1 hr1
 refine zc [] (bv r1) [(Ze x0 zl)] er1 ?_
 exact zr ((bv r1), [(Ze x0 zl)]) ⟨_, rfl⟩
theorem Zbr x0 {r} (h : Z48 x0 = some r) : Z4b x0 = some r :=
 ZM (fun _ _ ha hb => ru_ ZE (ha .ex) (hb .ex)) (fun zl => Zb3 x0 zl r h)
def Z4z (x0 : List Z8) : Option Bool :=
 Z2e x0 x0 (x0.length : Int) 0
theorem Zc2 (x0 : List Z8) ox0 : Sim Z6 (Z4z x0) (EE 48 [(Zh ox0 (x0.map Za))] []) := by
 unfold Z4z
 refine zf (Zw5 ..)<|ze<|ze<|zp (iv (x0.length : Int)) (et_ (ZU (P := PP) (t := 37) (d := 81) (by kernel_rfl) Za (shrO ox0) x0)) ?_
 exact zk (Z6Y x0 x0 (x0.length : Int) 0 ox0 (shrO ox0))
theorem Zcw x0 {r} (h : Z4z x0 = some r) : Z4E x0 = some r :=
 ZM (fun _ _ ha hb => ru_ ZE (ha .ex) (hb .ex)) (fun ox0 => Zc2 x0 ox0 r h)
def Z2d : Option Bool :=
 some false
theorem Z6I : Sim Z6 Z2d (Zju 0 []) := by
 unfold Z2d
 refine zf (ZrC ..)<|ze ?_
 exact zr ((bv false), []) ⟨_, rfl⟩
def Z3S (x0 x7 : List Z8) (x8 x9 : Int) (b0 : Z8) : Option Bool :=
 Z2F x0 x7 x8 x9 b0.Delta.Put (b0.Delta.Put.length : Int) 0
theorem Zax (x0 x7 : List Z8) x8 x9 b0 ox0 ox7 zB zy : Sim Z6 (Z3S x0 x7 x8 x9 b0) (Zmz 0 (Zh ox0 (x0.map Za)) (.ptr 0 0) (Zh ox7 (x7.map Za)) (iv x8) (iv x9) [(Zk b0 zB zy)]) := by
 unfold Z3S
 refine zf (ZrD ..)<|ze<|zq<|zq<|zq<|zp (iv (b0.Delta.Put.length : Int)) (et_ (ZU (P := PP) (t := 49) (d := 104) (by kernel_rfl) Z2 (shrO zB) b0.Delta.Put)) ?_
 exact zk (Z6Z x0 x7 x8 x9 b0.Delta.Put (b0.Delta.Put.length : Int) 0 ox0 ox7 (shrO zB))
def Z2c (x0 x7 : List Z8) (x8 x9 : Int) : Option Bool :=
 (lget x7 x9).bind fun a1 =>
 if (decide (20 < (a1.Delta.Put.length : Int))) = true then
 Z2d
 else
 (if (decide (20 < (a1.Delta.Drop.length : Int))) = true then
 Z2d
 else
 (Z3S x0 x7 x8 x9 a1))
theorem Zaw (x0 x7 : List Z8) x8 x9 ox0 ox7 : Sim Z6 (Z2c x0 x7 x8 x9) (Zmy 0 (Zh ox0 (x0.map Za)) (Zh ox7 (x7.map Za)) (iv x8) (iv x9) []) := by
 unfold Z2c
 refine zf (ZrB ..)<|ze<|zi fun a1 ha1 => zp (.cptr (Z17 a1 .sh .sh)) (et_ (Z1g (o := ox7) (k := .i64) (n := 9) (e := Za) (cs := Z3m) (fun _ => rfl) (fun _ => rfl) (by decide) ha1))<|zq<|zz (.ptr 0 0) [(Zk Zoc .nl .nl)]<|zt [(Zk a1 .sh .sh)]<|ze<|zq<|zq<|zq<|zp (iv (a1.Delta.Put.length : Int)) (et_ (ZU (P := PP) (t := 49) (d := 104) (by kernel_rfl) Z2 .sh a1.Delta.Put))<|zq ?_
 refine za (decide (20 < (a1.Delta.Put.length : Int))) ?_ ?_
 ·exact zk Z6I
 ·refine zq<|zq<|zq<|zp (iv (a1.Delta.Drop.length : Int)) (et_ (ZU (P := PP) (t := 77) (d := 3) (by kernel_rfl) (eI .i64) .sh a1.Delta.Drop))<|zq ?_
  refine za (decide (20 < (a1.Delta.Drop.length : Int))) ?_ ?_
  ·exact zk Z6I
  ·exact zk (Zax x0 x7 x8 x9 a1 ox0 ox7 .sh .sh)
def Z3F (x0 : List Z8) : Option Bool :=
 some (decide ((x0.length : Int) ≤ 70))
theorem Zab (x0 : List Z8) ox0 : Sim Z6 (Z3F x0) (ZkB 0 (Zh ox0 (x0.map Za)) []) := by
 unfold Z3F
 refine zf (ZpG ..)<|ze<|zp (iv (x0.length : Int)) (et_ (ZU (P := PP) (t := 37) (d := 81) (by kernel_rfl) Za (shrO ox0) x0))<|zq ?_
 exact zr ((bv (decide ((x0.length : Int) ≤ 70))), []) ⟨_, rfl⟩
def Z1Q (x0 x7 : List Z8) (x8 x9 : Int) : Option Bool :=
 if (decide (x9 < x8)) = true then
 (Z2c x0 x7 x8 x9)
 else
 (Z3F x0)
theorem Zau (x0 x7 : List Z8) x8 x9 ox0 ox7 : Sim Z6 (Z1Q x0 x7 x8 x9) (ZgU 0 (Zh ox0 (x0.map Za)) (Zh ox7 (x7.map Za)) (iv x8) (iv x9) []) := by
 unfold Z1Q
 refine zf (Zrz ..)<|ze<|zq ?_
 refine za (decide (x9 < x8)) ?_ ?_
 ·exact zk (Zaw x0 x7 x8 x9 ox0 ox7)
 ·exact zk (Zab x0 ox0)
theorem Z3a x0 x7 x8 x9 {r} (h : Z1Q x0 x7 x8 x9 = some r) : Z2e x0 x7 x8 x9 = some r :=
 ZM (fun _ _ ha hb => ru_ ZE (ha .ex .ex) (hb .ex .ex)) (fun ox0 ox7 => Zau x0 x7 x8 x9 ox0 ox7 r h)
def Z3D (x0 x7 : List Z8) (x8 x9 : Int) (x27 : List Z4) (x28 x29 : Int) : Option Bool :=
 Z2F x0 x7 x8 x9 x27 x28 (IntKind.i64.wrap (x29 + 1))
theorem Za9 (x0 x7 : List Z8) x8 x9 (x27 : List Z4) x28 x29 ox0 ox7 ox27 : Sim Z6 (Z3D x0 x7 x8 x9 x27 x28 x29) (Zkz 0 (Zh ox0 (x0.map Za)) (Zh ox7 (x7.map Za)) (iv x8) (iv x9) (Zh ox27 (x27.map Z2)) (iv x28) (iv x29) []) := by
 unfold Z3D
 refine zf (ZpE ..)<|ze<|zq ?_
 exact zk (Z6Z x0 x7 x8 x9 x27 x28 (IntKind.i64.wrap (x29 + 1)) ox0 ox7 ox27)
def Z2E (x0 x7 : List Z8) (x8 x9 : Int) (x27 : List Z4) (x28 x29 : Int) : Option Bool :=
 (lget x27 x29).bind fun a1 =>
 if (decide (300 < (a1.Pattern.size : Int))) = true then
 (some false)
 else
 (Z3D x0 x7 x8 x9 x27 x28 x29)
theorem Zay (x0 x7 : List Z8) x8 x9 (x27 : List Z4) x28 x29 ox0 ox7 ox27 : Sim Z6 (Z2E x0 x7 x8 x9 x27 x28 x29) (ZmA 0 (Zh ox0 (x0.map Za)) (Zh ox7 (x7.map Za)) (iv x8) (iv x9) (Zh ox27 (x27.map Z2)) (iv x28) (iv x29) []) := by
 unfold Z2E
 refine zf (ZrE ..)<|ze<|zi fun a1 ha1 => zp (.cptr (ZJ a1)) (et_ (Z1g (o := ox27) (k := .i64) (n := 5) (e := Z2) (cs := Z1o) (fun _ => rfl) (fun _ => rfl) (by decide) ha1))<|zq<|zz (.ptr 0 0) [(ZG (Z4.mk 0 0 0 0 (ByteArray.mk #[])))]<|zt [(ZG a1)]<|ze<|zq<|zq<|zq<|zq ?_
 refine za (decide (300 < (a1.Pattern.size : Int))) ?_ ?_
 ·refine ze ?_
  exact zr ((bv false), [(ZG a1)]) ⟨_, rfl⟩
 ·exact zk (Za9 x0 x7 x8 x9 x27 x28 x29 ox0 ox7 ox27)
def Z3E (x0 x7 : List Z8) (x8 x9 : Int) : Option Bool :=
 Z2e x0 x7 x8 (IntKind.i64.wrap (x9 + 1))
theorem Zaa (x0 x7 : List Z8) x8 x9 ox0 ox7 : Sim Z6 (Z3E x0 x7 x8 x9) (ZkA 0 (Zh ox0 (x0.map Za)) (Zh ox7 (x7.map Za)) (iv x8) (iv x9) []) := by
 unfold Z3E
 refine zf (ZpF ..)<|ze<|zq ?_
 exact zk (Z6Y x0 x7 x8 (IntKind.i64.wrap (x9 + 1)) ox0 ox7)
def Z2b (x0 x7 : List Z8) (x8 x9 : Int) (x27 : List Z4) (x28 x29 : Int) : Option Bool :=
 if (decide (x29 < x28)) = true then
 (Z2E x0 x7 x8 x9 x27 x28 x29)
 else
 (Z3E x0 x7 x8 x9)
theorem Zav (x0 x7 : List Z8) x8 x9 (x27 : List Z4) x28 x29 ox0 ox7 ox27 : Sim Z6 (Z2b x0 x7 x8 x9 x27 x28 x29) (ZgV 0 (Zh ox0 (x0.map Za)) (Zh ox7 (x7.map Za)) (iv x8) (iv x9) (Zh ox27 (x27.map Z2)) (iv x28) (iv x29) []) := by
 unfold Z2b
 refine zf (ZrA ..)<|ze<|zq ?_
 refine za (decide (x29 < x28)) ?_ ?_
 ·exact zk (Zay x0 x7 x8 x9 x27 x28 x29 ox0 ox7 ox27)
 ·exact zk (Zaa x0 x7 x8 x9 ox0 ox7)
theorem Z4v x0 x7 x8 x9 x27 x28 x29 {r} (h : Z2b x0 x7 x8 x9 x27 x28 x29 = some r) : Z2F x0 x7 x8 x9 x27 x28 x29 = some r :=
 ZM (fun _ _ ha hb => ru_ ZE (ha .ex .ex .ex) (hb .ex .ex .ex)) (fun ox0 ox7 ox27 => Zav x0 x7 x8 x9 x27 x28 x29 ox0 ox7 ox27 r h)
def Z4Q (x0 : List Z0) : Option (List Z1) :=
 Z33 ([] : List Z1) x0 (x0.length : Int) 0
theorem Zcu (x0 : List Z0) ox0 : Sim Z1n (Z4Q x0) (EE 14 [(Zh ox0 (x0.map Z3))] []) := by
 unfold Z4Q
 refine zf (Zvt ..)<|ze<|ze<|ze<|zp (iv (x0.length : Int)) (et_ (ZU (P := PP) (t := 22) (d := 39) (by kernel_rfl) Z3 (shrO ox0) x0)) ?_
 exact zk (Z7b ([] : List Z1) x0 (x0.length : Int) 0 .nl (shrO ox0) rfl)
theorem Zd2 x0 {r} (h : Z4Q x0 = some r) : Z1p x0 = some r :=
 ZM (fun _ _ ha hb => ru_ Z6v (ha .ex) (hb .ex)) (fun ox0 => Zcu x0 ox0 r h)
def Z44 (x3 : List Z1) (x6 : List Z0) (x7 x8 : Int) : Option (List Z1) :=
 (lget x6 x8).bind fun a1 =>
 (Z5K a1).bind fun r2 =>
 (lapp x3 ([r2] : List Z1)).bind fun a3 =>
 Z33 a3 x6 x7 (IntKind.i64.wrap (x8 + 1))
theorem ZaY (x3 : List Z1) (x6 : List Z0) x7 x8 ox3 ox6 (hox3 : Z1i ox3 = true) : Sim Z1n (Z44 x3 x6 x7 x8) (ZlR 0 (Zh ox3 (x3.map Zf)) (Zh ox6 (x6.map Z3)) (iv x7) (iv x8) []) := by
 unfold Z44
 refine zf (Zr1 ..)<|ze<|zi fun a1 ha1 => zp (.cptr (Zv a1 .sh)) (et_ (Z1g (o := ox6) (k := .i64) (n := 5) (e := Z3) (cs := Z20) (fun _ => rfl) (fun _ => rfl) (by decide) ha1))<|zq<|zz (.ptr 0 0) [(Ze ZeE .nl)]<|zt [(Ze a1 .sh)]<|ze<|zq<|zi fun r2 hr2 => ?_
 obtain ⟨_, er2, _, rfl⟩ := ZdQ a1 .sh r2 hr2
 refine zc [] (pA_ (ZO r2 .sh)) [(Ze a1 .sh)] er2<|zq<|zi fun a3 ha3 => zp (Zh .un (a3.map Zf)) (Eq.trans (by kernel_rfl) <| Za6 (n := 5) (o := ox3) (o' := .ex) (e := Zf) (ys := ([r2] : List Z1)) (fun _ => rfl) (by decide) hox3 ha3)<|ze<|zq ?_
 exact zk (Z7b a3 x6 x7 (IntKind.i64.wrap (x8 + 1)) .un ox6 rfl)
def Z45 (x3 : List Z1) : Option (List Z1) :=
 (Z9F x3).bind fun r1 =>
 some r1
theorem ZaZ (x3 : List Z1) ox3 (hox3 : Z1i ox3 = true) : Sim Z1n (Z45 x3) (ZlS 0 (Zh ox3 (x3.map Zf)) []) := by
 unfold Z45
 refine zf (Zr2 ..)<|ze<|zi fun r1 hr1 => ?_
 obtain ⟨_, er1, _, rfl⟩ := ZiF x3 .sh r1 hr1
 refine zc [] (Zh .sh (r1.map Zf)) [] er1 ?_
 exact zr ((Zh .sh (r1.map Zf)), []) ⟨_, rfl⟩
def Z2Y (x3 : List Z1) (x6 : List Z0) (x7 x8 : Int) : Option (List Z1) :=
 if (decide (x8 < x7)) = true then
 (Z44 x3 x6 x7 x8)
 else
 (Z45 x3)
theorem ZaX (x3 : List Z1) (x6 : List Z0) x7 x8 ox3 ox6 (hox3 : Z1i ox3 = true) : Sim Z1n (Z2Y x3 x6 x7 x8) (ZgC 0 (Zh ox3 (x3.map Zf)) (Zh ox6 (x6.map Z3)) (iv x7) (iv x8) []) := by
 unfold Z2Y
 refine zf (Zr0 ..)<|ze<|zq ?_
 refine za (decide (x8 < x7)) ?_ ?_
 ·exact zk (ZaY x3 x6 x7 x8 ox3 ox6 hox3)
 ·exact zk (ZaZ x3 ox3 hox3)
theorem Z7a x3 x6 x7 x8 {r} (h : Z2Y x3 x6 x7 x8 = some r) : Z33 x3 x6 x7 x8 = some r :=
 ZM (fun _ _ ha hb => ru_ Z6v (ha .ex .ex rfl) (hb .ex .ex rfl)) (fun ox3 ox6 hox3 => ZaX x3 x6 x7 x8 ox3 ox6 hox3 r h)
def Z5B (x0 : Z0) : Option Z1 :=
 (Z57 x0.Log).bind fun r1 =>
 some (Z1.mk x0.View x0.Normal x0.Commit x0.Active r1)
theorem Zdv x0 zl : Sim Z5z (Z5B x0) (EE 31 [(pA_ (Zv x0 zl))] []) := by
 unfold Z5B
 refine zf (ZvQ ..)<|ze<|zx (.ptr 0 0) [(Ze x0 zl)]<|zz (.ptr 1 0) [(Ze x0 zl), (ZI Zod .nl)]<|ze<|zq<|zq<|zq<|zq<|zq<|zq<|zq<|zq<|zq<|zq<|zi fun r1 hr1 => ?_
 obtain ⟨_, er1, _, rfl⟩ := Zd4 x0.Log .sh r1 hr1
 refine zc [] (Zh .sh (r1.map Zg)) [(Ze x0 zl), (ZI Zod .nl)] er1<|zq<|zt [(Ze x0 zl), (ZI (Z1.mk x0.View x0.Normal x0.Commit x0.Active r1) .sh)]<|zg<|zg<|zg<|zg ?_
 exact zr ((pA_ (ZO (Z1.mk x0.View x0.Normal x0.Commit x0.Active r1) .sh)), [(Ze x0 zl), (ZI (Z1.mk x0.View x0.Normal x0.Commit x0.Active r1) .sh)]) ⟨_, rfl⟩
theorem ZdP x0 {r} (h : Z5B x0 = some r) : Z5K x0 = some r :=
 ZM (fun _ _ ha hb => ru_ Zec (ha .ex) (hb .ex)) (fun zl => Zdv x0 zl r h)
def Z4R (x0 : List Z8) : Option (List Zb) :=
 Z34 ([] : List Zb) x0 (x0.length : Int) 0
theorem Zcv (x0 : List Z8) ox0 : Sim Z1W (Z4R x0) (EE 49 [(Zh ox0 (x0.map Za))] []) := by
 unfold Z4R
 refine zf (Zw9 ..)<|ze<|ze<|ze<|zp (iv (x0.length : Int)) (et_ (ZU (P := PP) (t := 37) (d := 81) (by kernel_rfl) Za (shrO ox0) x0)) ?_
 exact zk (Z7d ([] : List Zb) x0 (x0.length : Int) 0 .nl (shrO ox0) rfl)
theorem Zd3 x0 {r} (h : Z4R x0 = some r) : Z57 x0 = some r :=
 ZM (fun _ _ ha hb => ru_ Z8j (ha .ex) (hb .ex)) (fun ox0 => Zcv x0 ox0 r h)
def Z46 (x3 : List Zb) (x6 : List Z8) (x7 x8 : Int) : Option (List Zb) :=
 (lget x6 x8).bind fun a1 =>
 (Z5J a1.Delta).bind fun r2 =>
 (lapp x3 ([(Zb.mk a1.View a1.Client a1.Request (Z5.mk r2.Default r2.Closed r2.Fuel r2.Stack r2.Put r2.Drop))] : List Zb)).bind fun a3 =>
 Z34 a3 x6 x7 (IntKind.i64.wrap (x8 + 1))
theorem Zb1 (x3 : List Zb) (x6 : List Z8) x7 x8 ox3 ox6 (hox3 : Z1i ox3 = true) : Sim Z1W (Z46 x3 x6 x7 x8) (ZmE 0 (Zh ox3 (x3.map Zg)) (Zh ox6 (x6.map Za)) (iv x7) (iv x8) []) := by
 unfold Z46
 refine zf (ZrH ..)<|ze<|zi fun a1 ha1 => zp (.cptr (Z17 a1 .sh .sh)) (et_ (Z1g (o := ox6) (k := .i64) (n := 9) (e := Za) (cs := Z3m) (fun _ => rfl) (fun _ => rfl) (by decide) ha1))<|zq<|zz (.ptr 0 0) [(Zk Zoc .nl .nl)]<|zt [(Zk a1 .sh .sh)]<|ze<|zq<|zq<|zq<|zq<|zq<|zq<|zq<|zq<|zi fun r2 hr2 => ?_
 obtain ⟨_, er2, _, rfl⟩ := ZdO a1.Delta .sh .sh r2 hr2
 refine zc [] (pA_ (Z1m r2 .sh .sh)) [(Zk a1 .sh .sh)] er2<|zq<|zq<|zi fun a3 ha3 => zp (Zh .un (a3.map Zg)) (Eq.trans (by kernel_rfl) <| Za6 (n := 9) (o := ox3) (o' := .ex) (e := Zg) (ys := ([(Zb.mk a1.View a1.Client a1.Request (Z5.mk r2.Default r2.Closed r2.Fuel r2.Stack r2.Put r2.Drop))] : List Zb)) (fun _ => rfl) (by decide) hox3 ha3)<|zg<|zg<|zg<|ze<|zq ?_
 exact zk (Z7d a3 x6 x7 (IntKind.i64.wrap (x8 + 1)) .un ox6 rfl)
def Z47 (x3 : List Zb) : Option (List Zb) :=
 some x3
theorem Zb2 (x3 : List Zb) ox3 (hox3 : Z1i ox3 = true) : Sim Z1W (Z47 x3) (ZmF 0 (Zh ox3 (x3.map Zg)) []) := by
 unfold Z47
 refine zf (ZrI ..)<|ze ?_
 exact zr ((Zh .sh (x3.map Zg)), []) ⟨_, rfl⟩
def Z2Z (x3 : List Zb) (x6 : List Z8) (x7 x8 : Int) : Option (List Zb) :=
 if (decide (x8 < x7)) = true then
 (Z46 x3 x6 x7 x8)
 else
 (Z47 x3)
theorem Zb0 (x3 : List Zb) (x6 : List Z8) x7 x8 ox3 ox6 (hox3 : Z1i ox3 = true) : Sim Z1W (Z2Z x3 x6 x7 x8) (ZgW 0 (Zh ox3 (x3.map Zg)) (Zh ox6 (x6.map Za)) (iv x7) (iv x8) []) := by
 unfold Z2Z
 refine zf (ZrG ..)<|ze<|zq ?_
 refine za (decide (x8 < x7)) ?_ ?_
 ·exact zk (Zb1 x3 x6 x7 x8 ox3 ox6 hox3)
 ·exact zk (Zb2 x3 ox3 hox3)
theorem Z7c x3 x6 x7 x8 {r} (h : Z2Z x3 x6 x7 x8 = some r) : Z34 x3 x6 x7 x8 = some r :=
 ZM (fun _ _ ha hb => ru_ Z8j (ha .ex .ex rfl) (hb .ex .ex rfl)) (fun ox3 ox6 hox3 => Zb0 x3 x6 x7 x8 ox3 ox6 hox3 r h)
def Z5A (x0 : Z26) : Option Z5 :=
 Z3y x0.Put (x0.Put.length : Int) 0 x0.Default x0.Closed x0.Fuel x0.Stack ([] : List Z4) x0.Drop
theorem Zdu x0 z1U z1A : Sim Z2g (Z5A x0) (EE 67 [(pA_ (Z6s x0 z1U z1A))] []) := by
 unfold Z5A
 refine zf (Zwv ..)<|ze<|zx (.ptr 0 0) [(Zo x0 z1U z1A)]<|zz (.ptr 1 0) [(Zo x0 z1U z1A), (Zc Zl2 .nl .nl)]<|ze<|zq<|zq<|zq<|zq<|zq<|zq<|zq<|zq<|zq<|zq<|zq<|zz (.ptr 2 0) [(Zo x0 z1U z1A), (Zc Zl2 .nl .nl), (Zc Zl2 .nl .nl)]<|zt [(Zo x0 z1U z1A), (Zc Zl2 .nl .nl), (Zbz x0.Default x0.Closed x0.Fuel x0.Stack ([] : List Z4) x0.Drop .nl (shrO (shrO z1A)))]<|ze<|zq<|zq<|zp (iv (x0.Put.length : Int)) (et_ (ZU (P := PP) (t := 49) (d := 104) (by kernel_rfl) Z2 (shrO z1U) x0.Put)) ?_
 exact zk (Z7S x0.Put (x0.Put.length : Int) 0 x0 Zl2 x0.Default x0.Closed x0.Fuel x0.Stack ([] : List Z4) x0.Drop (shrO z1U) z1U z1A .nl .nl .nl (shrO (shrO z1A)) rfl rfl rfl)
theorem ZdN x0 {r} (h : Z5A x0 = some r) : Z5J x0 = some r :=
 ZM (fun _ _ ha hb => ru_ Z9i (ha .ex .ex) (hb .ex .ex)) (fun z1U z1A => Zdu x0 z1U z1A r h)
def Z4x (x18 : List Z4) (x19 x20 z12 z1a z1s z1h : Int) (z1N : List Z4) (z1r : List Int) : Option Z5 :=
 (lget x18 x20).bind fun a1 =>
 (lapp z1N ([a1] : List Z4)).bind fun a2 =>
 Z3y x18 x19 (IntKind.i64.wrap (x20 + 1)) z12 z1a z1s z1h a2 z1r
theorem Zc0 (x18 : List Z4) x19 x20 b0 b1 z12 z1a z1s z1h z1N z1r ox18 zS zP zu zn z1Z z23 (z6T : Z1i zu = true) (z5S : Z1i zn = true) (z6U : Z1i z1Z = true) : Sim Z2g (Z4x x18 x19 x20 z12 z1a z1s z1h z1N z1r) (Zn4 0 (.ptr 1 0) (.ptr 2 0) (Zh ox18 (x18.map Z2)) (iv x19) (iv x20) [(Zo b0 zS zP), (Zc b1 zu zn), (Zbz z12 z1a z1s z1h z1N z1r z1Z z23)]) := by
 unfold Z4x
 refine zf (Zsc ..)<|ze<|zi fun a1 ha1 => zp (.cptr (ZJ a1)) (et_ (Z1g (o := ox18) (k := .i64) (n := 5) (e := Z2) (cs := Z1o) (fun _ => rfl) (fun _ => rfl) (by decide) ha1))<|zq<|zz (.ptr 3 0) [(Zo b0 zS zP), (Zc b1 zu zn), (Zbz z12 z1a z1s z1h z1N z1r z1Z z23), (ZG (Z4.mk 0 0 0 0 (ByteArray.mk #[])))]<|zt [(Zo b0 zS zP), (Zc b1 zu zn), (Zbz z12 z1a z1s z1h z1N z1r z1Z z23), (ZG a1)]<|ze<|zq<|zw (Zh z1Z (z1N.map Z2)) [(Zo b0 zS zP), (Zc b1 zu zn), (Zbz z12 z1a z1s z1h z1N z1r (shrO z1Z) z23), (ZG a1)]<|zq<|zq<|zi fun a2 ha2 => zp (Zh .un (a2.map Z2)) (Eq.trans (by kernel_rfl) <| Za6 (n := 5) (o := z1Z) (o' := .ex) (e := Z2) (ys := ([a1] : List Z4)) (fun _ => rfl) (by decide) z6U ha2)<|zq<|zt [(Zo b0 zS zP), (Zc b1 zu zn), (Zbz z12 z1a z1s z1h a2 z1r .un z23), (ZG a1)]<|ze<|zq ?_
 exact zk (Z7S x18 x19 (IntKind.i64.wrap (x20 + 1)) b0 b1 z12 z1a z1s z1h a2 z1r ox18 zS zP zu zn .un z23 z6T z5S rfl)
def Z4y (z12 z1a z1s z1h : Int) (z1N : List Z4) (z1r : List Int) : Option Z5 :=
 some (Z5.mk z12 z1a z1s z1h z1N z1r)
theorem Zc1 b0 b1 z12 z1a z1s z1h z1N z1r zS zP zu zn z1Z z23 (z6T : Z1i zu = true) (z5S : Z1i zn = true) (z6U : Z1i z1Z = true) : Sim Z2g (Z4y z12 z1a z1s z1h z1N z1r) (Zn5 0 (.ptr 1 0) (.ptr 2 0) [(Zo b0 zS zP), (Zc b1 zu zn), (Zbz z12 z1a z1s z1h z1N z1r z1Z z23)]) := by
 unfold Z4y
 refine zf (Zsd ..)<|ze<|zq<|zt [(Zo b0 zS zP), (Zbz z12 z1a z1s z1h z1N z1r (shrO z1Z) (shrO z23)), (Zbz z12 z1a z1s z1h z1N z1r z1Z z23)] ?_
 exact zr ((pA_ (Z1m (Z5.mk z12 z1a z1s z1h z1N z1r) .sh .sh)), [(Zo b0 zS zP), (Zbz z12 z1a z1s z1h z1N z1r (shrO z1Z) (shrO z23)), (Zbz z12 z1a z1s z1h z1N z1r z1Z z23)]) ⟨_, rfl⟩
def Z3w (x18 : List Z4) (x19 x20 z12 z1a z1s z1h : Int) (z1N : List Z4) (z1r : List Int) : Option Z5 :=
 if (decide (x20 < x19)) = true then
 (Z4x x18 x19 x20 z12 z1a z1s z1h z1N z1r)
 else
 (Z4y z12 z1a z1s z1h z1N z1r)
theorem ZbZ (x18 : List Z4) x19 x20 b0 b1 z12 z1a z1s z1h z1N z1r ox18 zS zP zu zn z1Z z23 (z6T : Z1i zu = true) (z5S : Z1i zn = true) (z6U : Z1i z1Z = true) : Sim Z2g (Z3w x18 x19 x20 z12 z1a z1s z1h z1N z1r) (Zh6 0 (.ptr 1 0) (.ptr 2 0) (Zh ox18 (x18.map Z2)) (iv x19) (iv x20) [(Zo b0 zS zP), (Zc b1 zu zn), (Zbz z12 z1a z1s z1h z1N z1r z1Z z23)]) := by
 unfold Z3w
 refine zf (Zsb ..)<|ze<|zq ?_
 refine za (decide (x20 < x19)) ?_ ?_
 ·exact zk (Zc0 x18 x19 x20 b0 b1 z12 z1a z1s z1h z1N z1r ox18 zS zP zu zn z1Z z23 z6T z5S z6U)
 ·exact zk (Zc1 b0 b1 z12 z1a z1s z1h z1N z1r zS zP zu zn z1Z z23 z6T z5S z6U)
theorem Z7R x18 x19 x20 z12 z1a z1s z1h z1N z1r {r} (h : Z3w x18 x19 x20 z12 z1a z1s z1h z1N z1r = some r) : Z3y x18 x19 x20 z12 z1a z1s z1h z1N z1r = some r :=
 ZM (fun _ _ ha hb => ru_ Z9i (ha default default .ex .ex .ex .ex .ex .ex .ex rfl rfl rfl) (hb default default .ex .ex .ex .ex .ex .ex .ex rfl rfl rfl)) (fun b0 b1 ox18 zS zP zu zn z1Z z23 z6T z5S z6U => ZbZ x18 x19 x20 b0 b1 z12 z1a z1s z1h z1N z1r ox18 zS zP zu zn z1Z z23 z6T z5S z6U r h)
def Z9D (x0 : List Z1) : Option (List Z1) :=
 Z6a x0 ([] : List Z1) 0
theorem Zi8 (x0 : List Z1) ox0 : Sim Z1n (Z9D x0) (EE 32 [(Zh ox0 (x0.map Zf))] []) := by
 unfold Z9D
 refine zf (ZvR ..)<|ze<|ze<|ze ?_
 exact zk (Zbk x0 ([] : List Z1) 0 ox0 .nl rfl)
theorem ZiE x0 {r} (h : Z9D x0 = some r) : Z9F x0 = some r :=
 ZM (fun _ _ ha hb => ru_ Z6v (ha .ex) (hb .ex)) (fun ox0 => Zi8 x0 ox0 r h)
def Z62 (x0 x3 : List Z1) (x4 : Int) : Option (List Z1) :=
 Z6a x0 x3 (IntKind.i64.wrap (x4 + 1))
theorem ZaG (x0 x3 : List Z1) x4 ox0 ox3 (hox3 : Z1i ox3 = true) : Sim Z1n (Z62 x0 x3 x4) (Zjo 0 (Zh ox0 (x0.map Zf)) (Zh ox3 (x3.map Zf)) (iv x4) []) := by
 unfold Z62
 refine zf (Zrn ..)<|ze<|zq ?_
 exact zk (Zbk x0 x3 (IntKind.i64.wrap (x4 + 1)) ox0 ox3 hox3)
def Z7G (x0 x3 : List Z1) (x4 : Int) : Option (List Z1) :=
 (lget x0 x4).bind fun a1 =>
 (Z6n a1).bind fun r2 =>
 if r2 = true then
 ((lget x0 x4).bind fun a3 =>
 (lapp x3 ([a3] : List Z1)).bind fun a4 =>
 Z62 x0 a4 x4)
 else
 ((lapp x3 ([(Z1.mk 0 0 0 0 ([] : List Zb))] : List Z1)).bind fun a5 =>
 Z62 x0 a5 x4)
theorem ZfL (x0 x3 : List Z1) x4 ox0 ox3 (hox3 : Z1i ox3 = true) : Sim Z1n (Z7G x0 x3 x4) (Zmk 0 (Zh ox0 (x0.map Zf)) (Zh ox3 (x3.map Zf)) (iv x4) []) := by
 unfold Z7G
 refine zf (Zro ..)<|ze<|zi fun a1 ha1 => zp (.cptr (ZO a1 .sh)) (et_ (Z1g (o := (shrO ox0)) (k := .i64) (n := 5) (e := Zf) (cs := Z2m) (fun _ => rfl) (fun _ => rfl) (by decide) ha1))<|zq<|zi fun r2 hr2 => ?_
 obtain ⟨_, er2, _, rfl⟩ := Zer a1 .sh r2 hr2
 refine zc [] (bv r2) [] er2 ?_
 refine za r2 ?_ ?_
 ·refine ze<|zi fun a3 ha3 => zp (.cptr (ZO a3 .sh)) (et_ (Z1g (o := (shrO ox0)) (k := .i64) (n := 5) (e := Zf) (cs := Z2m) (fun _ => rfl) (fun _ => rfl) (by decide) ha3))<|zq<|zq<|zi fun a4 ha4 => zp (Zh .un (a4.map Zf)) (Eq.trans (by kernel_rfl) <| Za6 (n := 5) (o := ox3) (o' := .ex) (e := Zf) (ys := ([a3] : List Z1)) (fun _ => rfl) (by decide) hox3 ha4) ?_
  exact zk (ZaG x0 a4 x4 ox0 .un rfl)
 ·refine ze<|zq<|zq<|zi fun a5 ha5 => zp (Zh .un (a5.map Zf)) (Eq.trans (by kernel_rfl) <| Za6 (n := 5) (o := ox3) (o' := .ex) (e := Zf) (ys := ([Zod] : List Z1)) (fun _ => rfl) (by decide) hox3 ha5) ?_
  exact zk (ZaG x0 a5 x4 ox0 .un rfl)
def Z7H (x3 : List Z1) : Option (List Z1) :=
 some x3
theorem ZfM (x3 : List Z1) ox3 (hox3 : Z1i ox3 = true) : Sim Z1n (Z7H x3) (Zml 0 (Zh ox3 (x3.map Zf)) []) := by
 unfold Z7H
 refine zf (Zrp ..)<|ze ?_
 exact zr ((Zh .sh (x3.map Zf)), []) ⟨_, rfl⟩
def Z61 (x0 x3 : List Z1) (x4 : Int) : Option (List Z1) :=
 if (decide (x4 < (x0.length : Int))) = true then
 (Z7G x0 x3 x4)
 else
 (Z7H x3)
theorem ZfK (x0 x3 : List Z1) x4 ox0 ox3 (hox3 : Z1i ox3 = true) : Sim Z1n (Z61 x0 x3 x4) (ZgP 0 (Zh ox0 (x0.map Zf)) (Zh ox3 (x3.map Zf)) (iv x4) []) := by
 unfold Z61
 refine zf (Zrm ..)<|ze<|zp (iv (x0.length : Int)) (et_ (ZU (P := PP) (t := 28) (d := 44) (by kernel_rfl) Zf (shrO ox0) x0))<|zq ?_
 refine za (decide (x4 < (x0.length : Int))) ?_ ?_
 ·exact zk (ZfL x0 x3 x4 ox0 ox3 hox3)
 ·exact zk (ZfM x3 ox3 hox3)
theorem Zbj x0 x3 x4 {r} (h : Z61 x0 x3 x4 = some r) : Z6a x0 x3 x4 = some r :=
 ZM (fun _ _ ha hb => ru_ Z6v (ha .ex .ex rfl) (hb .ex .ex rfl)) (fun ox0 ox3 hox3 => ZfK x0 x3 x4 ox0 ox3 hox3 r h)
def Z1k : Option Bool :=
 some false
theorem Z1q : Sim Z6 Z1k (Z8l 0 []) := by
 unfold Z1k
 refine zf (ZrL ..)<|ze ?_
 exact zr ((bv false), []) ⟨_, rfl⟩
def Z4X (b0 : Z1) : Option Bool :=
 Z2S 0 b0
theorem ZcF b0 zj : Sim Z6 (Z4X b0) (ZmI 0 (.ptr 0 0) [(ZI b0 zj)]) := by
 unfold Z4X
 refine zf (ZrM ..)<|ze ?_
 exact zk (Z8f 0 b0 zj)
def Z6j (x0 : Z1) : Option Bool :=
 if (decide (x0.View < 0)) = true then
 Z1k
 else
 (if (decide (1099511627776 < x0.View)) = true then
 Z1k
 else
 (if (decide (x0.Normal < 0)) = true then
 Z1k
 else
 (if (decide (x0.View < x0.Normal)) = true then
 Z1k
 else
 (if (decide (64 < (x0.Log.length : Int))) = true then
 Z1k
 else
 (if (decide (x0.Commit < 0)) = true then
 Z1k
 else
 (if (decide ((x0.Log.length : Int) < x0.Commit)) = true then
 Z1k
 else
 (if (decide (x0.Active < 0)) = true then
 Z1k
 else
 (if (decide (64 < x0.Active)) = true then
 Z1k
 else
 (Z4X x0)))))))))
theorem ZdX x0 zl : Sim Z6 (Z6j x0) (EE 50 [(pA_ (ZO x0 zl))] []) := by
 unfold Z6j
 refine zf (Zwc ..)<|ze<|zx (.ptr 0 0) [(ZI x0 zl)]<|ze<|zq<|zq<|zq ?_
 refine za (decide (x0.View < 0)) ?_ ?_
 ·exact zk Z1q
 ·refine zq<|zq<|zq ?_
  refine za (decide (1099511627776 < x0.View)) ?_ ?_
  ·exact zk Z1q
  ·refine zq<|zq<|zq ?_
   refine za (decide (x0.Normal < 0)) ?_ ?_
   ·exact zk Z1q
   ·refine zq<|zq<|zq<|zq<|zq ?_
    refine za (decide (x0.View < x0.Normal)) ?_ ?_
    ·exact zk Z1q
    ·refine zq<|zq<|zp (iv (x0.Log.length : Int)) (et_ (ZU (P := PP) (t := 42) (d := 95) (by kernel_rfl) Zg (shrO zl) x0.Log))<|zq ?_
     refine za (decide (64 < (x0.Log.length : Int))) ?_ ?_
     ·exact zk Z1q
     ·refine zq<|zq<|zq ?_
      refine za (decide (x0.Commit < 0)) ?_ ?_
      ·exact zk Z1q
      ·refine zq<|zq<|zq<|zq<|zp (iv (x0.Log.length : Int)) (et_ (ZU (P := PP) (t := 42) (d := 95) (by kernel_rfl) Zg (shrO zl) x0.Log))<|zq ?_
       refine za (decide ((x0.Log.length : Int) < x0.Commit)) ?_ ?_
       ·exact zk Z1q
       ·refine zq<|zq<|zq ?_
        refine za (decide (x0.Active < 0)) ?_ ?_
        ·exact zk Z1q
        ·refine zq<|zq<|zq ?_
         refine za (decide (64 < x0.Active)) ?_ ?_
         ·exact zk Z1q
         ·exact zk (ZcF x0 zl)
theorem Zeq x0 {r} (h : Z6j x0 = some r) : Z6n x0 = some r :=
 ZM (fun _ _ ha hb => ru_ ZE (ha .ex) (hb .ex)) (fun zl => ZdX x0 zl r h)
def Z4Y (x3 : Int) (b0 : Z1) : Option Bool :=
 Z2S (IntKind.i64.wrap (x3 + 1)) b0
theorem ZcG x3 b0 zj : Sim Z6 (Z4Y x3 b0) (ZmJ 0 (.ptr 0 0) (iv x3) [(ZI b0 zj)]) := by
 unfold Z4Y
 refine zf (ZrN ..)<|ze<|zq ?_
 exact zk (Z8f (IntKind.i64.wrap (x3 + 1)) b0 zj)
def Z4Z (x3 : Int) (b0 : Z1) : Option Bool :=
 (lget b0.Log x3).bind fun a1 =>
 (Z6l a1).bind fun r2 =>
 if (!r2) = true then
 (some false)
 else
 (Z4Y x3 b0)
theorem ZcH x3 b0 zj : Sim Z6 (Z4Z x3 b0) (ZmK 0 (.ptr 0 0) (iv x3) [(ZI b0 zj)]) := by
 unfold Z4Z
 refine zf (ZrO ..)<|ze<|zq<|zq<|zi fun a1 ha1 => zp (.cptr (Z1e a1 .sh .sh)) (et_ (Z1g (o := (shrO zj)) (k := .i64) (n := 9) (e := Zg) (cs := Z1l) (fun _ => rfl) (fun _ => rfl) (by decide) ha1))<|zq<|zi fun r2 hr2 => ?_
 obtain ⟨_, er2, _, rfl⟩ := Zep a1 .sh .sh r2 hr2
 refine zc [] (bv r2) [(ZI b0 zj)] er2<|zq ?_
 refine za (!r2) ?_ ?_
 ·refine ze ?_
  exact zr ((bv false), [(ZI b0 zj)]) ⟨_, rfl⟩
 ·exact zk (ZcG x3 b0 zj)
def Z50 : Option Bool :=
 some true
theorem ZcI : Sim Z6 Z50 (ZmL 0 []) := by
 unfold Z50
 refine zf (ZrP ..)<|ze ?_
 exact zr ((bv true), []) ⟨_, rfl⟩
def Z3M (x3 : Int) (b0 : Z1) : Option Bool :=
 if (decide (x3 < (b0.Log.length : Int))) = true then
 (Z4Z x3 b0)
 else
 Z50
theorem ZcE x3 b0 zj : Sim Z6 (Z3M x3 b0) (ZgX 0 (.ptr 0 0) (iv x3) [(ZI b0 zj)]) := by
 unfold Z3M
 refine zf (ZrK ..)<|ze<|zq<|zq<|zp (iv (b0.Log.length : Int)) (et_ (ZU (P := PP) (t := 42) (d := 95) (by kernel_rfl) Zg (shrO zj) b0.Log))<|zq ?_
 refine za (decide (x3 < (b0.Log.length : Int))) ?_ ?_
 ·exact zk (ZcH x3 b0 zj)
 ·exact zk ZcI
theorem Z8e x3 b0 {r} (h : Z3M x3 b0 = some r) : Z2S x3 b0 = some r :=
 ZM (fun _ _ ha hb => ru_ ZE (ha .ex) (hb .ex)) (fun zj => ZcE x3 b0 zj r h)
def Z1X : Option Bool :=
 some false
theorem Z2H : Sim Z6 Z1X (Zds 0 []) := by
 unfold Z1X
 refine zf (Zsh ..)<|ze ?_
 exact zr ((bv false), []) ⟨_, rfl⟩
def Z2l : Option Bool :=
 some false
theorem Z3V : Sim Z6 Z2l (ZeO 0 []) := by
 unfold Z2l
 refine zf (Zsj ..)<|ze ?_
 exact zr ((bv false), []) ⟨_, rfl⟩
def Z4U (b1 : Z5) : Option Bool :=
 Z2n 0 b1
theorem ZcB b0 b1 zB zy zu zn : Sim Z6 (Z4U b1) (Zna 0 (.ptr 1 0) [(ZL b0 zB zy), (Zc b1 zu zn)]) := by
 unfold Z4U
 refine zf (Zsk ..)<|ze ?_
 exact zk (Z8d 0 b0 b1 zB zy zu zn)
def Z4T (b1 : Z5) : Option Bool :=
 (Z2x b1.Default (-1) 1099511627776).bind fun r1 =>
 if (!r1) = true then
 Z2l
 else
 ((Z2x b1.Closed (-1) 1099511627776).bind fun r2 =>
 if (!r2) = true then
 Z2l
 else
 ((Z2x b1.Fuel (-1) 1099511627776).bind fun r3 =>
 if (!r3) = true then
 Z2l
 else
 ((Z2x b1.Stack (-1) 1099511627776).bind fun r4 =>
 if (!r4) = true then
 Z2l
 else
 (Z4U b1))))
theorem ZcA b0 b1 zB zy zu zn : Sim Z6 (Z4T b1) (Zn9 0 (.ptr 1 0) [(ZL b0 zB zy), (Zc b1 zu zn)]) := by
 unfold Z4T
 refine zf (Zsi ..)<|ze<|zq<|zq<|zi fun r1 hr1 => ?_
 obtain ⟨_, er1, _, rfl⟩ := Z2U b1.Default (-1) 1099511627776 r1 hr1
 refine zc [] (bv r1) [(ZL b0 zB zy), (Zc b1 zu zn)] er1<|zq ?_
 refine za (!r1) ?_ ?_
 ·exact zk Z3V
 ·refine zq<|zq<|zi fun r2 hr2 => ?_
  obtain ⟨_, er2, _, rfl⟩ := Z2U b1.Closed (-1) 1099511627776 r2 hr2
  refine zc [] (bv r2) [(ZL b0 zB zy), (Zc b1 zu zn)] er2<|zq ?_
  refine za (!r2) ?_ ?_
  ·exact zk Z3V
  ·refine zq<|zq<|zi fun r3 hr3 => ?_
   obtain ⟨_, er3, _, rfl⟩ := Z2U b1.Fuel (-1) 1099511627776 r3 hr3
   refine zc [] (bv r3) [(ZL b0 zB zy), (Zc b1 zu zn)] er3<|zq ?_
   refine za (!r3) ?_ ?_
   ·exact zk Z3V
   ·refine zq<|zq<|zi fun r4 hr4 => ?_
    obtain ⟨_, er4, _, rfl⟩ := Z2U b1.Stack (-1) 1099511627776 r4 hr4
    refine zc [] (bv r4) [(ZL b0 zB zy), (Zc b1 zu zn)] er4<|zq ?_
    refine za (!r4) ?_ ?_
    ·exact zk Z3V
    ·exact zk (ZcB b0 b1 zB zy zu zn)
def Z6i (x0 : Zb) : Option Bool :=
 (Z2x x0.View 0 1099511627776).bind fun r1 =>
 if (!r1) = true then
 Z1X
 else
 ((Z2x x0.Client 1 1099511627776).bind fun r2 =>
 if (!r2) = true then
 Z1X
 else
 ((Z2x x0.Request 1 1099511627776).bind fun r3 =>
 if (!r3) = true then
 Z1X
 else
 (if (decide (16 < (x0.Delta.Put.length : Int))) = true then
 Z1X
 else
 (if (decide (16 < (x0.Delta.Drop.length : Int))) = true then
 Z1X
 else
 (Z4T x0.Delta)))))
theorem ZdW x0 z9 z7 : Sim Z6 (Z6i x0) (EE 68 [(pA_ (Z1e x0 z9 z7))] []) := by
 unfold Z6i
 refine zf (Zwy ..)<|ze<|zx (.ptr 0 0) [(ZL x0 z9 z7)]<|ze<|zq<|zq<|zz (.ptr 1 0) [(ZL x0 z9 z7), (Zc Zl2 .nl .nl)]<|zt [(ZL x0 z9 z7), (Zc x0.Delta (shrO z9) (shrO z7))]<|ze<|zq<|zq<|zi fun r1 hr1 => ?_
 obtain ⟨_, er1, _, rfl⟩ := Z2U x0.View 0 1099511627776 r1 hr1
 refine zc [] (bv r1) [(ZL x0 z9 z7), (Zc x0.Delta (shrO z9) (shrO z7))] er1<|zq ?_
 refine za (!r1) ?_ ?_
 ·exact zk Z2H
 ·refine zq<|zq<|zi fun r2 hr2 => ?_
  obtain ⟨_, er2, _, rfl⟩ := Z2U x0.Client 1 1099511627776 r2 hr2
  refine zc [] (bv r2) [(ZL x0 z9 z7), (Zc x0.Delta (shrO z9) (shrO z7))] er2<|zq ?_
  refine za (!r2) ?_ ?_
  ·exact zk Z2H
  ·refine zq<|zq<|zi fun r3 hr3 => ?_
   obtain ⟨_, er3, _, rfl⟩ := Z2U x0.Request 1 1099511627776 r3 hr3
   refine zc [] (bv r3) [(ZL x0 z9 z7), (Zc x0.Delta (shrO z9) (shrO z7))] er3<|zq ?_
   refine za (!r3) ?_ ?_
   ·exact zk Z2H
   ·refine zq<|zq<|zp (iv (x0.Delta.Put.length : Int)) (et_ (ZU (P := PP) (t := 53) (d := 103) (by kernel_rfl) Z2 (shrO (shrO z9)) x0.Delta.Put))<|zq ?_
    refine za (decide (16 < (x0.Delta.Put.length : Int))) ?_ ?_
    ·exact zk Z2H
    ·refine zq<|zq<|zp (iv (x0.Delta.Drop.length : Int)) (et_ (ZU (P := PP) (t := 77) (d := 3) (by kernel_rfl) (eI .i64) (shrO (shrO z7)) x0.Delta.Drop))<|zq ?_
     refine za (decide (16 < (x0.Delta.Drop.length : Int))) ?_ ?_
     ·exact zk Z2H
     ·exact zk (ZcA x0 x0.Delta z9 z7 (shrO z9) (shrO z7))
theorem Zeo x0 {r} (h : Z6i x0 = some r) : Z6l x0 = some r :=
 ZM (fun _ _ ha hb => ru_ ZE (ha .ex .ex) (hb .ex .ex)) (fun z9 z7 => ZdW x0 z9 z7 r h)
def Z4V (x4 : Int) (b1 : Z5) : Option Bool :=
 Z2n (IntKind.i64.wrap (x4 + 1)) b1
theorem ZcC x4 b0 b1 zB zy zu zn : Sim Z6 (Z4V x4 b1) (Znb 0 (.ptr 1 0) (iv x4) [(ZL b0 zB zy), (Zc b1 zu zn)]) := by
 unfold Z4V
 refine zf (Zsl ..)<|ze<|zq ?_
 exact zk (Z8d (IntKind.i64.wrap (x4 + 1)) b0 b1 zB zy zu zn)
def Z4W (x4 : Int) (b1 : Z5) : Option Bool :=
 (lget b1.Put x4).bind fun a1 =>
 (Z6L a1).bind fun r2 =>
 if (!r2) = true then
 (some false)
 else
 (Z4V x4 b1)
theorem ZcD x4 b0 b1 zB zy zu zn : Sim Z6 (Z4W x4 b1) (Znc 0 (.ptr 1 0) (iv x4) [(ZL b0 zB zy), (Zc b1 zu zn)]) := by
 unfold Z4W
 refine zf (Zsm ..)<|ze<|zq<|zq<|zi fun a1 ha1 => zp (.cptr (ZJ a1)) (et_ (Z1g (o := (shrO zu)) (k := .i64) (n := 5) (e := Z2) (cs := Z1o) (fun _ => rfl) (fun _ => rfl) (by decide) ha1))<|zq<|zi fun r2 hr2 => ?_
 obtain ⟨_, er2, _, rfl⟩ := ZeZ a1 r2 hr2
 refine zc [] (bv r2) [(ZL b0 zB zy), (Zc b1 zu zn)] er2<|zq ?_
 refine za (!r2) ?_ ?_
 ·refine ze ?_
  exact zr ((bv false), [(ZL b0 zB zy), (Zc b1 zu zn)]) ⟨_, rfl⟩
 ·exact zk (ZcC x4 b0 b1 zB zy zu zn)
def Z4A (b1 : Z5) : Option Bool :=
 Z3z 0 b1
theorem Zc7 b0 b1 zB zy zu zn : Sim Z6 (Z4A b1) (ZkG 0 (.ptr 1 0) [(ZL b0 zB zy), (Zc b1 zu zn)]) := by
 unfold Z4A
 refine zf (ZpM ..)<|ze ?_
 exact zk (Z7U 0 b0 b1 zB zy zu zn)
def Z3L (x4 : Int) (b1 : Z5) : Option Bool :=
 if (decide (x4 < (b1.Put.length : Int))) = true then
 (Z4W x4 b1)
 else
 (Z4A b1)
theorem Zcz x4 b0 b1 zB zy zu zn : Sim Z6 (Z3L x4 b1) (Zh7 0 (.ptr 1 0) (iv x4) [(ZL b0 zB zy), (Zc b1 zu zn)]) := by
 unfold Z3L
 refine zf (Zsg ..)<|ze<|zq<|zq<|zp (iv (b1.Put.length : Int)) (et_ (ZU (P := PP) (t := 53) (d := 103) (by kernel_rfl) Z2 (shrO zu) b1.Put))<|zq ?_
 refine za (decide (x4 < (b1.Put.length : Int))) ?_ ?_
 ·exact zk (ZcD x4 b0 b1 zB zy zu zn)
 ·exact zk (Zc7 b0 b1 zB zy zu zn)
theorem Z8c x4 b1 {r} (h : Z3L x4 b1 = some r) : Z2n x4 b1 = some r :=
 ZM (fun _ _ ha hb => ru_ ZE (ha default .ex .ex .ex .ex) (hb default .ex .ex .ex .ex)) (fun b0 zB zy zu zn => Zcz x4 b0 b1 zB zy zu zn r h)
def Z4B (x5 : Int) (b1 : Z5) : Option Bool :=
 Z3z (IntKind.i64.wrap (x5 + 1)) b1
theorem Zc8 x5 b0 b1 zB zy zu zn : Sim Z6 (Z4B x5 b1) (ZkH 0 (.ptr 1 0) (iv x5) [(ZL b0 zB zy), (Zc b1 zu zn)]) := by
 unfold Z4B
 refine zf (ZpN ..)<|ze<|zq ?_
 exact zk (Z7U (IntKind.i64.wrap (x5 + 1)) b0 b1 zB zy zu zn)
def Z4C (x5 : Int) (b1 : Z5) : Option Bool :=
 (lget b1.Drop x5).bind fun a1 =>
 (Z2x a1 1 1099511627776).bind fun r2 =>
 if (!r2) = true then
 (some false)
 else
 (Z4B x5 b1)
theorem Zc9 x5 b0 b1 zB zy zu zn : Sim Z6 (Z4C x5 b1) (ZkI 0 (.ptr 1 0) (iv x5) [(ZL b0 zB zy), (Zc b1 zu zn)]) := by
 unfold Z4C
 refine zf (ZpO ..)<|ze<|zq<|zq<|zi fun a1 ha1 => zp (.cptr [(.v (.int .i64 a1))]) (et_ (Z1g (o := (shrO zn)) (k := .i64) (n := 1) (e := (eI .i64)) (cs := (fun a => [(eI .i64) a])) (fun _ => rfl) (fun _ => rfl) (by decide) ha1))<|zq<|zi fun r2 hr2 => ?_
 obtain ⟨_, er2, _, rfl⟩ := Z2U a1 1 1099511627776 r2 hr2
 refine zc [] (bv r2) [(ZL b0 zB zy), (Zc b1 zu zn)] er2<|zq ?_
 refine za (!r2) ?_ ?_
 ·refine ze ?_
  exact zr ((bv false), [(ZL b0 zB zy), (Zc b1 zu zn)]) ⟨_, rfl⟩
 ·exact zk (Zc8 x5 b0 b1 zB zy zu zn)
def Z4D : Option Bool :=
 some true
theorem Zca : Sim Z6 Z4D (ZkJ 0 []) := by
 unfold Z4D
 refine zf (ZpP ..)<|ze ?_
 exact zr ((bv true), []) ⟨_, rfl⟩
def Z3x (x5 : Int) (b1 : Z5) : Option Bool :=
 if (decide (x5 < (b1.Drop.length : Int))) = true then
 (Z4C x5 b1)
 else
 Z4D
theorem Zc6 x5 b0 b1 zB zy zu zn : Sim Z6 (Z3x x5 b1) (ZeN 0 (.ptr 1 0) (iv x5) [(ZL b0 zB zy), (Zc b1 zu zn)]) := by
 unfold Z3x
 refine zf (ZpL ..)<|ze<|zq<|zq<|zp (iv (b1.Drop.length : Int)) (et_ (ZU (P := PP) (t := 77) (d := 3) (by kernel_rfl) (eI .i64) (shrO zn) b1.Drop))<|zq ?_
 refine za (decide (x5 < (b1.Drop.length : Int))) ?_ ?_
 ·exact zk (Zc9 x5 b0 b1 zB zy zu zn)
 ·exact zk Zca
theorem Z7T x5 b1 {r} (h : Z3x x5 b1 = some r) : Z3z x5 b1 = some r :=
 ZM (fun _ _ ha hb => ru_ ZE (ha default .ex .ex .ex .ex) (hb default .ex .ex .ex .ex)) (fun b0 zB zy zu zn => Zc6 x5 b0 b1 zB zy zu zn r h)
end Go.Proofs.YtiigbcahdaoedaaGreatDoor.N2
end
