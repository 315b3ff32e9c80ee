/- The functions' typed texts. No condition. -/
import Derived.Test.YteoeggbihfnbfaaGreatDoorTypA

set_option linter.unusedSimpArgs false
set_option linter.unusedVariables false
set_option linter.defProp false
noncomputable section
namespace Go.Proofs.YteoeggbihfnbfaaGreatDoor.N2
open Go Go.Abs
set_option maxRecDepth 100000
def Z4m : Option Bool :=
 some true
theorem Z7y : Sim Z11 Z4m (Zsc 0 []) := by
 unfold Z4m
 refine zf (ZHB ..)<|ze ?_
 exact zr ((bv true), []) ⟨_, rfl⟩
def Z6h (x0 : List Z10) (x1 : List Int) : Option Bool :=
 (Zc8).bind fun r1 =>
 (Zc8).bind fun r2 =>
 Z58 x0 x1 x0 (x0.length : Int) 0 r1.1 r1.2.1 r1.2.2 r2.1 r2.2.1 r2.2.2
theorem ZfF (x0 : List Z10) (x1 : List Int) ox0 ox1 : Sim Z11 (Z6h x0 x1) (ZAG 0 (ZL ox0 (x0.map Z1S)) (ZL ox1 (x1.map (eI .i64))) []) := by
 unfold Z6h
 refine zf (ZHC ..)<|ze<|zi fun r1 hr1 => ?_
 obtain ⟨_, er1, zkm, _, zvx, rfl, _⟩ := ZhH r1 hr1
 refine zc [] (.ptr 1 0) [(rM_ ZF r1.1), [(ZL zkm (r1.2.1.map ZH)), (.mp 0), (iv r1.2.2)]] er1<|zi fun r2 hr2 => ?_
 obtain ⟨_, er2, zEw, _, zKd, rfl, _⟩ := ZhH r2 hr2
 refine zc [] (.ptr 3 0) [(rM_ ZF r1.1), [(ZL zkm (r1.2.1.map ZH)), (.mp 0), (iv r1.2.2)], (rM_ ZF r2.1), [(ZL zEw (r2.2.1.map ZH)), (.mp 2), (iv r2.2.2)]] er2<|ze<|zp (iv (x0.length : Int)) (et_ (Z2M (P := PP) (t := 59) (d := 61) (by kernel_rfl) Z1S (shrO ox0) x0)) ?_
 exact zk (ZaL x0 x1 x0 (x0.length : Int) 0 r1.1 r1.2.1 r1.2.2 r2.1 r2.2.1 r2.2.2 ox0 ox1 (shrO ox0) zkm zEw zvx zKd)
def Z6g (x0 : List Z10) (x1 : List Int) : Option Bool :=
 (Z9w x0).bind fun r1 =>
 if (!r1) = true then
 Z4m
 else
 (if (decide (12 < (x0.length : Int))) = true then
 Z4m
 else
 (if (decide (20 < (x1.length : Int))) = true then
 Z4m
 else
 (Z6h x0 x1)))
theorem ZfE (x0 : List Z10) (x1 : List Int) ox0 ox1 : Sim Z11 (Z6g x0 x1) (ZAF 0 (ZL ox0 (x0.map Z1S)) (ZL ox1 (x1.map (eI .i64))) []) := by
 unfold Z6g
 refine zf (ZHA ..)<|ze<|zi fun r1 hr1 => ?_
 obtain ⟨_, er1, _, rfl⟩ := Zlv x0 .sh r1 hr1
 refine zc [] (bv r1) [] er1<|zq ?_
 refine za (!r1) ?_ ?_
 ·exact zk Z7y
 ·refine zp (iv (x0.length : Int)) (et_ (Z2M (P := PP) (t := 59) (d := 61) (by kernel_rfl) Z1S (shrO ox0) x0))<|zq ?_
  refine za (decide (12 < (x0.length : Int))) ?_ ?_
  ·exact zk Z7y
  ·refine zp (iv (x1.length : Int)) (et_ (Z2M (P := PP) (t := 27) (d := 3) (by kernel_rfl) (eI .i64) (shrO ox1) x1))<|zq ?_
   refine za (decide (20 < (x1.length : Int))) ?_ ?_
   ·exact zk Z7y
   ·exact zk (ZfF x0 x1 ox0 ox1)
def Z7r (x0 : List Z10) (x1 : List Int) : Option Bool :=
 (Za5).bind fun r1 =>
 if (!r1) = true then
 (some false)
 else
 (Z6g x0 x1)
theorem ZhB (x0 : List Z10) (x1 : List Int) ox0 ox1 : Sim Z11 (Z7r x0 x1) (EE 10 [(ZL ox0 (x0.map Z1S)), (ZL ox1 (x1.map (eI .i64)))] []) := by
 unfold Z7r
 refine zf (ZNF ..)<|ze<|ze<|zi fun r1 hr1 => ?_
 obtain ⟨_, er1, _, rfl⟩ := ZlU r1 hr1
 refine zc [] (bv r1) [] er1<|zq ?_
 refine za (!r1) ?_ ?_
 ·refine ze ?_
  exact zr ((bv false), []) ⟨_, rfl⟩
 ·exact zk (ZfE x0 x1 ox0 ox1)
theorem Zip x0 x1 {r} (h : Z7r x0 x1 = some r) : Z9P x0 x1 = some r :=
 Z1f (fun _ _ ha hb => ru_ Z2p (ha .ex .ex) (hb .ex .ex)) (fun ox0 ox1 => ZhB x0 x1 ox0 ox1 r h)
def Z66 : Option Bool :=
 some false
theorem Zag : Sim Z11 Z66 (Ztz 0 []) := by
 unfold Z66
 refine zf (ZFc ..)<|ze ?_
 exact zr ((bv false), []) ⟨_, rfl⟩
def Z31 (x0 : List Z10) (x1 : List Int) (x36 : List Z10) (x37 x38 : Int) (zU : List (Int × Z14)) (zZ : List ZE) (z3h : Int) (z16 : List (Int × Z14)) (z3a : List ZE) (z3t : Int) : Option Bool :=
 Z58 x0 x1 x36 x37 (IntKind.i64.wrap (x38 + 1)) zU zZ z3h z16 z3a z3t
theorem Z4q (x0 : List Z10) (x1 : List Int) (x36 : List Z10) x37 x38 zU (zZ : List ZE) z3h z16 (z3a : List ZE) z3t ox0 ox1 ox36 z3f z3r (z7n : ZV z3f = true) (z7M : ZV z3r = true) : Sim Z11 (Z31 x0 x1 x36 x37 x38 zU zZ z3h z16 z3a z3t) (ZjT 0 (ZL ox0 (x0.map Z1S)) (ZL ox1 (x1.map (eI .i64))) (.ptr 1 0) (.ptr 3 0) (ZL ox36 (x36.map Z1S)) (iv x37) (iv x38) [(rM_ ZF zU), [(ZL z3f (zZ.map ZH)), (.mp 0), (iv z3h)], (rM_ ZF z16), [(ZL z3r (z3a.map ZH)), (.mp 2), (iv z3t)]]) := by
 unfold Z31
 refine zf (ZFd ..)<|ze<|zq ?_
 exact zk (ZaL x0 x1 x36 x37 (IntKind.i64.wrap (x38 + 1)) zU zZ z3h z16 z3a z3t ox0 ox1 ox36 z3f z3r z7n z7M)
def Z65 (x0 : List Z10) (x1 : List Int) (x7 : Int) (x36 : List Z10) (x37 x38 : Int) (zU : List (Int × Z14)) (zZ : List ZE) (z3h : Int) (z16 : List (Int × Z14)) (z3a : List ZE) (z3t : Int) : Option Bool :=
 (lget x1 x7).bind fun a1 =>
 (lget x0 a1).bind fun a2 =>
 (Z3v a2 z3a z3t z16).bind fun r3 =>
 if (r3.2.1 == 0) = true then
 (if (r3.1.Verdict.Code != 31) = true then
 Z66
 else
 (if (r3.1.Version != 0) = true then
 Z66
 else
 (Z31 x0 x1 x36 x37 x38 zU zZ z3h r3.2.2.2.2 r3.2.2.1 r3.2.2.2.1)))
 else
 (Z31 x0 x1 x36 x37 x38 zU zZ z3h r3.2.2.2.2 r3.2.2.1 r3.2.2.2.1)
theorem ZeQ (x0 : List Z10) (x1 : List Int) x7 (x36 : List Z10) x37 x38 zU (zZ : List ZE) z3h z16 (z3a : List ZE) z3t ox0 ox1 ox36 z3f z3r (z7n : ZV z3f = true) (z7M : ZV z3r = true) : Sim Z11 (Z65 x0 x1 x7 x36 x37 x38 zU zZ z3h z16 z3a z3t) (ZxX 0 (ZL ox0 (x0.map Z1S)) (ZL ox1 (x1.map (eI .i64))) (.ptr 1 0) (.ptr 3 0) (iv x7) (ZL ox36 (x36.map Z1S)) (iv x37) (iv x38) [(rM_ ZF zU), [(ZL z3f (zZ.map ZH)), (.mp 0), (iv z3h)], (rM_ ZF z16), [(ZL z3r (z3a.map ZH)), (.mp 2), (iv z3t)]]) := by
 unfold Z65
 refine zf (ZFb ..)<|ze<|zi fun a1 ha1 => zp (.cptr [(.v (.int .i64 a1))]) (et_ (Z3u (o := (shrO ox1)) (k := .i64) (n := 1) (e := (eI .i64)) (cs := (fun a => [(eI .i64) a])) (fun _ => rfl) (fun _ => rfl) (by decide) ha1))<|zq<|zi fun a2 ha2 => zp (.cptr (Z3H a2 .sh .sh)) (et_ (Z3u (o := (shrO ox0)) (k := .i64) (n := 9) (e := Z1S) (cs := ZaA) (fun _ => rfl) (fun _ => rfl) (by decide) ha2))<|zq<|zi fun r3 hr3 => ?_
 obtain ⟨_, er3, z8L, _, zki, rfl⟩ := Z4Q a2 z3a z3t z16 .sh .sh z3r z7M r3 hr3
 refine zc [3, 2] (.p (.tup [(.agg (Z1Q r3.1)), (.v (.int .i64 r3.2.1))])) [(rM_ ZF zU), [(ZL z3f (zZ.map ZH)), (.mp 0), (iv z3h)], (rM_ ZF r3.2.2.2.2), [(ZL z8L (r3.2.2.1.map ZH)), (.mp 2), (iv r3.2.2.2.1)]] er3<|zq<|zq<|zz (.ptr 4 0) [(rM_ ZF zU), [(ZL z3f (zZ.map ZH)), (.mp 0), (iv z3h)], (rM_ ZF r3.2.2.2.2), [(ZL z8L (r3.2.2.1.map ZH)), (.mp 2), (iv r3.2.2.2.1)], (ZM Z9i)]<|zt [(rM_ ZF zU), [(ZL z3f (zZ.map ZH)), (.mp 0), (iv z3h)], (rM_ ZF r3.2.2.2.2), [(ZL z8L (r3.2.2.1.map ZH)), (.mp 2), (iv r3.2.2.2.1)], (ZM r3.1)]<|ze<|zq ?_
 refine za (r3.2.1 == 0) ?_ ?_
 ·refine zq<|zq<|zq<|zq ?_
  refine za (r3.1.Verdict.Code != 31) ?_ ?_
  ·exact zk Zag
  ·refine zq<|zq<|zq ?_
   refine za (r3.1.Version != 0) ?_ ?_
   ·exact zk Zag
   ·exact zk (Z4q x0 x1 x36 x37 x38 zU zZ z3h r3.2.2.2.2 r3.2.2.1 r3.2.2.2.1 ox0 ox1 ox36 z3f z8L z7n zki)
 ·exact zk (Z4q x0 x1 x36 x37 x38 zU zZ z3h r3.2.2.2.2 r3.2.2.1 r3.2.2.2.1 ox0 ox1 ox36 z3f z8L z7n zki)
def Z64 (x0 : List Z10) (x1 : List Int) (x7 : Int) (x36 : List Z10) (x37 x38 : Int) (zU : List (Int × Z14)) (zZ : List ZE) (z3h : Int) (z16 : List (Int × Z14)) (z3a : List ZE) (z3t : Int) : Option Bool :=
 if (decide (x7 < (x1.length : Int))) = true then
 ((lget x1 x7).bind fun a1 =>
 if (decide (0 ≤ a1)) = true then
 ((lget x1 x7).bind fun a2 =>
 if (decide (a2 ≤ x7)) = true then
 (Z65 x0 x1 x7 x36 x37 x38 zU zZ z3h z16 z3a z3t)
 else
 (Z31 x0 x1 x36 x37 x38 zU zZ z3h z16 z3a z3t))
 else
 (Z31 x0 x1 x36 x37 x38 zU zZ z3h z16 z3a z3t))
 else
 (Z31 x0 x1 x36 x37 x38 zU zZ z3h z16 z3a z3t)
theorem ZeP (x0 : List Z10) (x1 : List Int) x7 (x36 : List Z10) x37 x38 zU (zZ : List ZE) z3h z16 (z3a : List ZE) z3t ox0 ox1 ox36 z3f z3r (z7n : ZV z3f = true) (z7M : ZV z3r = true) : Sim Z11 (Z64 x0 x1 x7 x36 x37 x38 zU zZ z3h z16 z3a z3t) (ZxW 0 (ZL ox0 (x0.map Z1S)) (ZL ox1 (x1.map (eI .i64))) (.ptr 1 0) (.ptr 3 0) (iv x7) (ZL ox36 (x36.map Z1S)) (iv x37) (iv x38) [(rM_ ZF zU), [(ZL z3f (zZ.map ZH)), (.mp 0), (iv z3h)], (rM_ ZF z16), [(ZL z3r (z3a.map ZH)), (.mp 2), (iv z3t)]]) := by
 unfold Z64
 refine zf (ZFa ..)<|ze<|zp (iv (x1.length : Int)) (et_ (Z2M (P := PP) (t := 27) (d := 3) (by kernel_rfl) (eI .i64) (shrO ox1) x1))<|zq ?_
 refine za (decide (x7 < (x1.length : Int))) ?_ ?_
 ·refine zi fun a1 ha1 => zp (.cptr [(.v (.int .i64 a1))]) (et_ (Z3u (o := (shrO ox1)) (k := .i64) (n := 1) (e := (eI .i64)) (cs := (fun a => [(eI .i64) a])) (fun _ => rfl) (fun _ => rfl) (by decide) ha1))<|zq<|zq ?_
  refine za (decide (0 ≤ a1)) ?_ ?_
  ·refine zi fun a2 ha2 => zp (.cptr [(.v (.int .i64 a2))]) (et_ (Z3u (o := (shrO ox1)) (k := .i64) (n := 1) (e := (eI .i64)) (cs := (fun a => [(eI .i64) a])) (fun _ => rfl) (fun _ => rfl) (by decide) ha2))<|zq<|zq ?_
   refine za (decide (a2 ≤ x7)) ?_ ?_
   ·exact zk (ZeQ x0 x1 x7 x36 x37 x38 zU zZ z3h z16 z3a z3t ox0 ox1 ox36 z3f z3r z7n z7M)
   ·exact zk (Z4q x0 x1 x36 x37 x38 zU zZ z3h z16 z3a z3t ox0 ox1 ox36 z3f z3r z7n z7M)
  ·exact zk (Z4q x0 x1 x36 x37 x38 zU zZ z3h z16 z3a z3t ox0 ox1 ox36 z3f z3r z7n z7M)
 ·exact zk (Z4q x0 x1 x36 x37 x38 zU zZ z3h z16 z3a z3t ox0 ox1 ox36 z3f z3r z7n z7M)
def Z6i (x0 : List Z10) (x1 : List Int) (x36 : List Z10) (x37 x38 : Int) (zU : List (Int × Z14)) (zZ : List ZE) (z3h : Int) (z16 : List (Int × Z14)) (z3a : List ZE) (z3t : Int) : Option Bool :=
 (lget x36 x38).bind fun a1 =>
 (Z3v a1 zZ z3h zU).bind fun r2 =>
 (Z3v a1 z3a z3t z16).bind fun r3 =>
 if ((!((r2.1.Version == r3.1.Version) && ((r2.1.Verdict.Code == r3.1.Verdict.Code) && ((r2.1.Verdict.Rule == r3.1.Verdict.Rule) && ((r2.1.Verdict.At == r3.1.Verdict.At) && true)))))) = true then
 (some false)
 else
 (Z64 x0 x1 x38 x36 x37 x38 r2.2.2.2.2 r2.2.2.1 r2.2.2.2.1 r3.2.2.2.2 r3.2.2.1 r3.2.2.2.1)
theorem ZfG (x0 : List Z10) (x1 : List Int) (x36 : List Z10) x37 x38 zU (zZ : List ZE) z3h z16 (z3a : List ZE) z3t ox0 ox1 ox36 z3f z3r (z7n : ZV z3f = true) (z7M : ZV z3r = true) : Sim Z11 (Z6i x0 x1 x36 x37 x38 zU zZ z3h z16 z3a z3t) (ZAH 0 (ZL ox0 (x0.map Z1S)) (ZL ox1 (x1.map (eI .i64))) (.ptr 1 0) (.ptr 3 0) (ZL ox36 (x36.map Z1S)) (iv x37) (iv x38) [(rM_ ZF zU), [(ZL z3f (zZ.map ZH)), (.mp 0), (iv z3h)], (rM_ ZF z16), [(ZL z3r (z3a.map ZH)), (.mp 2), (iv z3t)]]) := by
 unfold Z6i
 refine zf (ZHD ..)<|ze<|zi fun a1 ha1 => zp (.cptr (Z3H a1 .sh .sh)) (et_ (Z3u (o := ox36) (k := .i64) (n := 9) (e := Z1S) (cs := ZaA) (fun _ => rfl) (fun _ => rfl) (by decide) ha1))<|zq<|zz (.ptr 4 0) [(rM_ ZF zU), [(ZL z3f (zZ.map ZH)), (.mp 0), (iv z3h)], (rM_ ZF z16), [(ZL z3r (z3a.map ZH)), (.mp 2), (iv z3t)], (Z1r ZL6 .nl .nl)]<|zt [(rM_ ZF zU), [(ZL z3f (zZ.map ZH)), (.mp 0), (iv z3h)], (rM_ ZF z16), [(ZL z3r (z3a.map ZH)), (.mp 2), (iv z3t)], (Z1r a1 .sh .sh)]<|ze<|zq<|zi fun r2 hr2 => ?_
 obtain ⟨_, er2, zik, _, zKg, rfl⟩ := Z4Q a1 zZ z3h zU .sh .sh z3f z7n r2 hr2
 refine zc [1, 0] (.p (.tup [(.agg (Z1Q r2.1)), (.v (.int .i64 r2.2.1))])) [(rM_ ZF r2.2.2.2.2), [(ZL zik (r2.2.2.1.map ZH)), (.mp 0), (iv r2.2.2.2.1)], (rM_ ZF z16), [(ZL z3r (z3a.map ZH)), (.mp 2), (iv z3t)], (Z1r a1 .sh .sh)] er2<|zq<|zq<|zz (.ptr 5 0) [(rM_ ZF r2.2.2.2.2), [(ZL zik (r2.2.2.1.map ZH)), (.mp 0), (iv r2.2.2.2.1)], (rM_ ZF z16), [(ZL z3r (z3a.map ZH)), (.mp 2), (iv z3t)], (Z1r a1 .sh .sh), (ZM Z9i)]<|zt [(rM_ ZF r2.2.2.2.2), [(ZL zik (r2.2.2.1.map ZH)), (.mp 0), (iv r2.2.2.2.1)], (rM_ ZF z16), [(ZL z3r (z3a.map ZH)), (.mp 2), (iv z3t)], (Z1r a1 .sh .sh), (ZM r2.1)]<|ze<|zq<|zi fun r3 hr3 => ?_
 obtain ⟨_, er3, z8L, _, zki, rfl⟩ := Z4Q a1 z3a z3t z16 .sh .sh z3r z7M r3 hr3
 refine zc [3, 2] (.p (.tup [(.agg (Z1Q r3.1)), (.v (.int .i64 r3.2.1))])) [(rM_ ZF r2.2.2.2.2), [(ZL zik (r2.2.2.1.map ZH)), (.mp 0), (iv r2.2.2.2.1)], (rM_ ZF r3.2.2.2.2), [(ZL z8L (r3.2.2.1.map ZH)), (.mp 2), (iv r3.2.2.2.1)], (Z1r a1 .sh .sh), (ZM r2.1)] er3<|zq<|zq<|zz (.ptr 6 0) [(rM_ ZF r2.2.2.2.2), [(ZL zik (r2.2.2.1.map ZH)), (.mp 0), (iv r2.2.2.2.1)], (rM_ ZF r3.2.2.2.2), [(ZL z8L (r3.2.2.1.map ZH)), (.mp 2), (iv r3.2.2.2.1)], (Z1r a1 .sh .sh), (ZM r2.1), (ZM Z9i)]<|zt [(rM_ ZF r2.2.2.2.2), [(ZL zik (r2.2.2.1.map ZH)), (.mp 0), (iv r2.2.2.2.1)], (rM_ ZF r3.2.2.2.2), [(ZL z8L (r3.2.2.1.map ZH)), (.mp 2), (iv r3.2.2.2.1)], (Z1r a1 .sh .sh), (ZM r2.1), (ZM r3.1)]<|ze<|zq<|zq<|zp (bv (!((r2.1.Version == r3.1.Version) && ((r2.1.Verdict.Code == r3.1.Verdict.Code) && ((r2.1.Verdict.Rule == r3.1.Verdict.Rule) && ((r2.1.Verdict.At == r3.1.Verdict.At) && true)))))) (Eq.trans (b := xbin PP .neq 66 (pA_ (Z1Q r2.1)) (pA_ (Z1Q r3.1))) (by kernel_rfl) (ZL4 (by kernel_rfl) (by kernel_rfl) (by kernel_rfl) (by kernel_rfl) (by kernel_rfl))) ?_
 refine za ((!((r2.1.Version == r3.1.Version) && ((r2.1.Verdict.Code == r3.1.Verdict.Code) && ((r2.1.Verdict.Rule == r3.1.Verdict.Rule) && ((r2.1.Verdict.At == r3.1.Verdict.At) && true)))))) ?_ ?_
 ·refine ze ?_
  exact zr ((bv false), [(rM_ ZF r2.2.2.2.2), [(ZL zik (r2.2.2.1.map ZH)), (.mp 0), (iv r2.2.2.2.1)], (rM_ ZF r3.2.2.2.2), [(ZL z8L (r3.2.2.1.map ZH)), (.mp 2), (iv r3.2.2.2.1)], (Z1r a1 .sh .sh), (ZM r2.1), (ZM r3.1)]) ⟨_, rfl⟩
 ·exact zk (ZeP x0 x1 x38 x36 x37 x38 r2.2.2.2.2 r2.2.2.1 r2.2.2.2.1 r3.2.2.2.2 r3.2.2.1 r3.2.2.2.1 ox0 ox1 ox36 zik z8L zKg zki)
def Z4W (zZ z3a : List ZE) : Option Bool :=
 (Z3E zZ).bind fun r1 =>
 (Z6P r1 zZ).bind fun r2 =>
 (Z3E z3a).bind fun r3 =>
 (Z6P r3 z3a).bind fun r4 =>
 (Z3E zZ).bind fun r5 =>
 (Z3E z3a).bind fun r6 =>
 if (r5 == r6) = true then
 ((Zah r2.1).bind fun r7 =>
 (Zah r4.1).bind fun r8 =>
 (Zf3 r7 r8).bind fun r9 =>
 some r9)
 else
 (some false)
theorem ZeR zU (zZ : List ZE) z3h z16 (z3a : List ZE) z3t z3f z3r (z7n : ZV z3f = true) (z7M : ZV z3r = true) : Sim Z11 (Z4W zZ z3a) (ZxY 0 (.ptr 1 0) (.ptr 3 0) [(rM_ ZF zU), [(ZL z3f (zZ.map ZH)), (.mp 0), (iv z3h)], (rM_ ZF z16), [(ZL z3r (z3a.map ZH)), (.mp 2), (iv z3t)]]) := by
 unfold Z4W
 refine zf (ZFe ..)<|ze<|zi fun r1 hr1 => ?_
 obtain ⟨_, er1, _, rfl⟩ := Z50 zZ z3h zU z3f z7n r1 hr1
 refine zc [1, 0] (iv r1) [(rM_ ZF zU), [(ZL z3f (zZ.map ZH)), (.mp 0), (iv z3h)], (rM_ ZF z16), [(ZL z3r (z3a.map ZH)), (.mp 2), (iv z3t)]] er1<|zi fun r2 hr2 => ?_
 obtain ⟨_, er2, _, rfl⟩ := Zdl r1 zZ z3h zU z3f z7n r2 hr2
 refine zc [1, 0] (.p (.tup [(.agg (Z1C r2.1 .sh)), (.v (.bool r2.2))])) [(rM_ ZF zU), [(ZL z3f (zZ.map ZH)), (.mp 0), (iv z3h)], (rM_ ZF z16), [(ZL z3r (z3a.map ZH)), (.mp 2), (iv z3t)]] er2<|zq<|zq<|zz (.ptr 4 0) [(rM_ ZF zU), [(ZL z3f (zZ.map ZH)), (.mp 0), (iv z3h)], (rM_ ZF z16), [(ZL z3r (z3a.map ZH)), (.mp 2), (iv z3t)], (ZB Z4j .nl)]<|zt [(rM_ ZF zU), [(ZL z3f (zZ.map ZH)), (.mp 0), (iv z3h)], (rM_ ZF z16), [(ZL z3r (z3a.map ZH)), (.mp 2), (iv z3t)], (ZB r2.1 .sh)]<|ze<|zi fun r3 hr3 => ?_
 obtain ⟨_, er3, _, rfl⟩ := Z50 z3a z3t z16 z3r z7M r3 hr3
 refine zc [3, 2] (iv r3) [(rM_ ZF zU), [(ZL z3f (zZ.map ZH)), (.mp 0), (iv z3h)], (rM_ ZF z16), [(ZL z3r (z3a.map ZH)), (.mp 2), (iv z3t)], (ZB r2.1 .sh)] er3<|zi fun r4 hr4 => ?_
 obtain ⟨_, er4, _, rfl⟩ := Zdl r3 z3a z3t z16 z3r z7M r4 hr4
 refine zc [3, 2] (.p (.tup [(.agg (Z1C r4.1 .sh)), (.v (.bool r4.2))])) [(rM_ ZF zU), [(ZL z3f (zZ.map ZH)), (.mp 0), (iv z3h)], (rM_ ZF z16), [(ZL z3r (z3a.map ZH)), (.mp 2), (iv z3t)], (ZB r2.1 .sh)] er4<|zq<|zq<|zz (.ptr 5 0) [(rM_ ZF zU), [(ZL z3f (zZ.map ZH)), (.mp 0), (iv z3h)], (rM_ ZF z16), [(ZL z3r (z3a.map ZH)), (.mp 2), (iv z3t)], (ZB r2.1 .sh), (ZB Z4j .nl)]<|zt [(rM_ ZF zU), [(ZL z3f (zZ.map ZH)), (.mp 0), (iv z3h)], (rM_ ZF z16), [(ZL z3r (z3a.map ZH)), (.mp 2), (iv z3t)], (ZB r2.1 .sh), (ZB r4.1 .sh)]<|ze<|zi fun r5 hr5 => ?_
 obtain ⟨_, er5, _, rfl⟩ := Z50 zZ z3h zU z3f z7n r5 hr5
 refine zc [1, 0] (iv r5) [(rM_ ZF zU), [(ZL z3f (zZ.map ZH)), (.mp 0), (iv z3h)], (rM_ ZF z16), [(ZL z3r (z3a.map ZH)), (.mp 2), (iv z3t)], (ZB r2.1 .sh), (ZB r4.1 .sh)] er5<|zi fun r6 hr6 => ?_
 obtain ⟨_, er6, _, rfl⟩ := Z50 z3a z3t z16 z3r z7M r6 hr6
 refine zc [3, 2] (iv r6) [(rM_ ZF zU), [(ZL z3f (zZ.map ZH)), (.mp 0), (iv z3h)], (rM_ ZF z16), [(ZL z3r (z3a.map ZH)), (.mp 2), (iv z3t)], (ZB r2.1 .sh), (ZB r4.1 .sh)] er6<|zq ?_
 refine za (r5 == r6) ?_ ?_
 ·refine zq<|zi fun r7 hr7 => ?_
  obtain ⟨_, er7, _, rfl⟩ := Zi9 r2.1 .sh r7 hr7
  refine zc [] (pA_ (Z4k r7 .sh)) [(rM_ ZF zU), [(ZL z3f (zZ.map ZH)), (.mp 0), (iv z3h)], (rM_ ZF z16), [(ZL z3r (z3a.map ZH)), (.mp 2), (iv z3t)], (ZB r2.1 .sh), (ZB r4.1 .sh)] er7<|zq<|zi fun r8 hr8 => ?_
  obtain ⟨_, er8, _, rfl⟩ := Zi9 r4.1 .sh r8 hr8
  refine zc [] (pA_ (Z4k r8 .sh)) [(rM_ ZF zU), [(ZL z3f (zZ.map ZH)), (.mp 0), (iv z3h)], (rM_ ZF z16), [(ZL z3r (z3a.map ZH)), (.mp 2), (iv z3t)], (ZB r2.1 .sh), (ZB r4.1 .sh)] er8<|zi fun r9 hr9 => ?_
  obtain ⟨_, er9, _, rfl⟩ := ZwY r7 r8 .sh .sh r9 hr9
  refine zc [] (bv r9) [(rM_ ZF zU), [(ZL z3f (zZ.map ZH)), (.mp 0), (iv z3h)], (rM_ ZF z16), [(ZL z3r (z3a.map ZH)), (.mp 2), (iv z3t)], (ZB r2.1 .sh), (ZB r4.1 .sh)] er9<|zg ?_
  exact zr ((bv r9), [(rM_ ZF zU), [(ZL z3f (zZ.map ZH)), (.mp 0), (iv z3h)], (rM_ ZF z16), [(ZL z3r (z3a.map ZH)), (.mp 2), (iv z3t)], (ZB r2.1 .sh), (ZB r4.1 .sh)]) ⟨_, rfl⟩
 ·refine zg ?_
  exact zr ((bv false), [(rM_ ZF zU), [(ZL z3f (zZ.map ZH)), (.mp 0), (iv z3h)], (rM_ ZF z16), [(ZL z3r (z3a.map ZH)), (.mp 2), (iv z3t)], (ZB r2.1 .sh), (ZB r4.1 .sh)]) ⟨_, rfl⟩
def Z55 (x0 : List Z10) (x1 : List Int) (x36 : List Z10) (x37 x38 : Int) (zU : List (Int × Z14)) (zZ : List ZE) (z3h : Int) (z16 : List (Int × Z14)) (z3a : List ZE) (z3t : Int) : Option Bool :=
 if (decide (x38 < x37)) = true then
 (Z6i x0 x1 x36 x37 x38 zU zZ z3h z16 z3a z3t)
 else
 (Z4W zZ z3a)
theorem ZfD (x0 : List Z10) (x1 : List Int) (x36 : List Z10) x37 x38 zU (zZ : List ZE) z3h z16 (z3a : List ZE) z3t ox0 ox1 ox36 z3f z3r (z7n : ZV z3f = true) (z7M : ZV z3r = true) : Sim Z11 (Z55 x0 x1 x36 x37 x38 zU zZ z3h z16 z3a z3t) (Zsb 0 (ZL ox0 (x0.map Z1S)) (ZL ox1 (x1.map (eI .i64))) (.ptr 1 0) (.ptr 3 0) (ZL ox36 (x36.map Z1S)) (iv x37) (iv x38) [(rM_ ZF zU), [(ZL z3f (zZ.map ZH)), (.mp 0), (iv z3h)], (rM_ ZF z16), [(ZL z3r (z3a.map ZH)), (.mp 2), (iv z3t)]]) := by
 unfold Z55
 refine zf (ZHz ..)<|ze<|zq ?_
 refine za (decide (x38 < x37)) ?_ ?_
 ·exact zk (ZfG x0 x1 x36 x37 x38 zU zZ z3h z16 z3a z3t ox0 ox1 ox36 z3f z3r z7n z7M)
 ·exact zk (ZeR zU zZ z3h z16 z3a z3t z3f z3r z7n z7M)
theorem ZaK x0 x1 x36 x37 x38 zU zZ z3h z16 z3a z3t {r} (h : Z55 x0 x1 x36 x37 x38 zU zZ z3h z16 z3a z3t = some r) : Z58 x0 x1 x36 x37 x38 zU zZ z3h z16 z3a z3t = some r :=
 Z1f (fun _ _ ha hb => ru_ Z2p (ha .ex .ex .ex .ex .ex rfl rfl) (hb .ex .ex .ex .ex .ex rfl rfl)) (fun ox0 ox1 ox36 z3f z3r z7n z7M => ZfD x0 x1 x36 x37 x38 zU zZ z3h z16 z3a z3t ox0 ox1 ox36 z3f z3r z7n z7M r h)
def Za0 : Option Bool :=
 (Zc8).bind fun r1 =>
 (Z6A 1 1 3 (ByteArray.mk #[97])).bind fun r2 =>
 (Z3v r2 r1.2.1 r1.2.2 r1.1).bind fun r3 =>
 (Z6A 1 1 3 (ByteArray.mk #[97])).bind fun r4 =>
 (Z3v r4 r3.2.2.1 r3.2.2.2.1 r3.2.2.2.2).bind fun r5 =>
 (Z6A 1 2 4 (ByteArray.mk #[40])).bind fun r6 =>
 (Z3v r6 r5.2.2.1 r5.2.2.2.1 r5.2.2.2.2).bind fun r7 =>
 if (r3.2.1 == 0) = true then
 (if (r5.2.1 == 0) = true then
 (if (r7.2.1 == 0) = true then
 (if (((r3.1.Version == 1) && ((r3.1.Verdict.Code == 0) && ((r3.1.Verdict.Rule == 0) && ((r3.1.Verdict.At == 0) && true))))) = true then
 (if (r5.1.Verdict.Code == 31) = true then
 (if ((r7.1.Verdict.Code == 20) && ((r7.1.Verdict.Rule == 4) && ((r7.1.Verdict.At == 0) && true))) = true then
 ((Z3E r7.2.2.1).bind fun r8 =>
 some (r8 == 1))
 else
 (some false))
 else
 (some false))
 else
 (some false))
 else
 (some false))
 else
 (some false))
 else
 (some false)
theorem Zlt : Sim Z11 Za0 (EE 29 [] []) := by
 unfold Za0
 refine zf (ZOf ..)<|ze<|ze<|zi fun r1 hr1 => ?_
 obtain ⟨_, er1, zkm, _, zvx, rfl, _⟩ := ZhH r1 hr1
 refine zc [] (.ptr 1 0) [(rM_ ZF r1.1), [(ZL zkm (r1.2.1.map ZH)), (.mp 0), (iv r1.2.2)]] er1<|ze<|zi fun r2 hr2 => ?_
 obtain ⟨_, er2, _, rfl⟩ := ZcJ 1 1 3 (ByteArray.mk #[97]) r2 hr2
 refine zc [] (pA_ (Z3H r2 .sh .sh)) [(rM_ ZF r1.1), [(ZL zkm (r1.2.1.map ZH)), (.mp 0), (iv r1.2.2)]] er2<|zi fun r3 hr3 => ?_
 obtain ⟨_, er3, z8L, _, zki, rfl⟩ := Z4Q r2 r1.2.1 r1.2.2 r1.1 .sh .sh zkm zvx r3 hr3
 refine zc [1, 0] (.p (.tup [(.agg (Z1Q r3.1)), (.v (.int .i64 r3.2.1))])) [(rM_ ZF r3.2.2.2.2), [(ZL z8L (r3.2.2.1.map ZH)), (.mp 0), (iv r3.2.2.2.1)]] er3<|zq<|zq<|zz (.ptr 2 0) [(rM_ ZF r3.2.2.2.2), [(ZL z8L (r3.2.2.1.map ZH)), (.mp 0), (iv r3.2.2.2.1)], (ZM Z9i)]<|zt [(rM_ ZF r3.2.2.2.2), [(ZL z8L (r3.2.2.1.map ZH)), (.mp 0), (iv r3.2.2.2.1)], (ZM r3.1)]<|ze<|zi fun r4 hr4 => ?_
 obtain ⟨_, er4, _, rfl⟩ := ZcJ 1 1 3 (ByteArray.mk #[97]) r4 hr4
 refine zc [] (pA_ (Z3H r4 .sh .sh)) [(rM_ ZF r3.2.2.2.2), [(ZL z8L (r3.2.2.1.map ZH)), (.mp 0), (iv r3.2.2.2.1)], (ZM r3.1)] er4<|zi fun r5 hr5 => ?_
 obtain ⟨_, er5, zpS, _, zKi, rfl⟩ := Z4Q r4 r3.2.2.1 r3.2.2.2.1 r3.2.2.2.2 .sh .sh z8L zki r5 hr5
 refine zc [1, 0] (.p (.tup [(.agg (Z1Q r5.1)), (.v (.int .i64 r5.2.1))])) [(rM_ ZF r5.2.2.2.2), [(ZL zpS (r5.2.2.1.map ZH)), (.mp 0), (iv r5.2.2.2.1)], (ZM r3.1)] er5<|zq<|zq<|zz (.ptr 3 0) [(rM_ ZF r5.2.2.2.2), [(ZL zpS (r5.2.2.1.map ZH)), (.mp 0), (iv r5.2.2.2.1)], (ZM r3.1), (ZM Z9i)]<|zt [(rM_ ZF r5.2.2.2.2), [(ZL zpS (r5.2.2.1.map ZH)), (.mp 0), (iv r5.2.2.2.1)], (ZM r3.1), (ZM r5.1)]<|ze<|zi fun r6 hr6 => ?_
 obtain ⟨_, er6, _, rfl⟩ := ZcJ 1 2 4 (ByteArray.mk #[40]) r6 hr6
 refine zc [] (pA_ (Z3H r6 .sh .sh)) [(rM_ ZF r5.2.2.2.2), [(ZL zpS (r5.2.2.1.map ZH)), (.mp 0), (iv r5.2.2.2.1)], (ZM r3.1), (ZM r5.1)] er6<|zi fun r7 hr7 => ?_
 obtain ⟨_, er7, zca, _, zKk, rfl⟩ := Z4Q r6 r5.2.2.1 r5.2.2.2.1 r5.2.2.2.2 .sh .sh zpS zKi r7 hr7
 refine zc [1, 0] (.p (.tup [(.agg (Z1Q r7.1)), (.v (.int .i64 r7.2.1))])) [(rM_ ZF r7.2.2.2.2), [(ZL zca (r7.2.2.1.map ZH)), (.mp 0), (iv r7.2.2.2.1)], (ZM r3.1), (ZM r5.1)] er7<|zq<|zq<|zz (.ptr 4 0) [(rM_ ZF r7.2.2.2.2), [(ZL zca (r7.2.2.1.map ZH)), (.mp 0), (iv r7.2.2.2.1)], (ZM r3.1), (ZM r5.1), (ZM Z9i)]<|zt [(rM_ ZF r7.2.2.2.2), [(ZL zca (r7.2.2.1.map ZH)), (.mp 0), (iv r7.2.2.2.1)], (ZM r3.1), (ZM r5.1), (ZM r7.1)]<|ze<|zq ?_
 refine za (r3.2.1 == 0) ?_ ?_
 ·refine zq ?_
  refine za (r5.2.1 == 0) ?_ ?_
  ·refine zq ?_
   refine za (r7.2.1 == 0) ?_ ?_
   ·refine zq<|zq<|zp (bv ((r3.1.Version == 1) && ((r3.1.Verdict.Code == 0) && ((r3.1.Verdict.Rule == 0) && ((r3.1.Verdict.At == 0) && true))))) (Eq.trans (b := xbin PP .eql 66 (pA_ (Z1Q r3.1)) (pA_ (Z1Q (Z1m.mk 1 Z7J)))) (by kernel_rfl) (ZL3 (by kernel_rfl) (by kernel_rfl) (by kernel_rfl) (by kernel_rfl) (by kernel_rfl))) ?_
    refine za (((r3.1.Version == 1) && ((r3.1.Verdict.Code == 0) && ((r3.1.Verdict.Rule == 0) && ((r3.1.Verdict.At == 0) && true))))) ?_ ?_
    ·refine zq<|zq<|zq<|zq ?_
     refine za (r5.1.Verdict.Code == 31) ?_ ?_
     ·refine zq<|zq<|zq<|zp (bv ((r7.1.Verdict.Code == 20) && ((r7.1.Verdict.Rule == 4) && ((r7.1.Verdict.At == 0) && true)))) (Eq.trans (b := xbin PP .eql 32 (pA_ (Z20 r7.1.Verdict)) (pA_ (Z20 (ZY.mk 20 4 0)))) (by kernel_rfl) (ZNu (by kernel_rfl) (by kernel_rfl) (by kernel_rfl) (by kernel_rfl) (by kernel_rfl))) ?_
      refine za ((r7.1.Verdict.Code == 20) && ((r7.1.Verdict.Rule == 4) && ((r7.1.Verdict.At == 0) && true))) ?_ ?_
      ·refine zi fun r8 hr8 => ?_
       obtain ⟨_, er8, _, rfl⟩ := Z50 r7.2.2.1 r7.2.2.2.1 r7.2.2.2.2 zca zKk r8 hr8
       refine zc [1, 0] (iv r8) [(rM_ ZF r7.2.2.2.2), [(ZL zca (r7.2.2.1.map ZH)), (.mp 0), (iv r7.2.2.2.1)], (ZM r3.1), (ZM r5.1), (ZM r7.1)] er8<|zq ?_
       exact zr ((bv (r8 == 1)), [(rM_ ZF r7.2.2.2.2), [(ZL zca (r7.2.2.1.map ZH)), (.mp 0), (iv r7.2.2.2.1)], (ZM r3.1), (ZM r5.1), (ZM r7.1)]) ⟨_, rfl⟩
      ·exact zr ((bv false), [(rM_ ZF r7.2.2.2.2), [(ZL zca (r7.2.2.1.map ZH)), (.mp 0), (iv r7.2.2.2.1)], (ZM r3.1), (ZM r5.1), (ZM r7.1)]) ⟨_, rfl⟩
     ·exact zr ((bv false), [(rM_ ZF r7.2.2.2.2), [(ZL zca (r7.2.2.1.map ZH)), (.mp 0), (iv r7.2.2.2.1)], (ZM r3.1), (ZM r5.1), (ZM r7.1)]) ⟨_, rfl⟩
    ·exact zr ((bv false), [(rM_ ZF r7.2.2.2.2), [(ZL zca (r7.2.2.1.map ZH)), (.mp 0), (iv r7.2.2.2.1)], (ZM r3.1), (ZM r5.1), (ZM r7.1)]) ⟨_, rfl⟩
   ·exact zr ((bv false), [(rM_ ZF r7.2.2.2.2), [(ZL zca (r7.2.2.1.map ZH)), (.mp 0), (iv r7.2.2.2.1)], (ZM r3.1), (ZM r5.1), (ZM r7.1)]) ⟨_, rfl⟩
  ·exact zr ((bv false), [(rM_ ZF r7.2.2.2.2), [(ZL zca (r7.2.2.1.map ZH)), (.mp 0), (iv r7.2.2.2.1)], (ZM r3.1), (ZM r5.1), (ZM r7.1)]) ⟨_, rfl⟩
 ·exact zr ((bv false), [(rM_ ZF r7.2.2.2.2), [(ZL zca (r7.2.2.1.map ZH)), (.mp 0), (iv r7.2.2.2.1)], (ZM r3.1), (ZM r5.1), (ZM r7.1)]) ⟨_, rfl⟩
theorem ZlT {r} (h : Za0 = some r) : Za5 = some r :=
 Z1f (fun _ _ ha hb => ru_ Z2p ha hb) (Zlt r h)
def Zhh : Option ((List (Int × Z14)) × (List ZE) × Int) :=
 (ZiY).bind fun r1 =>
 some (([] : List (Int × Z14)), ([r1] : List ZE), 0)
theorem Zun : Sim Zhd Zhh (EE 32 [] []) := by
 unfold Zhh
 refine zf (ZOl ..)<|ze<|ze<|zi fun r1 hr1 => ?_
 obtain ⟨_, er1, _, rfl⟩ := Zx2 r1 hr1
 refine zc [] (pA_ (Z1C r1 .sh)) [] er1<|zq<|zm (.mp 0) [(rM_ ZF ([] : List (Int × Z14)))]<|zq<|zx (.ptr 1 0) [(rM_ ZF ([] : List (Int × Z14))), [(ZL .ex (([r1] : List ZE).map ZH)), (.mp 0), (iv 0)]] ?_
 exact zr ((.ptr 1 0), [(rM_ ZF ([] : List (Int × Z14))), [(ZL .ex (([r1] : List ZE).map ZH)), (.mp 0), (iv 0)]]) ⟨.ex, [], rfl, rfl, rfl⟩
theorem Zvc {r} (h : Zhh = some r) : Zc8 = some r :=
 Z1f (fun _ _ ha hb => ru_ Zw3 ha hb) (Zun r h)
def Zmx : Option ZE :=
 some (ZE.mk 0 255 10000 500 ([] : List ZA))
theorem Zvl : Sim ZiH Zmx (EE 43 [] []) := by
 unfold Zmx
 refine zf (ZOr ..)<|ze<|zz (.ptr 0 0) [(ZB Z4j .nl)]<|ze<|zq<|zt [(Z2F 0 255 10000 500 ([] : List ZA) .nl)] ?_
 exact zr ((pA_ (Z1C (ZE.mk 0 255 10000 500 ([] : List ZA)) .sh)), [(Z2F 0 255 10000 500 ([] : List ZA) .nl)]) ⟨_, rfl⟩
theorem Zx1 {r} (h : Zmx = some r) : ZiY = some r :=
 Z1f (fun _ _ ha hb => ru_ ZxD ha hb) (Zvl r h)
def Zer (x0 x1 x2 : Int) (x3 : ByteArray) : Option Z10 :=
 some (Z10.mk 0 x0 x1 (Z1i.mk (-1) (-1) (-1) (-1) ([(ZA.mk x2 0 0 1 x3)] : List ZA) ([] : List Int)))
theorem Znl x0 x1 x2 x3 : Sim ZbN (Zer x0 x1 x2 x3) (EE 55 [(iv x0), (iv x1), (iv x2), (.p (.v (.string x3)))] []) := by
 unfold Zer
 refine zf (ZOB ..)<|ze<|zz (.ptr 0 0) [(Z1r ZL6 .nl .nl)]<|ze<|zq<|zq<|zq<|zq<|zt [(Z1r (Z10.mk 0 x0 x1 (Z1i.mk (-1) (-1) (-1) (-1) ([(ZA.mk x2 0 0 1 x3)] : List ZA) ([] : List Int))) .ex .nl)] ?_
 exact zr ((pA_ (Z3H (Z10.mk 0 x0 x1 (Z1i.mk (-1) (-1) (-1) (-1) ([(ZA.mk x2 0 0 1 x3)] : List ZA) ([] : List Int))) .sh .sh)), [(Z1r (Z10.mk 0 x0 x1 (Z1i.mk (-1) (-1) (-1) (-1) ([(ZA.mk x2 0 0 1 x3)] : List ZA) ([] : List Int))) .ex .nl)]) ⟨_, rfl⟩
theorem ZgH x0 x1 x2 x3 {r} (h : Zer x0 x1 x2 x3 = some r) : Z6A x0 x1 x2 x3 = some r :=
 Z1f (fun _ _ ha hb => ru_ ZoF ha hb) (Znl x0 x1 x2 x3 r h)
def Z9N (zU : List ZE) (z1W : Int) (zZ : List (Int × Z14)) : Option (Z1m × Int × (List ZE) × Int × (List (Int × Z14))) :=
 some ((Z1m.mk 0 (ZY.mk 31 0 0)), 0, zU, z1W, zZ)
theorem ZhD (zU : List ZE) z1W zZ b2 b3 z1E z38 z2V (z3K : ZV z1E = true) : Sim Z4G (Z9N zU z1W zZ) (ZBk 2 (.ptr 3 0) [[(ZL z1E (zU.map ZH)), (.mp 1), (iv z1W)], (rM_ ZF zZ), (Z1r b2 z38 z2V), (ZM b3)]) := by
 unfold Z9N
 refine zf (ZIs ..)<|ze<|zq<|zq<|zt [[(ZL z1E (zU.map ZH)), (.mp 1), (iv z1W)], (rM_ ZF zZ), (Z1r b2 z38 z2V), (ZM (Z1m.mk 0 (ZY.mk 31 0 0)))] ?_
 exact zr ((.p (.tup [(.agg (Z1Q (Z1m.mk 0 (ZY.mk 31 0 0)))), (.v (.int .i64 0))])), [[(ZL z1E (zU.map ZH)), (.mp 1), (iv z1W)], (rM_ ZF zZ), (Z1r b2 z38 z2V), (ZM (Z1m.mk 0 (ZY.mk 31 0 0)))]) ⟨z1E, _, z3K, rfl⟩
def Z4P (zU : List ZE) (z1W : Int) (zZ : List (Int × Z14)) (b2 : Z10) : Option (Z1m × Int × (List ZE) × Int × (List (Int × Z14))) :=
 (Z7z b2.Delta zU).bind fun r1 =>
 some (r1.1, 0, r1.2, z1W, (putM zZ b2.Client (Z14.mk b2.Request (Z1m.mk r1.1.Version (ZY.mk r1.1.Verdict.Code r1.1.Verdict.Rule r1.1.Verdict.At)))))
theorem Zbw (zU : List ZE) z1W zZ b2 b3 z1E z38 z2V (z3K : ZV z1E = true) : Sim Z4G (Z4P zU z1W zZ b2) (ZwB 2 (.ptr 0 0) (.ptr 2 0) (.ptr 3 0) [[(ZL z1E (zU.map ZH)), (.mp 1), (iv z1W)], (rM_ ZF zZ), (Z1r b2 z38 z2V), (ZM b3)]) := by
 unfold Z4P
 refine zf (ZIt ..)<|ze<|zq<|zq<|zi fun r1 hr1 => ?_
 obtain ⟨_, er1, zc9, _, zKf, rfl⟩ := Ziv b2.Delta zU z1W zZ .sh .sh z1E z3K r1 hr1
 refine zc [0, 1] (pA_ (Z1Q r1.1)) [[(ZL zc9 (r1.2.map ZH)), (.mp 1), (iv z1W)], (rM_ ZF zZ), (Z1r b2 z38 z2V), (ZM b3)] er1<|zz (.ptr 4 0) [[(ZL zc9 (r1.2.map ZH)), (.mp 1), (iv z1W)], (rM_ ZF zZ), (Z1r b2 z38 z2V), (ZM b3), (ZM Z9i)]<|zt [[(ZL zc9 (r1.2.map ZH)), (.mp 1), (iv z1W)], (rM_ ZF zZ), (Z1r b2 z38 z2V), (ZM b3), (ZM r1.1)]<|ze<|zq<|zq<|zq<|zq<|zq<|zq<|zq<|zq<|zq ?_
 refine Sim.xupd (B2 := [[(ZL zc9 (r1.2.map ZH)), (.mp 1), (iv z1W)], (rM_ ZF (putM zZ b2.Client (Z14.mk b2.Request (Z1m.mk r1.1.Version (ZY.mk r1.1.Verdict.Code r1.1.Verdict.Rule r1.1.Verdict.At))))), (Z1r b2 z38 z2V), (ZM b3), (ZM r1.1)]) (fun K => Eq.trans (b := xupd PP 122 (.mp 1) (iv b2.Client) (pA_ (ZeI (Z14.mk b2.Request (Z1m.mk r1.1.Version (ZY.mk r1.1.Verdict.Code r1.1.Verdict.Rule r1.1.Verdict.At))))) [[(ZL zc9 (r1.2.map ZH)), (.mp 1), (iv z1W)], (rM_ ZF zZ), (Z1r b2 z38 z2V), (ZM b3), (ZM r1.1)] K) (by kernel_rfl) <| Zug (P := PP) (t := 122) (K := K) (B2 := [[(ZL zc9 (r1.2.map ZH)), (.mp 1), (iv z1W)], (rM_ ZF (putM zZ b2.Client (Z14.mk b2.Request (Z1m.mk r1.1.Version (ZY.mk r1.1.Verdict.Code r1.1.Verdict.Rule r1.1.Verdict.At))))), (Z1r b2 z38 z2V), (ZM b3), (ZM r1.1)]) (e := ZF) (a := (Z14.mk b2.Request (Z1m.mk r1.1.Version (ZY.mk r1.1.Verdict.Code r1.1.Verdict.Rule r1.1.Verdict.At)))) (es := zZ) (te := 126) (by kernel_rfl) (by kernel_rfl) (by kernel_rfl) (by kernel_rfl) (by kernel_rfl)) ?_
 refine ze<|zq<|zt [[(ZL zc9 (r1.2.map ZH)), (.mp 1), (iv z1W)], (rM_ ZF (putM zZ b2.Client (Z14.mk b2.Request (Z1m.mk r1.1.Version (ZY.mk r1.1.Verdict.Code r1.1.Verdict.Rule r1.1.Verdict.At))))), (Z1r b2 z38 z2V), (ZM r1.1), (ZM r1.1)] ?_
 exact zr ((.p (.tup [(.agg (Z1Q r1.1)), (.v (.int .i64 0))])), [[(ZL zc9 (r1.2.map ZH)), (.mp 1), (iv z1W)], (rM_ ZF (putM zZ b2.Client (Z14.mk b2.Request (Z1m.mk r1.1.Version (ZY.mk r1.1.Verdict.Code r1.1.Verdict.Rule r1.1.Verdict.At))))), (Z1r b2 z38 z2V), (ZM r1.1), (ZM r1.1)]) ⟨zc9, _, zKf, rfl⟩
def Z4O (zU : List ZE) (z1W : Int) (zZ : List (Int × Z14)) (b2 : Z10) : Option (Z1m × Int × (List ZE) × Int × (List (Int × Z14))) :=
 if ((getM zZ b2.Client).isSome) = true then
 (if ((decide (b2.Request ≤ ((getM zZ b2.Client).getD (Z14.mk 0 (Z1m.mk 0 (ZY.mk 0 0 0)))).request))) = true then
 (Z9N zU (IntKind.i64.wrap (z1W + 1)) zZ)
 else
 (Z4P zU (IntKind.i64.wrap (z1W + 1)) zZ b2))
 else
 (Z4P zU (IntKind.i64.wrap (z1W + 1)) zZ b2)
theorem ZhC (zU : List ZE) z1W zZ b2 b3 z1E z38 z2V (z3K : ZV z1E = true) : Sim Z4G (Z4O zU z1W zZ b2) (ZBj 2 (.ptr 0 0) (.ptr 2 0) (.ptr 3 0) [[(ZL z1E (zU.map ZH)), (.mp 1), (iv z1W)], (rM_ ZF zZ), (Z1r b2 z38 z2V), (ZM b3)]) := by
 unfold Z4O
 refine zf (ZIr ..)<|ze<|zq<|zq<|zq<|zq<|zq<|zq<|zt [[(ZL z1E (zU.map ZH)), (.mp 1), (iv (IntKind.i64.wrap (z1W + 1)))], (rM_ ZF zZ), (Z1r b2 z38 z2V), (ZM b3)]<|ze<|zq<|zq<|zq<|zq<|zq<|zp (.p (.tup [(.agg (ZeI ((getM zZ b2.Client).getD (Z14.mk 0 Z9i)))), (.v (.bool (getM zZ b2.Client).isSome))])) (Eq.trans (b := Ze8 PP 122 true (.mp 1) (iv b2.Client) [[(ZL z1E (zU.map ZH)), (.mp 1), (iv (IntKind.i64.wrap (z1W + 1)))], (rM_ ZF zZ), (Z1r b2 z38 z2V), (ZM b3)]) (by kernel_rfl) <| (ZrA (e := ZF) (z := (Z14.mk 0 Z9i)) (es := zZ) (te := 126) (by kernel_rfl) (by kernel_rfl) (by kernel_rfl) true).trans (by kernel_rfl))<|zq<|zq<|zz (.ptr 4 0) [[(ZL z1E (zU.map ZH)), (.mp 1), (iv (IntKind.i64.wrap (z1W + 1)))], (rM_ ZF zZ), (Z1r b2 z38 z2V), (ZM b3), (Zo1 (Z14.mk 0 Z9i))]<|zt [[(ZL z1E (zU.map ZH)), (.mp 1), (iv (IntKind.i64.wrap (z1W + 1)))], (rM_ ZF zZ), (Z1r b2 z38 z2V), (ZM b3), (Zo1 ((getM zZ b2.Client).getD (Z14.mk 0 Z9i)))]<|zg<|zg<|zg<|ze ?_
 refine za ((getM zZ b2.Client).isSome) ?_ ?_
 ·refine zq<|zq<|zq<|zq<|zq ?_
  refine za (decide (b2.Request ≤ ((getM zZ b2.Client).getD (Z14.mk 0 Z9i)).request)) ?_ ?_
  ·exact zk (ZhD zU (IntKind.i64.wrap (z1W + 1)) zZ b2 b3 z1E z38 z2V z3K)
  ·exact zk (Zbw zU (IntKind.i64.wrap (z1W + 1)) zZ b2 b3 z1E z38 z2V z3K)
 ·exact zk (Zbw zU (IntKind.i64.wrap (z1W + 1)) zZ b2 b3 z1E z38 z2V z3K)
def Z6D (x1 : Z10) (zU : List ZE) (z1W : Int) (zZ : List (Int × Z14)) : Option (Z1m × Int × (List ZE) × Int × (List (Int × Z14))) :=
 (Zcx x1).bind fun r1 =>
 if (!r1) = true then
 (some ((Z1m.mk 0 (ZY.mk 0 0 0)), 10, zU, z1W, zZ))
 else
 (Z4O zU z1W zZ x1)
theorem Zjt x1 (zU : List ZE) z1W zZ z4U z4w z1E (z3K : ZV z1E = true) : Sim Z4G (Z6D x1 zU z1W zZ) (EE 33 [(.ptr 0 0), (pA_ (Z3H x1 z4U z4w))] [[(ZL z1E (zU.map ZH)), (.mp 1), (iv z1W)], (rM_ ZF zZ)]) := by
 unfold Z6D
 refine zf (ZOm ..)<|ze<|zx (.ptr 2 0) [[(ZL z1E (zU.map ZH)), (.mp 1), (iv z1W)], (rM_ ZF zZ), (Z1r x1 z4U z4w)]<|zz (.ptr 3 0) [[(ZL z1E (zU.map ZH)), (.mp 1), (iv z1W)], (rM_ ZF zZ), (Z1r x1 z4U z4w), (ZM Z9i)]<|ze<|zq<|zi fun r1 hr1 => ?_
 obtain ⟨_, er1, _, rfl⟩ := Zpj x1 .sh .sh r1 hr1
 refine zc [] (bv r1) [[(ZL z1E (zU.map ZH)), (.mp 1), (iv z1W)], (rM_ ZF zZ), (Z1r x1 z4U z4w), (ZM Z9i)] er1<|zq ?_
 refine za (!r1) ?_ ?_
 ·refine ze<|zq<|zt [[(ZL z1E (zU.map ZH)), (.mp 1), (iv z1W)], (rM_ ZF zZ), (Z1r x1 z4U z4w), (ZM Z9i)] ?_
  exact zr ((.p (.tup [(.agg (Z1Q Z9i)), (.v (.int .i64 10))])), [[(ZL z1E (zU.map ZH)), (.mp 1), (iv z1W)], (rM_ ZF zZ), (Z1r x1 z4U z4w), (ZM Z9i)]) ⟨z1E, _, z3K, rfl⟩
 ·exact zk (ZhC zU z1W zZ x1 Z9i z1E z4U z4w z3K)
theorem Zdk x1 zU z1W zZ {r} (h : Z6D x1 zU z1W zZ = some r) : Z3v x1 zU z1W zZ = some r :=
 Z1f (fun _ _ ha hb => ru_ ZkI (ha .ex .ex .ex rfl) (hb .ex .ex .ex rfl)) (fun z4U z4w z1E z3K => Zjt x1 zU z1W zZ z4U z4w z1E z3K r h)
def Zck (x0 : Z10) : Option Bool :=
 (Z6e x0.View 0).bind fun r1 =>
 if r1 = true then
 ((Z6e x0.Client 1).bind fun r2 =>
 if r2 = true then
 ((Z6e x0.Request 1).bind fun r3 =>
 if r3 = true then
 ((Z6e x0.Delta.Default (-1)).bind fun r4 =>
 if r4 = true then
 ((Z6e x0.Delta.Closed (-1)).bind fun r5 =>
 if r5 = true then
 ((Z6e x0.Delta.Fuel (-1)).bind fun r6 =>
 if r6 = true then
 ((Z6e x0.Delta.Stack (-1)).bind fun r7 =>
 if r7 = true then
 (if (decide ((x0.Delta.Put.length : Int) ≤ 16)) = true then
 (if (decide ((x0.Delta.Drop.length : Int) ≤ 16)) = true then
 ((Z6R x0.Delta.Put).bind fun r8 =>
 if (!r8) = true then
 ((Z7e x0.Delta.Drop).bind fun r9 =>
 some (!r9))
 else
 (some false))
 else
 (some false))
 else
 (some false))
 else
 (some false))
 else
 (some false))
 else
 (some false))
 else
 (some false))
 else
 (some false))
 else
 (some false))
 else
 (some false)
theorem Zog x0 z1z z1t : Sim Z11 (Zck x0) (EE 31 [(pA_ (Z3H x0 z1z z1t))] []) := by
 unfold Zck
 refine zf (ZOk ..)<|ze<|zx (.ptr 0 0) [(Z1r x0 z1z z1t)]<|ze<|zq<|zq<|zz (.ptr 1 0) [(Z1r x0 z1z z1t), (ZJ (Z1i.mk 0 0 0 0 ([] : List ZA) ([] : List Int)) .nl .nl)]<|zt [(Z1r x0 z1z z1t), (ZJ x0.Delta (shrO z1z) (shrO z1t))]<|ze<|zq<|zq<|zi fun r1 hr1 => ?_
 obtain ⟨_, er1, _, rfl⟩ := Z7k x0.View 0 r1 hr1
 refine zc [] (bv r1) [(Z1r x0 z1z z1t), (ZJ x0.Delta (shrO z1z) (shrO z1t))] er1 ?_
 refine za r1 ?_ ?_
 ·refine zq<|zq<|zi fun r2 hr2 => ?_
  obtain ⟨_, er2, _, rfl⟩ := Z7k x0.Client 1 r2 hr2
  refine zc [] (bv r2) [(Z1r x0 z1z z1t), (ZJ x0.Delta (shrO z1z) (shrO z1t))] er2 ?_
  refine za r2 ?_ ?_
  ·refine zq<|zq<|zi fun r3 hr3 => ?_
   obtain ⟨_, er3, _, rfl⟩ := Z7k x0.Request 1 r3 hr3
   refine zc [] (bv r3) [(Z1r x0 z1z z1t), (ZJ x0.Delta (shrO z1z) (shrO z1t))] er3 ?_
   refine za r3 ?_ ?_
   ·refine zq<|zq<|zi fun r4 hr4 => ?_
    obtain ⟨_, er4, _, rfl⟩ := Z7k x0.Delta.Default (-1) r4 hr4
    refine zc [] (bv r4) [(Z1r x0 z1z z1t), (ZJ x0.Delta (shrO z1z) (shrO z1t))] er4 ?_
    refine za r4 ?_ ?_
    ·refine zq<|zq<|zi fun r5 hr5 => ?_
     obtain ⟨_, er5, _, rfl⟩ := Z7k x0.Delta.Closed (-1) r5 hr5
     refine zc [] (bv r5) [(Z1r x0 z1z z1t), (ZJ x0.Delta (shrO z1z) (shrO z1t))] er5 ?_
     refine za r5 ?_ ?_
     ·refine zq<|zq<|zi fun r6 hr6 => ?_
      obtain ⟨_, er6, _, rfl⟩ := Z7k x0.Delta.Fuel (-1) r6 hr6
      refine zc [] (bv r6) [(Z1r x0 z1z z1t), (ZJ x0.Delta (shrO z1z) (shrO z1t))] er6 ?_
      refine za r6 ?_ ?_
      ·refine zq<|zq<|zi fun r7 hr7 => ?_
       obtain ⟨_, er7, _, rfl⟩ := Z7k x0.Delta.Stack (-1) r7 hr7
       refine zc [] (bv r7) [(Z1r x0 z1z z1t), (ZJ x0.Delta (shrO z1z) (shrO z1t))] er7 ?_
       refine za r7 ?_ ?_
       ·refine zq<|zq<|zp (iv (x0.Delta.Put.length : Int)) (et_ (Z2M (P := PP) (t := 22) (d := 43) (by kernel_rfl) ZG (shrO (shrO z1z)) x0.Delta.Put))<|zq ?_
        refine za (decide ((x0.Delta.Put.length : Int) ≤ 16)) ?_ ?_
        ·refine zq<|zq<|zp (iv (x0.Delta.Drop.length : Int)) (et_ (Z2M (P := PP) (t := 27) (d := 3) (by kernel_rfl) (eI .i64) (shrO (shrO z1t)) x0.Delta.Drop))<|zq ?_
         refine za (decide ((x0.Delta.Drop.length : Int) ≤ 16)) ?_ ?_
         ·refine zq<|zq<|zi fun r8 hr8 => ?_
          obtain ⟨_, er8, _, rfl⟩ := ZgS x0.Delta.Put .sh r8 hr8
          refine zc [] (bv r8) [(Z1r x0 z1z z1t), (ZJ x0.Delta (shrO z1z) (shrO z1t))] er8<|zq ?_
          refine za (!r8) ?_ ?_
          ·refine zq<|zq<|zi fun r9 hr9 => ?_
           obtain ⟨_, er9, _, rfl⟩ := ZhL x0.Delta.Drop .sh r9 hr9
           refine zc [] (bv r9) [(Z1r x0 z1z z1t), (ZJ x0.Delta (shrO z1z) (shrO z1t))] er9<|zq ?_
           exact zr ((bv (!r9)), [(Z1r x0 z1z z1t), (ZJ x0.Delta (shrO z1z) (shrO z1t))]) ⟨_, rfl⟩
          ·exact zr ((bv false), [(Z1r x0 z1z z1t), (ZJ x0.Delta (shrO z1z) (shrO z1t))]) ⟨_, rfl⟩
         ·exact zr ((bv false), [(Z1r x0 z1z z1t), (ZJ x0.Delta (shrO z1z) (shrO z1t))]) ⟨_, rfl⟩
        ·exact zr ((bv false), [(Z1r x0 z1z z1t), (ZJ x0.Delta (shrO z1z) (shrO z1t))]) ⟨_, rfl⟩
       ·exact zr ((bv false), [(Z1r x0 z1z z1t), (ZJ x0.Delta (shrO z1z) (shrO z1t))]) ⟨_, rfl⟩
      ·exact zr ((bv false), [(Z1r x0 z1z z1t), (ZJ x0.Delta (shrO z1z) (shrO z1t))]) ⟨_, rfl⟩
     ·exact zr ((bv false), [(Z1r x0 z1z z1t), (ZJ x0.Delta (shrO z1z) (shrO z1t))]) ⟨_, rfl⟩
    ·exact zr ((bv false), [(Z1r x0 z1z z1t), (ZJ x0.Delta (shrO z1z) (shrO z1t))]) ⟨_, rfl⟩
   ·exact zr ((bv false), [(Z1r x0 z1z z1t), (ZJ x0.Delta (shrO z1z) (shrO z1t))]) ⟨_, rfl⟩
  ·exact zr ((bv false), [(Z1r x0 z1z z1t), (ZJ x0.Delta (shrO z1z) (shrO z1t))]) ⟨_, rfl⟩
 ·exact zr ((bv false), [(Z1r x0 z1z z1t), (ZJ x0.Delta (shrO z1z) (shrO z1t))]) ⟨_, rfl⟩
theorem Zpi x0 {r} (h : Zck x0 = some r) : Zcx x0 = some r :=
 Z1f (fun _ _ ha hb => ru_ Z2p (ha .ex .ex) (hb .ex .ex)) (fun z1z z1t => Zog x0 z1z z1t r h)
def Zhi (x0 x1 : Int) : Option Bool :=
 if (decide (x1 ≤ x0)) = true then
 (some (decide (x0 ≤ 1099511627776)))
 else
 (some false)
theorem Zuo x0 x1 : Sim Z11 (Zhi x0 x1) (EE 56 [(iv x0), (iv x1)] []) := by
 unfold Zhi
 refine zf (ZOC ..)<|ze<|ze<|zq ?_
 refine za (decide (x1 ≤ x0)) ?_ ?_
 ·refine zq ?_
  exact zr ((bv (decide (x0 ≤ 1099511627776))), []) ⟨_, rfl⟩
 ·exact zr ((bv false), []) ⟨_, rfl⟩
theorem Zvd x0 x1 {r} (h : Zhi x0 x1 = some r) : Z6e x0 x1 = some r :=
 Z1f (fun _ _ ha hb => ru_ Z2p ha hb) (Zuo x0 x1 r h)
def Z6I (x0 : List ZA) : Option Bool :=
 (Z7Y x0).bind fun r1 =>
 some (decide (0 ≤ r1))
theorem Zge (x0 : List ZA) ox0 : Sim Z11 (Z6I x0) (EE 57 [(ZL ox0 (x0.map ZG)), (.clo 58 [] [])] []) := by
 unfold Z6I
 refine zf (ZBv ..)<|ze<|ze<|zi fun r1 hr1 => ?_
 obtain ⟨_, er1, _, rfl⟩ := Zj8 x0 .sh r1 hr1
 refine zc [] (iv r1) [] er1<|zq ?_
 exact zr ((bv (decide (0 ≤ r1))), []) ⟨_, rfl⟩
theorem ZgR x0 {r} (h : Z6I x0 = some r) : Z6R x0 = some r :=
 Z1f (fun _ _ ha hb => ru_ Z2p (ha .ex) (hb .ex)) (fun ox0 => Zge x0 ox0 r h)
def Z7T (x0 : List ZA) : Option Int :=
 Z5t x0 (x0.length : Int) 0
theorem ZiB (x0 : List ZA) ox0 : Sim ZO (Z7T x0) (EE 83 [(ZL ox0 (x0.map ZG)), (.clo 58 [] [])] []) := by
 unfold Z7T
 refine zf (ZBL ..)<|ze<|ze<|zp (iv (x0.length : Int)) (et_ (Z2M (P := PP) (t := 22) (d := 43) (by kernel_rfl) ZG (shrO ox0) x0)) ?_
 exact zk (Zb9 x0 (x0.length : Int) 0 ox0)
theorem Zj7 x0 {r} (h : Z7T x0 = some r) : Z7Y x0 = some r :=
 Z1f (fun _ _ ha hb => ru_ Z2k (ha .ex) (hb .ex)) (fun ox0 => ZiB x0 ox0 r h)
def Z6M (x0 : List ZA) (x7 x8 : Int) : Option Int :=
 Z5t x0 x7 (IntKind.i64.wrap (x8 + 1))
theorem Zgn (x0 : List ZA) x7 x8 ox0 : Sim ZO (Z6M x0 x7 x8) (Zsw 0 (ZL ox0 (x0.map ZG)) (.clo 58 [] []) (iv x7) (iv x8) []) := by
 unfold Z6M
 refine zf (Zsx ..)<|ze<|zq ?_
 exact zk (Zb9 x0 x7 (IntKind.i64.wrap (x8 + 1)) ox0)
def Z5l (x0 : List ZA) (x7 x8 : Int) : Option Int :=
 (lget x0 x8).bind fun a1 =>
 (ZaY a1).bind fun r2 =>
 if r2 = true then
 (some x8)
 else
 (Z6M x0 x7 x8)
theorem Zgm (x0 : List ZA) x7 x8 ox0 : Sim ZO (Z5l x0 x7 x8) (Zsu 0 (ZL ox0 (x0.map ZG)) (.clo 58 [] []) (iv x7) (iv x8) []) := by
 unfold Z5l
 refine zf (Zsv ..)<|ze<|ze<|zi fun a1 ha1 => zp (.cptr (Z1Y a1)) (et_ (Z3u (o := (shrO ox0)) (k := .i64) (n := 5) (e := ZG) (cs := Z4Z) (fun _ => rfl) (fun _ => rfl) (by decide) ha1))<|zq<|zi fun r2 hr2 => ?_
 obtain ⟨_, er2, _, rfl⟩ := Znq a1 r2 hr2
 refine zv [] (bv r2) [] er2 ?_
 refine za r2 ?_ ?_
 ·refine ze ?_
  exact zr ((iv x8), []) ⟨_, rfl⟩
 ·exact zk (Zgn x0 x7 x8 ox0)
def Z99 : Option Int :=
 some (-1)
theorem Zgo : Sim ZO Z99 (Zsy 0 []) := by
 unfold Z99
 refine zf (Zsz ..)<|ze ?_
 exact zr ((iv (-1)), []) ⟨_, rfl⟩
def Z4t (x0 : List ZA) (x7 x8 : Int) : Option Int :=
 if (decide (x8 < x7)) = true then
 (Z5l x0 x7 x8)
 else
 Z99
theorem Zgl (x0 : List ZA) x7 x8 ox0 : Sim ZO (Z4t x0 x7 x8) (ZiR 0 (ZL ox0 (x0.map ZG)) (.clo 58 [] []) (iv x7) (iv x8) []) := by
 unfold Z4t
 refine zf (Zst ..)<|ze<|zq ?_
 refine za (decide (x8 < x7)) ?_ ?_
 ·exact zk (Zgm x0 x7 x8 ox0)
 ·exact zk Zgo
theorem Z87 x0 x7 x8 {r} (h : Z4t x0 x7 x8 = some r) : Z5t x0 x7 x8 = some r :=
 Z1f (fun _ _ ha hb => ru_ Z2k (ha .ex) (hb .ex)) (fun ox0 => Zgl x0 x7 x8 ox0 r h)
def ZaT (x0 : ZA) : Option Bool :=
 (Z9o x0).bind fun r1 =>
 some (!r1)
theorem ZmN x0 : Sim Z11 (ZaT x0) (EE 58 [(pA_ (Z1Y x0))] []) := by
 unfold ZaT
 refine zf (ZOD ..)<|ze<|zx (.ptr 0 0) [(Z1O x0)]<|ze<|zq<|zi fun r1 hr1 => ?_
 obtain ⟨_, er1, _, rfl⟩ := Ze2 x0 r1 hr1
 refine zc [] (bv r1) [(Z1O x0)] er1<|zq ?_
 exact zr ((bv (!r1)), [(Z1O x0)]) ⟨_, rfl⟩
theorem Znp x0 {r} (h : ZaT x0 = some r) : ZaY x0 = some r :=
 Z1f (fun _ _ ha hb => ru_ Z2p ha hb) (ZmN x0 r h)
def ZcZ (x0 : ZA) : Option Bool :=
 if (decide (1 ≤ x0.ID)) = true then
 (if (decide (x0.ID ≤ 1099511627776)) = true then
 (if (decide (0 ≤ x0.Priority)) = true then
 (if (decide (x0.Priority ≤ 1000)) = true then
 (if (decide (0 ≤ x0.Action)) = true then
 (if (decide (x0.Action ≤ 255)) = true then
 (if (decide (1 ≤ x0.Scope)) = true then
 (if (decide (x0.Scope ≤ 65535)) = true then
 (some (decide ((x0.Pattern.size : Int) ≤ 256)))
 else
 (some false))
 else
 (some false))
 else
 (some false))
 else
 (some false))
 else
 (some false))
 else
 (some false))
 else
 (some false))
 else
 (some false)
theorem Zps x0 : Sim Z11 (ZcZ x0) (EE 27 [(pA_ (Z1Y x0))] []) := by
 unfold ZcZ
 refine zf (ZOe ..)<|ze<|zx (.ptr 0 0) [(Z1O x0)]<|ze<|zq<|zq<|zq ?_
 refine za (decide (1 ≤ x0.ID)) ?_ ?_
 ·refine zq<|zq<|zq ?_
  refine za (decide (x0.ID ≤ 1099511627776)) ?_ ?_
  ·refine zq<|zq<|zq ?_
   refine za (decide (0 ≤ x0.Priority)) ?_ ?_
   ·refine zq<|zq<|zq ?_
    refine za (decide (x0.Priority ≤ 1000)) ?_ ?_
    ·refine zq<|zq<|zq ?_
     refine za (decide (0 ≤ x0.Action)) ?_ ?_
     ·refine zq<|zq<|zq ?_
      refine za (decide (x0.Action ≤ 255)) ?_ ?_
      ·refine zq<|zq<|zq ?_
       refine za (decide (1 ≤ x0.Scope)) ?_ ?_
       ·refine zq<|zq<|zq ?_
        refine za (decide (x0.Scope ≤ 65535)) ?_ ?_
        ·refine zq<|zq<|zq<|zq ?_
         exact zr ((bv (decide ((x0.Pattern.size : Int) ≤ 256))), [(Z1O x0)]) ⟨_, rfl⟩
        ·exact zr ((bv false), [(Z1O x0)]) ⟨_, rfl⟩
       ·exact zr ((bv false), [(Z1O x0)]) ⟨_, rfl⟩
      ·exact zr ((bv false), [(Z1O x0)]) ⟨_, rfl⟩
     ·exact zr ((bv false), [(Z1O x0)]) ⟨_, rfl⟩
    ·exact zr ((bv false), [(Z1O x0)]) ⟨_, rfl⟩
   ·exact zr ((bv false), [(Z1O x0)]) ⟨_, rfl⟩
  ·exact zr ((bv false), [(Z1O x0)]) ⟨_, rfl⟩
 ·exact zr ((bv false), [(Z1O x0)]) ⟨_, rfl⟩
theorem ZqN x0 {r} (h : ZcZ x0 = some r) : Z9o x0 = some r :=
 Z1f (fun _ _ ha hb => ru_ Z2p ha hb) (Zps x0 r h)
def Z76 (x0 : List Int) : Option Bool :=
 (Z8g x0).bind fun r1 =>
 some (decide (0 ≤ r1))
theorem ZgY (x0 : List Int) ox0 : Sim Z11 (Z76 x0) (EE 59 [(ZL ox0 (x0.map (eI .i64))), (.clo 60 [] [])] []) := by
 unfold Z76
 refine zf (ZID ..)<|ze<|ze<|zi fun r1 hr1 => ?_
 obtain ⟨_, er1, _, rfl⟩ := ZjA x0 .sh r1 hr1
 refine zc [] (iv r1) [] er1<|zq ?_
 exact zr ((bv (decide (0 ≤ r1))), []) ⟨_, rfl⟩
theorem ZhK x0 {r} (h : Z76 x0 = some r) : Z7e x0 = some r :=
 Z1f (fun _ _ ha hb => ru_ Z2p (ha .ex) (hb .ex)) (fun ox0 => ZgY x0 ox0 r h)
def Z8e (x0 : List Int) : Option Int :=
 Z5I x0 (x0.length : Int) 0
theorem Zje (x0 : List Int) ox0 : Sim ZO (Z8e x0) (EE 84 [(ZL ox0 (x0.map (eI .i64))), (.clo 60 [] [])] []) := by
 unfold Z8e
 refine zf (ZIV ..)<|ze<|ze<|zp (iv (x0.length : Int)) (et_ (Z2M (P := PP) (t := 27) (d := 3) (by kernel_rfl) (eI .i64) (shrO ox0) x0)) ?_
 exact zk (ZbF x0 (x0.length : Int) 0 ox0)
theorem Zjz x0 {r} (h : Z8e x0 = some r) : Z8g x0 = some r :=
 Z1f (fun _ _ ha hb => ru_ Z2k (ha .ex) (hb .ex)) (fun ox0 => Zje x0 ox0 r h)
def Z78 (x0 : List Int) (x7 x8 : Int) : Option Int :=
 Z5I x0 x7 (IntKind.i64.wrap (x8 + 1))
theorem Zh5 (x0 : List Int) x7 x8 ox0 : Sim ZO (Z78 x0 x7 x8) (ZwM 0 (ZL ox0 (x0.map (eI .i64))) (.clo 60 [] []) (iv x7) (iv x8) []) := by
 unfold Z78
 refine zf (ZzU ..)<|ze<|zq ?_
 exact zk (ZbF x0 x7 (IntKind.i64.wrap (x8 + 1)) ox0)
def Z5G (x0 : List Int) (x7 x8 : Int) : Option Int :=
 (lget x0 x8).bind fun a1 =>
 (ZaZ a1).bind fun r2 =>
 if r2 = true then
 (some x8)
 else
 (Z78 x0 x7 x8)
theorem Zh4 (x0 : List Int) x7 x8 ox0 : Sim ZO (Z5G x0 x7 x8) (ZwL 0 (ZL ox0 (x0.map (eI .i64))) (.clo 60 [] []) (iv x7) (iv x8) []) := by
 unfold Z5G
 refine zf (ZzT ..)<|ze<|ze<|zi fun a1 ha1 => zp (.cptr [(.v (.int .i64 a1))]) (et_ (Z3u (o := (shrO ox0)) (k := .i64) (n := 1) (e := (eI .i64)) (cs := (fun a => [(eI .i64) a])) (fun _ => rfl) (fun _ => rfl) (by decide) ha1))<|zq<|zi fun r2 hr2 => ?_
 obtain ⟨_, er2, _, rfl⟩ := Zns a1 r2 hr2
 refine zv [] (bv r2) [] er2 ?_
 refine za r2 ?_ ?_
 ·refine ze ?_
  exact zr ((iv x8), []) ⟨_, rfl⟩
 ·exact zk (Zh5 x0 x7 x8 ox0)
def Z9s : Option Int :=
 some (-1)
theorem Zh6 : Sim ZO Z9s (ZwN 0 []) := by
 unfold Z9s
 refine zf (ZzV ..)<|ze ?_
 exact zr ((iv (-1)), []) ⟨_, rfl⟩
def Z4F (x0 : List Int) (x7 x8 : Int) : Option Int :=
 if (decide (x8 < x7)) = true then
 (Z5G x0 x7 x8)
 else
 Z9s
theorem Zh3 (x0 : List Int) x7 x8 ox0 : Sim ZO (Z4F x0 x7 x8) (ZmK 0 (ZL ox0 (x0.map (eI .i64))) (.clo 60 [] []) (iv x7) (iv x8) []) := by
 unfold Z4F
 refine zf (ZzS ..)<|ze<|zq ?_
 refine za (decide (x8 < x7)) ?_ ?_
 ·exact zk (Zh4 x0 x7 x8 ox0)
 ·exact zk Zh6
theorem Z8o x0 x7 x8 {r} (h : Z4F x0 x7 x8 = some r) : Z5I x0 x7 x8 = some r :=
 Z1f (fun _ _ ha hb => ru_ Z2k (ha .ex) (hb .ex)) (fun ox0 => Zh3 x0 x7 x8 ox0 r h)
def ZaU (x0 : Int) : Option Bool :=
 (Z6e x0 1).bind fun r1 =>
 some (!r1)
theorem ZmO x0 : Sim Z11 (ZaU x0) (EE 60 [(iv x0)] []) := by
 unfold ZaU
 refine zf (ZOE ..)<|ze<|ze<|zi fun r1 hr1 => ?_
 obtain ⟨_, er1, _, rfl⟩ := Z7k x0 1 r1 hr1
 refine zc [] (bv r1) [] er1<|zq ?_
 exact zr ((bv (!r1)), []) ⟨_, rfl⟩
theorem Znr x0 {r} (h : ZaU x0 = some r) : ZaZ x0 = some r :=
 Z1f (fun _ _ ha hb => ru_ Z2p ha hb) (ZmO x0 r h)
def Z6j (zU : List ZE) (b4 : ZE) : Option (Z1m × (List ZE)) :=
 (lapp zU ([b4] : List ZE)).bind fun a1 =>
 some ((Z1m.mk (IntKind.i64.wrap ((a1.length : Int) - 1)) (ZY.mk 0 0 0)), a1)
theorem ZfH (zU : List ZE) z1W zZ b2 b3 b4 z1E zpN zn6 z47 (z3K : ZV z1E = true) : Sim (Z5M z1W zZ) (Z6j zU b4) (ZBw 2 (.ptr 0 0) (.ptr 3 0) (.ptr 4 0) [[(ZL z1E (zU.map ZH)), (.mp 1), (iv z1W)], (rM_ ZF zZ), (ZJ b2 zpN zn6), (ZM b3), (ZB b4 z47)]) := by
 unfold Z6j
 refine zf (ZIE ..)<|ze<|zq<|zq<|zw (ZL z1E (zU.map ZH)) [[(ZL (shrO z1E) (zU.map ZH)), (.mp 1), (iv z1W)], (rM_ ZF zZ), (ZJ b2 zpN zn6), (ZM b3), (ZB b4 z47)]<|zq<|zq<|zi fun a1 ha1 => zp (ZL .un (a1.map ZH)) (Eq.trans (by kernel_rfl) <| Zin (n := 5) (o := z1E) (o' := .ex) (e := ZH) (ys := ([b4] : List ZE)) (fun _ => rfl) (by decide) z3K ha1)<|zq<|zq<|zt [[(ZL .un (a1.map ZH)), (.mp 1), (iv z1W)], (rM_ ZF zZ), (ZJ b2 zpN zn6), (ZM b3), (ZB b4 z47)]<|zg<|ze<|zq<|zq<|zq<|zp (iv (a1.length : Int)) (et_ (Z2M (P := PP) (t := 121) (d := 24) (by kernel_rfl) ZH .sh a1))<|zq<|zq<|zt [[(ZL .un (a1.map ZH)), (.mp 1), (iv z1W)], (rM_ ZF zZ), (ZJ b2 zpN zn6), (ZM (Z1m.mk (IntKind.i64.wrap ((a1.length : Int) - 1)) Z7J)), (ZB b4 z47)] ?_
 exact zr ((pA_ (Z1Q (Z1m.mk (IntKind.i64.wrap ((a1.length : Int) - 1)) Z7J))), [[(ZL .un (a1.map ZH)), (.mp 1), (iv z1W)], (rM_ ZF zZ), (ZJ b2 zpN zn6), (ZM (Z1m.mk (IntKind.i64.wrap ((a1.length : Int) - 1)) Z7J)), (ZB b4 z47)]) ⟨.un, _, rfl, rfl⟩
def Z7t (x1 : Z1i) (zU : List ZE) : Option (Z1m × (List ZE)) :=
 (lget zU (IntKind.i64.wrap ((zU.length : Int) - 1))).bind fun a1 =>
 (Ze3 a1 x1).bind fun r2 =>
 if (r2.2.Code != 0) = true then
 (some ((Z1m.mk 0 (ZY.mk r2.2.Code r2.2.Rule r2.2.At)), zU))
 else
 (Z6j zU r2.1)
theorem ZhG x1 (zU : List ZE) z1W zZ z2L z2t z1E (z3K : ZV z1E = true) : Sim (Z5M z1W zZ) (Z7t x1 zU) (EE 61 [(.ptr 0 0), (pA_ (Z4S x1 z2L z2t))] [[(ZL z1E (zU.map ZH)), (.mp 1), (iv z1W)], (rM_ ZF zZ)]) := by
 unfold Z7t
 refine zf (ZOF ..)<|ze<|zx (.ptr 2 0) [[(ZL z1E (zU.map ZH)), (.mp 1), (iv z1W)], (rM_ ZF zZ), (ZJ x1 z2L z2t)]<|zz (.ptr 3 0) [[(ZL z1E (zU.map ZH)), (.mp 1), (iv z1W)], (rM_ ZF zZ), (ZJ x1 z2L z2t), (ZM Z9i)]<|ze<|zq<|zq<|zq<|zq<|zq<|zq<|zp (iv (zU.length : Int)) (et_ (Z2M (P := PP) (t := 121) (d := 24) (by kernel_rfl) ZH (shrO z1E) zU))<|zq<|zi fun a1 ha1 => zp (.cptr (Z1C a1 .sh)) (et_ (Z3u (o := (shrO z1E)) (k := .i64) (n := 5) (e := ZH) (cs := ZgD) (fun _ => rfl) (fun _ => rfl) (by decide) ha1))<|zq<|zq<|zi fun r2 hr2 => ?_
 obtain ⟨_, er2, _, rfl⟩ := Zs2 a1 x1 .sh .sh .sh r2 hr2
 refine zc [] (.p (.tup [(.agg (Z1C r2.1 .sh)), (.agg (Z20 r2.2))])) [[(ZL z1E (zU.map ZH)), (.mp 1), (iv z1W)], (rM_ ZF zZ), (ZJ x1 z2L z2t), (ZM Z9i)] er2<|zq<|zq<|zz (.ptr 4 0) [[(ZL z1E (zU.map ZH)), (.mp 1), (iv z1W)], (rM_ ZF zZ), (ZJ x1 z2L z2t), (ZM Z9i), (ZB Z4j .nl)]<|zz (.ptr 5 0) [[(ZL z1E (zU.map ZH)), (.mp 1), (iv z1W)], (rM_ ZF zZ), (ZJ x1 z2L z2t), (ZM Z9i), (ZB Z4j .nl), (Z1d Z7J)]<|zt [[(ZL z1E (zU.map ZH)), (.mp 1), (iv z1W)], (rM_ ZF zZ), (ZJ x1 z2L z2t), (ZM Z9i), (ZB r2.1 .sh), (Z1d Z7J)]<|zt [[(ZL z1E (zU.map ZH)), (.mp 1), (iv z1W)], (rM_ ZF zZ), (ZJ x1 z2L z2t), (ZM Z9i), (ZB r2.1 .sh), (Z1d r2.2)]<|zg<|zg<|zg<|zg<|zg<|zg<|zg<|zg<|zg<|zg<|ze<|zq<|zq<|zq ?_
 refine za (r2.2.Code != 0) ?_ ?_
 ·refine ze<|zq<|zq<|zt [[(ZL z1E (zU.map ZH)), (.mp 1), (iv z1W)], (rM_ ZF zZ), (ZJ x1 z2L z2t), (ZM (Z1m.mk 0 (ZY.mk r2.2.Code r2.2.Rule r2.2.At))), (ZB r2.1 .sh), (Z1d r2.2)] ?_
  exact zr ((pA_ (Z1Q (Z1m.mk 0 (ZY.mk r2.2.Code r2.2.Rule r2.2.At)))), [[(ZL z1E (zU.map ZH)), (.mp 1), (iv z1W)], (rM_ ZF zZ), (ZJ x1 z2L z2t), (ZM (Z1m.mk 0 (ZY.mk r2.2.Code r2.2.Rule r2.2.At))), (ZB r2.1 .sh), (Z1d r2.2)]) ⟨z1E, _, z3K, rfl⟩
 ·exact zk (ZfH zU z1W zZ x1 Z9i r2.1 z1E z2L z2t .sh z3K)
theorem Ziu x1 zU {r} (h : Z7t x1 zU = some r) : Z7z x1 zU = some r :=
 Z1f (fun _ _ ha hb => ru_ (ZiG _ _) (ha default default .ex .ex .ex rfl) (hb default default .ex .ex .ex rfl)) (fun z1W zZ z2L z2t z1E z3K => ZhG x1 zU z1W zZ z2L z2t z1E z3K r h)
def ZbZ (b4 : ZE) : Option (ZE × ZY) :=
 some (b4, (ZY.mk 0 0 0))
theorem ZnK b0 b1 b2 b3 b4 zD z17 z13 zN z47 (z1u : ZV zN = true) : Sim Z9M (ZbZ b4) (ZB6 0 (.ptr 2 0) (.ptr 3 0) (.ptr 4 0) [(ZB b0 zD), (ZJ b1 z17 z13), (ZB b2 zN), (Z1d b3), (ZB b4 z47)]) := by
 unfold ZbZ
 refine zf (ZIa ..)<|ze<|zq<|zq<|zt [(ZB b0 zD), (ZJ b1 z17 z13), (ZB b4 (shrO z47)), (Z1d b3), (ZB b4 z47)]<|zt [(ZB b0 zD), (ZJ b1 z17 z13), (ZB b4 (shrO z47)), (Z1d Z7J), (ZB b4 z47)] ?_
 exact zr ((.p (.tup [(.agg (Z1C b4 .sh)), (.agg (Z20 Z7J))])), [(ZB b0 zD), (ZJ b1 z17 z13), (ZB b4 (shrO z47)), (Z1d Z7J), (ZB b4 z47)]) ⟨_, rfl⟩
def ZbY (b4 : ZE) : Option (ZE × ZY) :=
 (ZeH b4).bind fun r1 =>
 if (r1.Code != 0) = true then
 (some ((ZE.mk 0 0 0 0 ([] : List ZA)), r1))
 else
 (ZbZ b4)
theorem ZnJ b0 b1 b2 b3 b4 zD z17 z13 zN z47 (z1u : ZV zN = true) : Sim Z9M (ZbY b4) (ZB5 0 (.ptr 2 0) (.ptr 3 0) (.ptr 4 0) [(ZB b0 zD), (ZJ b1 z17 z13), (ZB b2 zN), (Z1d b3), (ZB b4 z47)]) := by
 unfold ZbY
 refine zf (ZI9 ..)<|ze<|zq<|zi fun r1 hr1 => ?_
 obtain ⟨_, er1, _, rfl⟩ := ZsU b4 .sh r1 hr1
 refine zc [] (pA_ (Z20 r1)) [(ZB b0 zD), (ZJ b1 z17 z13), (ZB b2 zN), (Z1d b3), (ZB b4 z47)] er1<|zz (.ptr 5 0) [(ZB b0 zD), (ZJ b1 z17 z13), (ZB b2 zN), (Z1d b3), (ZB b4 z47), (Z1d Z7J)]<|zt [(ZB b0 zD), (ZJ b1 z17 z13), (ZB b2 zN), (Z1d b3), (ZB b4 z47), (Z1d r1)]<|ze<|zq<|zq<|zq ?_
 refine za (r1.Code != 0) ?_ ?_
 ·refine ze<|zq<|zq<|zt [(ZB b0 zD), (ZJ b1 z17 z13), (ZB Z4j .nl), (Z1d b3), (ZB b4 z47), (Z1d r1)]<|zt [(ZB b0 zD), (ZJ b1 z17 z13), (ZB Z4j .nl), (Z1d r1), (ZB b4 z47), (Z1d r1)]<|zg ?_
  exact zr ((.p (.tup [(.agg (Z1C Z4j .sh)), (.agg (Z20 r1))])), [(ZB b0 zD), (ZJ b1 z17 z13), (ZB Z4j .nl), (Z1d r1), (ZB b4 z47), (Z1d r1)]) ⟨_, rfl⟩
 ·exact zk (ZnK b0 b1 b2 b3 b4 zD z17 z13 zN z47 z1u)
def ZdW (x0 : ZE) (x1 : Z1i) : Option (ZE × ZY) :=
 (Zf5 x0 x1).bind fun r1 =>
 if (r1.2 != 0) = true then
 (some ((ZE.mk 0 0 0 0 ([] : List ZA)), (ZY.mk r1.2 0 0)))
 else
 (ZbY r1.1)
theorem Zr2 x0 x1 z1a z2L z2t : Sim Z9M (ZdW x0 x1) (EE 23 [(pA_ (Z1C x0 z1a)), (pA_ (Z4S x1 z2L z2t))] []) := by
 unfold ZdW
 refine zf (ZOa ..)<|ze<|zx (.ptr 0 0) [(ZB x0 z1a)]<|zx (.ptr 1 0) [(ZB x0 z1a), (ZJ x1 z2L z2t)]<|zz (.ptr 2 0) [(ZB x0 z1a), (ZJ x1 z2L z2t), (ZB Z4j .nl)]<|zz (.ptr 3 0) [(ZB x0 z1a), (ZJ x1 z2L z2t), (ZB Z4j .nl), (Z1d Z7J)]<|ze<|zq<|zq<|zi fun r1 hr1 => ?_
 obtain ⟨_, er1, _, rfl⟩ := Zx0 x0 x1 .sh .sh .sh r1 hr1
 refine zc [] (.p (.tup [(.agg (Z1C r1.1 .sh)), (.v (.int .i64 r1.2))])) [(ZB x0 z1a), (ZJ x1 z2L z2t), (ZB Z4j .nl), (Z1d Z7J)] er1<|zq<|zq<|zz (.ptr 4 0) [(ZB x0 z1a), (ZJ x1 z2L z2t), (ZB Z4j .nl), (Z1d Z7J), (ZB Z4j .nl)]<|zt [(ZB x0 z1a), (ZJ x1 z2L z2t), (ZB Z4j .nl), (Z1d Z7J), (ZB r1.1 .sh)]<|ze<|zq ?_
 refine za (r1.2 != 0) ?_ ?_
 ·refine ze<|zq<|zq<|zt [(ZB x0 z1a), (ZJ x1 z2L z2t), (ZB Z4j .nl), (Z1d Z7J), (ZB r1.1 .sh)]<|zt [(ZB x0 z1a), (ZJ x1 z2L z2t), (ZB Z4j .nl), (Zkk r1.2 0 0), (ZB r1.1 .sh)] ?_
  exact zr ((.p (.tup [(.agg (Z1C Z4j .sh)), (.agg (Z20 (ZY.mk r1.2 0 0)))])), [(ZB x0 z1a), (ZJ x1 z2L z2t), (ZB Z4j .nl), (Zkk r1.2 0 0), (ZB r1.1 .sh)]) ⟨_, rfl⟩
 ·exact zk (ZnJ x0 x1 Z4j Z7J r1.1 z1a z2L z2t .nl .sh rfl)
theorem Zs1 x0 x1 {r} (h : ZdW x0 x1 = some r) : Ze3 x0 x1 = some r :=
 Z1f (fun _ _ ha hb => ru_ Zs5 (ha .ex .ex .ex) (hb .ex .ex .ex)) (fun z1a z2L z2t => Zr2 x0 x1 z1a z2L z2t r h)
def Zcm : Option (ZE × Int) :=
 some ((ZE.mk 0 0 0 0 ([] : List ZA)), 30)
theorem ZjM b0 b1 b2 zD z17 z13 zN (z1u : ZV zN = true) : Sim Z2T Zcm (Zwp 0 (.ptr 2 0) [(ZB b0 zD), (ZJ b1 z17 z13), (ZB b2 zN)]) := by
 unfold Zcm
 refine zf (ZI7 ..)<|ze<|zq<|zt [(ZB b0 zD), (ZJ b1 z17 z13), (ZB Z4j .nl)] ?_
 exact zr ((.p (.tup [(.agg (Z1C Z4j .sh)), (.v (.int .i64 30))])), [(ZB b0 zD), (ZJ b1 z17 z13), (ZB Z4j .nl)]) ⟨_, rfl⟩
def ZdH (b0 : ZE) (b1 : Z1i) (zK zT z12 zW : Int) : Option (ZE × Int) :=
 Zby b0.Rules (b0.Rules.length : Int) 0 b1 zK zT z12 zW ([] : List (Int × ZA))
theorem ZqB b0 b1 b2 zK zT z12 zW z1c zD z17 z13 zN z18 (z1u : ZV zN = true) : Sim Z2T (ZdH b0 b1 zK zT z12 zW) (Zza 0 (.ptr 0 0) (.ptr 1 0) (.ptr 2 0) (.ptr 3 0) [(ZB b0 zD), (ZJ b1 z17 z13), (ZB b2 zN), (Z2F zK zT z12 zW z1c z18)]) := by
 unfold ZdH
 refine zf (ZGc ..)<|ze<|zm (.mp 4) [(ZB b0 zD), (ZJ b1 z17 z13), (ZB b2 zN), (Z2F zK zT z12 zW z1c z18), (rM_ ZG ([] : List (Int × ZA)))]<|ze<|zq<|zq<|zp (iv (b0.Rules.length : Int)) (et_ (Z2M (P := PP) (t := 22) (d := 43) (by kernel_rfl) ZG (shrO zD) b0.Rules)) ?_
 exact zk (ZjF b0.Rules (b0.Rules.length : Int) 0 b0 b1 b2 zK zT z12 zW z1c ([] : List (Int × ZA)) (shrO zD) zD z17 z13 zN z18 z1u)
def ZdG (b0 : ZE) (b1 : Z1i) (zK zT z12 zW : Int) : Option (ZE × Int) :=
 (Zcz b1).bind fun r1 =>
 if r1 = true then
 (some ((ZE.mk 0 0 0 0 ([] : List ZA)), 31))
 else
 (ZdH b0 b1 zK zT z12 zW)
theorem ZqA b0 b1 b2 zK zT z12 zW z1c zD z17 z13 zN z18 (z1u : ZV zN = true) : Sim Z2T (ZdG b0 b1 zK zT z12 zW) (Zz9 0 (.ptr 0 0) (.ptr 1 0) (.ptr 2 0) (.ptr 3 0) [(ZB b0 zD), (ZJ b1 z17 z13), (ZB b2 zN), (Z2F zK zT z12 zW z1c z18)]) := by
 unfold ZdG
 refine zf (ZGb ..)<|ze<|zq<|zi fun r1 hr1 => ?_
 obtain ⟨_, er1, _, rfl⟩ := Zpr b1 .sh .sh r1 hr1
 refine zc [] (bv r1) [(ZB b0 zD), (ZJ b1 z17 z13), (ZB b2 zN), (Z2F zK zT z12 zW z1c z18)] er1 ?_
 refine za r1 ?_ ?_
 ·refine ze<|zq<|zt [(ZB b0 zD), (ZJ b1 z17 z13), (ZB Z4j .nl), (Z2F zK zT z12 zW z1c z18)] ?_
  exact zr ((.p (.tup [(.agg (Z1C Z4j .sh)), (.v (.int .i64 31))])), [(ZB b0 zD), (ZJ b1 z17 z13), (ZB Z4j .nl), (Z2F zK zT z12 zW z1c z18)]) ⟨_, rfl⟩
 ·exact zk (ZqB b0 b1 b2 zK zT z12 zW z1c zD z17 z13 zN z18 z1u)
def Zez (b0 : ZE) (b1 : Z1i) : Option (ZE × Int) :=
 (Zhq b1.Default b0.Default).bind fun r1 =>
 (Zd9 b1.Closed b0.Closed).bind fun r2 =>
 (Zd8 b1.Fuel b0.Fuel).bind fun r3 =>
 (Zd7 b1.Stack b0.Stack).bind fun r4 =>
 (Z9I (ZE.mk r1 r2 r3 r4 b0.Rules)).bind fun r5 =>
 if (!r5) = true then
 Zcm
 else
 ((Zc4 b1.Put).bind fun r6 =>
 if (!r6) = true then
 Zcm
 else
 (ZdG b0 b1 r1 r2 r3 r4))
theorem ZrU b0 b1 b2 zD z17 z13 zN (z1u : ZV zN = true) : Sim Z2T (Zez b0 b1) (ZB2 0 (.ptr 0 0) (.ptr 1 0) (.ptr 2 0) [(ZB b0 zD), (ZJ b1 z17 z13), (ZB b2 zN)]) := by
 unfold Zez
 refine zf (ZI6 ..)<|ze<|zq<|zz (.ptr 3 0) [(ZB b0 zD), (ZJ b1 z17 z13), (ZB b2 zN), (ZB Z4j .nl)]<|zt [(ZB b0 zD), (ZJ b1 z17 z13), (ZB b2 zN), (ZB b0 (shrO zD))]<|ze<|zq<|zq<|zq<|zi fun r1 hr1 => ?_
 obtain ⟨_, er1, _, rfl⟩ := Zvn b1.Default b0.Default b0.Closed b0.Fuel b0.Stack b0.Rules (shrO zD) r1 hr1
 refine zc [3] (.p (.tup [])) [(ZB b0 zD), (ZJ b1 z17 z13), (ZB b2 zN), (Z2F r1 b0.Closed b0.Fuel b0.Stack b0.Rules (shrO zD))] er1<|ze<|zq<|zq<|zq<|zi fun r2 hr2 => ?_
 obtain ⟨_, er2, _, rfl⟩ := ZqU b1.Closed r1 b0.Closed b0.Fuel b0.Stack b0.Rules (shrO zD) r2 hr2
 refine zc [3] (.p (.tup [])) [(ZB b0 zD), (ZJ b1 z17 z13), (ZB b2 zN), (Z2F r1 r2 b0.Fuel b0.Stack b0.Rules (shrO zD))] er2<|ze<|zq<|zq<|zq<|zi fun r3 hr3 => ?_
 obtain ⟨_, er3, _, rfl⟩ := ZqS b1.Fuel r1 r2 b0.Fuel b0.Stack b0.Rules (shrO zD) r3 hr3
 refine zc [3] (.p (.tup [])) [(ZB b0 zD), (ZJ b1 z17 z13), (ZB b2 zN), (Z2F r1 r2 r3 b0.Stack b0.Rules (shrO zD))] er3<|ze<|zq<|zq<|zq<|zi fun r4 hr4 => ?_
 obtain ⟨_, er4, _, rfl⟩ := ZqQ b1.Stack r1 r2 r3 b0.Stack b0.Rules (shrO zD) r4 hr4
 refine zc [3] (.p (.tup [])) [(ZB b0 zD), (ZJ b1 z17 z13), (ZB b2 zN), (Z2F r1 r2 r3 r4 b0.Rules (shrO zD))] er4<|ze<|zq<|zi fun r5 hr5 => ?_
 obtain ⟨_, er5, _, rfl⟩ := ZgN (ZE.mk r1 r2 r3 r4 b0.Rules) .sh r5 hr5
 refine zc [] (bv r5) [(ZB b0 zD), (ZJ b1 z17 z13), (ZB b2 zN), (Z2F r1 r2 r3 r4 b0.Rules (shrO zD))] er5<|zq ?_
 refine za (!r5) ?_ ?_
 ·exact zk (ZjM b0 b1 b2 zD z17 z13 zN z1u)
 ·refine zq<|zq<|zi fun r6 hr6 => ?_
  obtain ⟨_, er6, _, rfl⟩ := Zos b1.Put .sh r6 hr6
  refine zc [] (bv r6) [(ZB b0 zD), (ZJ b1 z17 z13), (ZB b2 zN), (Z2F r1 r2 r3 r4 b0.Rules (shrO zD))] er6<|zq ?_
  refine za (!r6) ?_ ?_
  ·exact zk (ZjM b0 b1 b2 zD z17 z13 zN z1u)
  ·exact zk (ZqA b0 b1 b2 r1 r2 r3 r4 b0.Rules zD z17 z13 zN (shrO zD) z1u)
def ZiL (x0 : ZE) (x1 : Z1i) : Option (ZE × Int) :=
 (ZbC x0).bind fun r1 =>
 if (!r1) = true then
 (some ((ZE.mk 0 0 0 0 ([] : List ZA)), 10))
 else
 (Zez x0 x1)
theorem Zvk x0 x1 z1a z2L z2t : Sim Z2T (ZiL x0 x1) (EE 22 [(pA_ (Z1C x0 z1a)), (pA_ (Z4S x1 z2L z2t))] []) := by
 unfold ZiL
 refine zf (ZO3 ..)<|ze<|zx (.ptr 0 0) [(ZB x0 z1a)]<|zx (.ptr 1 0) [(ZB x0 z1a), (ZJ x1 z2L z2t)]<|zz (.ptr 2 0) [(ZB x0 z1a), (ZJ x1 z2L z2t), (ZB Z4j .nl)]<|ze<|zq<|zi fun r1 hr1 => ?_
 obtain ⟨_, er1, _, rfl⟩ := ZjN x0 .sh r1 hr1
 refine zc [] (bv r1) [(ZB x0 z1a), (ZJ x1 z2L z2t), (ZB Z4j .nl)] er1<|zq ?_
 refine za (!r1) ?_ ?_
 ·refine ze<|zq<|zt [(ZB x0 z1a), (ZJ x1 z2L z2t), (ZB Z4j .nl)] ?_
  exact zr ((.p (.tup [(.agg (Z1C Z4j .sh)), (.v (.int .i64 10))])), [(ZB x0 z1a), (ZJ x1 z2L z2t), (ZB Z4j .nl)]) ⟨_, rfl⟩
 ·exact zk (ZrU x0 x1 Z4j z1a z2L z2t .nl rfl)
theorem ZwZ x0 x1 {r} (h : ZiL x0 x1 = some r) : Zf5 x0 x1 = some r :=
 Z1f (fun _ _ ha hb => ru_ Zdb (ha .ex .ex .ex) (hb .ex .ex .ex)) (fun z1a z2L z2t => Zvk x0 x1 z1a z2L z2t r h)
def ZdI (x54 : List ZA) (x55 x56 : Int) (b1 : Z1i) (zK zT z12 zW : Int) (z1B : List (Int × ZA)) : Option (ZE × Int) :=
 (lget x54 x56).bind fun a1 =>
 Zby x54 x55 (IntKind.i64.wrap (x56 + 1)) b1 zK zT z12 zW (putM z1B a1.ID a1)
theorem ZqC (x54 : List ZA) x55 x56 b0 b1 b2 zK zT z12 zW z1c z1B ox54 zD z17 z13 zN z18 (z1u : ZV zN = true) : Sim Z2T (ZdI x54 x55 x56 b1 zK zT z12 zW z1B) (Zzb 0 (.ptr 1 0) (.ptr 2 0) (.ptr 3 0) (.mp 4) (ZL ox54 (x54.map ZG)) (iv x55) (iv x56) [(ZB b0 zD), (ZJ b1 z17 z13), (ZB b2 zN), (Z2F zK zT z12 zW z1c z18), (rM_ ZG z1B)]) := by
 unfold ZdI
 refine zf (ZGd ..)<|ze<|zi fun a1 ha1 => zp (.cptr (Z1Y a1)) (et_ (Z3u (o := ox54) (k := .i64) (n := 5) (e := ZG) (cs := Z4Z) (fun _ => rfl) (fun _ => rfl) (by decide) ha1))<|zq<|zz (.ptr 5 0) [(ZB b0 zD), (ZJ b1 z17 z13), (ZB b2 zN), (Z2F zK zT z12 zW z1c z18), (rM_ ZG z1B), (Z1O (ZA.mk 0 0 0 0 (ByteArray.mk #[])))]<|zt [(ZB b0 zD), (ZJ b1 z17 z13), (ZB b2 zN), (Z2F zK zT z12 zW z1c z18), (rM_ ZG z1B), (Z1O a1)]<|ze<|zq<|zq<|zq ?_
 refine Sim.xupd (B2 := [(ZB b0 zD), (ZJ b1 z17 z13), (ZB b2 zN), (Z2F zK zT z12 zW z1c z18), (rM_ ZG (putM z1B a1.ID a1)), (Z1O a1)]) (fun K => Eq.trans (b := xupd PP 110 (.mp 4) (iv a1.ID) (pA_ (Z1Y a1)) [(ZB b0 zD), (ZJ b1 z17 z13), (ZB b2 zN), (Z2F zK zT z12 zW z1c z18), (rM_ ZG z1B), (Z1O a1)] K) (by kernel_rfl) <| Zug (P := PP) (t := 110) (K := K) (B2 := [(ZB b0 zD), (ZJ b1 z17 z13), (ZB b2 zN), (Z2F zK zT z12 zW z1c z18), (rM_ ZG (putM z1B a1.ID a1)), (Z1O a1)]) (e := ZG) (a := a1) (es := z1B) (te := 43) (by kernel_rfl) (by kernel_rfl) (by kernel_rfl) (by kernel_rfl) (by kernel_rfl)) ?_
 refine ze<|zq ?_
 exact zk (ZjF x54 x55 (IntKind.i64.wrap (x56 + 1)) b0 b1 b2 zK zT z12 zW z1c (putM z1B a1.ID a1) ox54 zD z17 z13 zN z18 z1u)
def Zbp (b1 : Z1i) (zK zT z12 zW : Int) (z1B : List (Int × ZA)) : Option (ZE × Int) :=
 Zbz b1.Drop (b1.Drop.length : Int) 0 b1 zK zT z12 zW z1B
theorem ZqD b0 b1 b2 zK zT z12 zW z1c z1B zD z17 z13 zN z18 (z1u : ZV zN = true) : Sim Z2T (Zbp b1 zK zT z12 zW z1B) (Zzc 0 (.ptr 1 0) (.ptr 2 0) (.ptr 3 0) (.mp 4) [(ZB b0 zD), (ZJ b1 z17 z13), (ZB b2 zN), (Z2F zK zT z12 zW z1c z18), (rM_ ZG z1B)]) := by
 unfold Zbp
 refine zf (ZGe ..)<|ze<|zq<|zq<|zp (iv (b1.Drop.length : Int)) (et_ (Z2M (P := PP) (t := 27) (d := 3) (by kernel_rfl) (eI .i64) (shrO z13) b1.Drop)) ?_
 exact zk (ZjH b1.Drop (b1.Drop.length : Int) 0 b0 b1 b2 zK zT z12 zW z1c z1B (shrO z13) zD z17 z13 zN z18 z1u)
def Zbl (x54 : List ZA) (x55 x56 : Int) (b1 : Z1i) (zK zT z12 zW : Int) (z1B : List (Int × ZA)) : Option (ZE × Int) :=
 if (decide (x56 < x55)) = true then
 (ZdI x54 x55 x56 b1 zK zT z12 zW z1B)
 else
 (Zbp b1 zK zT z12 zW z1B)
theorem Zqt (x54 : List ZA) x55 x56 b0 b1 b2 zK zT z12 zW z1c z1B ox54 zD z17 z13 zN z18 (z1u : ZV zN = true) : Sim Z2T (Zbl x54 x55 x56 b1 zK zT z12 zW z1B) (Zp3 0 (.ptr 1 0) (.ptr 2 0) (.ptr 3 0) (.mp 4) (ZL ox54 (x54.map ZG)) (iv x55) (iv x56) [(ZB b0 zD), (ZJ b1 z17 z13), (ZB b2 zN), (Z2F zK zT z12 zW z1c z18), (rM_ ZG z1B)]) := by
 unfold Zbl
 refine zf (ZG7 ..)<|ze<|zq ?_
 refine za (decide (x56 < x55)) ?_ ?_
 ·exact zk (ZqC x54 x55 x56 b0 b1 b2 zK zT z12 zW z1c z1B ox54 zD z17 z13 zN z18 z1u)
 ·exact zk (ZqD b0 b1 b2 zK zT z12 zW z1c z1B zD z17 z13 zN z18 z1u)
theorem ZjE x54 x55 x56 b1 zK zT z12 zW z1B {r} (h : Zbl x54 x55 x56 b1 zK zT z12 zW z1B = some r) : Zby x54 x55 x56 b1 zK zT z12 zW z1B = some r :=
 Z1f (fun _ _ ha hb => ru_ Zdb (ha default default default .ex .ex .ex .ex .ex .ex rfl) (hb default default default .ex .ex .ex .ex .ex .ex rfl)) (fun b0 b2 z1c ox54 zD z17 z13 zN z18 z1u => Zqt x54 x55 x56 b0 b1 b2 zK zT z12 zW z1c z1B ox54 zD z17 z13 zN z18 z1u r h)
def ZdL (x66 : List Int) (x67 x68 : Int) (b1 : Z1i) (zK zT z12 zW : Int) (z1B : List (Int × ZA)) : Option (ZE × Int) :=
 Zbz x66 x67 (IntKind.i64.wrap (x68 + 1)) b1 zK zT z12 zW z1B
theorem ZqG (x66 : List Int) x67 x68 b0 b1 b2 zK zT z12 zW z1c z1B ox66 zD z17 z13 zN z18 (z1u : ZV zN = true) : Sim Z2T (ZdL x66 x67 x68 b1 zK zT z12 zW z1B) (Zzf 0 (.ptr 1 0) (.ptr 2 0) (.ptr 3 0) (.mp 4) (ZL ox66 (x66.map (eI .i64))) (iv x67) (iv x68) [(ZB b0 zD), (ZJ b1 z17 z13), (ZB b2 zN), (Z2F zK zT z12 zW z1c z18), (rM_ ZG z1B)]) := by
 unfold ZdL
 refine zf (ZGh ..)<|ze<|zq ?_
 exact zk (ZjH x66 x67 (IntKind.i64.wrap (x68 + 1)) b0 b1 b2 zK zT z12 zW z1c z1B ox66 zD z17 z13 zN z18 z1u)
def ZdK (x11 : Int) (x66 : List Int) (x67 x68 : Int) (b1 : Z1i) (zK zT z12 zW : Int) (z1B : List (Int × ZA)) : Option (ZE × Int) :=
 ZdL x66 x67 x68 b1 zK zT z12 zW (delM z1B x11)
theorem ZqF x11 (x66 : List Int) x67 x68 b0 b1 b2 zK zT z12 zW z1c z1B ox66 zD z17 z13 zN z18 (z1u : ZV zN = true) : Sim Z2T (ZdK x11 x66 x67 x68 b1 zK zT z12 zW z1B) (Zze 0 (.ptr 1 0) (.ptr 2 0) (.ptr 3 0) (.mp 4) (iv x11) (ZL ox66 (x66.map (eI .i64))) (iv x67) (iv x68) [(ZB b0 zD), (ZJ b1 z17 z13), (ZB b2 zN), (Z2F zK zT z12 zW z1c z18), (rM_ ZG z1B)]) := by
 unfold ZdK
 refine zf (ZGg ..)<|ze ?_
 refine Sim.xdel (B2 := [(ZB b0 zD), (ZJ b1 z17 z13), (ZB b2 zN), (Z2F zK zT z12 zW z1c z18), (rM_ ZG (delM z1B x11))]) (fun K => Eq.trans (b := xdel PP 110 (.mp 4) (iv x11) [(ZB b0 zD), (ZJ b1 z17 z13), (ZB b2 zN), (Z2F zK zT z12 zW z1c z18), (rM_ ZG z1B)] K) (by kernel_rfl) <| ZNt (P := PP) (t := 110) (K := K) (B2 := [(ZB b0 zD), (ZJ b1 z17 z13), (ZB b2 zN), (Z2F zK zT z12 zW z1c z18), (rM_ ZG (delM z1B x11))]) (e := ZG) (es := z1B) (te := 43) (by kernel_rfl) (by kernel_rfl) (by kernel_rfl)) ?_
 exact zk (ZqG x66 x67 x68 b0 b1 b2 zK zT z12 zW z1c (delM z1B x11) ox66 zD z17 z13 zN z18 z1u)
def ZdJ (x66 : List Int) (x67 x68 : Int) (b1 : Z1i) (zK zT z12 zW : Int) (z1B : List (Int × ZA)) : Option (ZE × Int) :=
 (lget x66 x68).bind fun a1 =>
 if (!(getM z1B a1).isSome) = true then
 (some ((ZE.mk 0 0 0 0 ([] : List ZA)), 32))
 else
 (ZdK a1 x66 x67 x68 b1 zK zT z12 zW z1B)
theorem ZqE (x66 : List Int) x67 x68 b0 b1 b2 zK zT z12 zW z1c z1B ox66 zD z17 z13 zN z18 (z1u : ZV zN = true) : Sim Z2T (ZdJ x66 x67 x68 b1 zK zT z12 zW z1B) (Zzd 0 (.ptr 1 0) (.ptr 2 0) (.ptr 3 0) (.mp 4) (ZL ox66 (x66.map (eI .i64))) (iv x67) (iv x68) [(ZB b0 zD), (ZJ b1 z17 z13), (ZB b2 zN), (Z2F zK zT z12 zW z1c z18), (rM_ ZG z1B)]) := by
 unfold ZdJ
 refine zf (ZGf ..)<|ze<|zi fun a1 ha1 => zp (.cptr [(.v (.int .i64 a1))]) (et_ (Z3u (o := ox66) (k := .i64) (n := 1) (e := (eI .i64)) (cs := (fun a => [(eI .i64) a])) (fun _ => rfl) (fun _ => rfl) (by decide) ha1))<|zq<|ze<|zp (.p (.tup [(.agg (Z1Y ((getM z1B a1).getD (ZA.mk 0 0 0 0 (ByteArray.mk #[]))))), (.v (.bool (getM z1B a1).isSome))])) (Eq.trans (b := Ze8 PP 110 true (.mp 4) (iv a1) [(ZB b0 zD), (ZJ b1 z17 z13), (ZB b2 zN), (Z2F zK zT z12 zW z1c z18), (rM_ ZG z1B)]) (by kernel_rfl) <| (ZrA (e := ZG) (z := (ZA.mk 0 0 0 0 (ByteArray.mk #[]))) (es := z1B) (te := 43) (by kernel_rfl) (by kernel_rfl) (by kernel_rfl) true).trans (by kernel_rfl))<|zq<|zq<|zz (.ptr 5 0) [(ZB b0 zD), (ZJ b1 z17 z13), (ZB b2 zN), (Z2F zK zT z12 zW z1c z18), (rM_ ZG z1B), (Z1O (ZA.mk 0 0 0 0 (ByteArray.mk #[])))]<|zt [(ZB b0 zD), (ZJ b1 z17 z13), (ZB b2 zN), (Z2F zK zT z12 zW z1c z18), (rM_ ZG z1B), (Z1O ((getM z1B a1).getD (ZA.mk 0 0 0 0 (ByteArray.mk #[]))))]<|ze<|zq ?_
 refine za (!(getM z1B a1).isSome) ?_ ?_
 ·refine ze<|zq<|zt [(ZB b0 zD), (ZJ b1 z17 z13), (ZB Z4j .nl), (Z2F zK zT z12 zW z1c z18), (rM_ ZG z1B), (Z1O ((getM z1B a1).getD (ZA.mk 0 0 0 0 (ByteArray.mk #[]))))] ?_
  exact zr ((.p (.tup [(.agg (Z1C Z4j .sh)), (.v (.int .i64 32))])), [(ZB b0 zD), (ZJ b1 z17 z13), (ZB Z4j .nl), (Z2F zK zT z12 zW z1c z18), (rM_ ZG z1B), (Z1O ((getM z1B a1).getD (ZA.mk 0 0 0 0 (ByteArray.mk #[]))))]) ⟨_, rfl⟩
 ·exact zk (ZqF a1 x66 x67 x68 b0 b1 b2 zK zT z12 zW z1c z1B ox66 zD z17 z13 zN z18 z1u)
def Zbq (b1 : Z1i) (zK zT z12 zW : Int) (z1B : List (Int × ZA)) : Option (ZE × Int) :=
 ZbA b1.Put (b1.Put.length : Int) 0 zK zT z12 zW z1B
theorem ZqH b0 b1 b2 zK zT z12 zW z1c z1B zD z17 z13 zN z18 (z1u : ZV zN = true) : Sim Z2T (Zbq b1 zK zT z12 zW z1B) (Zzg 0 (.ptr 1 0) (.ptr 2 0) (.ptr 3 0) (.mp 4) [(ZB b0 zD), (ZJ b1 z17 z13), (ZB b2 zN), (Z2F zK zT z12 zW z1c z18), (rM_ ZG z1B)]) := by
 unfold Zbq
 refine zf (ZGi ..)<|ze<|zq<|zq<|zp (iv (b1.Put.length : Int)) (et_ (Z2M (P := PP) (t := 22) (d := 43) (by kernel_rfl) ZG (shrO z17) b1.Put)) ?_
 exact zk (ZjJ b1.Put (b1.Put.length : Int) 0 b0 b1 b2 zK zT z12 zW z1c z1B (shrO z17) zD z17 z13 zN z18 z1u)
def Zbm (x66 : List Int) (x67 x68 : Int) (b1 : Z1i) (zK zT z12 zW : Int) (z1B : List (Int × ZA)) : Option (ZE × Int) :=
 if (decide (x68 < x67)) = true then
 (ZdJ x66 x67 x68 b1 zK zT z12 zW z1B)
 else
 (Zbq b1 zK zT z12 zW z1B)
theorem Zqv (x66 : List Int) x67 x68 b0 b1 b2 zK zT z12 zW z1c z1B ox66 zD z17 z13 zN z18 (z1u : ZV zN = true) : Sim Z2T (Zbm x66 x67 x68 b1 zK zT z12 zW z1B) (Zp4 0 (.ptr 1 0) (.ptr 2 0) (.ptr 3 0) (.mp 4) (ZL ox66 (x66.map (eI .i64))) (iv x67) (iv x68) [(ZB b0 zD), (ZJ b1 z17 z13), (ZB b2 zN), (Z2F zK zT z12 zW z1c z18), (rM_ ZG z1B)]) := by
 unfold Zbm
 refine zf (ZG8 ..)<|ze<|zq ?_
 refine za (decide (x68 < x67)) ?_ ?_
 ·exact zk (ZqE x66 x67 x68 b0 b1 b2 zK zT z12 zW z1c z1B ox66 zD z17 z13 zN z18 z1u)
 ·exact zk (ZqH b0 b1 b2 zK zT z12 zW z1c z1B zD z17 z13 zN z18 z1u)
theorem ZjG x66 x67 x68 b1 zK zT z12 zW z1B {r} (h : Zbm x66 x67 x68 b1 zK zT z12 zW z1B = some r) : Zbz x66 x67 x68 b1 zK zT z12 zW z1B = some r :=
 Z1f (fun _ _ ha hb => ru_ Zdb (ha default default default .ex .ex .ex .ex .ex .ex rfl) (hb default default default .ex .ex .ex .ex .ex .ex rfl)) (fun b0 b2 z1c ox66 zD z17 z13 zN z18 z1u => Zqv x66 x67 x68 b0 b1 b2 zK zT z12 zW z1c z1B ox66 zD z17 z13 zN z18 z1u r h)
def ZdM (x85 : List ZA) (x86 x87 zK zT z12 zW : Int) (z1B : List (Int × ZA)) : Option (ZE × Int) :=
 (lget x85 x87).bind fun a1 =>
 ZbA x85 x86 (IntKind.i64.wrap (x87 + 1)) zK zT z12 zW (putM z1B a1.ID a1)
theorem ZqI (x85 : List ZA) x86 x87 b0 b1 b2 zK zT z12 zW z1c z1B ox85 zD z17 z13 zN z18 (z1u : ZV zN = true) : Sim Z2T (ZdM x85 x86 x87 zK zT z12 zW z1B) (Zzh 0 (.ptr 2 0) (.ptr 3 0) (.mp 4) (ZL ox85 (x85.map ZG)) (iv x86) (iv x87) [(ZB b0 zD), (ZJ b1 z17 z13), (ZB b2 zN), (Z2F zK zT z12 zW z1c z18), (rM_ ZG z1B)]) := by
 unfold ZdM
 refine zf (ZGj ..)<|ze<|zi fun a1 ha1 => zp (.cptr (Z1Y a1)) (et_ (Z3u (o := ox85) (k := .i64) (n := 5) (e := ZG) (cs := Z4Z) (fun _ => rfl) (fun _ => rfl) (by decide) ha1))<|zq<|zz (.ptr 5 0) [(ZB b0 zD), (ZJ b1 z17 z13), (ZB b2 zN), (Z2F zK zT z12 zW z1c z18), (rM_ ZG z1B), (Z1O (ZA.mk 0 0 0 0 (ByteArray.mk #[])))]<|zt [(ZB b0 zD), (ZJ b1 z17 z13), (ZB b2 zN), (Z2F zK zT z12 zW z1c z18), (rM_ ZG z1B), (Z1O a1)]<|ze<|zq<|zq<|zq ?_
 refine Sim.xupd (B2 := [(ZB b0 zD), (ZJ b1 z17 z13), (ZB b2 zN), (Z2F zK zT z12 zW z1c z18), (rM_ ZG (putM z1B a1.ID a1)), (Z1O a1)]) (fun K => Eq.trans (b := xupd PP 110 (.mp 4) (iv a1.ID) (pA_ (Z1Y a1)) [(ZB b0 zD), (ZJ b1 z17 z13), (ZB b2 zN), (Z2F zK zT z12 zW z1c z18), (rM_ ZG z1B), (Z1O a1)] K) (by kernel_rfl) <| Zug (P := PP) (t := 110) (K := K) (B2 := [(ZB b0 zD), (ZJ b1 z17 z13), (ZB b2 zN), (Z2F zK zT z12 zW z1c z18), (rM_ ZG (putM z1B a1.ID a1)), (Z1O a1)]) (e := ZG) (a := a1) (es := z1B) (te := 43) (by kernel_rfl) (by kernel_rfl) (by kernel_rfl) (by kernel_rfl) (by kernel_rfl)) ?_
 refine ze<|zq ?_
 exact zk (ZjJ x85 x86 (IntKind.i64.wrap (x87 + 1)) b0 b1 b2 zK zT z12 zW z1c (putM z1B a1.ID a1) ox85 zD z17 z13 zN z18 z1u)
def ZdN (zK zT z12 zW : Int) (z1B : List (Int × ZA)) : Option (ZE × Int) :=
 (ZaX).bind fun r1 =>
 (Zc7 z1B).bind fun r2 =>
 ZbB r2 (r2.length : Int) 0 zK zT z12 zW ([] : List ZA) z1B
theorem ZqK b0 b1 b2 zK zT z12 zW z1c z1B zD z17 z13 zN z18 (z1u : ZV zN = true) : Sim Z2T (ZdN zK zT z12 zW z1B) (Zzj 0 (.ptr 2 0) (.ptr 3 0) (.mp 4) [(ZB b0 zD), (ZJ b1 z17 z13), (ZB b2 zN), (Z2F zK zT z12 zW z1c z18), (rM_ ZG z1B)]) := by
 unfold ZdN
 refine zf (ZGl ..)<|ze<|zq<|zt [(ZB b0 zD), (ZJ b1 z17 z13), (ZB b2 zN), (Z2F zK zT z12 zW ([] : List ZA) .nl), (rM_ ZG z1B)]<|ze<|zi fun r1 hr1 => ?_
 obtain ⟨_, er1, _, rfl, _⟩ := Zno z1B r1 hr1
 refine zc [4] (.clo 78 [] [(.ptr 5 0)]) [(ZB b0 zD), (ZJ b1 z17 z13), (ZB b2 zN), (Z2F zK zT z12 zW ([] : List ZA) .nl), (rM_ ZG z1B), [(.mp 4)]] er1<|zi fun r2 hr2 => ?_
 obtain ⟨_, er2, _, rfl⟩ := Zlz z1B r2 hr2
 refine zc [5, 4] (ZL .sh (r2.map (eI .i64))) [(ZB b0 zD), (ZJ b1 z17 z13), (ZB b2 zN), (Z2F zK zT z12 zW ([] : List ZA) .nl), (rM_ ZG z1B), [(.mp 4)]] er2<|zp (iv (r2.length : Int)) (et_ (Z2M (P := PP) (t := 27) (d := 3) (by kernel_rfl) (eI .i64) .sh r2)) ?_
 exact zk (ZjL r2 (r2.length : Int) 0 b0 b1 b2 zK zT z12 zW ([] : List ZA) z1B .sh zD z17 z13 zN .nl z1u rfl)
def Zbr (zK zT z12 zW : Int) (z1B : List (Int × ZA)) : Option (ZE × Int) :=
 if (decide (16 < (z1B.length : Int))) = true then
 (some ((ZE.mk 0 0 0 0 ([] : List ZA)), 33))
 else
 (ZdN zK zT z12 zW z1B)
theorem ZqJ b0 b1 b2 zK zT z12 zW z1c z1B zD z17 z13 zN z18 (z1u : ZV zN = true) : Sim Z2T (Zbr zK zT z12 zW z1B) (Zzi 0 (.ptr 2 0) (.ptr 3 0) (.mp 4) [(ZB b0 zD), (ZJ b1 z17 z13), (ZB b2 zN), (Z2F zK zT z12 zW z1c z18), (rM_ ZG z1B)]) := by
 unfold Zbr
 refine zf (ZGk ..)<|ze<|zp (iv (z1B.length : Int)) (Eq.trans (b := ZrB (.mp 4) [(ZB b0 zD), (ZJ b1 z17 z13), (ZB b2 zN), (Z2F zK zT z12 zW z1c z18), (rM_ ZG z1B)]) (by kernel_rfl) (ZL5 (e := ZG) (es := z1B) (by kernel_rfl)))<|zq ?_
 refine za (decide (16 < (z1B.length : Int))) ?_ ?_
 ·refine ze<|zq<|zt [(ZB b0 zD), (ZJ b1 z17 z13), (ZB Z4j .nl), (Z2F zK zT z12 zW z1c z18), (rM_ ZG z1B)] ?_
  exact zr ((.p (.tup [(.agg (Z1C Z4j .sh)), (.v (.int .i64 33))])), [(ZB b0 zD), (ZJ b1 z17 z13), (ZB Z4j .nl), (Z2F zK zT z12 zW z1c z18), (rM_ ZG z1B)]) ⟨_, rfl⟩
 ·exact zk (ZqK b0 b1 b2 zK zT z12 zW z1c z1B zD z17 z13 zN z18 z1u)
def Zbn (x85 : List ZA) (x86 x87 zK zT z12 zW : Int) (z1B : List (Int × ZA)) : Option (ZE × Int) :=
 if (decide (x87 < x86)) = true then
 (ZdM x85 x86 x87 zK zT z12 zW z1B)
 else
 (Zbr zK zT z12 zW z1B)
theorem Zqx (x85 : List ZA) x86 x87 b0 b1 b2 zK zT z12 zW z1c z1B ox85 zD z17 z13 zN z18 (z1u : ZV zN = true) : Sim Z2T (Zbn x85 x86 x87 zK zT z12 zW z1B) (Zp5 0 (.ptr 2 0) (.ptr 3 0) (.mp 4) (ZL ox85 (x85.map ZG)) (iv x86) (iv x87) [(ZB b0 zD), (ZJ b1 z17 z13), (ZB b2 zN), (Z2F zK zT z12 zW z1c z18), (rM_ ZG z1B)]) := by
 unfold Zbn
 refine zf (ZG9 ..)<|ze<|zq ?_
 refine za (decide (x87 < x86)) ?_ ?_
 ·exact zk (ZqI x85 x86 x87 b0 b1 b2 zK zT z12 zW z1c z1B ox85 zD z17 z13 zN z18 z1u)
 ·exact zk (ZqJ b0 b1 b2 zK zT z12 zW z1c z1B zD z17 z13 zN z18 z1u)
theorem ZjI x85 x86 x87 zK zT z12 zW z1B {r} (h : Zbn x85 x86 x87 zK zT z12 zW z1B = some r) : ZbA x85 x86 x87 zK zT z12 zW z1B = some r :=
 Z1f (fun _ _ ha hb => ru_ Zdb (ha default default default default .ex .ex .ex .ex .ex .ex rfl) (hb default default default default .ex .ex .ex .ex .ex .ex rfl)) (fun b0 b1 b2 z1c ox85 zD z17 z13 zN z18 z1u => Zqx x85 x86 x87 b0 b1 b2 zK zT z12 zW z1c z1B ox85 zD z17 z13 zN z18 z1u r h)
def ZdO (x103 : List Int) (x104 x105 zK zT z12 zW : Int) (z1c : List ZA) (z1B : List (Int × ZA)) : Option (ZE × Int) :=
 (lget x103 x105).bind fun a1 =>
 (lapp z1c ([((getM z1B a1).getD (ZA.mk 0 0 0 0 (ByteArray.mk #[])))] : List ZA)).bind fun a2 =>
 ZbB x103 x104 (IntKind.i64.wrap (x105 + 1)) zK zT z12 zW a2 z1B
theorem ZqL (x103 : List Int) x104 x105 b0 b1 b2 zK zT z12 zW z1c z1B ox103 zD z17 z13 zN z18 (z1u : ZV zN = true) (za7 : ZV z18 = true) : Sim Z2T (ZdO x103 x104 x105 zK zT z12 zW z1c z1B) (Zzk 0 (.ptr 2 0) (.ptr 3 0) (.mp 4) (ZL ox103 (x103.map (eI .i64))) (iv x104) (iv x105) [(ZB b0 zD), (ZJ b1 z17 z13), (ZB b2 zN), (Z2F zK zT z12 zW z1c z18), (rM_ ZG z1B)]) := by
 unfold ZdO
 refine zf (ZGm ..)<|ze<|zi fun a1 ha1 => zp (.cptr [(.v (.int .i64 a1))]) (et_ (Z3u (o := ox103) (k := .i64) (n := 1) (e := (eI .i64)) (cs := (fun a => [(eI .i64) a])) (fun _ => rfl) (fun _ => rfl) (by decide) ha1))<|zq<|ze<|zq<|zw (ZL z18 (z1c.map ZG)) [(ZB b0 zD), (ZJ b1 z17 z13), (ZB b2 zN), (Z2F zK zT z12 zW z1c (shrO z18)), (rM_ ZG z1B)]<|zp (pA_ (Z1Y ((getM z1B a1).getD (ZA.mk 0 0 0 0 (ByteArray.mk #[]))))) (Eq.trans (b := Ze8 PP 110 false (.mp 4) (iv a1) [(ZB b0 zD), (ZJ b1 z17 z13), (ZB b2 zN), (Z2F zK zT z12 zW z1c (shrO z18)), (rM_ ZG z1B)]) (by kernel_rfl) <| (ZrA (e := ZG) (z := (ZA.mk 0 0 0 0 (ByteArray.mk #[]))) (es := z1B) (te := 43) (by kernel_rfl) (by kernel_rfl) (by kernel_rfl) false).trans (by kernel_rfl))<|zq<|zi fun a2 ha2 => zp (ZL .un (a2.map ZG)) (Eq.trans (by kernel_rfl) <| Zin (n := 5) (o := z18) (o' := .ex) (e := ZG) (ys := ([((getM z1B a1).getD (ZA.mk 0 0 0 0 (ByteArray.mk #[])))] : List ZA)) (fun _ => rfl) (by decide) za7 ha2)<|zq<|zt [(ZB b0 zD), (ZJ b1 z17 z13), (ZB b2 zN), (Z2F zK zT z12 zW a2 .un), (rM_ ZG z1B)]<|ze<|zq ?_
 exact zk (ZjL x103 x104 (IntKind.i64.wrap (x105 + 1)) b0 b1 b2 zK zT z12 zW a2 z1B ox103 zD z17 z13 zN .un z1u rfl)
def ZdP (zK zT z12 zW : Int) (z1c : List ZA) : Option (ZE × Int) :=
 some ((ZE.mk zK zT z12 zW z1c), 0)
theorem ZqM b0 b1 b2 zK zT z12 zW z1c zD z17 z13 zN z18 (z1u : ZV zN = true) (za7 : ZV z18 = true) : Sim Z2T (ZdP zK zT z12 zW z1c) (Zzl 0 (.ptr 2 0) (.ptr 3 0) [(ZB b0 zD), (ZJ b1 z17 z13), (ZB b2 zN), (Z2F zK zT z12 zW z1c z18)]) := by
 unfold ZdP
 refine zf (ZGn ..)<|ze<|zq<|zt [(ZB b0 zD), (ZJ b1 z17 z13), (Z2F zK zT z12 zW z1c (shrO z18)), (Z2F zK zT z12 zW z1c z18)] ?_
 exact zr ((.p (.tup [(.agg (Z1C (ZE.mk zK zT z12 zW z1c) .sh)), (.v (.int .i64 0))])), [(ZB b0 zD), (ZJ b1 z17 z13), (Z2F zK zT z12 zW z1c (shrO z18)), (Z2F zK zT z12 zW z1c z18)]) ⟨_, rfl⟩
def Zbo (x103 : List Int) (x104 x105 zK zT z12 zW : Int) (z1c : List ZA) (z1B : List (Int × ZA)) : Option (ZE × Int) :=
 if (decide (x105 < x104)) = true then
 (ZdO x103 x104 x105 zK zT z12 zW z1c z1B)
 else
 (ZdP zK zT z12 zW z1c)
theorem Zqz (x103 : List Int) x104 x105 b0 b1 b2 zK zT z12 zW z1c z1B ox103 zD z17 z13 zN z18 (z1u : ZV zN = true) (za7 : ZV z18 = true) : Sim Z2T (Zbo x103 x104 x105 zK zT z12 zW z1c z1B) (Zp6 0 (.ptr 2 0) (.ptr 3 0) (.mp 4) (ZL ox103 (x103.map (eI .i64))) (iv x104) (iv x105) [(ZB b0 zD), (ZJ b1 z17 z13), (ZB b2 zN), (Z2F zK zT z12 zW z1c z18), (rM_ ZG z1B)]) := by
 unfold Zbo
 refine zf (ZGa ..)<|ze<|zq ?_
 refine za (decide (x105 < x104)) ?_ ?_
 ·exact zk (ZqL x103 x104 x105 b0 b1 b2 zK zT z12 zW z1c z1B ox103 zD z17 z13 zN z18 z1u za7)
 ·exact zk (ZqM b0 b1 b2 zK zT z12 zW z1c zD z17 z13 zN z18 z1u za7)
theorem ZjK x103 x104 x105 zK zT z12 zW z1c z1B {r} (h : Zbo x103 x104 x105 zK zT z12 zW z1c z1B = some r) : ZbB x103 x104 x105 zK zT z12 zW z1c z1B = some r :=
 Z1f (fun _ _ ha hb => ru_ Zdb (ha default default default .ex .ex .ex .ex .ex .ex rfl rfl) (hb default default default .ex .ex .ex .ex .ex .ex rfl rfl)) (fun b0 b1 b2 ox103 zD z17 z13 zN z18 z1u za7 => Zqz x103 x104 x105 b0 b1 b2 zK zT z12 zW z1c z1B ox103 zD z17 z13 zN z18 z1u za7 r h)
def Z9C : Option Bool :=
 some false
theorem Zg4 : Sim Z11 Z9C (Zwl 0 []) := by
 unfold Z9C
 refine zf (ZI0 ..)<|ze ?_
 exact zr ((bv false), []) ⟨_, rfl⟩
def ZbT (b0 : ZE) : Option Bool :=
 Z9H 0 b0.Rules (b0.Rules.length : Int) 0
theorem ZnD b0 zD : Sim Z11 (ZbT b0) (ZAU 0 (.ptr 0 0) [(ZB b0 zD)]) := by
 unfold ZbT
 refine zf (ZI1 ..)<|ze<|ze<|zq<|zq<|zp (iv (b0.Rules.length : Int)) (et_ (Z2M (P := PP) (t := 22) (d := 43) (by kernel_rfl) ZG (shrO zD) b0.Rules)) ?_
 exact zk (ZgM 0 b0.Rules (b0.Rules.length : Int) 0 (shrO zD))
def ZdQ (x0 : ZE) : Option Bool :=
 (Z9I x0).bind fun r1 =>
 if (!r1) = true then
 Z9C
 else
 (if (decide (16 < (x0.Rules.length : Int))) = true then
 Z9C
 else
 (ZbT x0))
theorem ZqO x0 z1a : Sim Z11 (ZdQ x0) (EE 20 [(pA_ (Z1C x0 z1a))] []) := by
 unfold ZdQ
 refine zf (ZNW ..)<|ze<|zx (.ptr 0 0) [(ZB x0 z1a)]<|ze<|zq<|zi fun r1 hr1 => ?_
 obtain ⟨_, er1, _, rfl⟩ := ZgN x0 .sh r1 hr1
 refine zc [] (bv r1) [(ZB x0 z1a)] er1<|zq ?_
 refine za (!r1) ?_ ?_
 ·exact zk Zg4
 ·refine zq<|zq<|zp (iv (x0.Rules.length : Int)) (et_ (Z2M (P := PP) (t := 22) (d := 43) (by kernel_rfl) ZG (shrO z1a) x0.Rules))<|zq ?_
  refine za (decide (16 < (x0.Rules.length : Int))) ?_ ?_
  ·exact zk Zg4
  ·exact zk (ZnD x0 z1a)
theorem ZrV x0 {r} (h : ZdQ x0 = some r) : ZbC x0 = some r :=
 Z1f (fun _ _ ha hb => ru_ Z2p (ha .ex) (hb .ex)) (fun z1a => ZqO x0 z1a r h)
def Z9D : Option Bool :=
 some false
theorem Zg5 : Sim Z11 Z9D (Zwm 0 []) := by
 unfold Z9D
 refine zf (ZI3 ..)<|ze ?_
 exact zr ((bv false), []) ⟨_, rfl⟩
def ZaW (x3 : Int) (x16 : List ZA) (x17 x18 : Int) : Option Bool :=
 Z9H x3 x16 x17 (IntKind.i64.wrap (x18 + 1))
theorem ZmX x3 (x16 : List ZA) x17 x18 ox16 : Sim Z11 (ZaW x3 x16 x17 x18) (Zz5 0 (iv x3) (ZL ox16 (x16.map ZG)) (iv x17) (iv x18) []) := by
 unfold ZaW
 refine zf (ZG5 ..)<|ze<|zq ?_
 exact zk (ZgM x3 x16 x17 (IntKind.i64.wrap (x18 + 1)) ox16)
def ZbV (x16 : List ZA) (x17 x18 : Int) (b0 : ZA) : Option Bool :=
 ZaW b0.ID x16 x17 x18
theorem ZnF (x16 : List ZA) x17 x18 b0 ox16 : Sim Z11 (ZbV x16 x17 x18 b0) (ZAW 0 (.ptr 0 0) (ZL ox16 (x16.map ZG)) (iv x17) (iv x18) [(Z1O b0)]) := by
 unfold ZbV
 refine zf (ZI4 ..)<|ze<|zq<|zq ?_
 exact zk (ZmX b0.ID x16 x17 x18 ox16)
def ZbU (x3 : Int) (x16 : List ZA) (x17 x18 : Int) : Option Bool :=
 (lget x16 x18).bind fun a1 =>
 (Z9o a1).bind fun r2 =>
 if (!r2) = true then
 Z9D
 else
 (if (decide (a1.ID ≤ x3)) = true then
 Z9D
 else
 (ZbV x16 x17 x18 a1))
theorem ZnE x3 (x16 : List ZA) x17 x18 ox16 : Sim Z11 (ZbU x3 x16 x17 x18) (ZAV 0 (iv x3) (ZL ox16 (x16.map ZG)) (iv x17) (iv x18) []) := by
 unfold ZbU
 refine zf (ZI2 ..)<|ze<|zi fun a1 ha1 => zp (.cptr (Z1Y a1)) (et_ (Z3u (o := ox16) (k := .i64) (n := 5) (e := ZG) (cs := Z4Z) (fun _ => rfl) (fun _ => rfl) (by decide) ha1))<|zq<|zz (.ptr 0 0) [(Z1O (ZA.mk 0 0 0 0 (ByteArray.mk #[])))]<|zt [(Z1O a1)]<|ze<|zq<|zi fun r2 hr2 => ?_
 obtain ⟨_, er2, _, rfl⟩ := Ze2 a1 r2 hr2
 refine zc [] (bv r2) [(Z1O a1)] er2<|zq ?_
 refine za (!r2) ?_ ?_
 ·exact zk Zg5
 ·refine zq<|zq<|zq ?_
  refine za (decide (a1.ID ≤ x3)) ?_ ?_
  ·exact zk Zg5
  ·exact zk (ZnF x16 x17 x18 a1 ox16)
def ZdR : Option Bool :=
 some true
theorem ZmY : Sim Z11 ZdR (Zz6 0 []) := by
 unfold ZdR
 refine zf (ZG6 ..)<|ze ?_
 exact zr ((bv true), []) ⟨_, rfl⟩
def Z9B (x3 : Int) (x16 : List ZA) (x17 x18 : Int) : Option Bool :=
 if (decide (x18 < x17)) = true then
 (ZbU x3 x16 x17 x18)
 else
 ZdR
theorem ZnC x3 (x16 : List ZA) x17 x18 ox16 : Sim Z11 (Z9B x3 x16 x17 x18) (Zsh 0 (iv x3) (ZL ox16 (x16.map ZG)) (iv x17) (iv x18) []) := by
 unfold Z9B
 refine zf (ZHZ ..)<|ze<|zq ?_
 refine za (decide (x18 < x17)) ?_ ?_
 ·exact zk (ZnE x3 x16 x17 x18 ox16)
 ·exact zk ZmY
theorem ZgL x3 x16 x17 x18 {r} (h : Z9B x3 x16 x17 x18 = some r) : Z9H x3 x16 x17 x18 = some r :=
 Z1f (fun _ _ ha hb => ru_ Z2p (ha .ex) (hb .ex)) (fun ox16 => ZnC x3 x16 x17 x18 ox16 r h)
def ZbW (x0 : ZE) : Option Bool :=
 if (decide (0 ≤ x0.Default)) = true then
 (if (decide (x0.Default ≤ 255)) = true then
 (if (decide (0 ≤ x0.Closed)) = true then
 (if (decide (x0.Closed ≤ 255)) = true then
 (if (decide (1 ≤ x0.Fuel)) = true then
 (if (decide (x0.Fuel ≤ 1048576)) = true then
 (if (decide (0 ≤ x0.Stack)) = true then
 (some (decide (x0.Stack ≤ 4096)))
 else
 (some false))
 else
 (some false))
 else
 (some false))
 else
 (some false))
 else
 (some false))
 else
 (some false))
 else
 (some false)
theorem ZnG x0 z1a : Sim Z11 (ZbW x0) (EE 46 [(pA_ (Z1C x0 z1a))] []) := by
 unfold ZbW
 refine zf (ZOs ..)<|ze<|zx (.ptr 0 0) [(ZB x0 z1a)]<|ze<|zq<|zq<|zq ?_
 refine za (decide (0 ≤ x0.Default)) ?_ ?_
 ·refine zq<|zq<|zq ?_
  refine za (decide (x0.Default ≤ 255)) ?_ ?_
  ·refine zq<|zq<|zq ?_
   refine za (decide (0 ≤ x0.Closed)) ?_ ?_
   ·refine zq<|zq<|zq ?_
    refine za (decide (x0.Closed ≤ 255)) ?_ ?_
    ·refine zq<|zq<|zq ?_
     refine za (decide (1 ≤ x0.Fuel)) ?_ ?_
     ·refine zq<|zq<|zq ?_
      refine za (decide (x0.Fuel ≤ 1048576)) ?_ ?_
      ·refine zq<|zq<|zq ?_
       refine za (decide (0 ≤ x0.Stack)) ?_ ?_
       ·refine zq<|zq<|zq ?_
        exact zr ((bv (decide (x0.Stack ≤ 4096))), [(ZB x0 z1a)]) ⟨_, rfl⟩
       ·exact zr ((bv false), [(ZB x0 z1a)]) ⟨_, rfl⟩
      ·exact zr ((bv false), [(ZB x0 z1a)]) ⟨_, rfl⟩
     ·exact zr ((bv false), [(ZB x0 z1a)]) ⟨_, rfl⟩
    ·exact zr ((bv false), [(ZB x0 z1a)]) ⟨_, rfl⟩
   ·exact zr ((bv false), [(ZB x0 z1a)]) ⟨_, rfl⟩
  ·exact zr ((bv false), [(ZB x0 z1a)]) ⟨_, rfl⟩
 ·exact zr ((bv false), [(ZB x0 z1a)]) ⟨_, rfl⟩
theorem Zoq x0 {r} (h : ZbW x0 = some r) : Z9I x0 = some r :=
 Z1f (fun _ _ ha hb => ru_ Z2p (ha .ex) (hb .ex)) (fun z1a => ZnG x0 z1a r h)
def Zhk (x1 z1K : Int) : Option Int :=
 if (x1 != (-1)) = true then
 (some x1)
 else
 (some z1K)
theorem Zuu x1 z1K z1R z2i z1X z1U zD : Sim (Zhf z1R z2i z1X z1U zD) (Zhk x1 z1K) (EE 49 [(.ptr 0 0), (iv x1)] [(Z2F z1K z1R z2i z1X z1U zD)]) := by
 unfold Zhk
 refine zf (ZwE ..)<|ze<|zq ?_
 refine za (x1 != (-1)) ?_ ?_
 ·refine ze<|zq<|zt [(Z2F x1 z1R z2i z1X z1U zD)] ?_
  exact zr ((.p (.tup [])), [(Z2F x1 z1R z2i z1X z1U zD)]) ⟨_, rfl⟩
 ·exact zr ((.p (.tup [])), [(Z2F z1K z1R z2i z1X z1U zD)]) ⟨_, rfl⟩
theorem Zvm x1 z1K {r} (h : Zhk x1 z1K = some r) : Zhq x1 z1K = some r :=
 Z1f (fun _ _ ha hb => ru_ (Zw5 _ _ _ _ _) (ha default default default default .ex) (hb default default default default .ex)) (fun z1R z2i z1X z1U zD => Zuu x1 z1K z1R z2i z1X z1U zD r h)
def Zd2 (x1 z1R : Int) : Option Int :=
 if (x1 != (-1)) = true then
 (some x1)
 else
 (some z1R)
theorem Zpy x1 z1K z1R z2i z1X z1U zD : Sim (ZcV z1K z2i z1X z1U zD) (Zd2 x1 z1R) (EE 49 [(.ptr 0 1), (iv x1)] [(Z2F z1K z1R z2i z1X z1U zD)]) := by
 unfold Zd2
 refine zf (ZwE ..)<|ze<|zq ?_
 refine za (x1 != (-1)) ?_ ?_
 ·refine ze<|zq<|zt [(Z2F z1K x1 z2i z1X z1U zD)] ?_
  exact zr ((.p (.tup [])), [(Z2F z1K x1 z2i z1X z1U zD)]) ⟨_, rfl⟩
 ·exact zr ((.p (.tup [])), [(Z2F z1K z1R z2i z1X z1U zD)]) ⟨_, rfl⟩
theorem ZqT x1 z1R {r} (h : Zd2 x1 z1R = some r) : Zd9 x1 z1R = some r :=
 Z1f (fun _ _ ha hb => ru_ (ZrJ _ _ _ _ _) (ha default default default default .ex) (hb default default default default .ex)) (fun z1K z2i z1X z1U zD => Zpy x1 z1K z1R z2i z1X z1U zD r h)
def Zd1 (x1 z2i : Int) : Option Int :=
 if (x1 != (-1)) = true then
 (some x1)
 else
 (some z2i)
theorem Zpw x1 z1K z1R z2i z1X z1U zD : Sim (ZcU z1K z1R z1X z1U zD) (Zd1 x1 z2i) (EE 49 [(.ptr 0 2), (iv x1)] [(Z2F z1K z1R z2i z1X z1U zD)]) := by
 unfold Zd1
 refine zf (ZwE ..)<|ze<|zq ?_
 refine za (x1 != (-1)) ?_ ?_
 ·refine ze<|zq<|zt [(Z2F z1K z1R x1 z1X z1U zD)] ?_
  exact zr ((.p (.tup [])), [(Z2F z1K z1R x1 z1X z1U zD)]) ⟨_, rfl⟩
 ·exact zr ((.p (.tup [])), [(Z2F z1K z1R z2i z1X z1U zD)]) ⟨_, rfl⟩
theorem ZqR x1 z2i {r} (h : Zd1 x1 z2i = some r) : Zd8 x1 z2i = some r :=
 Z1f (fun _ _ ha hb => ru_ (ZrI _ _ _ _ _) (ha default default default default .ex) (hb default default default default .ex)) (fun z1K z1R z1X z1U zD => Zpw x1 z1K z1R z2i z1X z1U zD r h)
def Zd0 (x1 z1X : Int) : Option Int :=
 if (x1 != (-1)) = true then
 (some x1)
 else
 (some z1X)
theorem Zpu x1 z1K z1R z2i z1X z1U zD : Sim (ZcT z1K z1R z2i z1U zD) (Zd0 x1 z1X) (EE 49 [(.ptr 0 3), (iv x1)] [(Z2F z1K z1R z2i z1X z1U zD)]) := by
 unfold Zd0
 refine zf (ZwE ..)<|ze<|zq ?_
 refine za (x1 != (-1)) ?_ ?_
 ·refine ze<|zq<|zt [(Z2F z1K z1R z2i x1 z1U zD)] ?_
  exact zr ((.p (.tup [])), [(Z2F z1K z1R z2i x1 z1U zD)]) ⟨_, rfl⟩
 ·exact zr ((.p (.tup [])), [(Z2F z1K z1R z2i z1X z1U zD)]) ⟨_, rfl⟩
theorem ZqP x1 z1X {r} (h : Zd0 x1 z1X = some r) : Zd7 x1 z1X = some r :=
 Z1f (fun _ _ ha hb => ru_ (ZrH _ _ _ _ _) (ha default default default default .ex) (hb default default default default .ex)) (fun z1K z1R z2i z1U zD => Zpu x1 z1K z1R z2i z1X z1U zD r h)
def ZbX (x0 : List ZA) : Option Bool :=
 (Z6S x0).bind fun r1 =>
 some (!r1)
theorem ZnH (x0 : List ZA) ox0 : Sim Z11 (ZbX x0) (EE 50 [(ZL ox0 (x0.map ZG)), (.clo 27 [] [])] []) := by
 unfold ZbX
 refine zf (ZOy ..)<|ze<|zx (.ptr 0 0) [[(.clo 27 [] [])]]<|ze<|zi fun r1 hr1 => ?_
 obtain ⟨_, er1, _, rfl⟩ := ZgU x0 .sh r1 hr1
 refine zc [0] (bv r1) [[(.clo 27 [] [])]] er1<|zq ?_
 exact zr ((bv (!r1)), [[(.clo 27 [] [])]]) ⟨_, rfl⟩
theorem Zor x0 {r} (h : ZbX x0 = some r) : Zc4 x0 = some r :=
 Z1f (fun _ _ ha hb => ru_ Z2p (ha .ex) (hb .ex)) (fun ox0 => ZnH x0 ox0 r h)
def Z6J (x0 : List ZA) : Option Bool :=
 (Z7Z x0).bind fun r1 =>
 some (decide (0 ≤ r1))
theorem Zgf (x0 : List ZA) ox0 : Sim Z6U (Z6J x0) (EE 57 [(ZL ox0 (x0.map ZG)), (.clo 73 [] [(.ptr 0 0)])] [[(.clo 27 [] [])]]) := by
 unfold Z6J
 refine zf (ZBv ..)<|ze<|ze<|zi fun r1 hr1 => ?_
 obtain ⟨_, er1, _, rfl⟩ := Zja x0 .sh r1 hr1
 refine zc [0] (iv r1) [[(.clo 27 [] [])]] er1<|zq ?_
 exact zr ((bv (decide (0 ≤ r1))), [[(.clo 27 [] [])]]) ⟨_, rfl⟩
theorem ZgT x0 {r} (h : Z6J x0 = some r) : Z6S x0 = some r :=
 Z1f (fun _ _ ha hb => ru_ Zg1 (ha .ex) (hb .ex)) (fun ox0 => Zgf x0 ox0 r h)
def Z7U (x0 : List ZA) : Option Int :=
 Z5u x0 (x0.length : Int) 0
theorem ZiC (x0 : List ZA) ox0 : Sim Z3x (Z7U x0) (EE 83 [(ZL ox0 (x0.map ZG)), (.clo 73 [] [(.ptr 0 0)])] [[(.clo 27 [] [])]]) := by
 unfold Z7U
 refine zf (ZBL ..)<|ze<|ze<|zp (iv (x0.length : Int)) (et_ (Z2M (P := PP) (t := 22) (d := 43) (by kernel_rfl) ZG (shrO ox0) x0)) ?_
 exact zk (Zba x0 (x0.length : Int) 0 ox0)
theorem Zj9 x0 {r} (h : Z7U x0 = some r) : Z7Z x0 = some r :=
 Z1f (fun _ _ ha hb => ru_ ZcM (ha .ex) (hb .ex)) (fun ox0 => ZiC x0 ox0 r h)
def Z6N (x0 : List ZA) (x7 x8 : Int) : Option Int :=
 Z5u x0 x7 (IntKind.i64.wrap (x8 + 1))
theorem Zgr (x0 : List ZA) x7 x8 ox0 : Sim Z3x (Z6N x0 x7 x8) (Zsw 1 (ZL ox0 (x0.map ZG)) (.clo 73 [] [(.ptr 0 0)]) (iv x7) (iv x8) [[(.clo 27 [] [])]]) := by
 unfold Z6N
 refine zf (Zsx ..)<|ze<|zq ?_
 exact zk (Zba x0 x7 (IntKind.i64.wrap (x8 + 1)) ox0)
def Z5m (x0 : List ZA) (x7 x8 : Int) : Option Int :=
 (lget x0 x8).bind fun a1 =>
 (Z8K a1).bind fun r2 =>
 if r2 = true then
 (some x8)
 else
 (Z6N x0 x7 x8)
theorem Zgq (x0 : List ZA) x7 x8 ox0 : Sim Z3x (Z5m x0 x7 x8) (Zsu 1 (ZL ox0 (x0.map ZG)) (.clo 73 [] [(.ptr 0 0)]) (iv x7) (iv x8) [[(.clo 27 [] [])]]) := by
 unfold Z5m
 refine zf (Zsv ..)<|ze<|ze<|zi fun a1 ha1 => zp (.cptr (Z1Y a1)) (et_ (Z3u (o := (shrO ox0)) (k := .i64) (n := 5) (e := ZG) (cs := Z4Z) (fun _ => rfl) (fun _ => rfl) (by decide) ha1))<|zq<|zi fun r2 hr2 => ?_
 obtain ⟨_, er2, _, rfl⟩ := ZmZ a1 r2 hr2
 refine zv [0] (bv r2) [[(.clo 27 [] [])]] er2 ?_
 refine za r2 ?_ ?_
 ·refine ze ?_
  exact zr ((iv x8), [[(.clo 27 [] [])]]) ⟨_, rfl⟩
 ·exact zk (Zgr x0 x7 x8 ox0)
def Z9a : Option Int :=
 some (-1)
theorem Zgs : Sim Z3x Z9a (Zsy 1 [[(.clo 27 [] [])]]) := by
 unfold Z9a
 refine zf (Zsz ..)<|ze ?_
 exact zr ((iv (-1)), [[(.clo 27 [] [])]]) ⟨_, rfl⟩
def Z4u (x0 : List ZA) (x7 x8 : Int) : Option Int :=
 if (decide (x8 < x7)) = true then
 (Z5m x0 x7 x8)
 else
 Z9a
theorem Zgp (x0 : List ZA) x7 x8 ox0 : Sim Z3x (Z4u x0 x7 x8) (ZiR 1 (ZL ox0 (x0.map ZG)) (.clo 73 [] [(.ptr 0 0)]) (iv x7) (iv x8) [[(.clo 27 [] [])]]) := by
 unfold Z4u
 refine zf (Zst ..)<|ze<|zq ?_
 refine za (decide (x8 < x7)) ?_ ?_
 ·exact zk (Zgq x0 x7 x8 ox0)
 ·exact zk Zgs
theorem Z88 x0 x7 x8 {r} (h : Z4u x0 x7 x8 = some r) : Z5u x0 x7 x8 = some r :=
 Z1f (fun _ _ ha hb => ru_ ZcM (ha .ex) (hb .ex)) (fun ox0 => Zgp x0 x7 x8 ox0 r h)
def Z8A (x0 : ZA) : Option Bool :=
 (Z9o x0).bind fun r1 =>
 some (!r1)
theorem Zm9 x0 : Sim Z6U (Z8A x0) (EE 73 [(pA_ (Z1Y x0)), (.ptr 0 0)] [[(.clo 27 [] [])]]) := by
 unfold Z8A
 refine zf (ZOU ..)<|ze<|zx (.ptr 1 0) [[(.clo 27 [] [])], (Z1O x0)]<|ze<|zq<|zq<|zi fun r1 hr1 => ?_
 obtain ⟨_, er1, _, rfl⟩ := Ze2 x0 r1 hr1
 refine zv [] (bv r1) [[(.clo 27 [] [])], (Z1O x0)] er1<|zq ?_
 exact zr ((bv (!r1)), [[(.clo 27 [] [])], (Z1O x0)]) ⟨_, rfl⟩
theorem Zf6 x0 {r} (h : Z8A x0 = some r) : Z8K x0 = some r :=
 Z1f (fun _ _ ha hb => ru_ Zg1 ha hb) (Zm9 x0 r h)
def Zcn (x0 : Z1i) : Option Bool :=
 (Z6T x0.Put ([] : List (Int × Bool))).bind fun r1 =>
 if r1.1 = true then
 (some true)
 else
 ((Z7d x0.Drop r1.2).bind fun r2 =>
 some r2.1)
theorem Zoo x0 z84 z6B : Sim Z11 (Zcn x0) (EE 51 [(pA_ (Z4S x0 z84 z6B))] []) := by
 unfold Zcn
 refine zf (ZOz ..)<|ze<|zx (.ptr 0 0) [(ZJ x0 z84 z6B)]<|ze<|zm (.mp 1) [(ZJ x0 z84 z6B), (rM_ eB ([] : List (Int × Bool)))]<|zz (.ptr 2 0) [(ZJ x0 z84 z6B), (rM_ eB ([] : List (Int × Bool))), [(.p (.v (.map none)))]]<|zt [(ZJ x0 z84 z6B), (rM_ eB ([] : List (Int × Bool))), [(.mp 1)]]<|ze<|zz (.ptr 3 0) [(ZJ x0 z84 z6B), (rM_ eB ([] : List (Int × Bool))), [(.mp 1)], [(.p (.v .nilFunc))]]<|zt [(ZJ x0 z84 z6B), (rM_ eB ([] : List (Int × Bool))), [(.mp 1)], [(.clo 74 [] [(.ptr 2 0)])]]<|ze<|zq<|zq<|zi fun r1 hr1 => ?_
 obtain ⟨_, er1, _, rfl⟩ := ZgW x0.Put ([] : List (Int × Bool)) .sh r1 hr1
 refine zc [3, 2, 1] (bv r1.1) [(ZJ x0 z84 z6B), (rM_ eB r1.2), [(.mp 1)], [(.clo 74 [] [(.ptr 2 0)])]] er1 ?_
 refine za r1.1 ?_ ?_
 ·exact zr ((bv true), [(ZJ x0 z84 z6B), (rM_ eB r1.2), [(.mp 1)], [(.clo 74 [] [(.ptr 2 0)])]]) ⟨_, rfl⟩
 ·refine zq<|zq<|zq<|zi fun r2 hr2 => ?_
  obtain ⟨_, er2, _, rfl⟩ := ZhJ x0.Drop r1.2 .sh r2 hr2
  refine zc [2, 1] (bv r2.1) [(ZJ x0 z84 z6B), (rM_ eB r2.2), [(.mp 1)], [(.clo 74 [] [(.ptr 2 0)])]] er2 ?_
  exact zr ((bv r2.1), [(ZJ x0 z84 z6B), (rM_ eB r2.2), [(.mp 1)], [(.clo 74 [] [(.ptr 2 0)])]]) ⟨_, rfl⟩
theorem Zpq x0 {r} (h : Zcn x0 = some r) : Zcz x0 = some r :=
 Z1f (fun _ _ ha hb => ru_ Z2p (ha .ex .ex) (hb .ex .ex)) (fun z84 z6B => Zoo x0 z84 z6B r h)
def Z6K (x0 : List ZA) (z16 : List (Int × Bool)) : Option (Bool × (List (Int × Bool))) :=
 (Z80 x0 z16).bind fun r1 =>
 some ((decide (0 ≤ r1.1)), r1.2)
theorem Zgg (x0 : List ZA) z16 ox0 : Sim Z5Q (Z6K x0 z16) (EE 57 [(ZL ox0 (x0.map ZG)), (.clo 75 [] [(.ptr 0 0)])] [[(.clo 74 [] [(.ptr 1 0)])], [(.mp 2)], (rM_ eB z16)]) := by
 unfold Z6K
 refine zf (ZBv ..)<|ze<|ze<|zi fun r1 hr1 => ?_
 obtain ⟨_, er1, _, rfl⟩ := Zjc x0 z16 .sh r1 hr1
 refine zc [0, 1, 2] (iv r1.1) [[(.clo 74 [] [(.ptr 1 0)])], [(.mp 2)], (rM_ eB r1.2)] er1<|zq ?_
 exact zr ((bv (decide (0 ≤ r1.1))), [[(.clo 74 [] [(.ptr 1 0)])], [(.mp 2)], (rM_ eB r1.2)]) ⟨_, rfl⟩
theorem ZgV x0 z16 {r} (h : Z6K x0 z16 = some r) : Z6T x0 z16 = some r :=
 Z1f (fun _ _ ha hb => ru_ Zea (ha .ex) (hb .ex)) (fun ox0 => Zgg x0 z16 ox0 r h)
def Z7V (x0 : List ZA) (z16 : List (Int × Bool)) : Option (Int × (List (Int × Bool))) :=
 Z5v x0 (x0.length : Int) 0 z16
theorem ZiD (x0 : List ZA) z16 ox0 : Sim Z3y (Z7V x0 z16) (EE 83 [(ZL ox0 (x0.map ZG)), (.clo 75 [] [(.ptr 0 0)])] [[(.clo 74 [] [(.ptr 1 0)])], [(.mp 2)], (rM_ eB z16)]) := by
 unfold Z7V
 refine zf (ZBL ..)<|ze<|ze<|zp (iv (x0.length : Int)) (et_ (Z2M (P := PP) (t := 22) (d := 43) (by kernel_rfl) ZG (shrO ox0) x0)) ?_
 exact zk (Zbb x0 (x0.length : Int) 0 z16 ox0)
theorem Zjb x0 z16 {r} (h : Z7V x0 z16 = some r) : Z80 x0 z16 = some r :=
 Z1f (fun _ _ ha hb => ru_ ZcN (ha .ex) (hb .ex)) (fun ox0 => ZiD x0 z16 ox0 r h)
def Z6O (x0 : List ZA) (x7 x8 : Int) (z16 : List (Int × Bool)) : Option (Int × (List (Int × Bool))) :=
 Z5v x0 x7 (IntKind.i64.wrap (x8 + 1)) z16
theorem Zgv (x0 : List ZA) x7 x8 z16 ox0 : Sim Z3y (Z6O x0 x7 x8 z16) (Zsw 3 (ZL ox0 (x0.map ZG)) (.clo 75 [] [(.ptr 0 0)]) (iv x7) (iv x8) [[(.clo 74 [] [(.ptr 1 0)])], [(.mp 2)], (rM_ eB z16)]) := by
 unfold Z6O
 refine zf (Zsx ..)<|ze<|zq ?_
 exact zk (Zbb x0 x7 (IntKind.i64.wrap (x8 + 1)) z16 ox0)
def Z5n (x0 : List ZA) (x7 x8 : Int) (z16 : List (Int × Bool)) : Option (Int × (List (Int × Bool))) :=
 (lget x0 x8).bind fun a1 =>
 (Z9f a1 z16).bind fun r2 =>
 if r2.1 = true then
 (some (x8, r2.2))
 else
 (Z6O x0 x7 x8 r2.2)
theorem Zgu (x0 : List ZA) x7 x8 z16 ox0 : Sim Z3y (Z5n x0 x7 x8 z16) (Zsu 3 (ZL ox0 (x0.map ZG)) (.clo 75 [] [(.ptr 0 0)]) (iv x7) (iv x8) [[(.clo 74 [] [(.ptr 1 0)])], [(.mp 2)], (rM_ eB z16)]) := by
 unfold Z5n
 refine zf (Zsv ..)<|ze<|ze<|zi fun a1 ha1 => zp (.cptr (Z1Y a1)) (et_ (Z3u (o := (shrO ox0)) (k := .i64) (n := 5) (e := ZG) (cs := Z4Z) (fun _ => rfl) (fun _ => rfl) (by decide) ha1))<|zq<|zi fun r2 hr2 => ?_
 obtain ⟨_, er2, _, rfl⟩ := Zl5 a1 z16 r2 hr2
 refine zv [0, 1, 2] (bv r2.1) [[(.clo 74 [] [(.ptr 1 0)])], [(.mp 2)], (rM_ eB r2.2)] er2 ?_
 refine za r2.1 ?_ ?_
 ·refine ze ?_
  exact zr ((iv x8), [[(.clo 74 [] [(.ptr 1 0)])], [(.mp 2)], (rM_ eB r2.2)]) ⟨_, rfl⟩
 ·exact zk (Zgv x0 x7 x8 r2.2 ox0)
def Z9b (z16 : List (Int × Bool)) : Option (Int × (List (Int × Bool))) :=
 some ((-1), z16)
theorem Zgw z16 : Sim Z3y (Z9b z16) (Zsy 3 [[(.clo 74 [] [(.ptr 1 0)])], [(.mp 2)], (rM_ eB z16)]) := by
 unfold Z9b
 refine zf (Zsz ..)<|ze ?_
 exact zr ((iv (-1)), [[(.clo 74 [] [(.ptr 1 0)])], [(.mp 2)], (rM_ eB z16)]) ⟨_, rfl⟩
def Z4v (x0 : List ZA) (x7 x8 : Int) (z16 : List (Int × Bool)) : Option (Int × (List (Int × Bool))) :=
 if (decide (x8 < x7)) = true then
 (Z5n x0 x7 x8 z16)
 else
 (Z9b z16)
theorem Zgt (x0 : List ZA) x7 x8 z16 ox0 : Sim Z3y (Z4v x0 x7 x8 z16) (ZiR 3 (ZL ox0 (x0.map ZG)) (.clo 75 [] [(.ptr 0 0)]) (iv x7) (iv x8) [[(.clo 74 [] [(.ptr 1 0)])], [(.mp 2)], (rM_ eB z16)]) := by
 unfold Z4v
 refine zf (Zst ..)<|ze<|zq ?_
 refine za (decide (x8 < x7)) ?_ ?_
 ·exact zk (Zgu x0 x7 x8 z16 ox0)
 ·exact zk (Zgw z16)
theorem Z89 x0 x7 x8 z16 {r} (h : Z4v x0 x7 x8 z16 = some r) : Z5v x0 x7 x8 z16 = some r :=
 Z1f (fun _ _ ha hb => ru_ ZcN (ha .ex) (hb .ex)) (fun ox0 => Zgt x0 x7 x8 z16 ox0 r h)
def Z97 (x0 : ZA) (z16 : List (Int × Bool)) : Option (Bool × (List (Int × Bool))) :=
 (Z7l x0.ID z16).bind fun r1 =>
 some (r1.1, r1.2)
theorem Zkf x0 z16 : Sim Z5Q (Z97 x0 z16) (EE 75 [(pA_ (Z1Y x0)), (.ptr 0 0)] [[(.clo 74 [] [(.ptr 1 0)])], [(.mp 2)], (rM_ eB z16)]) := by
 unfold Z97
 refine zf (ZOW ..)<|ze<|zx (.ptr 3 0) [[(.clo 74 [] [(.ptr 1 0)])], [(.mp 2)], (rM_ eB z16), (Z1O x0)]<|ze<|zq<|zq<|zq<|zi fun r1 hr1 => ?_
 obtain ⟨_, er1, _, rfl⟩ := Zdy x0.ID z16 r1 hr1
 refine zv [1, 2] (bv r1.1) [[(.clo 74 [] [(.ptr 1 0)])], [(.mp 2)], (rM_ eB r1.2), (Z1O x0)] er1 ?_
 exact zr ((bv r1.1), [[(.clo 74 [] [(.ptr 1 0)])], [(.mp 2)], (rM_ eB r1.2), (Z1O x0)]) ⟨_, rfl⟩
theorem Zl4 x0 z16 {r} (h : Z97 x0 z16 = some r) : Z9f x0 z16 = some r :=
 Z1f (fun _ _ ha hb => ru_ Zea ha hb) (Zkf x0 z16 r h)
def Zbs (x0 : Int) (zZ : List (Int × Bool)) : Option (Bool × (List (Int × Bool))) :=
 some (((getM zZ x0).getD false), (putM zZ x0 true))
theorem Zke x0 zZ : Sim Z5P (Zbs x0 zZ) (EE 74 [(iv x0), (.ptr 0 0)] [[(.mp 1)], (rM_ eB zZ)]) := by
 unfold Zbs
 refine zf (ZOV ..)<|ze<|ze<|zq<|zp (bv ((getM zZ x0).getD false)) (Eq.trans (b := Ze8 PP 152 false (.mp 1) (iv x0) [[(.mp 1)], (rM_ eB zZ)]) (by kernel_rfl) <| (ZrA (e := eB) (z := false) (es := zZ) (te := 4) (by kernel_rfl) (by kernel_rfl) (by kernel_rfl) false).trans (by kernel_rfl))<|ze<|zq ?_
 refine Sim.xupd (B2 := [[(.mp 1)], (rM_ eB (putM zZ x0 true))]) (fun K => Eq.trans (b := xupd PP 152 (.mp 1) (iv x0) (bv true) [[(.mp 1)], (rM_ eB zZ)] K) (by kernel_rfl) <| Zug (P := PP) (t := 152) (K := K) (B2 := [[(.mp 1)], (rM_ eB (putM zZ x0 true))]) (e := eB) (a := true) (es := zZ) (te := 4) (by kernel_rfl) (by kernel_rfl) (by kernel_rfl) (by kernel_rfl) (by kernel_rfl)) ?_
 refine ze ?_
 exact zr ((bv ((getM zZ x0).getD false)), [[(.mp 1)], (rM_ eB (putM zZ x0 true))]) ⟨_, rfl⟩
theorem Zl3 x0 zZ {r} (h : Zbs x0 zZ = some r) : Z7l x0 zZ = some r :=
 Z1f (fun _ _ ha hb => ru_ Ze9 ha hb) (Zke x0 zZ r h)
def Z75 (x0 : List Int) (zZ : List (Int × Bool)) : Option (Bool × (List (Int × Bool))) :=
 (Z8f x0 zZ).bind fun r1 =>
 some ((decide (0 ≤ r1.1)), r1.2)
theorem ZgX (x0 : List Int) zZ ox0 : Sim Z5P (Z75 x0 zZ) (EE 59 [(ZL ox0 (x0.map (eI .i64))), (.clo 74 [] [(.ptr 0 0)])] [[(.mp 1)], (rM_ eB zZ)]) := by
 unfold Z75
 refine zf (ZID ..)<|ze<|ze<|zi fun r1 hr1 => ?_
 obtain ⟨_, er1, _, rfl⟩ := Zjy x0 zZ .sh r1 hr1
 refine zc [0, 1] (iv r1.1) [[(.mp 1)], (rM_ eB r1.2)] er1<|zq ?_
 exact zr ((bv (decide (0 ≤ r1.1))), [[(.mp 1)], (rM_ eB r1.2)]) ⟨_, rfl⟩
theorem ZhI x0 zZ {r} (h : Z75 x0 zZ = some r) : Z7d x0 zZ = some r :=
 Z1f (fun _ _ ha hb => ru_ Ze9 (ha .ex) (hb .ex)) (fun ox0 => ZgX x0 zZ ox0 r h)
def Z8d (x0 : List Int) (zZ : List (Int × Bool)) : Option (Int × (List (Int × Bool))) :=
 Z5H x0 (x0.length : Int) 0 zZ
theorem Zjd (x0 : List Int) zZ ox0 : Sim Z3G (Z8d x0 zZ) (EE 84 [(ZL ox0 (x0.map (eI .i64))), (.clo 74 [] [(.ptr 0 0)])] [[(.mp 1)], (rM_ eB zZ)]) := by
 unfold Z8d
 refine zf (ZIV ..)<|ze<|ze<|zp (iv (x0.length : Int)) (et_ (Z2M (P := PP) (t := 27) (d := 3) (by kernel_rfl) (eI .i64) (shrO ox0) x0)) ?_
 exact zk (ZbE x0 (x0.length : Int) 0 zZ ox0)
theorem Zjx x0 zZ {r} (h : Z8d x0 zZ = some r) : Z8f x0 zZ = some r :=
 Z1f (fun _ _ ha hb => ru_ Zdc (ha .ex) (hb .ex)) (fun ox0 => Zjd x0 zZ ox0 r h)
def Z77 (x0 : List Int) (x7 x8 : Int) (zZ : List (Int × Bool)) : Option (Int × (List (Int × Bool))) :=
 Z5H x0 x7 (IntKind.i64.wrap (x8 + 1)) zZ
theorem Zh1 (x0 : List Int) x7 x8 zZ ox0 : Sim Z3G (Z77 x0 x7 x8 zZ) (ZwM 2 (ZL ox0 (x0.map (eI .i64))) (.clo 74 [] [(.ptr 0 0)]) (iv x7) (iv x8) [[(.mp 1)], (rM_ eB zZ)]) := by
 unfold Z77
 refine zf (ZzU ..)<|ze<|zq ?_
 exact zk (ZbE x0 x7 (IntKind.i64.wrap (x8 + 1)) zZ ox0)
def Z5F (x0 : List Int) (x7 x8 : Int) (zZ : List (Int × Bool)) : Option (Int × (List (Int × Bool))) :=
 (lget x0 x8).bind fun a1 =>
 (Z7l a1 zZ).bind fun r2 =>
 if r2.1 = true then
 (some (x8, r2.2))
 else
 (Z77 x0 x7 x8 r2.2)
theorem Zh0 (x0 : List Int) x7 x8 zZ ox0 : Sim Z3G (Z5F x0 x7 x8 zZ) (ZwL 2 (ZL ox0 (x0.map (eI .i64))) (.clo 74 [] [(.ptr 0 0)]) (iv x7) (iv x8) [[(.mp 1)], (rM_ eB zZ)]) := by
 unfold Z5F
 refine zf (ZzT ..)<|ze<|ze<|zi fun a1 ha1 => zp (.cptr [(.v (.int .i64 a1))]) (et_ (Z3u (o := (shrO ox0)) (k := .i64) (n := 1) (e := (eI .i64)) (cs := (fun a => [(eI .i64) a])) (fun _ => rfl) (fun _ => rfl) (by decide) ha1))<|zq<|zi fun r2 hr2 => ?_
 obtain ⟨_, er2, _, rfl⟩ := Zdy a1 zZ r2 hr2
 refine zv [0, 1] (bv r2.1) [[(.mp 1)], (rM_ eB r2.2)] er2 ?_
 refine za r2.1 ?_ ?_
 ·refine ze ?_
  exact zr ((iv x8), [[(.mp 1)], (rM_ eB r2.2)]) ⟨_, rfl⟩
 ·exact zk (Zh1 x0 x7 x8 r2.2 ox0)
def Z9r (zZ : List (Int × Bool)) : Option (Int × (List (Int × Bool))) :=
 some ((-1), zZ)
theorem Zh2 zZ : Sim Z3G (Z9r zZ) (ZwN 2 [[(.mp 1)], (rM_ eB zZ)]) := by
 unfold Z9r
 refine zf (ZzV ..)<|ze ?_
 exact zr ((iv (-1)), [[(.mp 1)], (rM_ eB zZ)]) ⟨_, rfl⟩
def Z4E (x0 : List Int) (x7 x8 : Int) (zZ : List (Int × Bool)) : Option (Int × (List (Int × Bool))) :=
 if (decide (x8 < x7)) = true then
 (Z5F x0 x7 x8 zZ)
 else
 (Z9r zZ)
theorem ZgZ (x0 : List Int) x7 x8 zZ ox0 : Sim Z3G (Z4E x0 x7 x8 zZ) (ZmK 2 (ZL ox0 (x0.map (eI .i64))) (.clo 74 [] [(.ptr 0 0)]) (iv x7) (iv x8) [[(.mp 1)], (rM_ eB zZ)]) := by
 unfold Z4E
 refine zf (ZzS ..)<|ze<|zq ?_
 refine za (decide (x8 < x7)) ?_ ?_
 ·exact zk (Zh0 x0 x7 x8 zZ ox0)
 ·exact zk (Zh2 zZ)
theorem Z8n x0 x7 x8 zZ {r} (h : Z4E x0 x7 x8 zZ = some r) : Z5H x0 x7 x8 zZ = some r :=
 Z1f (fun _ _ ha hb => ru_ Zdc (ha .ex) (hb .ex)) (fun ox0 => ZgZ x0 x7 x8 zZ ox0 r h)
def ZdE : Option Unit :=
 some ()
theorem ZmL zU : Sim (ZaQ zU) ZdE (EE 53 [(.mp 0)] [(rM_ ZG zU)]) := by
 unfold ZdE
 refine zf (ZOA ..)<|ze<|zx (.ptr 1 0) [(rM_ ZG zU), [(.mp 0)]]<|ze ?_
 exact zr ((.clo 78 [] [(.ptr 1 0)]), [(rM_ ZG zU), [(.mp 0)]]) ⟨[], rfl, rfl⟩
theorem Znn {r} (h : ZdE = some r) : ZaX = some r :=
 Z1f (fun _ _ ha hb => ru_ (Zo5 _) (ha default) (hb default)) (fun zU => ZmL zU r h)
def Zcp (b0 : ZE) : Option ZY :=
 Zai b0.Rules (b0.Rules.length : Int) 0
theorem Zow b0 b1 zD : Sim Z3Z (Zcp b0) (ZAK 0 (.ptr 0 0) (.ptr 1 0) [(ZB b0 zD), (Z1d b1)]) := by
 unfold Zcp
 refine zf (ZHP ..)<|ze<|zq<|zq<|zp (iv (b0.Rules.length : Int)) (et_ (Z2M (P := PP) (t := 22) (d := 43) (by kernel_rfl) ZG (shrO zD) b0.Rules)) ?_
 exact zk (Zii b0.Rules (b0.Rules.length : Int) 0 b0 b1 (shrO zD) zD)
def ZeD (x0 : ZE) : Option ZY :=
 (ZbC x0).bind fun r1 =>
 if (!r1) = true then
 (some (ZY.mk 10 0 0))
 else
 (Zcp x0)
theorem Zs3 x0 z1a : Sim Z3Z (ZeD x0) (EE 16 [(pA_ (Z1C x0 z1a))] []) := by
 unfold ZeD
 refine zf (ZNR ..)<|ze<|zx (.ptr 0 0) [(ZB x0 z1a)]<|zz (.ptr 1 0) [(ZB x0 z1a), (Z1d Z7J)]<|ze<|zq<|zi fun r1 hr1 => ?_
 obtain ⟨_, er1, _, rfl⟩ := ZjN x0 .sh r1 hr1
 refine zc [] (bv r1) [(ZB x0 z1a), (Z1d Z7J)] er1<|zq ?_
 refine za (!r1) ?_ ?_
 ·refine ze<|zq<|zt [(ZB x0 z1a), (Zkk 10 0 0)] ?_
  exact zr ((pA_ (Z20 (ZY.mk 10 0 0))), [(ZB x0 z1a), (Zkk 10 0 0)]) ⟨_, rfl⟩
 ·exact zk (Zow x0 Z7J z1a)
theorem ZsT x0 {r} (h : ZeD x0 = some r) : ZeH x0 = some r :=
 Z1f (fun _ _ ha hb => ru_ Zeq (ha .ex) (hb .ex)) (fun z1a => Zs3 x0 z1a r h)
def Zc0 (x11 : List ZA) (x12 x13 : Int) : Option ZY :=
 Zai x11 x12 (IntKind.i64.wrap (x13 + 1))
theorem ZnL (x11 : List ZA) x12 x13 b0 b1 ox11 zD : Sim Z3Z (Zc0 x11 x12 x13) (ZyA 0 (.ptr 1 0) (ZL ox11 (x11.map ZG)) (iv x12) (iv x13) [(ZB b0 zD), (Z1d b1)]) := by
 unfold Zc0
 refine zf (ZFH ..)<|ze<|zq ?_
 exact zk (Zii x11 x12 (IntKind.i64.wrap (x13 + 1)) b0 b1 ox11 zD)
def Zcq (x11 : List ZA) (x12 x13 : Int) : Option ZY :=
 (lget x11 x13).bind fun a1 =>
 (Z6x a1.Pattern).bind fun r2 =>
 if (r2.Code != 0) = true then
 (some (ZY.mk r2.Code a1.ID r2.At))
 else
 (Zc0 x11 x12 x13)
theorem Zox (x11 : List ZA) x12 x13 b0 b1 ox11 zD : Sim Z3Z (Zcq x11 x12 x13) (ZAL 0 (.ptr 1 0) (ZL ox11 (x11.map ZG)) (iv x12) (iv x13) [(ZB b0 zD), (Z1d b1)]) := by
 unfold Zcq
 refine zf (ZHQ ..)<|ze<|zi fun a1 ha1 => zp (.cptr (Z1Y a1)) (et_ (Z3u (o := ox11) (k := .i64) (n := 5) (e := ZG) (cs := Z4Z) (fun _ => rfl) (fun _ => rfl) (by decide) ha1))<|zq<|zz (.ptr 2 0) [(ZB b0 zD), (Z1d b1), (Z1O (ZA.mk 0 0 0 0 (ByteArray.mk #[])))]<|zt [(ZB b0 zD), (Z1d b1), (Z1O a1)]<|ze<|zq<|zq<|zi fun r2 hr2 => ?_
 obtain ⟨_, er2, _, rfl⟩ := Zr3 a1.Pattern r2 hr2
 refine zc [] (pA_ (Z20 r2)) [(ZB b0 zD), (Z1d b1), (Z1O a1)] er2<|zz (.ptr 3 0) [(ZB b0 zD), (Z1d b1), (Z1O a1), (Z1d Z7J)]<|zt [(ZB b0 zD), (Z1d b1), (Z1O a1), (Z1d r2)]<|ze<|zq<|zq<|zq ?_
 refine za (r2.Code != 0) ?_ ?_
 ·refine ze<|zq<|zq<|zq<|zt [(ZB b0 zD), (Z1d b1), (Z1O a1), (Zkk r2.Code a1.ID r2.At)]<|ze<|zq<|zt [(ZB b0 zD), (Zkk r2.Code a1.ID r2.At), (Z1O a1), (Zkk r2.Code a1.ID r2.At)] ?_
  exact zr ((pA_ (Z20 (ZY.mk r2.Code a1.ID r2.At))), [(ZB b0 zD), (Zkk r2.Code a1.ID r2.At), (Z1O a1), (Zkk r2.Code a1.ID r2.At)]) ⟨_, rfl⟩
 ·exact zk (ZnL x11 x12 x13 b0 b1 ox11 zD)
def Zc1 : Option ZY :=
 some (ZY.mk 0 0 0)
theorem ZnM b0 b1 zD : Sim Z3Z Zc1 (ZyB 0 (.ptr 1 0) [(ZB b0 zD), (Z1d b1)]) := by
 unfold Zc1
 refine zf (ZFI ..)<|ze<|zq<|zt [(ZB b0 zD), (Z1d Z7J)] ?_
 exact zr ((pA_ (Z20 Z7J)), [(ZB b0 zD), (Z1d Z7J)]) ⟨_, rfl⟩
def Zae (x11 : List ZA) (x12 x13 : Int) : Option ZY :=
 if (decide (x13 < x12)) = true then
 (Zcq x11 x12 x13)
 else
 Zc1
theorem Zov (x11 : List ZA) x12 x13 b0 b1 ox11 zD : Sim Z3Z (Zae x11 x12 x13) (Zse 0 (.ptr 1 0) (ZL ox11 (x11.map ZG)) (iv x12) (iv x13) [(ZB b0 zD), (Z1d b1)]) := by
 unfold Zae
 refine zf (ZHO ..)<|ze<|zq ?_
 refine za (decide (x13 < x12)) ?_ ?_
 ·exact zk (Zox x11 x12 x13 b0 b1 ox11 zD)
 ·exact zk (ZnM b0 b1 zD)
theorem Zih x11 x12 x13 {r} (h : Zae x11 x12 x13 = some r) : Zai x11 x12 x13 = some r :=
 Z1f (fun _ _ ha hb => ru_ Zeq (ha default default .ex .ex) (hb default default .ex .ex)) (fun b0 b1 ox11 zD => Zov x11 x12 x13 b0 b1 ox11 zD r h)
def Z9c (b1 : Z1P) : Option ZY :=
 (Zhr b1).bind fun r1 =>
 some (ZY.mk r1 0 0)
theorem Zn1 b0 b1 zfg zeh : Sim Z3Z (Z9c b1) (ZAZ 0 (.ptr 0 0) (.ptr 1 0) [(Z1d b0), (Z1v b1 zfg zeh)]) := by
 unfold Z9c
 refine zf (ZI5 ..)<|ze<|zq<|zi fun r1 hr1 => ?_
 obtain ⟨_, er1, _, rfl⟩ := Zvp b1 .sh .sh r1 hr1
 refine zc [] (iv r1) [(Z1d b0), (Z1v b1 zfg zeh)] er1<|zq<|zt [(Zkk r1 0 0), (Z1v b1 zfg zeh)] ?_
 exact zr ((pA_ (Z20 (ZY.mk r1 0 0))), [(Zkk r1 0 0), (Z1v b1 zfg zeh)]) ⟨_, rfl⟩
def Z7N (x0 : ByteArray) : Option ZY :=
 (Zho x0).bind fun r1 =>
 if (r1.2.Code != 0) = true then
 (some (ZY.mk r1.2.Code 0 r1.2.At))
 else
 (Z9c r1.1)
theorem ZpF x0 : Sim Z3Z (Z7N x0) (EE 21 [(.p (.v (.string x0)))] []) := by
 unfold Z7N
 refine zf (ZO1 ..)<|ze<|zz (.ptr 0 0) [(Z1d Z7J)]<|ze<|zi fun r1 hr1 => ?_
 obtain ⟨_, er1, _, rfl⟩ := Zvf x0 r1 hr1
 refine zc [] (.p (.tup [(.agg (Z4h r1.1 .sh .sh)), (.agg (Z6t r1.2))])) [(Z1d Z7J)] er1<|zq<|zq<|zz (.ptr 1 0) [(Z1d Z7J), (Z1v ZgA .nl .nl)]<|zz (.ptr 2 0) [(Z1d Z7J), (Z1v ZgA .nl .nl), (Z2d Zjs)]<|zt [(Z1d Z7J), (Z1v r1.1 .sh .sh), (Z2d Zjs)]<|zt [(Z1d Z7J), (Z1v r1.1 .sh .sh), (Z2d r1.2)]<|ze<|zq<|zq<|zq ?_
 refine za (r1.2.Code != 0) ?_ ?_
 ·refine ze<|zq<|zq<|zq<|zq<|zq<|zt [(Zkk r1.2.Code 0 r1.2.At), (Z1v r1.1 .sh .sh), (Z2d r1.2)] ?_
  exact zr ((pA_ (Z20 (ZY.mk r1.2.Code 0 r1.2.At))), [(Zkk r1.2.Code 0 r1.2.At), (Z1v r1.1 .sh .sh), (Z2d r1.2)]) ⟨_, rfl⟩
 ·exact zk (Zn1 Z7J r1.1 .sh .sh)
theorem Zb3 x0 {r} (h : Z7N x0 = some r) : Z6x x0 = some r :=
 Z1f (fun _ _ ha hb => ru_ Zeq ha hb) (ZpF x0 r h)
def Z67 (z3U : List Int) (z1A : Int) (z2G : List Zz) (z1h z1F z1o z1H z1G z1p z1x : Int) (z1y : List Zi) (z1n : List Zj) (z2g : Bool) : Option (Z1P × Z1q) :=
 Z9Q z2G (z2G.length : Int) 0 z3U z1A z1h z1F z1o z1H z1G z1p z1x z1y z1n z2g
theorem Ze0 b0 b1 z3U z3N z1A z3n z2G z1h z1F z1o z1H z1G z1p z1x z1y z1n z34 z2g z1N z1I z4B z2s z29 z1V (z37 : ZV z1N = true) (z2U : ZV z1I = true) (z4K : ZV z2s = true) : Sim Z5d (Z67 z3U z1A z2G z1h z1F z1o z1H z1G z1p z1x z1y z1n z2g) (Zsp 0 (.ptr 0 0) (.ptr 1 0) (.ptr 2 0) (.ptr 3 0) [(Z1v b0 z1N z1I), (Z2d b1), (ZX z3U z3N z1A z3n z2G z1h z1F z4B z2s), (ZbH z1o z1H z1G z1p z1x z1y z1n z34 z2g z29 z1V)]) := by
 unfold Z67
 refine zf (ZIA ..)<|ze<|zq<|zq<|zq<|zp (iv (z2G.length : Int)) (et_ (Z2M (P := PP) (t := 142) (d := 149) (by kernel_rfl) Z3M (shrO z2s) z2G)) ?_
 exact zk (ZjD z2G (z2G.length : Int) 0 b0 b1 z3U z3N z1A z3n z2G z1h z1F z1o z1H z1G z1p z1x z1y z1n z34 z2g (shrO z2s) z1N z1I z4B z2s z29 z1V z37 z2U z4K)
def Zbh (z3U : List Int) (z3N z1A : Int) (z2G : List Zz) (z1h z1F z1o z1H z1G z1p z1x : Int) (z1y : List Zi) (z1n : List Zj) (z2g : Bool) : Option (Z1P × Z1q) :=
 (Z1D 20 z3N z3U z1h z1F).bind fun r1 =>
 Z67 z3U z1A z2G r1.2.1 r1.2.2 z1o z1H z1G z1p z1x z1y z1n z2g
theorem Zqq b0 b1 z3U z3N z1A z3n z2G z1h z1F z1o z1H z1G z1p z1x z1y z1n z34 z2g z1N z1I z4B z2s z29 z1V (z37 : ZV z1N = true) (z2U : ZV z1I = true) (z4K : ZV z2s = true) : Sim Z5d (Zbh z3U z3N z1A z2G z1h z1F z1o z1H z1G z1p z1x z1y z1n z2g) (ZBs 0 (.ptr 0 0) (.ptr 1 0) (.ptr 2 0) (.ptr 3 0) [(Z1v b0 z1N z1I), (Z2d b1), (ZX z3U z3N z1A z3n z2G z1h z1F z4B z2s), (ZbH z1o z1H z1G z1p z1x z1y z1n z34 z2g z29 z1V)]) := by
 unfold Zbh
 refine zf (ZIz ..)<|ze<|zq<|zq<|zq<|zi fun r1 hr1 => ?_
 obtain ⟨_, er1, _, rfl⟩ := Z1J 20 z3N z3U z3N z1A z3n z2G z1h z1F z4B z2s z4K r1 hr1
 refine zc [2] (.p (.tup [])) [(Z1v b0 z1N z1I), (Z2d b1), (ZX z3U r1.1 z1A z3n z2G r1.2.1 r1.2.2 z4B z2s), (ZbH z1o z1H z1G z1p z1x z1y z1n z34 z2g z29 z1V)] er1 ?_
 exact zk (Ze0 b0 b1 z3U r1.1 z1A z3n z2G r1.2.1 r1.2.2 z1o z1H z1G z1p z1x z1y z1n z34 z2g z1N z1I z4B z2s z29 z1V z37 z2U z4K)
def ZdF (x0 : ByteArray) : Option (Z1P × Z1q) :=
 (Z2n (ByteArray.mk #[40, 63, 105, 41]) (Z5o x0) 0).bind fun r1 =>
 (Z5q (Z5o x0) r1.2 0 0 ([] : List Zz) 0 0).bind fun r2 =>
 if (r2.2.2.2.2.2.1 == 0) = true then
 (if (decide (r2.2.1 < ((Z5o x0).length : Int))) = true then
 (Zbh (Z5o x0) r2.2.1 r2.2.2.1 r2.2.2.2.2.1 r2.2.2.2.2.2.1 r2.2.2.2.2.2.2 r2.1.Kind r2.1.Lo r2.1.Hi r2.1.Mode r2.1.Ref r2.1.Set r2.1.Kids r1.1)
 else
 (Z67 (Z5o x0) r2.2.2.1 r2.2.2.2.2.1 r2.2.2.2.2.2.1 r2.2.2.2.2.2.2 r2.1.Kind r2.1.Lo r2.1.Hi r2.1.Mode r2.1.Ref r2.1.Set r2.1.Kids r1.1))
 else
 (Z67 (Z5o x0) r2.2.2.1 r2.2.2.2.2.1 r2.2.2.2.2.2.1 r2.2.2.2.2.2.2 r2.1.Kind r2.1.Lo r2.1.Hi r2.1.Mode r2.1.Ref r2.1.Set r2.1.Kids r1.1)
theorem Zqp x0 b0 b1 z1N z1I (z37 : ZV z1N = true) (z2U : ZV z1I = true) : Sim Z5d (ZdF x0) (ZBr 0 (.p (.v (.string x0))) (.ptr 0 0) (.ptr 1 0) [(Z1v b0 z1N z1I), (Z2d b1)]) := by
 unfold ZdF
 refine zf (ZIy ..)<|ze<|zp (ZL .sh ((Z5o x0).map (eI .u8))) (et_ (ZL1 (P := PP) (s := 9) (d := 141) (by kernel_rfl) (by kernel_rfl) x0))<|zq<|zx (.ptr 2 0) [(Z1v b0 z1N z1I), (Z2d b1), (Z4V (Z2f.mk (Z5o x0) 0 0 0 ([] : List Zz) Zjs) .sh .nl)]<|ze<|zi fun r1 hr1 => ?_
 obtain ⟨_, er1, _, rfl⟩ := Z2y (ByteArray.mk #[40, 63, 105, 41]) (Z5o x0) 0 0 0 ([] : List Zz) 0 0 .sh .nl rfl r1 hr1
 refine zc [2] (bv r1.1) [(Z1v b0 z1N z1I), (Z2d b1), (Z4V (Z2f.mk (Z5o x0) r1.2 0 0 ([] : List Zz) Zjs) .sh .nl)] er1<|zq<|zz (.ptr 3 0) [(Z1v b0 z1N z1I), (Z2d b1), (Z4V (Z2f.mk (Z5o x0) r1.2 0 0 ([] : List Zz) Zjs) .sh .nl), (Z1v ZgA .nl .nl)]<|zt [(Z1v b0 z1N z1I), (Z2d b1), (Z4V (Z2f.mk (Z5o x0) r1.2 0 0 ([] : List Zz) Zjs) .sh .nl), (Z1v (Z1P.mk Z2j 0 r1.1) .nl .nl)]<|ze<|zi fun r2 hr2 => ?_
 obtain ⟨_, er2, zpQ, _, zvy, rfl⟩ := Zic (Z5o x0) r1.2 0 0 ([] : List Zz) 0 0 .sh .nl rfl r2 hr2
 refine zc [2] (pA_ (ZQ r2.1 .sh .sh)) [(Z1v b0 z1N z1I), (Z2d b1), (ZX (Z5o x0) r2.2.1 r2.2.2.1 r2.2.2.2.1 r2.2.2.2.2.1 r2.2.2.2.2.2.1 r2.2.2.2.2.2.2 .sh zpQ), (Z1v (Z1P.mk Z2j 0 r1.1) .nl .nl)] er2<|zq<|zt [(Z1v b0 z1N z1I), (Z2d b1), (ZX (Z5o x0) r2.2.1 r2.2.2.1 r2.2.2.2.1 r2.2.2.2.2.1 r2.2.2.2.2.2.1 r2.2.2.2.2.2.2 .sh zpQ), (ZbH r2.1.Kind r2.1.Lo r2.1.Hi r2.1.Mode r2.1.Ref r2.1.Set r2.1.Kids 0 r1.1 .sh .sh)]<|ze<|zq<|zq<|zq<|zq<|zq ?_
 refine za (r2.2.2.2.2.2.1 == 0) ?_ ?_
 ·refine zq<|zq<|zq<|zq<|zq<|zq<|zp (iv ((Z5o x0).length : Int)) (et_ (Z2M (P := PP) (t := 141) (d := 5) (by kernel_rfl) (eI .u8) .sh (Z5o x0)))<|zq ?_
  refine za (decide (r2.2.1 < ((Z5o x0).length : Int))) ?_ ?_
  ·exact zk (Zqq b0 b1 (Z5o x0) r2.2.1 r2.2.2.1 r2.2.2.2.1 r2.2.2.2.2.1 r2.2.2.2.2.2.1 r2.2.2.2.2.2.2 r2.1.Kind r2.1.Lo r2.1.Hi r2.1.Mode r2.1.Ref r2.1.Set r2.1.Kids 0 r1.1 z1N z1I .sh zpQ .sh .sh z37 z2U zvy)
  ·exact zk (Ze0 b0 b1 (Z5o x0) r2.2.1 r2.2.2.1 r2.2.2.2.1 r2.2.2.2.2.1 r2.2.2.2.2.2.1 r2.2.2.2.2.2.2 r2.1.Kind r2.1.Lo r2.1.Hi r2.1.Mode r2.1.Ref r2.1.Set r2.1.Kids 0 r1.1 z1N z1I .sh zpQ .sh .sh z37 z2U zvy)
 ·exact zk (Ze0 b0 b1 (Z5o x0) r2.2.1 r2.2.2.1 r2.2.2.2.1 r2.2.2.2.2.1 r2.2.2.2.2.2.1 r2.2.2.2.2.2.2 r2.1.Kind r2.1.Lo r2.1.Hi r2.1.Mode r2.1.Ref r2.1.Set r2.1.Kids 0 r1.1 z1N z1I .sh zpQ .sh .sh z37 z2U zvy)
def Zhj (x0 : ByteArray) : Option (Z1P × Z1q) :=
 if (decide (256 < (x0.size : Int))) = true then
 (some ((Z1P.mk (Zj.mk 0 0 0 0 0 ([] : List Zi) ([] : List Zj)) 0 false), (Z1q.mk 12 0)))
 else
 (ZdF x0)
theorem Zup x0 : Sim Z5d (Zhj x0) (EE 47 [(.p (.v (.string x0)))] []) := by
 unfold Zhj
 refine zf (ZOt ..)<|ze<|zz (.ptr 0 0) [(Z1v ZgA .nl .nl)]<|zz (.ptr 1 0) [(Z1v ZgA .nl .nl), (Z2d Zjs)]<|ze<|zq<|zq ?_
 refine za (decide (256 < (x0.size : Int))) ?_ ?_
 ·refine ze<|zq<|zq<|zt [(Z1v ZgA .nl .nl), (Z2d Zjs)]<|zt [(Z1v ZgA .nl .nl), (Z2d (Z1q.mk 12 0))] ?_
  exact zr ((.p (.tup [(.agg (Z4h ZgA .sh .sh)), (.agg (Z6t (Z1q.mk 12 0)))])), [(Z1v ZgA .nl .nl), (Z2d (Z1q.mk 12 0))]) ⟨_, rfl⟩
 ·exact zk (Zqp x0 ZgA Zjs .nl .nl rfl rfl)
theorem Zve x0 {r} (h : Zhj x0 = some r) : Zho x0 = some r :=
 Z1f (fun _ _ ha hb => ru_ ZnN ha hb) (Zup x0 r h)
def Z6w (x50 : List Zz) (x51 x52 : Int) (z3U : List Int) (z1A z1h z1F z1o z1H z1G z1p z1x : Int) (z1y : List Zi) (z1n : List Zj) (z2g : Bool) : Option (Z1P × Z1q) :=
 Z9Q x50 x51 (IntKind.i64.wrap (x52 + 1)) z3U z1A z1h z1F z1o z1H z1G z1p z1x z1y z1n z2g
theorem Zia (x50 : List Zz) x51 x52 b0 b1 z3U z3N z1A z3n z2G z1h z1F z1o z1H z1G z1p z1x z1y z1n z34 z2g ox50 z1N z1I z4B z2s z29 z1V (z37 : ZV z1N = true) (z2U : ZV z1I = true) (z4K : ZV z2s = true) : Sim Z5d (Z6w x50 x51 x52 z3U z1A z1h z1F z1o z1H z1G z1p z1x z1y z1n z2g) (Zu1 0 (.ptr 0 0) (.ptr 1 0) (.ptr 2 0) (.ptr 3 0) (ZL ox50 (x50.map Z3M)) (iv x51) (iv x52) [(Z1v b0 z1N z1I), (Z2d b1), (ZX z3U z3N z1A z3n z2G z1h z1F z4B z2s), (ZbH z1o z1H z1G z1p z1x z1y z1n z34 z2g z29 z1V)]) := by
 unfold Z6w
 refine zf (ZGs ..)<|ze<|zq ?_
 exact zk (ZjD x50 x51 (IntKind.i64.wrap (x52 + 1)) b0 b1 z3U z3N z1A z3n z2G z1h z1F z1o z1H z1G z1p z1x z1y z1n z34 z2g ox50 z1N z1I z4B z2s z29 z1V z37 z2U z4K)
def ZaE (x50 : List Zz) (x51 x52 : Int) (z3U : List Int) (z1A z1h z1F z1o z1H z1G z1p z1x : Int) (z1y : List Zi) (z1n : List Zj) (z2g : Bool) : Option (Z1P × Z1q) :=
 (lget x50 x52).bind fun a1 =>
 if (decide (z1A < a1.group)) = true then
 ((Z1D 26 a1.at_ z3U z1h z1F).bind fun r2 =>
 Z6w x50 x51 x52 z3U z1A r2.2.1 r2.2.2 z1o z1H z1G z1p z1x z1y z1n z2g)
 else
 (Z6w x50 x51 x52 z3U z1A z1h z1F z1o z1H z1G z1p z1x z1y z1n z2g)
theorem Zpk (x50 : List Zz) x51 x52 b0 b1 z3U z3N z1A z3n z2G z1h z1F z1o z1H z1G z1p z1x z1y z1n z34 z2g ox50 z1N z1I z4B z2s z29 z1V (z37 : ZV z1N = true) (z2U : ZV z1I = true) (z4K : ZV z2s = true) : Sim Z5d (ZaE x50 x51 x52 z3U z1A z1h z1F z1o z1H z1G z1p z1x z1y z1n z2g) (Zzr 0 (.ptr 0 0) (.ptr 1 0) (.ptr 2 0) (.ptr 3 0) (ZL ox50 (x50.map Z3M)) (iv x51) (iv x52) [(Z1v b0 z1N z1I), (Z2d b1), (ZX z3U z3N z1A z3n z2G z1h z1F z4B z2s), (ZbH z1o z1H z1G z1p z1x z1y z1n z34 z2g z29 z1V)]) := by
 unfold ZaE
 refine zf (ZGr ..)<|ze<|zi fun a1 ha1 => zp (.cptr (ZhU a1)) (et_ (Z3u (o := ox50) (k := .i64) (n := 2) (e := Z3M) (cs := ZdX) (fun _ => rfl) (fun _ => rfl) (by decide) ha1))<|zq<|zz (.ptr 4 0) [(Z1v b0 z1N z1I), (Z2d b1), (ZX z3U z3N z1A z3n z2G z1h z1F z4B z2s), (ZbH z1o z1H z1G z1p z1x z1y z1n z34 z2g z29 z1V), (ZhZ (Zz.mk 0 0))]<|zt [(Z1v b0 z1N z1I), (Z2d b1), (ZX z3U z3N z1A z3n z2G z1h z1F z4B z2s), (ZbH z1o z1H z1G z1p z1x z1y z1n z34 z2g z29 z1V), (ZhZ a1)]<|ze<|zq<|zq<|zq<|zq<|zq<|zq ?_
 refine za (decide (z1A < a1.group)) ?_ ?_
 ·refine ze<|zq<|zq<|zi fun r2 hr2 => ?_
  obtain ⟨_, er2, _, rfl⟩ := Z1J 26 a1.at_ z3U z3N z1A z3n z2G z1h z1F z4B z2s z4K r2 hr2
  refine zc [2] (.p (.tup [])) [(Z1v b0 z1N z1I), (Z2d b1), (ZX z3U r2.1 z1A z3n z2G r2.2.1 r2.2.2 z4B z2s), (ZbH z1o z1H z1G z1p z1x z1y z1n z34 z2g z29 z1V), (ZhZ a1)] er2 ?_
  exact zk (Zia x50 x51 x52 b0 b1 z3U r2.1 z1A z3n z2G r2.2.1 r2.2.2 z1o z1H z1G z1p z1x z1y z1n z34 z2g ox50 z1N z1I z4B z2s z29 z1V z37 z2U z4K)
 ·exact zk (Zia x50 x51 x52 b0 b1 z3U z3N z1A z3n z2G z1h z1F z1o z1H z1G z1p z1x z1y z1n z34 z2g ox50 z1N z1I z4B z2s z29 z1V z37 z2U z4K)
def Zg7 (z1A z1o z1H z1G z1p z1x : Int) (z1y : List Zi) (z1n : List Zj) (z2g : Bool) : Option (Z1P × Z1q) :=
 some ((Z1P.mk (Zj.mk z1o z1H z1G z1p z1x z1y z1n) z1A z2g), (Z1q.mk 0 0))
theorem Zpm b0 b1 z3U z3N z1A z3n z2G z1h z1F z1o z1H z1G z1p z1x z1y z1n z34 z2g z1N z1I z4B z2s z29 z1V (z37 : ZV z1N = true) (z2U : ZV z1I = true) (z4K : ZV z2s = true) : Sim Z5d (Zg7 z1A z1o z1H z1G z1p z1x z1y z1n z2g) (Zzt 0 (.ptr 0 0) (.ptr 1 0) (.ptr 2 0) (.ptr 3 0) [(Z1v b0 z1N z1I), (Z2d b1), (ZX z3U z3N z1A z3n z2G z1h z1F z4B z2s), (ZbH z1o z1H z1G z1p z1x z1y z1n z34 z2g z29 z1V)]) := by
 unfold Zg7
 refine zf (ZGu ..)<|ze<|zq<|zq<|zq<|zq<|zt [(Z1v b0 z1N z1I), (Z2d b1), (ZX z3U z3N z1A z3n z2G z1h z1F z4B z2s), (ZbH z1o z1H z1G z1p z1x z1y z1n z1A z2g z29 z1V)]<|ze<|zq<|zq<|zt [(ZbH z1o z1H z1G z1p z1x z1y z1n z1A z2g (shrO z29) (shrO z1V)), (Z2d b1), (ZX z3U z3N z1A z3n z2G z1h z1F z4B z2s), (ZbH z1o z1H z1G z1p z1x z1y z1n z1A z2g z29 z1V)]<|zt [(ZbH z1o z1H z1G z1p z1x z1y z1n z1A z2g (shrO z29) (shrO z1V)), (Z2d Zjs), (ZX z3U z3N z1A z3n z2G z1h z1F z4B z2s), (ZbH z1o z1H z1G z1p z1x z1y z1n z1A z2g z29 z1V)] ?_
 exact zr ((.p (.tup [(.agg (Z4h (Z1P.mk (Zj.mk z1o z1H z1G z1p z1x z1y z1n) z1A z2g) .sh .sh)), (.agg (Z6t Zjs))])), [(ZbH z1o z1H z1G z1p z1x z1y z1n z1A z2g (shrO z29) (shrO z1V)), (Z2d Zjs), (ZX z3U z3N z1A z3n z2G z1h z1F z4B z2s), (ZbH z1o z1H z1G z1p z1x z1y z1n z1A z2g z29 z1V)]) ⟨_, rfl⟩
def ZaF (z1A z1h z1F z1o z1H z1G z1p z1x : Int) (z1y : List Zi) (z1n : List Zj) (z2g : Bool) : Option (Z1P × Z1q) :=
 if (z1h != 0) = true then
 (some ((Z1P.mk (Zj.mk 0 0 0 0 0 ([] : List Zi) ([] : List Zj)) 0 false), (Z1q.mk z1h z1F)))
 else
 (Zg7 z1A z1o z1H z1G z1p z1x z1y z1n z2g)
theorem Zpl b0 b1 z3U z3N z1A z3n z2G z1h z1F z1o z1H z1G z1p z1x z1y z1n z34 z2g z1N z1I z4B z2s z29 z1V (z37 : ZV z1N = true) (z2U : ZV z1I = true) (z4K : ZV z2s = true) : Sim Z5d (ZaF z1A z1h z1F z1o z1H z1G z1p z1x z1y z1n z2g) (Zzs 0 (.ptr 0 0) (.ptr 1 0) (.ptr 2 0) (.ptr 3 0) [(Z1v b0 z1N z1I), (Z2d b1), (ZX z3U z3N z1A z3n z2G z1h z1F z4B z2s), (ZbH z1o z1H z1G z1p z1x z1y z1n z34 z2g z29 z1V)]) := by
 unfold ZaF
 refine zf (ZGt ..)<|ze<|zq<|zq<|zq<|zq<|zq ?_
 refine za (z1h != 0) ?_ ?_
 ·refine ze<|zq<|zq<|zq<|zq<|zt [(Z1v ZgA .nl .nl), (Z2d b1), (ZX z3U z3N z1A z3n z2G z1h z1F z4B z2s), (ZbH z1o z1H z1G z1p z1x z1y z1n z34 z2g z29 z1V)]<|zt [(Z1v ZgA .nl .nl), (Z2d (Z1q.mk z1h z1F)), (ZX z3U z3N z1A z3n z2G z1h z1F z4B z2s), (ZbH z1o z1H z1G z1p z1x z1y z1n z34 z2g z29 z1V)]<|zg ?_
  exact zr ((.p (.tup [(.agg (Z4h ZgA .sh .sh)), (.agg (Z6t (Z1q.mk z1h z1F)))])), [(Z1v ZgA .nl .nl), (Z2d (Z1q.mk z1h z1F)), (ZX z3U z3N z1A z3n z2G z1h z1F z4B z2s), (ZbH z1o z1H z1G z1p z1x z1y z1n z34 z2g z29 z1V)]) ⟨_, rfl⟩
 ·exact zk (Zpm b0 b1 z3U z3N z1A z3n z2G z1h z1F z1o z1H z1G z1p z1x z1y z1n z34 z2g z1N z1I z4B z2s z29 z1V z37 z2U z4K)
def Z8j (x50 : List Zz) (x51 x52 : Int) (z3U : List Int) (z1A z1h z1F z1o z1H z1G z1p z1x : Int) (z1y : List Zi) (z1n : List Zj) (z2g : Bool) : Option (Z1P × Z1q) :=
 if (decide (x52 < x51)) = true then
 (ZaE x50 x51 x52 z3U z1A z1h z1F z1o z1H z1G z1p z1x z1y z1n z2g)
 else
 (ZaF z1A z1h z1F z1o z1H z1G z1p z1x z1y z1n z2g)
theorem Zqo (x50 : List Zz) x51 x52 b0 b1 z3U z3N z1A z3n z2G z1h z1F z1o z1H z1G z1p z1x z1y z1n z34 z2g ox50 z1N z1I z4B z2s z29 z1V (z37 : ZV z1N = true) (z2U : ZV z1I = true) (z4K : ZV z2s = true) : Sim Z5d (Z8j x50 x51 x52 z3U z1A z1h z1F z1o z1H z1G z1p z1x z1y z1n z2g) (Zso 0 (.ptr 0 0) (.ptr 1 0) (.ptr 2 0) (.ptr 3 0) (ZL ox50 (x50.map Z3M)) (iv x51) (iv x52) [(Z1v b0 z1N z1I), (Z2d b1), (ZX z3U z3N z1A z3n z2G z1h z1F z4B z2s), (ZbH z1o z1H z1G z1p z1x z1y z1n z34 z2g z29 z1V)]) := by
 unfold Z8j
 refine zf (ZIx ..)<|ze<|zq ?_
 refine za (decide (x52 < x51)) ?_ ?_
 ·exact zk (Zpk x50 x51 x52 b0 b1 z3U z3N z1A z3n z2G z1h z1F z1o z1H z1G z1p z1x z1y z1n z34 z2g ox50 z1N z1I z4B z2s z29 z1V z37 z2U z4K)
 ·exact zk (Zpl b0 b1 z3U z3N z1A z3n z2G z1h z1F z1o z1H z1G z1p z1x z1y z1n z34 z2g z1N z1I z4B z2s z29 z1V z37 z2U z4K)
theorem Zc2 x50 x51 x52 z3U z1A z1h z1F z1o z1H z1G z1p z1x z1y z1n z2g {r} (h : Z8j x50 x51 x52 z3U z1A z1h z1F z1o z1H z1G z1p z1x z1y z1n z2g = some r) : Z9Q x50 x51 x52 z3U z1A z1h z1F z1o z1H z1G z1p z1x z1y z1n z2g = some r :=
 Z1f (fun _ _ ha hb => ru_ ZnN (ha default default default default default default .ex .ex .ex .ex .ex .ex .ex rfl rfl rfl) (hb default default default default default default .ex .ex .ex .ex .ex .ex .ex rfl rfl rfl)) (fun b0 b1 z3N z3n z2G z34 ox50 z1N z1I z4B z2s z29 z1V z37 z2U z4K => Zqo x50 x51 x52 b0 b1 z3U z3N z1A z3n z2G z1h z1F z1o z1H z1G z1p z1x z1y z1n z34 z2g ox50 z1N z1I z4B z2s z29 z1V z37 z2U z4K r h)
def Za3 (zn : Int) : Option (Bool × Int) :=
 some (false, zn)
theorem Zef zl zn z7 zd zh z2 z6 zu zb (zy : ZV zb = true) : Sim (Z82 zl z7 zd zh z2 z6 zu zb) (Za3 zn) (ZwF 1 [(ZX zl zn z7 zd zh z2 z6 zu zb)]) := by
 unfold Za3
 refine zf (ZIF ..)<|ze ?_
 exact zr ((bv false), [(ZX zl zn z7 zd zh z2 z6 zu zb)]) ⟨_, rfl⟩
def Za4 (x1 : ByteArray) (zn : Int) : Option (Bool × Int) :=
 some (true, (IntKind.i64.wrap (zn + (x1.size : Int))))
theorem Zly x1 zl zn z7 zd zh z2 z6 zu zb (zy : ZV zb = true) : Sim (Z82 zl z7 zd zh z2 z6 zu zb) (Za4 x1 zn) (ZBy 1 (.ptr 0 0) (.p (.v (.string x1))) [(ZX zl zn z7 zd zh z2 z6 zu zb)]) := by
 unfold Za4
 refine zf (ZIG ..)<|ze<|zq<|zq<|zq<|zq<|zq<|zq<|zq<|zt [(ZX zl (IntKind.i64.wrap (zn + (x1.size : Int))) z7 zd zh z2 z6 zu zb)]<|ze ?_
 exact zr ((bv true), [(ZX zl (IntKind.i64.wrap (zn + (x1.size : Int))) z7 zd zh z2 z6 zu zb)]) ⟨_, rfl⟩
def ZbS (x1 : ByteArray) (zl : List Int) (zn : Int) : Option (Bool × Int) :=
 if ((decide ((IntKind.i64.wrap ((zl.length : Int) - zn)) < (x1.size : Int)))) = true then
 (Za3 zn)
 else
 ((lsl zl zn (IntKind.i64.wrap (zn + (x1.size : Int)))).bind fun a1 =>
 if (!(seq (strI a1) x1)) = true then
 (Za3 zn)
 else
 (Za4 x1 zn))
theorem ZnB x1 zl zn z7 zd zh z2 z6 zu zb (zy : ZV zb = true) : Sim (Z82 zl z7 zd zh z2 z6 zu zb) (ZbS x1 zl zn) (EE 68 [(.ptr 0 0), (.p (.v (.string x1)))] [(ZX zl zn z7 zd zh z2 z6 zu zb)]) := by
 unfold ZbS
 refine zf (ZOH ..)<|ze<|ze<|zq<|zq<|zq<|zp (iv (zl.length : Int)) (et_ (Z2M (P := PP) (t := 141) (d := 5) (by kernel_rfl) (eI .u8) (shrO zu) zl))<|zq<|zq<|zq<|zq<|zq<|zq ?_
 refine za ((decide ((IntKind.i64.wrap ((zl.length : Int) - zn)) < (x1.size : Int)))) ?_ ?_
 ·exact zk (Zef zl zn z7 zd zh z2 z6 zu zb zy)
 ·refine zq<|zq<|zq<|zq<|zq<|zq<|zq<|zq<|zq<|zq<|zq<|zi fun a1 ha1 => zp (ZL (slO (shrO zu)) (a1.map (eI .u8))) (Eq.trans (by kernel_rfl) <| ZJU (n := 1) (o := (shrO zu)) (lo := (some (iv zn))) (hi := (some (iv (IntKind.i64.wrap (zn + (x1.size : Int)))))) (e := (eI .u8)) (fun _ => rfl) (by decide) (by kernel_rfl) (by kernel_rfl) ha1)<|zp (.p (.v (.string (strI a1)))) (et_ (ZL2 (P := PP) (s := 141) (d := 9) (by kernel_rfl) (slO (shrO zu)) a1))<|zq ?_
  refine za (!(seq (strI a1) x1)) ?_ ?_
  ·exact zk (Zef zl zn z7 zd zh z2 z6 zu zb zy)
  ·exact zk (Zly x1 zl zn z7 zd zh z2 z6 zu zb zy)
theorem Zon x1 zl zn {r} (h : ZbS x1 zl zn = some r) : Z2n x1 zl zn = some r :=
 Z1f (fun _ _ ha hb => ru_ (ZoI _ _ _ _ _ _ _ _) (ha default default default default default .ex .ex rfl) (hb default default default default default .ex .ex rfl)) (fun z7 zd zh z2 z6 zu zb zy => ZnB x1 zl zn z7 zd zh z2 z6 zu zb zy r h)
def Z8u (zl : List Int) (zn z7 zd : Int) (zh : List Zz) (z2 z6 : Int) : Option (Zj × Int × Int × Int × (List Zz) × Int × Int) :=
 (Z8H zl zn z7 zd zh z2 z6).bind fun r1 =>
 Z6Z ([r1.1] : List Zj) zl r1.2.1 r1.2.2.1 r1.2.2.2.1 r1.2.2.2.2.1 r1.2.2.2.2.2.1 r1.2.2.2.2.2.2
theorem Zoh zl zn z7 zd zh z2 z6 zu zb (zy : ZV zb = true) : Sim (Z3g zl zu) (Z8u zl zn z7 zd zh z2 z6) (EE 69 [(.ptr 0 0)] [(ZX zl zn z7 zd zh z2 z6 zu zb)]) := by
 unfold Z8u
 refine zf (ZOJ ..)<|ze<|zz (.ptr 1 0) [(ZX zl zn z7 zd zh z2 z6 zu zb), (Zv Z2j .nl .nl)]<|ze<|zi fun r1 hr1 => ?_
 obtain ⟨_, er1, z6v, _, zbG, rfl⟩ := Zie zl zn z7 zd zh z2 z6 zu zb zy r1 hr1
 refine zc [0] (pA_ (ZQ r1.1 .sh .sh)) [(ZX zl r1.2.1 r1.2.2.1 r1.2.2.2.1 r1.2.2.2.2.1 r1.2.2.2.2.2.1 r1.2.2.2.2.2.2 zu z6v), (Zv Z2j .nl .nl)] er1<|zp (ZL .ex (([r1.1] : List Zj).map Z15)) (Eq.trans (b := some (ZL .ex [.agg (Z3T r1.1)])) (by kernel_rfl) (by simp only [Z8V, Zna, Z69])) ?_
 exact zk (ZeV ([r1.1] : List Zj) zl r1.2.1 r1.2.2.1 r1.2.2.2.1 r1.2.2.2.2.1 r1.2.2.2.2.2.1 r1.2.2.2.2.2.2 Z2j .ex zu z6v .nl .nl rfl zbG rfl rfl)
theorem Zib zl zn z7 zd zh z2 z6 {r} (h : Z8u zl zn z7 zd zh z2 z6 = some r) : Z5q zl zn z7 zd zh z2 z6 = some r :=
 Z1f (fun _ _ ha hb => ru_ (ZaR _ _) (ha .ex .ex rfl) (hb .ex .ex rfl)) (fun zu zb zy => Zoh zl zn z7 zd zh z2 z6 zu zb zy r h)
def Zau (x3 : List Zj) (zl : List Int) (zn z7 zd : Int) (zh : List Zz) (z2 z6 : Int) : Option (Zj × Int × Int × Int × (List Zz) × Int × Int) :=
 (Z8H zl zn z7 zd zh z2 z6).bind fun r1 =>
 (lapp x3 ([r1.1] : List Zj)).bind fun a2 =>
 Z6Z a2 zl r1.2.1 r1.2.2.1 r1.2.2.2.1 r1.2.2.2.2.1 r1.2.2.2.2.2.1 r1.2.2.2.2.2.2
theorem ZlZ (x3 : List Zj) zl zn z7 zd zh z2 z6 b1 ox3 zu zb zP zI (hox3 : ZV ox3 = true) (zy : ZV zb = true) (z1w : ZV zP = true) (z1k : ZV zI = true) : Sim (Z3g zl zu) (Zau x3 zl zn z7 zd zh z2 z6) (ZBC 1 (.ptr 0 0) (.ptr 1 0) (ZL ox3 (x3.map Z15)) [(ZX zl zn z7 zd zh z2 z6 zu zb), (Zv b1 zP zI)]) := by
 unfold Zau
 refine zf (ZII ..)<|ze<|zi fun r1 hr1 => ?_
 obtain ⟨_, er1, z6v, _, zbG, rfl⟩ := Zie zl zn z7 zd zh z2 z6 zu zb zy r1 hr1
 refine zc [0] (pA_ (ZQ r1.1 .sh .sh)) [(ZX zl r1.2.1 r1.2.2.1 r1.2.2.2.1 r1.2.2.2.2.1 r1.2.2.2.2.2.1 r1.2.2.2.2.2.2 zu z6v), (Zv b1 zP zI)] er1<|zp (ZL .ex (([r1.1] : List Zj).map Z15)) (Eq.trans (b := some (ZL .ex [.agg (Z3T r1.1)])) (by kernel_rfl) (by simp only [Z8V, Zna, Z69]))<|zi fun a2 ha2 => zp (ZL .un (a2.map Z15)) (Eq.trans (by kernel_rfl) <| Zin (n := 7) (o := ox3) (o' := .ex) (e := Z15) (ys := ([r1.1] : List Zj)) ZpJ (by decide) hox3 ha2) ?_
 exact zk (ZeV a2 zl r1.2.1 r1.2.2.1 r1.2.2.2.1 r1.2.2.2.2.1 r1.2.2.2.2.2.1 r1.2.2.2.2.2.2 b1 .un zu z6v zP zI rfl zbG z1w z1k)
def Z8v (x3 : List Zj) (zn z7 zd : Int) (zh : List Zz) (z2 z6 : Int) : Option (Zj × Int × Int × Int × (List Zz) × Int × Int) :=
 (Zdm 3 x3).bind fun r1 =>
 some (r1, zn, z7, zd, zh, z2, z6)
theorem Zm0 (x3 : List Zj) zl zn z7 zd zh z2 z6 b1 ox3 zu zb zP zI (hox3 : ZV ox3 = true) (zy : ZV zb = true) (z1w : ZV zP = true) (z1k : ZV zI = true) : Sim (Z3g zl zu) (Z8v x3 zn z7 zd zh z2 z6) (ZBD 1 (.ptr 1 0) (ZL ox3 (x3.map Z15)) [(ZX zl zn z7 zd zh z2 z6 zu zb), (Zv b1 zP zI)]) := by
 unfold Z8v
 refine zf (ZIJ ..)<|ze<|zi fun r1 hr1 => ?_
 obtain ⟨_, er1, _, rfl⟩ := ZlJ 3 x3 .sh r1 hr1
 refine zc [] (pA_ (ZQ r1 .sh .sh)) [(ZX zl zn z7 zd zh z2 z6 zu zb), (Zv b1 zP zI)] er1<|zt [(ZX zl zn z7 zd zh z2 z6 zu zb), (Zv r1 .sh .sh)] ?_
 exact zr ((pA_ (ZQ r1 .sh .sh)), [(ZX zl zn z7 zd zh z2 z6 zu zb), (Zv r1 .sh .sh)]) ⟨zb, _, zy, rfl⟩
def Z6V (x3 : List Zj) (zl : List Int) (zn z7 zd : Int) (zh : List Zz) (z2 z6 : Int) : Option (Zj × Int × Int × Int × (List Zz) × Int × Int) :=
 (Z2n (ByteArray.mk #[124]) zl zn).bind fun r1 =>
 if r1.1 = true then
 (Zau x3 zl r1.2 z7 zd zh z2 z6)
 else
 (Z8v x3 r1.2 z7 zd zh z2 z6)
theorem ZlY (x3 : List Zj) zl zn z7 zd zh z2 z6 b1 ox3 zu zb zP zI (hox3 : ZV ox3 = true) (zy : ZV zb = true) (z1w : ZV zP = true) (z1k : ZV zI = true) : Sim (Z3g zl zu) (Z6V x3 zl zn z7 zd zh z2 z6) (Zsq 1 (.ptr 0 0) (.ptr 1 0) (ZL ox3 (x3.map Z15)) [(ZX zl zn z7 zd zh z2 z6 zu zb), (Zv b1 zP zI)]) := by
 unfold Z6V
 refine zf (ZIH ..)<|ze<|zi fun r1 hr1 => ?_
 obtain ⟨_, er1, _, rfl⟩ := Z2y (ByteArray.mk #[124]) zl zn z7 zd zh z2 z6 zu zb zy r1 hr1
 refine zc [0] (bv r1.1) [(ZX zl r1.2 z7 zd zh z2 z6 zu zb), (Zv b1 zP zI)] er1 ?_
 refine za r1.1 ?_ ?_
 ·exact zk (ZlZ x3 zl r1.2 z7 zd zh z2 z6 b1 ox3 zu zb zP zI hox3 zy z1w z1k)
 ·exact zk (Zm0 x3 zl r1.2 z7 zd zh z2 z6 b1 ox3 zu zb zP zI hox3 zy z1w z1k)
theorem ZeU x3 zl zn z7 zd zh z2 z6 {r} (h : Z6V x3 zl zn z7 zd zh z2 z6 = some r) : Z6Z x3 zl zn z7 zd zh z2 z6 = some r :=
 Z1f (fun _ _ ha hb => ru_ (ZaR _ _) (ha default .ex .ex .ex .ex .ex rfl rfl rfl rfl) (hb default .ex .ex .ex .ex .ex rfl rfl rfl rfl)) (fun b1 ox3 zu zb zP zI hox3 zy z1w z1k => ZlY x3 zl zn z7 zd zh z2 z6 b1 ox3 zu zb zP zI hox3 zy z1w z1k r h)
def Zab (zl : List Int) (zn z7 zd : Int) (zh : List Zz) (z2 z6 : Int) : Option (Zj × Int × Int × Int × (List Zz) × Int × Int) :=
 Z70 ([] : List Zj) zl zn z7 zd zh z2 z6
theorem Zok zl zn z7 zd zh z2 z6 zu zb (zy : ZV zb = true) : Sim (Z3g zl zu) (Zab zl zn z7 zd zh z2 z6) (EE 91 [(.ptr 0 0)] [(ZX zl zn z7 zd zh z2 z6 zu zb)]) := by
 unfold Zab
 refine zf (ZOZ ..)<|ze<|zz (.ptr 1 0) [(ZX zl zn z7 zd zh z2 z6 zu zb), (Zv Z2j .nl .nl)]<|ze ?_
 exact zk (ZeX ([] : List Zj) zl zn z7 zd zh z2 z6 Z2j .nl zu zb .nl .nl rfl zy rfl rfl)
theorem Zid zl zn z7 zd zh z2 z6 {r} (h : Zab zl zn z7 zd zh z2 z6 = some r) : Z8H zl zn z7 zd zh z2 z6 = some r :=
 Z1f (fun _ _ ha hb => ru_ (ZaR _ _) (ha .ex .ex rfl) (hb .ex .ex rfl)) (fun zu zb zy => Zok zl zn z7 zd zh z2 z6 zu zb zy r h)
def Z4r (x3 : List Zj) (zn z7 zd : Int) (zh : List Zz) (z2 z6 : Int) : Option (Zj × Int × Int × Int × (List Zz) × Int × Int) :=
 (Zdm 2 x3).bind fun r1 =>
 some (r1, zn, z7, zd, zh, z2, z6)
theorem Z8P (x3 : List Zj) zl zn z7 zd zh z2 z6 b1 ox3 zu zb zP zI (hox3 : ZV ox3 = true) (zy : ZV zb = true) (z1w : ZV zP = true) (z1k : ZV zI = true) : Sim (Z3g zl zu) (Z4r x3 zn z7 zd zh z2 z6) (Zpb 1 (.ptr 1 0) (ZL ox3 (x3.map Z15)) [(ZX zl zn z7 zd zh z2 z6 zu zb), (Zv b1 zP zI)]) := by
 unfold Z4r
 refine zf (ZJ2 ..)<|ze<|zi fun r1 hr1 => ?_
 obtain ⟨_, er1, _, rfl⟩ := ZlJ 2 x3 .sh r1 hr1
 refine zc [] (pA_ (ZQ r1 .sh .sh)) [(ZX zl zn z7 zd zh z2 z6 zu zb), (Zv b1 zP zI)] er1<|zt [(ZX zl zn z7 zd zh z2 z6 zu zb), (Zv r1 .sh .sh)] ?_
 exact zr ((pA_ (ZQ r1 .sh .sh)), [(ZX zl zn z7 zd zh z2 z6 zu zb), (Zv r1 .sh .sh)]) ⟨zb, _, zy, rfl⟩
def Z5S (x3 : List Zj) (zl : List Int) (zn z7 zd : Int) (zh : List Zz) (z2 z6 : Int) : Option (Zj × Int × Int × Int × (List Zz) × Int × Int) :=
 (Zc3 zl zn z7 zd zh z2 z6).bind fun r1 =>
 (Z8J r1.1 r1.2.1 zl r1.2.2.1 r1.2.2.2.1 r1.2.2.2.2.1 r1.2.2.2.2.2.1 r1.2.2.2.2.2.2.1 r1.2.2.2.2.2.2.2).bind fun r2 =>
 (lapp x3 ([r2.1] : List Zj)).bind fun a3 =>
 Z70 a3 zl r2.2.1 r1.2.2.2.1 r1.2.2.2.2.1 r1.2.2.2.2.2.1 r2.2.2.1 r2.2.2.2
theorem Zb0 (x3 : List Zj) zl zn z7 zd zh z2 z6 b1 ox3 zu zb zP zI (hox3 : ZV ox3 = true) (zy : ZV zb = true) (z1w : ZV zP = true) (z1k : ZV zI = true) : Sim (Z3g zl zu) (Z5S x3 zl zn z7 zd zh z2 z6) (ZsB 1 (.ptr 0 0) (.ptr 1 0) (ZL ox3 (x3.map Z15)) [(ZX zl zn z7 zd zh z2 z6 zu zb), (Zv b1 zP zI)]) := by
 unfold Z5S
 refine zf (ZJ1 ..)<|ze<|zi fun r1 hr1 => ?_
 obtain ⟨_, er1, z6v, _, zbG, rfl⟩ := Zoj zl zn z7 zd zh z2 z6 zu zb zy r1 hr1
 refine zc [0] (.p (.tup [(.agg (ZQ r1.1 .sh .sh)), (.v (.bool r1.2.1))])) [(ZX zl r1.2.2.1 r1.2.2.2.1 r1.2.2.2.2.1 r1.2.2.2.2.2.1 r1.2.2.2.2.2.2.1 r1.2.2.2.2.2.2.2 zu z6v), (Zv b1 zP zI)] er1<|zq<|zq<|zz (.ptr 2 0) [(ZX zl r1.2.2.1 r1.2.2.2.1 r1.2.2.2.2.1 r1.2.2.2.2.2.1 r1.2.2.2.2.2.2.1 r1.2.2.2.2.2.2.2 zu z6v), (Zv b1 zP zI), (Zv Z2j .nl .nl)]<|zt [(ZX zl r1.2.2.1 r1.2.2.2.1 r1.2.2.2.2.1 r1.2.2.2.2.2.1 r1.2.2.2.2.2.2.1 r1.2.2.2.2.2.2.2 zu z6v), (Zv b1 zP zI), (Zv r1.1 .sh .sh)]<|ze<|zq<|zi fun r2 hr2 => ?_
 obtain ⟨_, er2, _, rfl⟩ := ZmW r1.1 r1.2.1 zl r1.2.2.1 r1.2.2.2.1 r1.2.2.2.2.1 r1.2.2.2.2.2.1 r1.2.2.2.2.2.2.1 r1.2.2.2.2.2.2.2 .sh .sh zu z6v zbG r2 hr2
 refine zc [0] (pA_ (ZQ r2.1 .sh .sh)) [(ZX zl r2.2.1 r1.2.2.2.1 r1.2.2.2.2.1 r1.2.2.2.2.2.1 r2.2.2.1 r2.2.2.2 zu z6v), (Zv b1 zP zI), (Zv r1.1 .sh .sh)] er2<|zp (ZL .ex (([r2.1] : List Zj).map Z15)) (Eq.trans (b := some (ZL .ex [.agg (Z3T r2.1)])) (by kernel_rfl) (by simp only [Z8V, Zna, Z69]))<|zi fun a3 ha3 => zp (ZL .un (a3.map Z15)) (Eq.trans (by kernel_rfl) <| Zin (n := 7) (o := ox3) (o' := .ex) (e := Z15) (ys := ([r2.1] : List Zj)) ZpJ (by decide) hox3 ha3) ?_
 exact zk (ZeX a3 zl r2.2.1 r1.2.2.2.1 r1.2.2.2.2.1 r1.2.2.2.2.2.1 r2.2.2.1 r2.2.2.2 b1 .un zu z6v zP zI rfl zbG z1w z1k)
def Z8x (x3 : List Zj) (zl : List Int) (zn z7 zd : Int) (zh : List Zz) (z2 z6 : Int) : Option (Zj × Int × Int × Int × (List Zz) × Int × Int) :=
 (Z3q (Z2f.mk zl zn z7 zd zh (Z1q.mk z2 z6))).bind fun r1 =>
 if (r1 == (-1)) = true then
 (if (r1 == (-1)) = true then
 (Z4r x3 zn z7 zd zh z2 z6)
 else
 (Z5S x3 zl zn z7 zd zh z2 z6))
 else
 (if (r1 == 124) = true then
 (if (r1 == 124) = true then
 (Z4r x3 zn z7 zd zh z2 z6)
 else
 (Z5S x3 zl zn z7 zd zh z2 z6))
 else
 (if (r1 == 41) = true then
 (Z4r x3 zn z7 zd zh z2 z6)
 else
 (Z5S x3 zl zn z7 zd zh z2 z6)))
theorem Zm2 (x3 : List Zj) zl zn z7 zd zh z2 z6 b1 ox3 zu zb zP zI (hox3 : ZV ox3 = true) (zy : ZV zb = true) (z1w : ZV zP = true) (z1k : ZV zI = true) : Sim (Z3g zl zu) (Z8x x3 zl zn z7 zd zh z2 z6) (ZBU 1 (.ptr 0 0) (.ptr 1 0) (ZL ox3 (x3.map Z15)) [(ZX zl zn z7 zd zh z2 z6 zu zb), (Zv b1 zP zI)]) := by
 unfold Z8x
 refine zf (ZJ0 ..)<|ze<|zi fun r1 hr1 => ?_
 obtain ⟨_, er1, _, rfl⟩ := Z3D (Z2f.mk zl zn z7 zd zh (Z1q.mk z2 z6)) zu zb zy r1 hr1
 refine zc [0] (iv r1) [(ZX zl zn z7 zd zh z2 z6 zu zb), (Zv b1 zP zI)] er1<|ze<|zq ?_
 refine za (r1 == (-1)) ?_ ?_
 ·refine za (r1 == (-1)) ?_ ?_
  ·exact zk (Z8P x3 zl zn z7 zd zh z2 z6 b1 ox3 zu zb zP zI hox3 zy z1w z1k)
  ·exact zk (Zb0 x3 zl zn z7 zd zh z2 z6 b1 ox3 zu zb zP zI hox3 zy z1w z1k)
 ·refine ze<|zq ?_
  refine za (r1 == 124) ?_ ?_
  ·refine za (r1 == 124) ?_ ?_
   ·exact zk (Z8P x3 zl zn z7 zd zh z2 z6 b1 ox3 zu zb zP zI hox3 zy z1w z1k)
   ·exact zk (Zb0 x3 zl zn z7 zd zh z2 z6 b1 ox3 zu zb zP zI hox3 zy z1w z1k)
  ·refine ze<|zq ?_
   refine za (r1 == 41) ?_ ?_
   ·exact zk (Z8P x3 zl zn z7 zd zh z2 z6 b1 ox3 zu zb zP zI hox3 zy z1w z1k)
   ·exact zk (Zb0 x3 zl zn z7 zd zh z2 z6 b1 ox3 zu zb zP zI hox3 zy z1w z1k)
def Z8w (x3 : List Zj) (zl : List Int) (zn z7 zd : Int) (zh : List Zz) (z2 z6 : Int) : Option (Zj × Int × Int × Int × (List Zz) × Int × Int) :=
 if (z2 == 0) = true then
 (Z8x x3 zl zn z7 zd zh z2 z6)
 else
 (Z4r x3 zn z7 zd zh z2 z6)
theorem Zm1 (x3 : List Zj) zl zn z7 zd zh z2 z6 b1 ox3 zu zb zP zI (hox3 : ZV ox3 = true) (zy : ZV zb = true) (z1w : ZV zP = true) (z1k : ZV zI = true) : Sim (Z3g zl zu) (Z8w x3 zl zn z7 zd zh z2 z6) (ZsA 1 (.ptr 0 0) (.ptr 1 0) (ZL ox3 (x3.map Z15)) [(ZX zl zn z7 zd zh z2 z6 zu zb), (Zv b1 zP zI)]) := by
 unfold Z8w
 refine zf (ZIZ ..)<|ze<|zq<|zq<|zq<|zq<|zq ?_
 refine za (z2 == 0) ?_ ?_
 ·exact zk (Zm2 x3 zl zn z7 zd zh z2 z6 b1 ox3 zu zb zP zI hox3 zy z1w z1k)
 ·exact zk (Z8P x3 zl zn z7 zd zh z2 z6 b1 ox3 zu zb zP zI hox3 zy z1w z1k)
theorem ZeW x3 zl zn z7 zd zh z2 z6 {r} (h : Z8w x3 zl zn z7 zd zh z2 z6 = some r) : Z70 x3 zl zn z7 zd zh z2 z6 = some r :=
 Z1f (fun _ _ ha hb => ru_ (ZaR _ _) (ha default .ex .ex .ex .ex .ex rfl rfl rfl rfl) (hb default .ex .ex .ex .ex .ex rfl rfl rfl rfl)) (fun b1 ox3 zu zb zP zI hox3 zy z1w z1k => Zm1 x3 zl zn z7 zd zh z2 z6 b1 ox3 zu zb zP zI hox3 zy z1w z1k r h)
def Za2 (b0 : Z2f) : Option Int :=
 (Zh8 b0.b b0.at_).bind fun r1 =>
 some r1.1
theorem Zlx b0 zu zb (zy : ZV zb = true) : Sim (Z9y b0 zu zb) (Za2 b0) (ZxF 1 (.ptr 0 0) [(Z4V b0 zu zb)]) := by
 unfold Za2
 refine zf (ZEZ ..)<|ze<|zq<|zq<|zq<|zq<|zq<|zq<|zi fun r1 hr1 => ?_
 obtain ⟨_, er1, _, rfl⟩ := ZpE b0.b b0.at_ .sh r1 hr1
 refine zc [] (.p (.tup [(.v (.int .i64 r1.1)), (.v (.int .i64 r1.2))])) [(Z4V b0 zu zb)] er1<|zq<|zq<|ze ?_
 exact zr ((iv r1.1), [(Z4V b0 zu zb)]) ⟨_, rfl⟩
def ZbQ (b0 : Z2f) : Option Int :=
 if (decide ((b0.b.length : Int) ≤ b0.at_)) = true then
 (some (-1))
 else
 (Za2 b0)
theorem Zny b0 zu zb (zy : ZV zb = true) : Sim (Z9y b0 zu zb) (ZbQ b0) (EE 104 [(.ptr 0 0)] [(Z4V b0 zu zb)]) := by
 unfold ZbQ
 refine zf (ZLA ..)<|ze<|ze<|zq<|zq<|zq<|zq<|zq<|zq<|zp (iv (b0.b.length : Int)) (et_ (Z2M (P := PP) (t := 141) (d := 5) (by kernel_rfl) (eI .u8) (shrO zu) b0.b))<|zq ?_
 refine za (decide ((b0.b.length : Int) ≤ b0.at_)) ?_ ?_
 ·refine ze ?_
  exact zr ((iv (-1)), [(Z4V b0 zu zb)]) ⟨_, rfl⟩
 ·exact zk (Zlx b0 zu zb zy)
theorem Zol b0 {r} (h : ZbQ b0 = some r) : Z3q b0 = some r :=
 Z1f (fun _ _ ha hb => ru_ (ZoH _ _ _) (ha .ex .ex rfl) (hb .ex .ex rfl)) (fun zu zb zy => Zny b0 zu zb zy r h)
def Zfw : Option (Int × Int) :=
 some (0, 0)
theorem Zlb : Sim Z49 Zfw (ZtA 0 []) := by
 unfold Zfw
 refine zf (ZFf ..)<|ze ?_
 exact zr ((.p (.tup [(.v (.int .i64 0)), (.v (.int .i64 0))])), []) ⟨_, rfl⟩
def Zfy (x0 : List Int) (x1 : Int) : Option (Int × Int) :=
 (lget x0 x1).bind fun a1 =>
 some ((IntKind.i64.wrap (1114112 + (IntKind.i64.wrap a1))), 1)
theorem ZsS (x0 : List Int) x1 ox0 : Sim Z49 (Zfy x0 x1) (Zy0 0 (ZL ox0 (x0.map (eI .u8))) (iv x1) []) := by
 unfold Zfy
 refine zf (ZFh ..)<|ze<|zi fun a1 ha1 => zp (.cptr [(.v (.int .u8 a1))]) (et_ (Z3u (o := (shrO ox0)) (k := .i64) (n := 1) (e := (eI .u8)) (cs := (fun a => [(eI .u8) a])) (fun _ => rfl) (fun _ => rfl) (by decide) ha1))<|zq<|zq<|zq ?_
 exact zr ((.p (.tup [(.v (.int .i64 (IntKind.i64.wrap (1114112 + (IntKind.i64.wrap a1))))), (.v (.int .i64 1))])), []) ⟨_, rfl⟩
def Zbe (x6 x7 : Int) : Option (Int × Int) :=
 some ((IntKind.i64.wrap x6), x7)
theorem Zlc x6 x7 : Sim Z49 (Zbe x6 x7) (ZtB 0 (.p (.v (.int .i32 x6))) (iv x7) []) := by
 unfold Zbe
 refine zf (ZFi ..)<|ze<|zq ?_
 exact zr ((.p (.tup [(.v (.int .i64 (IntKind.i64.wrap x6))), (.v (.int .i64 x7))])), []) ⟨_, rfl⟩
def Zfx (x0 : List Int) (x1 : Int) : Option (Int × Int) :=
 (lsl x0 x1 (x0.length : Int)).bind fun a1 =>
 (Zb2 a1).bind fun r2 =>
 if (r2.1 == 65533) = true then
 (if (r2.2 == 1) = true then
 (Zfy x0 x1)
 else
 (Zbe r2.1 r2.2))
 else
 (Zbe r2.1 r2.2)
theorem ZsR (x0 : List Int) x1 ox0 : Sim Z49 (Zfx x0 x1) (ZxZ 0 (ZL ox0 (x0.map (eI .u8))) (iv x1) []) := by
 unfold Zfx
 refine zf (ZFg ..)<|ze<|zi fun a1 ha1 => zp (ZL (slO (shrO ox0)) (a1.map (eI .u8))) (Eq.trans (by kernel_rfl) <| ZJU (n := 1) (o := (shrO ox0)) (lo := (some (iv x1))) (hi := none) (e := (eI .u8)) (fun _ => rfl) (by decide) (by kernel_rfl) (by kernel_rfl) ha1)<|zi fun r2 hr2 => ?_
 obtain ⟨_, er2, _, rfl⟩ := Zkg a1 .sh r2 hr2
 refine zc [] (.p (.tup [(.v (.int .i32 r2.1)), (.v (.int .i64 r2.2))])) [] er2<|zq<|zq<|ze<|zq ?_
 refine za (r2.1 == 65533) ?_ ?_
 ·refine zq ?_
  refine za (r2.2 == 1) ?_ ?_
  ·exact zk (ZsS x0 x1 ox0)
  ·exact zk (Zlc r2.1 r2.2)
 ·exact zk (Zlc r2.1 r2.2)
def ZkB (x0 : List Int) (x1 : Int) : Option (Int × Int) :=
 if (decide (x1 < 0)) = true then
 Zfw
 else
 (if (decide ((x0.length : Int) ≤ x1)) = true then
 Zfw
 else
 (Zfx x0 x1))
theorem Zx5 (x0 : List Int) x1 ox0 : Sim Z49 (ZkB x0 x1) (EE 126 [(ZL ox0 (x0.map (eI .u8))), (iv x1)] []) := by
 unfold ZkB
 refine zf (ZLL ..)<|ze<|ze<|zq ?_
 refine za (decide (x1 < 0)) ?_ ?_
 ·exact zk Zlb
 ·refine zp (iv (x0.length : Int)) (et_ (Z2M (P := PP) (t := 141) (d := 5) (by kernel_rfl) (eI .u8) (shrO ox0) x0))<|zq ?_
  refine za (decide ((x0.length : Int) ≤ x1)) ?_ ?_
  ·exact zk Zlb
  ·exact zk (ZsR x0 x1 ox0)
theorem ZzD x0 x1 {r} (h : ZkB x0 x1 = some r) : Zh8 x0 x1 = some r :=
 Z1f (fun _ _ ha hb => ru_ Zhg (ha .ex) (hb .ex)) (fun ox0 => Zx5 x0 x1 ox0 r h)
def Zg8 (x0 : Int) (x1 : List Zj) : Option Zj :=
 some (Zj.mk x0 0 0 0 0 ([] : List Zi) x1)
theorem Zpo x0 (x1 : List Zj) b0 ox1 z2C z2c (zKe : ZV z2C = true) (zJd : ZV z2c = true) : Sim Z8p (Zg8 x0 x1) (ZBW 0 (iv x0) (ZL ox1 (x1.map Z15)) (.ptr 0 0) [(Zv b0 z2C z2c)]) := by
 unfold Zg8
 refine zf (ZJ3 ..)<|ze<|zq<|zt [(Z3A x0 0 0 0 0 ([] : List Zi) x1 .nl (shrO (shrO ox1)))] ?_
 exact zr ((pA_ (ZQ (Zj.mk x0 0 0 0 0 ([] : List Zi) x1) .sh .sh)), [(Z3A x0 0 0 0 0 ([] : List Zi) x1 .nl (shrO (shrO ox1)))]) ⟨_, rfl⟩
def Zft (x0 : Int) (x1 : List Zj) : Option Zj :=
 if ((x1.length : Int) == 0) = true then
 (some (Zj.mk 0 0 0 0 0 ([] : List Zi) ([] : List Zj)))
 else
 (if ((x1.length : Int) == 1) = true then
 ((lget x1 0).bind fun a1 =>
 some a1)
 else
 (Zg8 x0 x1))
theorem ZsO x0 (x1 : List Zj) ox1 : Sim Z8p (Zft x0 x1) (EE 92 [(iv x0), (ZL ox1 (x1.map Z15))] []) := by
 unfold Zft
 refine zf (ZP2 ..)<|ze<|zz (.ptr 0 0) [(Zv Z2j .nl .nl)]<|ze<|zp (iv (x1.length : Int)) (et_ (Z2M (P := PP) (t := 96) (d := 98) (by kernel_rfl) Z15 (shrO ox1) x1))<|ze<|zq ?_
 refine za ((x1.length : Int) == 0) ?_ ?_
 ·refine ze<|zq<|zt [(Zv Z2j .nl .nl)] ?_
  exact zr ((pA_ (ZQ Z2j .sh .sh)), [(Zv Z2j .nl .nl)]) ⟨_, rfl⟩
 ·refine ze<|zq ?_
  refine za ((x1.length : Int) == 1) ?_ ?_
  ·refine ze<|zi fun a1 ha1 => zp (.cptr (ZQ a1 .sh .sh)) (et_ (Z3u (o := (shrO ox1)) (k := .i64) (n := 7) (e := Z15) (cs := Z3T) Z7H (fun _ => rfl) (by decide) ha1))<|zq<|zt [(Zv a1 .sh .sh)] ?_
   exact zr ((pA_ (ZQ a1 .sh .sh)), [(Zv a1 .sh .sh)]) ⟨_, rfl⟩
  ·exact zk (Zpo x0 x1 Z2j ox1 .nl .nl rfl rfl)
theorem Zuq x0 x1 {r} (h : Zft x0 x1 = some r) : Zdm x0 x1 = some r :=
 Z1f (fun _ _ ha hb => ru_ Zmv (ha .ex) (hb .ex)) (fun ox1 => ZsO x0 x1 ox1 r h)
def Z2I (zn z7 zd : Int) (zh : List Zz) (z2 z6 : Int) : Option (Zj × Bool × Int × Int × Int × (List Zz) × Int × Int) :=
 some ((Zj.mk 0 0 0 0 0 ([] : List Zi) ([] : List Zj)), true, zn, z7, zd, zh, z2, z6)
theorem Z2O zl zn z7 zd zh z2 z6 b1 zu zb zP zI (zy : ZV zb = true) (z1w : ZV zP = true) (z1k : ZV zI = true) : Sim (Z3F zl zu) (Z2I zn z7 zd zh z2 z6) (Z9d 1 (.ptr 1 0) [(ZX zl zn z7 zd zh z2 z6 zu zb), (Zv b1 zP zI)]) := by
 unfold Z2I
 refine zf (ZDl ..)<|ze<|zq<|zt [(ZX zl zn z7 zd zh z2 z6 zu zb), (Zv Z2j .nl .nl)] ?_
 exact zr ((.p (.tup [(.agg (ZQ Z2j .sh .sh)), (.v (.bool true))])), [(ZX zl zn z7 zd zh z2 z6 zu zb), (Zv Z2j .nl .nl)]) ⟨zb, _, zy, rfl⟩
def Z9z (zl : List Int) (zn z7 zd : Int) (zh : List Zz) (z2 z6 : Int) : Option (Zj × Bool × Int × Int × Int × (List Zz) × Int × Int) :=
 (Z4b zl zn).bind fun r1 =>
 if (r1.1 == 46) = true then
 ((Z3c 10).bind fun r2 =>
 (Z54 true ([r2] : List Zi)).bind fun r3 =>
 some (r3, true, r1.2, z7, zd, zh, z2, z6))
 else
 (if (r1.1 == 94) = true then
 (some ((Zj.mk 9 0 0 0 0 ([] : List Zi) ([] : List Zj)), false, r1.2, z7, zd, zh, z2, z6))
 else
 (if (r1.1 == 36) = true then
 (some ((Zj.mk 9 0 0 0 1 ([] : List Zi) ([] : List Zj)), false, r1.2, z7, zd, zh, z2, z6))
 else
 (if (r1.1 == 92) = true then
 ((Z5W zn zl r1.2 z7 zd zh z2 z6).bind fun r4 =>
 some (r4.1, (r4.1.Kind != 9), r4.2.1, z7, zd, r4.2.2.1, r4.2.2.2.1, r4.2.2.2.2))
 else
 (if (r1.1 == 91) = true then
 ((Zb1 zn zl r1.2 z7 zd zh z2 z6).bind fun r5 =>
 some (r5.1, true, r5.2.1, z7, zd, zh, r5.2.2.1, r5.2.2.2))
 else
 (if (r1.1 == 40) = true then
 ((Z6a zn zl r1.2 z7 zd zh z2 z6).bind fun r6 =>
 some (r6.1, r6.2.1, r6.2.2.1, r6.2.2.2.1, r6.2.2.2.2.1, r6.2.2.2.2.2.1, r6.2.2.2.2.2.2.1, r6.2.2.2.2.2.2.2))
 else
 (if (r1.1 == 42) = true then
 (if (r1.1 == 42) = true then
 ((Z1D 23 zn zl z2 z6).bind fun r7 =>
 Z2I r7.1 z7 zd zh r7.2.1 r7.2.2)
 else
 (if (r1.1 == 93) = true then
 (if (r1.1 == 93) = true then
 ((Z1D 20 zn zl z2 z6).bind fun r8 =>
 Z2I r8.1 z7 zd zh r8.2.1 r8.2.2)
 else
 ((Z3c r1.1).bind fun r9 =>
 (Z54 false ([r9] : List Zi)).bind fun r10 =>
 some (r10, true, r1.2, z7, zd, zh, z2, z6)))
 else
 (if (r1.1 == 125) = true then
 ((Z1D 20 zn zl z2 z6).bind fun r11 =>
 Z2I r11.1 z7 zd zh r11.2.1 r11.2.2)
 else
 ((Z3c r1.1).bind fun r12 =>
 (Z54 false ([r12] : List Zi)).bind fun r13 =>
 some (r13, true, r1.2, z7, zd, zh, z2, z6)))))
 else
 (if (r1.1 == 43) = true then
 (if (r1.1 == 43) = true then
 ((Z1D 23 zn zl z2 z6).bind fun r14 =>
 Z2I r14.1 z7 zd zh r14.2.1 r14.2.2)
 else
 (if (r1.1 == 93) = true then
 (if (r1.1 == 93) = true then
 ((Z1D 20 zn zl z2 z6).bind fun r15 =>
 Z2I r15.1 z7 zd zh r15.2.1 r15.2.2)
 else
 ((Z3c r1.1).bind fun r16 =>
 (Z54 false ([r16] : List Zi)).bind fun r17 =>
 some (r17, true, r1.2, z7, zd, zh, z2, z6)))
 else
 (if (r1.1 == 125) = true then
 ((Z1D 20 zn zl z2 z6).bind fun r18 =>
 Z2I r18.1 z7 zd zh r18.2.1 r18.2.2)
 else
 ((Z3c r1.1).bind fun r19 =>
 (Z54 false ([r19] : List Zi)).bind fun r20 =>
 some (r20, true, r1.2, z7, zd, zh, z2, z6)))))
 else
 (if (r1.1 == 63) = true then
 (if (r1.1 == 63) = true then
 ((Z1D 23 zn zl z2 z6).bind fun r21 =>
 Z2I r21.1 z7 zd zh r21.2.1 r21.2.2)
 else
 (if (r1.1 == 93) = true then
 (if (r1.1 == 93) = true then
 ((Z1D 20 zn zl z2 z6).bind fun r22 =>
 Z2I r22.1 z7 zd zh r22.2.1 r22.2.2)
 else
 ((Z3c r1.1).bind fun r23 =>
 (Z54 false ([r23] : List Zi)).bind fun r24 =>
 some (r24, true, r1.2, z7, zd, zh, z2, z6)))
 else
 (if (r1.1 == 125) = true then
 ((Z1D 20 zn zl z2 z6).bind fun r25 =>
 Z2I r25.1 z7 zd zh r25.2.1 r25.2.2)
 else
 ((Z3c r1.1).bind fun r26 =>
 (Z54 false ([r26] : List Zi)).bind fun r27 =>
 some (r27, true, r1.2, z7, zd, zh, z2, z6)))))
 else
 (if (r1.1 == 123) = true then
 ((Z1D 23 zn zl z2 z6).bind fun r28 =>
 Z2I r28.1 z7 zd zh r28.2.1 r28.2.2)
 else
 (if (r1.1 == 93) = true then
 (if (r1.1 == 93) = true then
 ((Z1D 20 zn zl z2 z6).bind fun r29 =>
 Z2I r29.1 z7 zd zh r29.2.1 r29.2.2)
 else
 ((Z3c r1.1).bind fun r30 =>
 (Z54 false ([r30] : List Zi)).bind fun r31 =>
 some (r31, true, r1.2, z7, zd, zh, z2, z6)))
 else
 (if (r1.1 == 125) = true then
 ((Z1D 20 zn zl z2 z6).bind fun r32 =>
 Z2I r32.1 z7 zd zh r32.2.1 r32.2.2)
 else
 ((Z3c r1.1).bind fun r33 =>
 (Z54 false ([r33] : List Zi)).bind fun r34 =>
 some (r34, true, r1.2, z7, zd, zh, z2, z6)))))))))))))
theorem Znt zl zn z7 zd zh z2 z6 zu zb (zy : ZV zb = true) : Sim (Z3F zl zu) (Z9z zl zn z7 zd zh z2 z6) (EE 105 [(.ptr 0 0)] [(ZX zl zn z7 zd zh z2 z6 zu zb)]) := by
 unfold Z9z
 refine zf (ZLC ..)<|ze<|zz (.ptr 1 0) [(ZX zl zn z7 zd zh z2 z6 zu zb), (Zv Z2j .nl .nl)]<|ze<|zq<|zq<|zq<|ze<|zi fun r1 hr1 => ?_
 obtain ⟨_, er1, _, rfl⟩ := Z4J zl zn z7 zd zh z2 z6 zu zb zy r1 hr1
 refine zc [0] (iv r1.1) [(ZX zl r1.2 z7 zd zh z2 z6 zu zb), (Zv Z2j .nl .nl)] er1<|ze<|ze<|zq ?_
 refine za (r1.1 == 46) ?_ ?_
 ·refine ze<|zi fun r2 hr2 => ?_
  obtain ⟨_, er2, _, rfl⟩ := Z30 10 r2 hr2
  refine zc [] (pA_ (Z1b r2)) [(ZX zl r1.2 z7 zd zh z2 z6 zu zb), (Zv Z2j .nl .nl)] er2<|zq<|zi fun r3 hr3 => ?_
  obtain ⟨_, er3, _, rfl⟩ := Z5j true ([r2] : List Zi) .sh r3 hr3
  refine zc [] (pA_ (ZQ r3 .sh .sh)) [(ZX zl r1.2 z7 zd zh z2 z6 zu zb), (Zv Z2j .nl .nl)] er3<|zt [(ZX zl r1.2 z7 zd zh z2 z6 zu zb), (Zv r3 .sh .sh)] ?_
  exact zr ((.p (.tup [(.agg (ZQ r3 .sh .sh)), (.v (.bool true))])), [(ZX zl r1.2 z7 zd zh z2 z6 zu zb), (Zv r3 .sh .sh)]) ⟨zb, _, zy, rfl⟩
 ·refine ze<|zq ?_
  refine za (r1.1 == 94) ?_ ?_
  ·refine ze<|zq<|zt [(ZX zl r1.2 z7 zd zh z2 z6 zu zb), (Z3A 9 0 0 0 0 ([] : List Zi) ([] : List Zj) .nl .nl)] ?_
   exact zr ((.p (.tup [(.agg (ZQ (Zj.mk 9 0 0 0 0 ([] : List Zi) ([] : List Zj)) .sh .sh)), (.v (.bool false))])), [(ZX zl r1.2 z7 zd zh z2 z6 zu zb), (Z3A 9 0 0 0 0 ([] : List Zi) ([] : List Zj) .nl .nl)]) ⟨zb, _, zy, rfl⟩
  ·refine ze<|zq ?_
   refine za (r1.1 == 36) ?_ ?_
   ·refine ze<|zq<|zt [(ZX zl r1.2 z7 zd zh z2 z6 zu zb), (Z3A 9 0 0 0 1 ([] : List Zi) ([] : List Zj) .nl .nl)] ?_
    exact zr ((.p (.tup [(.agg (ZQ (Zj.mk 9 0 0 0 1 ([] : List Zi) ([] : List Zj)) .sh .sh)), (.v (.bool false))])), [(ZX zl r1.2 z7 zd zh z2 z6 zu zb), (Z3A 9 0 0 0 1 ([] : List Zi) ([] : List Zj) .nl .nl)]) ⟨zb, _, zy, rfl⟩
   ·refine ze<|zq ?_
    refine za (r1.1 == 92) ?_ ?_
    ·refine ze<|zi fun r4 hr4 => ?_
     obtain ⟨_, er4, zms, _, zKh, rfl⟩ := ZmS zn zl r1.2 z7 zd zh z2 z6 zu zb zy r4 hr4
     refine zc [0] (pA_ (ZQ r4.1 .sh .sh)) [(ZX zl r4.2.1 z7 zd r4.2.2.1 r4.2.2.2.1 r4.2.2.2.2 zu zms), (Zv Z2j .nl .nl)] er4<|zz (.ptr 2 0) [(ZX zl r4.2.1 z7 zd r4.2.2.1 r4.2.2.2.1 r4.2.2.2.2 zu zms), (Zv Z2j .nl .nl), (Zv Z2j .nl .nl)]<|zt [(ZX zl r4.2.1 z7 zd r4.2.2.1 r4.2.2.2.1 r4.2.2.2.2 zu zms), (Zv Z2j .nl .nl), (Zv r4.1 .sh .sh)]<|ze<|zq<|zq<|zq<|zq<|zt [(ZX zl r4.2.1 z7 zd r4.2.2.1 r4.2.2.2.1 r4.2.2.2.2 zu zms), (Zv r4.1 .sh .sh), (Zv r4.1 .sh .sh)]<|zg ?_
     exact zr ((.p (.tup [(.agg (ZQ r4.1 .sh .sh)), (.v (.bool (r4.1.Kind != 9)))])), [(ZX zl r4.2.1 z7 zd r4.2.2.1 r4.2.2.2.1 r4.2.2.2.2 zu zms), (Zv r4.1 .sh .sh), (Zv r4.1 .sh .sh)]) ⟨zms, _, zKh, rfl⟩
    ·refine ze<|zq ?_
     refine za (r1.1 == 91) ?_ ?_
     ·refine ze<|zi fun r5 hr5 => ?_
      obtain ⟨_, er5, _, rfl⟩ := Znv zn zl r1.2 z7 zd zh z2 z6 zu zb zy r5 hr5
      refine zc [0] (pA_ (ZQ r5.1 .sh .sh)) [(ZX zl r5.2.1 z7 zd zh r5.2.2.1 r5.2.2.2 zu zb), (Zv Z2j .nl .nl)] er5<|zt [(ZX zl r5.2.1 z7 zd zh r5.2.2.1 r5.2.2.2 zu zb), (Zv r5.1 .sh .sh)] ?_
      exact zr ((.p (.tup [(.agg (ZQ r5.1 .sh .sh)), (.v (.bool true))])), [(ZX zl r5.2.1 z7 zd zh r5.2.2.1 r5.2.2.2 zu zb), (Zv r5.1 .sh .sh)]) ⟨zb, _, zy, rfl⟩
     ·refine ze<|zq ?_
      refine za (r1.1 == 40) ?_ ?_
      ·refine ze<|zi fun r6 hr6 => ?_
       obtain ⟨_, er6, zua, _, zKj, rfl⟩ := Znx zn zl r1.2 z7 zd zh z2 z6 zu zb zy r6 hr6
       refine zc [0] (.p (.tup [(.agg (ZQ r6.1 .sh .sh)), (.v (.bool r6.2.1))])) [(ZX zl r6.2.2.1 r6.2.2.2.1 r6.2.2.2.2.1 r6.2.2.2.2.2.1 r6.2.2.2.2.2.2.1 r6.2.2.2.2.2.2.2 zu zua), (Zv Z2j .nl .nl)] er6<|zq<|zq<|zt [(ZX zl r6.2.2.1 r6.2.2.2.1 r6.2.2.2.2.1 r6.2.2.2.2.2.1 r6.2.2.2.2.2.2.1 r6.2.2.2.2.2.2.2 zu zua), (Zv r6.1 .sh .sh)] ?_
       exact zr ((.p (.tup [(.agg (ZQ r6.1 .sh .sh)), (.v (.bool r6.2.1))])), [(ZX zl r6.2.2.1 r6.2.2.2.1 r6.2.2.2.2.1 r6.2.2.2.2.2.1 r6.2.2.2.2.2.2.1 r6.2.2.2.2.2.2.2 zu zua), (Zv r6.1 .sh .sh)]) ⟨zua, _, zKj, rfl⟩
      ·refine ze<|zq ?_
       refine za (r1.1 == 42) ?_ ?_
       ·refine za (r1.1 == 42) ?_ ?_
        ·refine ze<|zi fun r7 hr7 => ?_
         obtain ⟨_, er7, _, rfl⟩ := Z1J 23 zn zl r1.2 z7 zd zh z2 z6 zu zb zy r7 hr7
         refine zc [0] (.p (.tup [])) [(ZX zl r7.1 z7 zd zh r7.2.1 r7.2.2 zu zb), (Zv Z2j .nl .nl)] er7 ?_
         exact zk (Z2O zl r7.1 z7 zd zh r7.2.1 r7.2.2 Z2j zu zb .nl .nl zy rfl rfl)
        ·refine ze<|zq ?_
         refine za (r1.1 == 93) ?_ ?_
         ·refine za (r1.1 == 93) ?_ ?_
          ·refine ze<|zi fun r8 hr8 => ?_
           obtain ⟨_, er8, _, rfl⟩ := Z1J 20 zn zl r1.2 z7 zd zh z2 z6 zu zb zy r8 hr8
           refine zc [0] (.p (.tup [])) [(ZX zl r8.1 z7 zd zh r8.2.1 r8.2.2 zu zb), (Zv Z2j .nl .nl)] er8 ?_
           exact zk (Z2O zl r8.1 z7 zd zh r8.2.1 r8.2.2 Z2j zu zb .nl .nl zy rfl rfl)
          ·refine ze<|zi fun r9 hr9 => ?_
           obtain ⟨_, er9, _, rfl⟩ := Z30 r1.1 r9 hr9
           refine zc [] (pA_ (Z1b r9)) [(ZX zl r1.2 z7 zd zh z2 z6 zu zb), (Zv Z2j .nl .nl)] er9<|zq<|zi fun r10 hr10 => ?_
           obtain ⟨_, er10, _, rfl⟩ := Z5j false ([r9] : List Zi) .sh r10 hr10
           refine zc [] (pA_ (ZQ r10 .sh .sh)) [(ZX zl r1.2 z7 zd zh z2 z6 zu zb), (Zv Z2j .nl .nl)] er10<|zt [(ZX zl r1.2 z7 zd zh z2 z6 zu zb), (Zv r10 .sh .sh)] ?_
           exact zr ((.p (.tup [(.agg (ZQ r10 .sh .sh)), (.v (.bool true))])), [(ZX zl r1.2 z7 zd zh z2 z6 zu zb), (Zv r10 .sh .sh)]) ⟨zb, _, zy, rfl⟩
         ·refine ze<|zq ?_
          refine za (r1.1 == 125) ?_ ?_
          ·refine ze<|zi fun r11 hr11 => ?_
           obtain ⟨_, er11, _, rfl⟩ := Z1J 20 zn zl r1.2 z7 zd zh z2 z6 zu zb zy r11 hr11
           refine zc [0] (.p (.tup [])) [(ZX zl r11.1 z7 zd zh r11.2.1 r11.2.2 zu zb), (Zv Z2j .nl .nl)] er11 ?_
           exact zk (Z2O zl r11.1 z7 zd zh r11.2.1 r11.2.2 Z2j zu zb .nl .nl zy rfl rfl)
          ·refine ze<|zi fun r12 hr12 => ?_
           obtain ⟨_, er12, _, rfl⟩ := Z30 r1.1 r12 hr12
           refine zc [] (pA_ (Z1b r12)) [(ZX zl r1.2 z7 zd zh z2 z6 zu zb), (Zv Z2j .nl .nl)] er12<|zq<|zi fun r13 hr13 => ?_
           obtain ⟨_, er13, _, rfl⟩ := Z5j false ([r12] : List Zi) .sh r13 hr13
           refine zc [] (pA_ (ZQ r13 .sh .sh)) [(ZX zl r1.2 z7 zd zh z2 z6 zu zb), (Zv Z2j .nl .nl)] er13<|zt [(ZX zl r1.2 z7 zd zh z2 z6 zu zb), (Zv r13 .sh .sh)] ?_
           exact zr ((.p (.tup [(.agg (ZQ r13 .sh .sh)), (.v (.bool true))])), [(ZX zl r1.2 z7 zd zh z2 z6 zu zb), (Zv r13 .sh .sh)]) ⟨zb, _, zy, rfl⟩
       ·refine ze<|zq ?_
        refine za (r1.1 == 43) ?_ ?_
        ·refine za (r1.1 == 43) ?_ ?_
         ·refine ze<|zi fun r14 hr14 => ?_
          obtain ⟨_, er14, _, rfl⟩ := Z1J 23 zn zl r1.2 z7 zd zh z2 z6 zu zb zy r14 hr14
          refine zc [0] (.p (.tup [])) [(ZX zl r14.1 z7 zd zh r14.2.1 r14.2.2 zu zb), (Zv Z2j .nl .nl)] er14 ?_
          exact zk (Z2O zl r14.1 z7 zd zh r14.2.1 r14.2.2 Z2j zu zb .nl .nl zy rfl rfl)
         ·refine ze<|zq ?_
          refine za (r1.1 == 93) ?_ ?_
          ·refine za (r1.1 == 93) ?_ ?_
           ·refine ze<|zi fun r15 hr15 => ?_
            obtain ⟨_, er15, _, rfl⟩ := Z1J 20 zn zl r1.2 z7 zd zh z2 z6 zu zb zy r15 hr15
            refine zc [0] (.p (.tup [])) [(ZX zl r15.1 z7 zd zh r15.2.1 r15.2.2 zu zb), (Zv Z2j .nl .nl)] er15 ?_
            exact zk (Z2O zl r15.1 z7 zd zh r15.2.1 r15.2.2 Z2j zu zb .nl .nl zy rfl rfl)
           ·refine ze<|zi fun r16 hr16 => ?_
            obtain ⟨_, er16, _, rfl⟩ := Z30 r1.1 r16 hr16
            refine zc [] (pA_ (Z1b r16)) [(ZX zl r1.2 z7 zd zh z2 z6 zu zb), (Zv Z2j .nl .nl)] er16<|zq<|zi fun r17 hr17 => ?_
            obtain ⟨_, er17, _, rfl⟩ := Z5j false ([r16] : List Zi) .sh r17 hr17
            refine zc [] (pA_ (ZQ r17 .sh .sh)) [(ZX zl r1.2 z7 zd zh z2 z6 zu zb), (Zv Z2j .nl .nl)] er17<|zt [(ZX zl r1.2 z7 zd zh z2 z6 zu zb), (Zv r17 .sh .sh)] ?_
            exact zr ((.p (.tup [(.agg (ZQ r17 .sh .sh)), (.v (.bool true))])), [(ZX zl r1.2 z7 zd zh z2 z6 zu zb), (Zv r17 .sh .sh)]) ⟨zb, _, zy, rfl⟩
          ·refine ze<|zq ?_
           refine za (r1.1 == 125) ?_ ?_
           ·refine ze<|zi fun r18 hr18 => ?_
            obtain ⟨_, er18, _, rfl⟩ := Z1J 20 zn zl r1.2 z7 zd zh z2 z6 zu zb zy r18 hr18
            refine zc [0] (.p (.tup [])) [(ZX zl r18.1 z7 zd zh r18.2.1 r18.2.2 zu zb), (Zv Z2j .nl .nl)] er18 ?_
            exact zk (Z2O zl r18.1 z7 zd zh r18.2.1 r18.2.2 Z2j zu zb .nl .nl zy rfl rfl)
           ·refine ze<|zi fun r19 hr19 => ?_
            obtain ⟨_, er19, _, rfl⟩ := Z30 r1.1 r19 hr19
            refine zc [] (pA_ (Z1b r19)) [(ZX zl r1.2 z7 zd zh z2 z6 zu zb), (Zv Z2j .nl .nl)] er19<|zq<|zi fun r20 hr20 => ?_
            obtain ⟨_, er20, _, rfl⟩ := Z5j false ([r19] : List Zi) .sh r20 hr20
            refine zc [] (pA_ (ZQ r20 .sh .sh)) [(ZX zl r1.2 z7 zd zh z2 z6 zu zb), (Zv Z2j .nl .nl)] er20<|zt [(ZX zl r1.2 z7 zd zh z2 z6 zu zb), (Zv r20 .sh .sh)] ?_
            exact zr ((.p (.tup [(.agg (ZQ r20 .sh .sh)), (.v (.bool true))])), [(ZX zl r1.2 z7 zd zh z2 z6 zu zb), (Zv r20 .sh .sh)]) ⟨zb, _, zy, rfl⟩
        ·refine ze<|zq ?_
         refine za (r1.1 == 63) ?_ ?_
         ·refine za (r1.1 == 63) ?_ ?_
          ·refine ze<|zi fun r21 hr21 => ?_
           obtain ⟨_, er21, _, rfl⟩ := Z1J 23 zn zl r1.2 z7 zd zh z2 z6 zu zb zy r21 hr21
           refine zc [0] (.p (.tup [])) [(ZX zl r21.1 z7 zd zh r21.2.1 r21.2.2 zu zb), (Zv Z2j .nl .nl)] er21 ?_
           exact zk (Z2O zl r21.1 z7 zd zh r21.2.1 r21.2.2 Z2j zu zb .nl .nl zy rfl rfl)
          ·refine ze<|zq ?_
           refine za (r1.1 == 93) ?_ ?_
           ·refine za (r1.1 == 93) ?_ ?_
            ·refine ze<|zi fun r22 hr22 => ?_
             obtain ⟨_, er22, _, rfl⟩ := Z1J 20 zn zl r1.2 z7 zd zh z2 z6 zu zb zy r22 hr22
             refine zc [0] (.p (.tup [])) [(ZX zl r22.1 z7 zd zh r22.2.1 r22.2.2 zu zb), (Zv Z2j .nl .nl)] er22 ?_
             exact zk (Z2O zl r22.1 z7 zd zh r22.2.1 r22.2.2 Z2j zu zb .nl .nl zy rfl rfl)
            ·refine ze<|zi fun r23 hr23 => ?_
             obtain ⟨_, er23, _, rfl⟩ := Z30 r1.1 r23 hr23
             refine zc [] (pA_ (Z1b r23)) [(ZX zl r1.2 z7 zd zh z2 z6 zu zb), (Zv Z2j .nl .nl)] er23<|zq<|zi fun r24 hr24 => ?_
             obtain ⟨_, er24, _, rfl⟩ := Z5j false ([r23] : List Zi) .sh r24 hr24
             refine zc [] (pA_ (ZQ r24 .sh .sh)) [(ZX zl r1.2 z7 zd zh z2 z6 zu zb), (Zv Z2j .nl .nl)] er24<|zt [(ZX zl r1.2 z7 zd zh z2 z6 zu zb), (Zv r24 .sh .sh)] ?_
             exact zr ((.p (.tup [(.agg (ZQ r24 .sh .sh)), (.v (.bool true))])), [(ZX zl r1.2 z7 zd zh z2 z6 zu zb), (Zv r24 .sh .sh)]) ⟨zb, _, zy, rfl⟩
           ·refine ze<|zq ?_
            refine za (r1.1 == 125) ?_ ?_
            ·refine ze<|zi fun r25 hr25 => ?_
             obtain ⟨_, er25, _, rfl⟩ := Z1J 20 zn zl r1.2 z7 zd zh z2 z6 zu zb zy r25 hr25
             refine zc [0] (.p (.tup [])) [(ZX zl r25.1 z7 zd zh r25.2.1 r25.2.2 zu zb), (Zv Z2j .nl .nl)] er25 ?_
             exact zk (Z2O zl r25.1 z7 zd zh r25.2.1 r25.2.2 Z2j zu zb .nl .nl zy rfl rfl)
            ·refine ze<|zi fun r26 hr26 => ?_
             obtain ⟨_, er26, _, rfl⟩ := Z30 r1.1 r26 hr26
             refine zc [] (pA_ (Z1b r26)) [(ZX zl r1.2 z7 zd zh z2 z6 zu zb), (Zv Z2j .nl .nl)] er26<|zq<|zi fun r27 hr27 => ?_
             obtain ⟨_, er27, _, rfl⟩ := Z5j false ([r26] : List Zi) .sh r27 hr27
             refine zc [] (pA_ (ZQ r27 .sh .sh)) [(ZX zl r1.2 z7 zd zh z2 z6 zu zb), (Zv Z2j .nl .nl)] er27<|zt [(ZX zl r1.2 z7 zd zh z2 z6 zu zb), (Zv r27 .sh .sh)] ?_
             exact zr ((.p (.tup [(.agg (ZQ r27 .sh .sh)), (.v (.bool true))])), [(ZX zl r1.2 z7 zd zh z2 z6 zu zb), (Zv r27 .sh .sh)]) ⟨zb, _, zy, rfl⟩
         ·refine ze<|zq ?_
          refine za (r1.1 == 123) ?_ ?_
          ·refine ze<|zi fun r28 hr28 => ?_
           obtain ⟨_, er28, _, rfl⟩ := Z1J 23 zn zl r1.2 z7 zd zh z2 z6 zu zb zy r28 hr28
           refine zc [0] (.p (.tup [])) [(ZX zl r28.1 z7 zd zh r28.2.1 r28.2.2 zu zb), (Zv Z2j .nl .nl)] er28 ?_
           exact zk (Z2O zl r28.1 z7 zd zh r28.2.1 r28.2.2 Z2j zu zb .nl .nl zy rfl rfl)
          ·refine ze<|zq ?_
           refine za (r1.1 == 93) ?_ ?_
           ·refine za (r1.1 == 93) ?_ ?_
            ·refine ze<|zi fun r29 hr29 => ?_
             obtain ⟨_, er29, _, rfl⟩ := Z1J 20 zn zl r1.2 z7 zd zh z2 z6 zu zb zy r29 hr29
             refine zc [0] (.p (.tup [])) [(ZX zl r29.1 z7 zd zh r29.2.1 r29.2.2 zu zb), (Zv Z2j .nl .nl)] er29 ?_
             exact zk (Z2O zl r29.1 z7 zd zh r29.2.1 r29.2.2 Z2j zu zb .nl .nl zy rfl rfl)
            ·refine ze<|zi fun r30 hr30 => ?_
             obtain ⟨_, er30, _, rfl⟩ := Z30 r1.1 r30 hr30
             refine zc [] (pA_ (Z1b r30)) [(ZX zl r1.2 z7 zd zh z2 z6 zu zb), (Zv Z2j .nl .nl)] er30<|zq<|zi fun r31 hr31 => ?_
             obtain ⟨_, er31, _, rfl⟩ := Z5j false ([r30] : List Zi) .sh r31 hr31
             refine zc [] (pA_ (ZQ r31 .sh .sh)) [(ZX zl r1.2 z7 zd zh z2 z6 zu zb), (Zv Z2j .nl .nl)] er31<|zt [(ZX zl r1.2 z7 zd zh z2 z6 zu zb), (Zv r31 .sh .sh)] ?_
             exact zr ((.p (.tup [(.agg (ZQ r31 .sh .sh)), (.v (.bool true))])), [(ZX zl r1.2 z7 zd zh z2 z6 zu zb), (Zv r31 .sh .sh)]) ⟨zb, _, zy, rfl⟩
           ·refine ze<|zq ?_
            refine za (r1.1 == 125) ?_ ?_
            ·refine ze<|zi fun r32 hr32 => ?_
             obtain ⟨_, er32, _, rfl⟩ := Z1J 20 zn zl r1.2 z7 zd zh z2 z6 zu zb zy r32 hr32
             refine zc [0] (.p (.tup [])) [(ZX zl r32.1 z7 zd zh r32.2.1 r32.2.2 zu zb), (Zv Z2j .nl .nl)] er32 ?_
             exact zk (Z2O zl r32.1 z7 zd zh r32.2.1 r32.2.2 Z2j zu zb .nl .nl zy rfl rfl)
            ·refine ze<|zi fun r33 hr33 => ?_
             obtain ⟨_, er33, _, rfl⟩ := Z30 r1.1 r33 hr33
             refine zc [] (pA_ (Z1b r33)) [(ZX zl r1.2 z7 zd zh z2 z6 zu zb), (Zv Z2j .nl .nl)] er33<|zq<|zi fun r34 hr34 => ?_
             obtain ⟨_, er34, _, rfl⟩ := Z5j false ([r33] : List Zi) .sh r34 hr34
             refine zc [] (pA_ (ZQ r34 .sh .sh)) [(ZX zl r1.2 z7 zd zh z2 z6 zu zb), (Zv Z2j .nl .nl)] er34<|zt [(ZX zl r1.2 z7 zd zh z2 z6 zu zb), (Zv r34 .sh .sh)] ?_
             exact zr ((.p (.tup [(.agg (ZQ r34 .sh .sh)), (.v (.bool true))])), [(ZX zl r1.2 z7 zd zh z2 z6 zu zb), (Zv r34 .sh .sh)]) ⟨zb, _, zy, rfl⟩
theorem Zoi zl zn z7 zd zh z2 z6 {r} (h : Z9z zl zn z7 zd zh z2 z6 = some r) : Zc3 zl zn z7 zd zh z2 z6 = some r :=
 Z1f (fun _ _ ha hb => ru_ (ZgB _ _) (ha .ex .ex rfl) (hb .ex .ex rfl)) (fun zu zb zy => Znt zl zn z7 zd zh z2 z6 zu zb zy r h)
def ZbR (zl : List Int) (zn : Int) : Option (Int × Int) :=
 (Zh8 zl zn).bind fun r1 =>
 some (r1.1, (IntKind.i64.wrap (zn + r1.2)))
theorem ZnA zl zn z7 zd zh z2 z6 zu zb (zy : ZV zb = true) : Sim (Z2Q zl z7 zd zh z2 z6 zu zb) (ZbR zl zn) (EE 127 [(.ptr 0 0)] [(ZX zl zn z7 zd zh z2 z6 zu zb)]) := by
 unfold ZbR
 refine zf (ZLO ..)<|ze<|ze<|zq<|zq<|zq<|zq<|zq<|zq<|zi fun r1 hr1 => ?_
 obtain ⟨_, er1, _, rfl⟩ := ZpE zl zn .sh r1 hr1
 refine zc [] (.p (.tup [(.v (.int .i64 r1.1)), (.v (.int .i64 r1.2))])) [(ZX zl zn z7 zd zh z2 z6 zu zb)] er1<|zq<|zq<|ze<|zq<|zq<|zq<|zq<|zq<|zq<|zt [(ZX zl (IntKind.i64.wrap (zn + r1.2)) z7 zd zh z2 z6 zu zb)]<|ze ?_
 exact zr ((iv r1.1), [(ZX zl (IntKind.i64.wrap (zn + r1.2)) z7 zd zh z2 z6 zu zb)]) ⟨_, rfl⟩
theorem Zom zl zn {r} (h : ZbR zl zn = some r) : Z4b zl zn = some r :=
 Z1f (fun _ _ ha hb => ru_ (Z8q _ _ _ _ _ _ _ _) (ha default default default default default .ex .ex rfl) (hb default default default default default .ex .ex rfl)) (fun z7 zd zh z2 z6 zu zb zy => ZnA zl zn z7 zd zh z2 z6 zu zb zy r h)
def Zo7 (x0 : Int) : Option Zi :=
 some (Zi.mk x0 x0)
theorem ZwW x0 : Sim Zkx (Zo7 x0) (EE 129 [(iv x0)] []) := by
 unfold Zo7
 refine zf (ZLR ..)<|ze<|zz (.ptr 0 0) [(Z3e (Zi.mk 0 0))]<|ze<|zq<|zt [(Z3e (Zi.mk x0 x0))] ?_
 exact zr ((pA_ (Z1b (Zi.mk x0 x0))), [(Z3e (Zi.mk x0 x0))]) ⟨_, rfl⟩
theorem Zzz x0 {r} (h : Zo7 x0 = some r) : Z3c x0 = some r :=
 Z1f (fun _ _ ha hb => ru_ ZAh ha hb) (ZwW x0 r h)
def Zfu (x5 : List Zi) : Option Zj :=
 some (Zj.mk 1 0 0 0 0 x5 ([] : List Zj))
theorem Zl1 (x5 : List Zi) b0 ox5 z2C z2c (zKe : ZV z2C = true) (zJd : ZV z2c = true) : Sim Z8p (Zfu x5) (ZtC 0 (.ptr 0 0) (ZL ox5 (x5.map ZC)) [(Zv b0 z2C z2c)]) := by
 unfold Zfu
 refine zf (ZFj ..)<|ze<|zq<|zt [(Z3A 1 0 0 0 0 x5 ([] : List Zj) (shrO (shrO ox5)) .nl)] ?_
 exact zr ((pA_ (ZQ (Zj.mk 1 0 0 0 0 x5 ([] : List Zj)) .sh .sh)), [(Z3A 1 0 0 0 0 x5 ([] : List Zj) (shrO (shrO ox5)) .nl)]) ⟨_, rfl⟩
def Zkz (x0 : Bool) (x1 : List Zi) : Option Zj :=
 (ZiS x1).bind fun r1 =>
 if x0 = true then
 ((Zcv r1.1).bind fun r2 =>
 Zfu r2.1)
 else
 (Zfu r1.1)
theorem ZwX x0 (x1 : List Zi) ox1 : Sim Z8p (Zkz x0 x1) (EE 128 [(bv x0), (ZL ox1 (x1.map ZC))] []) := by
 unfold Zkz
 refine zf (ZLP ..)<|ze<|zz (.ptr 0 0) [(Zv Z2j .nl .nl)]<|ze<|zi fun r1 hr1 => ?_
 obtain ⟨_, er1, _, rfl⟩ := ZwU x1 .sh r1 hr1
 refine zc [] (.p (.tup [(.lst .sh (r1.1.map ZC)), (.v (.int .i64 r1.2))])) [(Zv Z2j .nl .nl)] er1<|zq<|zq<|ze ?_
 refine za x0 ?_ ?_
 ·refine ze<|zi fun r2 hr2 => ?_
  obtain ⟨_, er2, _, rfl⟩ := ZkT r1.1 .sh r2 hr2
  refine zc [] (.p (.tup [(.lst .sh (r2.1.map ZC)), (.v (.int .i64 r2.2))])) [(Zv Z2j .nl .nl)] er2<|zq<|zq ?_
  exact zk (Zl1 r2.1 Z2j .sh .nl .nl rfl rfl)
 ·exact zk (Zl1 r1.1 Z2j .sh .nl .nl rfl rfl)
theorem ZzA x0 x1 {r} (h : Zkz x0 x1 = some r) : Z54 x0 x1 = some r :=
 Z1f (fun _ _ ha hb => ru_ Zmv (ha .ex) (hb .ex)) (fun ox1 => ZwX x0 x1 ox1 r h)
def Zeu (x0 : List Zi) : Option ((List Zi) × Int) :=
 (ZfC x0).bind fun r1 =>
 some (r1, 0)
theorem ZrL (x0 : List Zi) ox0 : Sim Z6b (Zeu x0) (Zyf 0 (ZL ox0 (x0.map ZC)) []) := by
 unfold Zeu
 refine zf (ZFu ..)<|ze<|zi fun r1 hr1 => ?_
 obtain ⟨_, er1, _, rfl⟩ := ZlI x0 .sh r1 hr1
 refine zc [] (ZL .sh (r1.map ZC)) [] er1 ?_
 exact zr ((.p (.tup [(.lst .sh (r1.map ZC)), (.v (.int .i64 0))])), []) ⟨_, rfl⟩
def ZiI (x0 : List Zi) : Option ((List Zi) × Int) :=
 (Z6q x0).bind fun r1 =>
 if r1 = true then
 (some (([] : List Zi), 13))
 else
 (Zeu x0)
theorem Zvb (x0 : List Zi) ox0 : Sim Z6b (ZiI x0) (EE 147 [(ZL ox0 (x0.map ZC))] []) := by
 unfold ZiI
 refine zf (ZM7 ..)<|ze<|ze<|zi fun r1 hr1 => ?_
 obtain ⟨_, er1, _, rfl⟩ := Zgd x0 .sh r1 hr1
 refine zc [] (bv r1) [] er1 ?_
 refine za r1 ?_ ?_
 ·refine ze ?_
  exact zr ((.p (.tup [(.lst .sh []), (.v (.int .i64 13))])), []) ⟨_, rfl⟩
 ·exact zk (ZrL x0 ox0)
theorem ZwT x0 {r} (h : ZiI x0 = some r) : ZiS x0 = some r :=
 Z1f (fun _ _ ha hb => ru_ ZjQ (ha .ex) (hb .ex)) (fun ox0 => Zvb x0 ox0 r h)
def Z6l (x0 : List Zi) : Option Bool :=
 (Z7E x0).bind fun r1 =>
 some (decide (0 ≤ r1))
theorem ZfJ (x0 : List Zi) ox0 : Sim Z11 (Z6l x0) (EE 166 [(ZL ox0 (x0.map ZC)), (.clo 167 [] [])] []) := by
 unfold Z6l
 refine zf (ZMq ..)<|ze<|ze<|zi fun r1 hr1 => ?_
 obtain ⟨_, er1, _, rfl⟩ := ZiA x0 .sh r1 hr1
 refine zc [] (iv r1) [] er1<|zq ?_
 exact zr ((bv (decide (0 ≤ r1))), []) ⟨_, rfl⟩
theorem Zgc x0 {r} (h : Z6l x0 = some r) : Z6q x0 = some r :=
 Z1f (fun _ _ ha hb => ru_ Z2p (ha .ex) (hb .ex)) (fun ox0 => ZfJ x0 ox0 r h)
def Z7w (x0 : List Zi) : Option Int :=
 Z5a x0 (x0.length : Int) 0
theorem ZhN (x0 : List Zi) ox0 : Sim ZO (Z7w x0) (EE 179 [(ZL ox0 (x0.map ZC)), (.clo 167 [] [])] []) := by
 unfold Z7w
 refine zf (ZME ..)<|ze<|ze<|zp (iv (x0.length : Int)) (et_ (Z2M (P := PP) (t := 94) (d := 201) (by kernel_rfl) ZC (shrO ox0) x0)) ?_
 exact zk (ZaP x0 (x0.length : Int) 0 ox0)
theorem Ziz x0 {r} (h : Z7w x0 = some r) : Z7E x0 = some r :=
 Z1f (fun _ _ ha hb => ru_ Z2k (ha .ex) (hb .ex)) (fun ox0 => ZhN x0 ox0 r h)
def Z6o (x0 : List Zi) (x7 x8 : Int) : Option Int :=
 Z5a x0 x7 (IntKind.i64.wrap (x8 + 1))
theorem ZfQ (x0 : List Zi) x7 x8 ox0 : Sim ZO (Z6o x0 x7 x8) (ZyW 0 (ZL ox0 (x0.map ZC)) (.clo 167 [] []) (iv x7) (iv x8) []) := by
 unfold Z6o
 refine zf (ZFZ ..)<|ze<|zq ?_
 exact zk (ZaP x0 x7 (IntKind.i64.wrap (x8 + 1)) ox0)
def Z6n (x0 : List Zi) (x7 x8 : Int) : Option Int :=
 (lget x0 x8).bind fun a1 =>
 (ZfA a1).bind fun r2 =>
 if r2 = true then
 (some x8)
 else
 (Z6o x0 x7 x8)
theorem ZfP (x0 : List Zi) x7 x8 ox0 : Sim ZO (Z6n x0 x7 x8) (ZyV 0 (ZL ox0 (x0.map ZC)) (.clo 167 [] []) (iv x7) (iv x8) []) := by
 unfold Z6n
 refine zf (ZFY ..)<|ze<|ze<|zi fun a1 ha1 => zp (.cptr (Z1b a1)) (et_ (Z3u (o := (shrO ox0)) (k := .i64) (n := 2) (e := ZC) (cs := Z9O) (fun _ => rfl) (fun _ => rfl) (by decide) ha1))<|zq<|zi fun r2 hr2 => ?_
 obtain ⟨_, er2, _, rfl⟩ := Zuk a1 r2 hr2
 refine zv [] (bv r2) [] er2 ?_
 refine za r2 ?_ ?_
 ·refine ze ?_
  exact zr ((iv x8), []) ⟨_, rfl⟩
 ·exact zk (ZfQ x0 x7 x8 ox0)
def Z8U : Option Int :=
 some (-1)
theorem ZfR : Sim ZO Z8U (ZyX 0 []) := by
 unfold Z8U
 refine zf (ZG0 ..)<|ze ?_
 exact zr ((iv (-1)), []) ⟨_, rfl⟩
def Z57 (x0 : List Zi) (x7 x8 : Int) : Option Int :=
 if (decide (x8 < x7)) = true then
 (Z6n x0 x7 x8)
 else
 Z8U
theorem ZfO (x0 : List Zi) x7 x8 ox0 : Sim ZO (Z57 x0 x7 x8) (ZoZ 0 (ZL ox0 (x0.map ZC)) (.clo 167 [] []) (iv x7) (iv x8) []) := by
 unfold Z57
 refine zf (ZFX ..)<|ze<|zq ?_
 refine za (decide (x8 < x7)) ?_ ?_
 ·exact zk (ZfP x0 x7 x8 ox0)
 ·exact zk ZfR
theorem ZaO x0 x7 x8 {r} (h : Z57 x0 x7 x8 = some r) : Z5a x0 x7 x8 = some r :=
 Z1f (fun _ _ ha hb => ru_ Z2k (ha .ex) (hb .ex)) (fun ox0 => ZfO x0 x7 x8 ox0 r h)
def Zfp (x0 : Zi) : Option Bool :=
 (Z9F x0).bind fun r1 =>
 some (!r1)
theorem ZsF x0 : Sim Z11 (Zfp x0) (EE 167 [(pA_ (Z1b x0))] []) := by
 unfold Zfp
 refine zf (ZMr ..)<|ze<|zx (.ptr 0 0) [(Z3e x0)]<|ze<|zq<|zi fun r1 hr1 => ?_
 obtain ⟨_, er1, _, rfl⟩ := ZgF x0 r1 hr1
 refine zc [] (bv r1) [(Z3e x0)] er1<|zq ?_
 exact zr ((bv (!r1)), [(Z3e x0)]) ⟨_, rfl⟩
theorem Zuj x0 {r} (h : Zfp x0 = some r) : ZfA x0 = some r :=
 Z1f (fun _ _ ha hb => ru_ Z2p ha hb) (ZsF x0 r h)
def ZbO (x0 : Zi) : Option Bool :=
 if (decide (0 ≤ x0.Lo)) = true then
 (if (decide (x0.Lo ≤ x0.Hi)) = true then
 (some (decide (x0.Hi ≤ 1114367)))
 else
 (some false))
 else
 (some false)
theorem Znj x0 : Sim Z11 (ZbO x0) (EE 168 [(pA_ (Z1b x0))] []) := by
 unfold ZbO
 refine zf (ZMs ..)<|ze<|zx (.ptr 0 0) [(Z3e x0)]<|ze<|zq<|zq<|zq ?_
 refine za (decide (0 ≤ x0.Lo)) ?_ ?_
 ·refine zq<|zq<|zq<|zq<|zq ?_
  refine za (decide (x0.Lo ≤ x0.Hi)) ?_ ?_
  ·refine zq<|zq<|zq ?_
   exact zr ((bv (decide (x0.Hi ≤ 1114367))), [(Z3e x0)]) ⟨_, rfl⟩
  ·exact zr ((bv false), [(Z3e x0)]) ⟨_, rfl⟩
 ·exact zr ((bv false), [(Z3e x0)]) ⟨_, rfl⟩
theorem Zo8 x0 {r} (h : ZbO x0 = some r) : Z9F x0 = some r :=
 Z1f (fun _ _ ha hb => ru_ Z2p ha hb) (Znj x0 r h)
def Zcg (x0 : List Zi) : Option ((List Zi) × Int) :=
 (ZeF x0).bind fun r1 =>
 some (r1, 0)
theorem Zoa (x0 : List Zi) ox0 : Sim Z6b (Zcg x0) (Zyg 0 (ZL ox0 (x0.map ZC)) []) := by
 unfold Zcg
 refine zf (ZFv ..)<|ze<|zi fun r1 hr1 => ?_
 obtain ⟨_, er1, _, rfl⟩ := ZsL x0 .sh r1 hr1
 refine zc [] (ZL .sh (r1.map ZC)) [] er1 ?_
 exact zr ((.p (.tup [(.lst .sh (r1.map ZC)), (.v (.int .i64 0))])), []) ⟨_, rfl⟩
def Zew (x0 : List Zi) : Option ((List Zi) × Int) :=
 (Z8E x0).bind fun r1 =>
 if (!r1) = true then
 (some (([] : List Zi), 10))
 else
 (Zcg x0)
theorem ZrN (x0 : List Zi) ox0 : Sim Z6b (Zew x0) (EE 148 [(ZL ox0 (x0.map ZC))] []) := by
 unfold Zew
 refine zf (ZM9 ..)<|ze<|ze<|zi fun r1 hr1 => ?_
 obtain ⟨_, er1, _, rfl⟩ := Zdj x0 .sh r1 hr1
 refine zc [] (bv r1) [] er1<|zq ?_
 refine za (!r1) ?_ ?_
 ·refine ze ?_
  exact zr ((.p (.tup [(.lst .sh []), (.v (.int .i64 10))])), []) ⟨_, rfl⟩
 ·exact zk (Zoa x0 ox0)
theorem ZsI x0 {r} (h : Zew x0 = some r) : Zcv x0 = some r :=
 Z1f (fun _ _ ha hb => ru_ ZjQ (ha .ex) (hb .ex)) (fun ox0 => ZrN x0 ox0 r h)
def Zcf (x0 : List Zi) : Option Bool :=
 Z8F (-2) x0 (x0.length : Int) 0
theorem Zo9 (x0 : List Zi) ox0 : Sim Z11 (Zcf x0) (EE 170 [(ZL ox0 (x0.map ZC))] []) := by
 unfold Zcf
 refine zf (ZMt ..)<|ze<|ze<|ze<|zp (iv (x0.length : Int)) (et_ (Z2M (P := PP) (t := 95) (d := 201) (by kernel_rfl) ZC (shrO ox0) x0)) ?_
 exact zk (ZeO (-2) x0 (x0.length : Int) 0 (shrO ox0))
theorem Zpf x0 {r} (h : Zcf x0 = some r) : Z8E x0 = some r :=
 Z1f (fun _ _ ha hb => ru_ Z2p (ha .ex) (hb .ex)) (fun ox0 => Zo9 x0 ox0 r h)
def Zap : Option Bool :=
 some false
theorem ZeE : Sim Z11 Zap (ZtQ 0 []) := by
 unfold Zap
 refine zf (ZFL ..)<|ze ?_
 exact zr ((bv false), []) ⟨_, rfl⟩
def Zar (x3 : Int) (x6 : List Zi) (x7 x8 : Int) : Option Bool :=
 Z8F x3 x6 x7 (IntKind.i64.wrap (x8 + 1))
theorem ZlR x3 (x6 : List Zi) x7 x8 ox6 : Sim Z11 (Zar x3 x6 x7 x8) (ZyH 0 (iv x3) (ZL ox6 (x6.map ZC)) (iv x7) (iv x8) []) := by
 unfold Zar
 refine zf (ZFN ..)<|ze<|zq ?_
 exact zk (ZeO x3 x6 x7 (IntKind.i64.wrap (x8 + 1)) ox6)
def Zaq (x6 : List Zi) (x7 x8 : Int) (b0 : Zi) : Option Bool :=
 Zar b0.Hi x6 x7 x8
theorem ZlQ (x6 : List Zi) x7 x8 b0 ox6 : Sim Z11 (Zaq x6 x7 x8 b0) (ZyG 0 (.ptr 0 0) (ZL ox6 (x6.map ZC)) (iv x7) (iv x8) [(Z3e b0)]) := by
 unfold Zaq
 refine zf (ZFM ..)<|ze<|zq<|zq ?_
 exact zk (ZlR b0.Hi x6 x7 x8 ox6)
def Zao (x3 : Int) (x6 : List Zi) (x7 x8 : Int) : Option Bool :=
 (lget x6 x8).bind fun a1 =>
 (Z9F a1).bind fun r2 =>
 if (!r2) = true then
 Zap
 else
 (if (decide (a1.Lo < (IntKind.i64.wrap (x3 + 2)))) = true then
 Zap
 else
 (Zaq x6 x7 x8 a1))
theorem ZlP x3 (x6 : List Zi) x7 x8 ox6 : Sim Z11 (Zao x3 x6 x7 x8) (ZyF 0 (iv x3) (ZL ox6 (x6.map ZC)) (iv x7) (iv x8) []) := by
 unfold Zao
 refine zf (ZFK ..)<|ze<|zi fun a1 ha1 => zp (.cptr (Z1b a1)) (et_ (Z3u (o := ox6) (k := .i64) (n := 2) (e := ZC) (cs := Z9O) (fun _ => rfl) (fun _ => rfl) (by decide) ha1))<|zq<|zz (.ptr 0 0) [(Z3e (Zi.mk 0 0))]<|zt [(Z3e a1)]<|ze<|zq<|zi fun r2 hr2 => ?_
 obtain ⟨_, er2, _, rfl⟩ := ZgF a1 r2 hr2
 refine zc [] (bv r2) [(Z3e a1)] er2<|zq ?_
 refine za (!r2) ?_ ?_
 ·exact zk ZeE
 ·refine zq<|zq<|zq<|zq ?_
  refine za (decide (a1.Lo < (IntKind.i64.wrap (x3 + 2)))) ?_ ?_
  ·exact zk ZeE
  ·exact zk (ZlQ x6 x7 x8 a1 ox6)
def Zdd : Option Bool :=
 some true
theorem ZlS : Sim Z11 Zdd (ZyI 0 []) := by
 unfold Zdd
 refine zf (ZFO ..)<|ze ?_
 exact zr ((bv true), []) ⟨_, rfl⟩
def Z8r (x3 : Int) (x6 : List Zi) (x7 x8 : Int) : Option Bool :=
 if (decide (x8 < x7)) = true then
 (Zao x3 x6 x7 x8)
 else
 Zdd
theorem ZlO x3 (x6 : List Zi) x7 x8 ox6 : Sim Z11 (Z8r x3 x6 x7 x8) (ZoW 0 (iv x3) (ZL ox6 (x6.map ZC)) (iv x7) (iv x8) []) := by
 unfold Z8r
 refine zf (ZFJ ..)<|ze<|zq ?_
 refine za (decide (x8 < x7)) ?_ ?_
 ·exact zk (ZlP x3 x6 x7 x8 ox6)
 ·exact zk ZlS
theorem ZeN x3 x6 x7 x8 {r} (h : Z8r x3 x6 x7 x8 = some r) : Z8F x3 x6 x7 x8 = some r :=
 Z1f (fun _ _ ha hb => ru_ Z2p (ha .ex) (hb .ex)) (fun ox6 => ZlO x3 x6 x7 x8 ox6 r h)
def Zex (x0 : List Zi) : Option (List Zi) :=
 Zaf ([] : List Zi) 0 x0 (x0.length : Int) 0
theorem ZrO (x0 : List Zi) ox0 : Sim Z4M (Zex x0) (EE 171 [(ZL ox0 (x0.map ZC))] []) := by
 unfold Zex
 refine zf (ZMx ..)<|ze<|ze<|ze<|ze<|zp (iv (x0.length : Int)) (et_ (Z2M (P := PP) (t := 95) (d := 201) (by kernel_rfl) ZC (shrO ox0) x0)) ?_
 exact zk (Zi8 ([] : List Zi) 0 x0 (x0.length : Int) 0 .nl (shrO ox0) rfl)
theorem ZsK x0 {r} (h : Zex x0 = some r) : ZeF x0 = some r :=
 Z1f (fun _ _ ha hb => ru_ ZdD (ha .ex) (hb .ex)) (fun ox0 => ZrO x0 ox0 r h)
def Zci (x3 : List Zi) (x4 : Int) (x7 : List Zi) (x8 x9 : Int) : Option (List Zi) :=
 Zaf x3 x4 x7 x8 (IntKind.i64.wrap (x9 + 1))
theorem Zod (x3 : List Zi) x4 (x7 : List Zi) x8 x9 ox3 ox7 (hox3 : ZV ox3 = true) : Sim Z4M (Zci x3 x4 x7 x8 x9) (ZyN 0 (ZL ox3 (x3.map ZC)) (iv x4) (ZL ox7 (x7.map ZC)) (iv x8) (iv x9) []) := by
 unfold Zci
 refine zf (ZFS ..)<|ze<|zq ?_
 exact zk (Zi8 x3 x4 x7 x8 (IntKind.i64.wrap (x9 + 1)) ox3 ox7 hox3)
def Z8s (x3 x7 : List Zi) (x8 x9 : Int) (b0 : Zi) : Option (List Zi) :=
 Zci x3 (IntKind.i64.wrap (b0.Hi + 1)) x7 x8 x9
theorem ZgG (x3 x7 : List Zi) x8 x9 b0 ox3 ox7 (hox3 : ZV ox3 = true) : Sim Z4M (Z8s x3 x7 x8 x9 b0) (ZtU 0 (ZL ox3 (x3.map ZC)) (.ptr 0 0) (ZL ox7 (x7.map ZC)) (iv x8) (iv x9) [(Z3e b0)]) := by
 unfold Z8s
 refine zf (ZFR ..)<|ze<|zq<|zq<|zq ?_
 exact zk (Zod x3 (IntKind.i64.wrap (b0.Hi + 1)) x7 x8 x9 ox3 ox7 hox3)
def Zch (x3 : List Zi) (x4 : Int) (x7 : List Zi) (x8 x9 : Int) : Option (List Zi) :=
 (lget x7 x9).bind fun a1 =>
 if (decide (x4 < a1.Lo)) = true then
 ((lapp x3 ([(Zi.mk x4 (IntKind.i64.wrap (a1.Lo - 1)))] : List Zi)).bind fun a2 =>
 Z8s a2 x7 x8 x9 a1)
 else
 (Z8s x3 x7 x8 x9 a1)
theorem Zoc (x3 : List Zi) x4 (x7 : List Zi) x8 x9 ox3 ox7 (hox3 : ZV ox3 = true) : Sim Z4M (Zch x3 x4 x7 x8 x9) (ZyM 0 (ZL ox3 (x3.map ZC)) (iv x4) (ZL ox7 (x7.map ZC)) (iv x8) (iv x9) []) := by
 unfold Zch
 refine zf (ZFQ ..)<|ze<|zi fun a1 ha1 => zp (.cptr (Z1b a1)) (et_ (Z3u (o := ox7) (k := .i64) (n := 2) (e := ZC) (cs := Z9O) (fun _ => rfl) (fun _ => rfl) (by decide) ha1))<|zq<|zz (.ptr 0 0) [(Z3e (Zi.mk 0 0))]<|zt [(Z3e a1)]<|ze<|zq<|zq<|zq ?_
 refine za (decide (x4 < a1.Lo)) ?_ ?_
 ·refine ze<|zq<|zq<|zq<|zq<|zq<|zi fun a2 ha2 => zp (ZL .un (a2.map ZC)) (Eq.trans (by kernel_rfl) <| Zin (n := 2) (o := ox3) (o' := .ex) (e := ZC) (ys := ([(Zi.mk x4 (IntKind.i64.wrap (a1.Lo - 1)))] : List Zi)) (fun _ => rfl) (by decide) hox3 ha2) ?_
  exact zk (ZgG a2 x7 x8 x9 a1 .un ox7 rfl)
 ·exact zk (ZgG x3 x7 x8 x9 a1 ox3 ox7 hox3)
def Z83 (x3 : List Zi) : Option (List Zi) :=
 some x3
theorem Zg2 (x3 : List Zi) ox3 (hox3 : ZV ox3 = true) : Sim Z4M (Z83 x3) (Zqi 0 (ZL ox3 (x3.map ZC)) []) := by
 unfold Z83
 refine zf (ZDL ..)<|ze ?_
 exact zr ((ZL .sh (x3.map ZC)), []) ⟨_, rfl⟩
def ZbP (x3 : List Zi) (x4 : Int) : Option (List Zi) :=
 if (decide (x4 ≤ 1114367)) = true then
 ((lapp x3 ([(Zi.mk x4 1114367)] : List Zi)).bind fun a1 =>
 Z83 a1)
 else
 (Z83 x3)
theorem Znk (x3 : List Zi) x4 ox3 (hox3 : ZV ox3 = true) : Sim Z4M (ZbP x3 x4) (Zva 0 (ZL ox3 (x3.map ZC)) (iv x4) []) := by
 unfold ZbP
 refine zf (ZDK ..)<|ze<|zq ?_
 refine za (decide (x4 ≤ 1114367)) ?_ ?_
 ·refine ze<|zq<|zq<|zi fun a1 ha1 => zp (ZL .un (a1.map ZC)) (Eq.trans (by kernel_rfl) <| Zin (n := 2) (o := ox3) (o' := .ex) (e := ZC) (ys := ([(Zi.mk x4 1114367)] : List Zi)) (fun _ => rfl) (by decide) hox3 ha1) ?_
  exact zk (Zg2 a1 .un rfl)
 ·exact zk (Zg2 x3 ox3 hox3)
def Zaa (x3 : List Zi) (x4 : Int) (x7 : List Zi) (x8 x9 : Int) : Option (List Zi) :=
 if (decide (x9 < x8)) = true then
 (Zch x3 x4 x7 x8 x9)
 else
 (ZbP x3 x4)
theorem Zob (x3 : List Zi) x4 (x7 : List Zi) x8 x9 ox3 ox7 (hox3 : ZV ox3 = true) : Sim Z4M (Zaa x3 x4 x7 x8 x9) (ZoX 0 (ZL ox3 (x3.map ZC)) (iv x4) (ZL ox7 (x7.map ZC)) (iv x8) (iv x9) []) := by
 unfold Zaa
 refine zf (ZFP ..)<|ze<|zq ?_
 refine za (decide (x9 < x8)) ?_ ?_
 ·exact zk (Zoc x3 x4 x7 x8 x9 ox3 ox7 hox3)
 ·exact zk (Znk x3 x4 ox3 hox3)
theorem Zi7 x3 x4 x7 x8 x9 {r} (h : Zaa x3 x4 x7 x8 x9 = some r) : Zaf x3 x4 x7 x8 x9 = some r :=
 Z1f (fun _ _ ha hb => ru_ ZdD (ha .ex .ex rfl) (hb .ex .ex rfl)) (fun ox3 ox7 hox3 => Zob x3 x4 x7 x8 x9 ox3 ox7 hox3 r h)
def Z6E (x1 x5 zn : Int) (zh : List Zz) (z2 z6 : Int) : Option (Zj × Int × (List Zz) × Int × Int) :=
 (lapp zh ([(Zz.mk (IntKind.i64.wrap (x5 - 48)) x1)] : List Zz)).bind fun a1 =>
 some ((Zj.mk 6 0 0 0 (IntKind.i64.wrap (x5 - 48)) ([] : List Zi) ([] : List Zj)), zn, a1, z2, z6)
theorem Zjv x1 x5 zl zn z7 zd zh z2 z6 b1 zu zb zP zI (zy : ZV zb = true) (z1w : ZV zP = true) (z1k : ZV zI = true) : Sim (Z5N zl z7 zd zu) (Z6E x1 x5 zn zh z2 z6) (Zv1 1 (.ptr 0 0) (iv x1) (.ptr 1 0) (iv x5) [(ZX zl zn z7 zd zh z2 z6 zu zb), (Zv b1 zP zI)]) := by
 unfold Z6E
 refine zf (ZDp ..)<|ze<|zq<|zq<|zw (ZL zb (zh.map Z3M)) [(ZX zl zn z7 zd zh z2 z6 zu (shrO zb)), (Zv b1 zP zI)]<|zq<|zq<|zq<|zi fun a1 ha1 => zp (ZL .un (a1.map Z3M)) (Eq.trans (by kernel_rfl) <| Zin (n := 2) (o := zb) (o' := .ex) (e := Z3M) (ys := ([(Zz.mk (IntKind.i64.wrap (x5 - 48)) x1)] : List Zz)) (fun _ => rfl) (by decide) zy ha1)<|zq<|zq<|zt [(ZX zl zn z7 zd a1 z2 z6 zu .un), (Zv b1 zP zI)]<|ze<|zq<|zq<|zt [(ZX zl zn z7 zd a1 z2 z6 zu .un), (Z3A 6 0 0 0 (IntKind.i64.wrap (x5 - 48)) ([] : List Zi) ([] : List Zj) .nl .nl)] ?_
 exact zr ((pA_ (ZQ (Zj.mk 6 0 0 0 (IntKind.i64.wrap (x5 - 48)) ([] : List Zi) ([] : List Zj)) .sh .sh)), [(ZX zl zn z7 zd a1 z2 z6 zu .un), (Z3A 6 0 0 0 (IntKind.i64.wrap (x5 - 48)) ([] : List Zi) ([] : List Zj) .nl .nl)]) ⟨.un, _, rfl, rfl⟩
def Z4d (x1 x5 : Int) (zl : List Int) (zn z7 zd : Int) (zh : List Zz) (z2 z6 : Int) : Option (Zj × Int × (List Zz) × Int × Int) :=
 (Z9e x5 x1 zl zn z7 zd zh z2 z6).bind fun r1 =>
 (Z3c r1.1).bind fun r2 =>
 (Z54 false ([r2] : List Zi)).bind fun r3 =>
 some (r3, r1.2.1, zh, r1.2.2.1, r1.2.2.2)
theorem ZcR x1 x5 zl zn z7 zd zh z2 z6 b1 zu zb zP zI (zy : ZV zb = true) (z1w : ZV zP = true) (z1k : ZV zI = true) : Sim (Z5N zl z7 zd zu) (Z4d x1 x5 zl zn z7 zd zh z2 z6) (Zqc 1 (.ptr 0 0) (iv x1) (.ptr 1 0) (iv x5) [(ZX zl zn z7 zd zh z2 z6 zu zb), (Zv b1 zP zI)]) := by
 unfold Z4d
 refine zf (ZDq ..)<|ze<|zi fun r1 hr1 => ?_
 obtain ⟨_, er1, _, rfl⟩ := Zg3 x5 x1 zl zn z7 zd zh z2 z6 zu zb zy r1 hr1
 refine zc [0] (iv r1.1) [(ZX zl r1.2.1 z7 zd zh r1.2.2.1 r1.2.2.2 zu zb), (Zv b1 zP zI)] er1<|zi fun r2 hr2 => ?_
 obtain ⟨_, er2, _, rfl⟩ := Z30 r1.1 r2 hr2
 refine zc [] (pA_ (Z1b r2)) [(ZX zl r1.2.1 z7 zd zh r1.2.2.1 r1.2.2.2 zu zb), (Zv b1 zP zI)] er2<|zq<|zi fun r3 hr3 => ?_
 obtain ⟨_, er3, _, rfl⟩ := Z5j false ([r2] : List Zi) .sh r3 hr3
 refine zc [] (pA_ (ZQ r3 .sh .sh)) [(ZX zl r1.2.1 z7 zd zh r1.2.2.1 r1.2.2.2 zu zb), (Zv b1 zP zI)] er3<|zt [(ZX zl r1.2.1 z7 zd zh r1.2.2.1 r1.2.2.2 zu zb), (Zv r3 .sh .sh)] ?_
 exact zr ((pA_ (ZQ r3 .sh .sh)), [(ZX zl r1.2.1 z7 zd zh r1.2.2.1 r1.2.2.2 zu zb), (Zv r3 .sh .sh)]) ⟨zb, _, zy, rfl⟩
def Z4p (x1 x5 : Int) (zl : List Int) (zn z7 zd : Int) (zh : List Zz) (z2 z6 : Int) : Option (Zj × Int × (List Zz) × Int × Int) :=
 (Z4b zl zn).bind fun r1 =>
 (Z9n x5).bind fun r2 =>
 (nilO r2.1 r2.2).bind fun a3 =>
 if (!a3) = true then
 ((Z9n x5).bind fun r4 =>
 (Z54 (decide (x5 < 97)) r4.2).bind fun r5 =>
 some (r5, r1.2, zh, z2, z6))
 else
 (if (x5 == 98) = true then
 (some ((Zj.mk 9 0 0 0 2 ([] : List Zi) ([] : List Zj)), r1.2, zh, z2, z6))
 else
 (if (x5 == 66) = true then
 (some ((Zj.mk 9 0 0 0 3 ([] : List Zi) ([] : List Zj)), r1.2, zh, z2, z6))
 else
 (if (decide (49 ≤ x5)) = true then
 (if (decide (x5 ≤ 57)) = true then
 (Z6E x1 x5 r1.2 zh z2 z6)
 else
 (Z4d x1 x5 zl r1.2 z7 zd zh z2 z6))
 else
 (Z4d x1 x5 zl r1.2 z7 zd zh z2 z6))))
theorem Zk6 x1 x5 zl zn z7 zd zh z2 z6 b1 zu zb zP zI (zy : ZV zb = true) (z1w : ZV zP = true) (z1k : ZV zI = true) : Sim (Z5N zl z7 zd zu) (Z4p x1 x5 zl zn z7 zd zh z2 z6) (Zy2 1 (.ptr 0 0) (iv x1) (.ptr 1 0) (iv x5) [(ZX zl zn z7 zd zh z2 z6 zu zb), (Zv b1 zP zI)]) := by
 unfold Z4p
 refine zf (ZFk ..)<|ze<|zi fun r1 hr1 => ?_
 obtain ⟨_, er1, _, rfl⟩ := Z4J zl zn z7 zd zh z2 z6 zu zb zy r1 hr1
 refine zc [0] (iv r1.1) [(ZX zl r1.2 z7 zd zh z2 z6 zu zb), (Zv b1 zP zI)] er1<|ze<|zi fun r2 hr2 => ?_
 obtain ⟨_, er2, _, rfl⟩ := Ze1 x5 r2 hr2
 refine zc [] (ZL r2.1 (r2.2.map ZC)) [(ZX zl r1.2 z7 zd zh z2 z6 zu zb), (Zv b1 zP zI)] er2<|zi fun a3 ha3 => zp (bv (!a3)) (et_ (ZrC (P := PP) (t := 94) (c := .slice none 0 0) (e := ZC) (by kernel_rfl) ha3)) ?_
 refine za (!a3) ?_ ?_
 ·refine ze<|zq<|zi fun r4 hr4 => ?_
  obtain ⟨_, er4, _, rfl⟩ := Ze1 x5 r4 hr4
  refine zc [] (ZL r4.1 (r4.2.map ZC)) [(ZX zl r1.2 z7 zd zh z2 z6 zu zb), (Zv b1 zP zI)] er4<|zi fun r5 hr5 => ?_
  obtain ⟨_, er5, _, rfl⟩ := Z5j (decide (x5 < 97)) r4.2 .sh r5 hr5
  refine zc [] (pA_ (ZQ r5 .sh .sh)) [(ZX zl r1.2 z7 zd zh z2 z6 zu zb), (Zv b1 zP zI)] er5<|zt [(ZX zl r1.2 z7 zd zh z2 z6 zu zb), (Zv r5 .sh .sh)] ?_
  exact zr ((pA_ (ZQ r5 .sh .sh)), [(ZX zl r1.2 z7 zd zh z2 z6 zu zb), (Zv r5 .sh .sh)]) ⟨zb, _, zy, rfl⟩
 ·refine ze<|zq ?_
  refine za (x5 == 98) ?_ ?_
  ·refine ze<|zq<|zt [(ZX zl r1.2 z7 zd zh z2 z6 zu zb), (Z3A 9 0 0 0 2 ([] : List Zi) ([] : List Zj) .nl .nl)] ?_
   exact zr ((pA_ (ZQ (Zj.mk 9 0 0 0 2 ([] : List Zi) ([] : List Zj)) .sh .sh)), [(ZX zl r1.2 z7 zd zh z2 z6 zu zb), (Z3A 9 0 0 0 2 ([] : List Zi) ([] : List Zj) .nl .nl)]) ⟨zb, _, zy, rfl⟩
  ·refine ze<|zq ?_
   refine za (x5 == 66) ?_ ?_
   ·refine ze<|zq<|zt [(ZX zl r1.2 z7 zd zh z2 z6 zu zb), (Z3A 9 0 0 0 3 ([] : List Zi) ([] : List Zj) .nl .nl)] ?_
    exact zr ((pA_ (ZQ (Zj.mk 9 0 0 0 3 ([] : List Zi) ([] : List Zj)) .sh .sh)), [(ZX zl r1.2 z7 zd zh z2 z6 zu zb), (Z3A 9 0 0 0 3 ([] : List Zi) ([] : List Zj) .nl .nl)]) ⟨zb, _, zy, rfl⟩
   ·refine ze<|zq ?_
    refine za (decide (49 ≤ x5)) ?_ ?_
    ·refine zq ?_
     refine za (decide (x5 ≤ 57)) ?_ ?_
     ·exact zk (Zjv x1 x5 zl r1.2 z7 zd zh z2 z6 b1 zu zb zP zI zy z1w z1k)
     ·exact zk (ZcR x1 x5 zl r1.2 z7 zd zh z2 z6 b1 zu zb zP zI zy z1w z1k)
    ·exact zk (ZcR x1 x5 zl r1.2 z7 zd zh z2 z6 b1 zu zb zP zI zy z1w z1k)
def Z6W (x1 : Int) (zl : List Int) (zn z7 zd : Int) (zh : List Zz) (z2 z6 : Int) : Option (Zj × Int × (List Zz) × Int × Int) :=
 (Z3q (Z2f.mk zl zn z7 zd zh (Z1q.mk z2 z6))).bind fun r1 =>
 if (decide (r1 < 0)) = true then
 ((Z1D 21 x1 zl z2 z6).bind fun r2 =>
 some ((Zj.mk 0 0 0 0 0 ([] : List Zi) ([] : List Zj)), r2.1, zh, r2.2.1, r2.2.2))
 else
 (Z4p x1 r1 zl zn z7 zd zh z2 z6)
theorem Zm5 x1 zl zn z7 zd zh z2 z6 zu zb (zy : ZV zb = true) : Sim (Z5N zl z7 zd zu) (Z6W x1 zl zn z7 zd zh z2 z6) (EE 130 [(.ptr 0 0), (iv x1)] [(ZX zl zn z7 zd zh z2 z6 zu zb)]) := by
 unfold Z6W
 refine zf (ZLS ..)<|ze<|zz (.ptr 1 0) [(ZX zl zn z7 zd zh z2 z6 zu zb), (Zv Z2j .nl .nl)]<|ze<|zi fun r1 hr1 => ?_
 obtain ⟨_, er1, _, rfl⟩ := Z3D (Z2f.mk zl zn z7 zd zh (Z1q.mk z2 z6)) zu zb zy r1 hr1
 refine zc [0] (iv r1) [(ZX zl zn z7 zd zh z2 z6 zu zb), (Zv Z2j .nl .nl)] er1<|ze<|zq ?_
 refine za (decide (r1 < 0)) ?_ ?_
 ·refine ze<|zi fun r2 hr2 => ?_
  obtain ⟨_, er2, _, rfl⟩ := Z1J 21 x1 zl zn z7 zd zh z2 z6 zu zb zy r2 hr2
  refine zc [0] (.p (.tup [])) [(ZX zl r2.1 z7 zd zh r2.2.1 r2.2.2 zu zb), (Zv Z2j .nl .nl)] er2<|ze<|zq<|zt [(ZX zl r2.1 z7 zd zh r2.2.1 r2.2.2 zu zb), (Zv Z2j .nl .nl)] ?_
  exact zr ((pA_ (ZQ Z2j .sh .sh)), [(ZX zl r2.1 z7 zd zh r2.2.1 r2.2.2 zu zb), (Zv Z2j .nl .nl)]) ⟨zb, _, zy, rfl⟩
 ·exact zk (Zk6 x1 r1 zl zn z7 zd zh z2 z6 Z2j zu zb .nl .nl zy rfl rfl)
theorem ZmR x1 zl zn z7 zd zh z2 z6 {r} (h : Z6W x1 zl zn z7 zd zh z2 z6 = some r) : Z5W x1 zl zn z7 zd zh z2 z6 = some r :=
 Z1f (fun _ _ ha hb => ru_ (Znh _ _ _ _) (ha .ex .ex rfl) (hb .ex .ex rfl)) (fun zu zb zy => Zm5 x1 zl zn z7 zd zh z2 z6 zu zb zy r h)
end Go.Proofs.YteoeggbihfnbfaaGreatDoor.N2
end
