/- The functions' typed texts. No condition. -/
import Derived.Test.YtocikhhkicahoaaDoorTypA

set_option linter.unusedSimpArgs false
set_option linter.unusedVariables false
set_option linter.defProp false
noncomputable section
namespace Go.Proofs.YtocikhhkicahoaaDoor.N2
open Go Go.Abs
set_option maxRecDepth 100000
def Z4S:Option Bool :=
 some true
theorem Z9Q:Sim ZS Z4S (Zt1 0 []):=by
 unfold Z4S
 refine zf (ZD8 ..)<|ze ?_
 exact zr ((bv true),[]) ⟨_,rfl⟩
def Z29:Option Bool :=
 some true
theorem Z2u:Sim ZS Z29 (Zf5 0 []):=by
 unfold Z29
 refine zf (ZDa ..)<|ze ?_
 exact zr ((bv true),[]) ⟨_,rfl⟩
def Z66:Option Bool :=
 some false
theorem Z9t:Sim ZS Z66 (Zqx 0 []):=by
 unfold Z66
 refine zf (ZBq ..)<|ze ?_
 exact zr ((bv false),[]) ⟨_,rfl⟩
def Z67 (x5 x8 x11:List Zl) (x14:Int):Option Bool :=
 (lsl x8 1 (IntKind.i64.wrap ((x8.length:Int) - 2))).bind fun a1 =>
 Z4H x5 x11 x14 a1 (a1.length:Int) 0
theorem Ze9 (x5 x8 x11:List Zl) x14 ox5 ox8 ox11:Sim ZS (Z67 x5 x8 x11 x14) (Zv1 0 (ZP ox5 (x5.map ZC)) (ZP ox8 (x8.map ZC)) (ZP ox11 (x11.map ZC)) (iv x14) []):=by
 unfold Z67
 refine zf (ZBr ..)<|ze<|zp (iv (x8.length:Int)) (et_ (Z37 (P:=PP) (t:=23) (d:=40) (by kernel_rfl) ZC (shrO ox8) x8))<|zq<|zi fun a1 ha1 => zp (ZP (slO (shrO ox8)) (a1.map ZC)) (Eq.trans (by kernel_rfl) <| Zrr (n:=6) (o:=(shrO ox8)) (lo:=(some (iv 1))) (hi:=(some (iv (IntKind.i64.wrap ((x8.length:Int) - 2))))) (e:=ZC) (fun _ => rfl) (by decide) (by kernel_rfl) (by kernel_rfl) ha1)<|zp (iv (a1.length:Int)) (et_ (Z37 (P:=PP) (t:=23) (d:=40) (by kernel_rfl) ZC (slO (shrO ox8)) a1)) ?_
 exact zk (Z9P x5 x11 x14 a1 (a1.length:Int) 0 ox5 ox11 (slO (shrO ox8)))
def Z2v (x5 x8 x11:List Zl):Option Bool :=
 if (((x11.length:Int) != (IntKind.i64.wrap ((IntKind.i64.wrap ((x5.length:Int) - 3)) + (x8.length:Int))))) = true then
 Z66
 else
 ((Z3c x11).bind fun r1 =>
 (Z3c x5).bind fun r2 =>
 (Z3c x8).bind fun r3 =>
 if (r1 != (IntKind.i64.wrap (r2 + r3))) = true then
 Z66
 else
 (Z67 x5 x8 x11 (IntKind.i64.wrap ((x5.length:Int) - 3))))
theorem Z56 (x5 x8 x11:List Zl) ox5 ox8 ox11:Sim ZS (Z2v x5 x8 x11) (ZkG 0 (ZP ox5 (x5.map ZC)) (ZP ox8 (x8.map ZC)) (ZP ox11 (x11.map ZC)) []):=by
 unfold Z2v
 refine zf (ZBp ..)<|ze<|zp (iv (x5.length:Int)) (et_ (Z37 (P:=PP) (t:=23) (d:=40) (by kernel_rfl) ZC (shrO ox5) x5))<|zq<|ze<|zp (iv (x11.length:Int)) (et_ (Z37 (P:=PP) (t:=23) (d:=40) (by kernel_rfl) ZC (shrO ox11) x11))<|zp (iv (x8.length:Int)) (et_ (Z37 (P:=PP) (t:=23) (d:=40) (by kernel_rfl) ZC (shrO ox8) x8))<|zq<|zq ?_
 refine za (((x11.length:Int) != (IntKind.i64.wrap ((IntKind.i64.wrap ((x5.length:Int) - 3)) + (x8.length:Int))))) ?_ ?_
 ·exact zk Z9t
 ·refine zi fun r1 hr1 => ?_
  obtain ⟨_,er1,_,rfl⟩:=Z3V x11 .sh r1 hr1
  refine zc [] (iv r1) [] er1<|zi fun r2 hr2 => ?_
  obtain ⟨_,er2,_,rfl⟩:=Z3V x5 .sh r2 hr2
  refine zc [] (iv r2) [] er2<|zi fun r3 hr3 => ?_
  obtain ⟨_,er3,_,rfl⟩:=Z3V x8 .sh r3 hr3
  refine zc [] (iv r3) [] er3<|zq<|zq ?_
  refine za (r1 != (IntKind.i64.wrap (r2 + r3))) ?_ ?_
  ·exact zk Z9t
  ·exact zk (Ze9 x5 x8 x11 (IntKind.i64.wrap ((x5.length:Int) - 3)) ox5 ox8 ox11)
def Z6v (x0 x1:ByteArray):Option Bool :=
 (Z2m x0).bind fun r1 =>
 (Z2m x1).bind fun r2 =>
 (sadd (ByteArray.mk #[40,63,58]) x0).bind fun a3 =>
 (sadd a3 (ByteArray.mk #[41,40,63,58])).bind fun a4 =>
 (sadd a4 x1).bind fun a5 =>
 (sadd a5 (ByteArray.mk #[41])).bind fun a6 =>
 (Z2m a6).bind fun r7 =>
 if (r1.2.1 != 0) = true then
 Z29
 else
 (if (r2.2.1 != 0) = true then
 Z29
 else
 (if (r7.2.1 != 0) = true then
 Z29
 else
 (if (r1.2.2 != 0) = true then
 Z29
 else
 (if (r2.2.2 != 0) = true then
 Z29
 else
 (if (r7.2.2 != 0) = true then
 Z29
 else
 (if (decide (3 < (x0.size:Int))) = true then
 ((ssl x0 0 4).bind fun a8 =>
 if (seq a8 (ByteArray.mk #[40,63,105,41])) = true then
 Z29
 else
 (if (decide (3 < (x1.size:Int))) = true then
 ((ssl x1 0 4).bind fun a9 =>
 if (seq a9 (ByteArray.mk #[40,63,105,41])) = true then
 Z29
 else
 (Z2v r1.1 r2.1 r7.1))
 else
 (Z2v r1.1 r2.1 r7.1)))
 else
 (if (decide (3 < (x1.size:Int))) = true then
 ((ssl x1 0 4).bind fun a10 =>
 if (seq a10 (ByteArray.mk #[40,63,105,41])) = true then
 Z29
 else
 (Z2v r1.1 r2.1 r7.1))
 else
 (Z2v r1.1 r2.1 r7.1))))))))
theorem ZeR x0 x1:Sim ZS (Z6v x0 x1) (ZyK 0 (.p (.v (.string x0))) (.p (.v (.string x1))) []):=by
 unfold Z6v
 refine zf (ZD9 ..)<|ze<|zi fun r1 hr1 => ?_
 obtain ⟨_,er1,_,rfl⟩:=Z6q x0 r1 hr1
 refine zc [] (.p (.tup [(.lst .sh (r1.1.map ZC)),(.v (.int .i64 r1.2.1)),(.v (.int .i64 r1.2.2))])) [] er1<|zq<|zq<|zq<|ze<|zi fun r2 hr2 => ?_
 obtain ⟨_,er2,_,rfl⟩:=Z6q x1 r2 hr2
 refine zc [] (.p (.tup [(.lst .sh (r2.1.map ZC)),(.v (.int .i64 r2.2.1)),(.v (.int .i64 r2.2.2))])) [] er2<|zq<|zq<|zq<|ze<|zi fun a3 ha3 => zp (.p (.v (.string a3))) (et_ (Zmc (P:=PP) (t:=9) ha3))<|zi fun a4 ha4 => zp (.p (.v (.string a4))) (et_ (Zmc (P:=PP) (t:=9) ha4))<|zi fun a5 ha5 => zp (.p (.v (.string a5))) (et_ (Zmc (P:=PP) (t:=9) ha5))<|zi fun a6 ha6 => zp (.p (.v (.string a6))) (et_ (Zmc (P:=PP) (t:=9) ha6))<|zi fun r7 hr7 => ?_
 obtain ⟨_,er7,_,rfl⟩:=Z6q a6 r7 hr7
 refine zc [] (.p (.tup [(.lst .sh (r7.1.map ZC)),(.v (.int .i64 r7.2.1)),(.v (.int .i64 r7.2.2))])) [] er7<|zq<|zq<|zq<|ze<|zq ?_
 refine za (r1.2.1 != 0) ?_ ?_
 ·exact zk Z2u
 ·refine zq ?_
  refine za (r2.2.1 != 0) ?_ ?_
  ·exact zk Z2u
  ·refine zq ?_
   refine za (r7.2.1 != 0) ?_ ?_
   ·exact zk Z2u
   ·refine zq ?_
    refine za (r1.2.2 != 0) ?_ ?_
    ·exact zk Z2u
    ·refine zq ?_
     refine za (r2.2.2 != 0) ?_ ?_
     ·exact zk Z2u
     ·refine zq ?_
      refine za (r7.2.2 != 0) ?_ ?_
      ·exact zk Z2u
      ·refine zq<|zq ?_
       refine za (decide (3 < (x0.size:Int))) ?_ ?_
       ·refine zi fun a8 ha8 => zp (.p (.v (.string a8))) (et_ (Zsh (lo:=none) (hi:=(some (iv 4))) (by kernel_rfl) (by kernel_rfl) ha8))<|zq ?_
        refine za (seq a8 (ByteArray.mk #[40,63,105,41])) ?_ ?_
        ·exact zk Z2u
        ·refine zq<|zq ?_
         refine za (decide (3 < (x1.size:Int))) ?_ ?_
         ·refine zi fun a9 ha9 => zp (.p (.v (.string a9))) (et_ (Zsh (lo:=none) (hi:=(some (iv 4))) (by kernel_rfl) (by kernel_rfl) ha9))<|zq ?_
          refine za (seq a9 (ByteArray.mk #[40,63,105,41])) ?_ ?_
          ·exact zk Z2u
          ·exact zk (Z56 r1.1 r2.1 r7.1 .sh .sh .sh)
         ·exact zk (Z56 r1.1 r2.1 r7.1 .sh .sh .sh)
       ·refine zq<|zq ?_
        refine za (decide (3 < (x1.size:Int))) ?_ ?_
        ·refine zi fun a10 ha10 => zp (.p (.v (.string a10))) (et_ (Zsh (lo:=none) (hi:=(some (iv 4))) (by kernel_rfl) (by kernel_rfl) ha10))<|zq ?_
         refine za (seq a10 (ByteArray.mk #[40,63,105,41])) ?_ ?_
         ·exact zk Z2u
         ·exact zk (Z56 r1.1 r2.1 r7.1 .sh .sh .sh)
        ·exact zk (Z56 r1.1 r2.1 r7.1 .sh .sh .sh)
def Z6u (x0 x1:ByteArray):Option Bool :=
 if (decide (100 < (x0.size:Int))) = true then
 Z4S
 else
 (if (decide (100 < (x1.size:Int))) = true then
 Z4S
 else
 (Z6v x0 x1))
theorem ZeQ x0 x1:Sim ZS (Z6u x0 x1) (ZyJ 0 (.p (.v (.string x0))) (.p (.v (.string x1))) []):=by
 unfold Z6u
 refine zf (ZD7 ..)<|ze<|zq<|zq ?_
 refine za (decide (100 < (x0.size:Int))) ?_ ?_
 ·exact zk Z9Q
 ·refine zq<|zq ?_
  refine za (decide (100 < (x1.size:Int))) ?_ ?_
  ·exact zk Z9Q
  ·exact zk (ZeR x0 x1)
def Z7c (x0 x1:ByteArray):Option Bool :=
 (Z8g).bind fun r1 =>
 if (!r1) = true then
 (some false)
 else
 (Z6u x0 x1)
theorem ZfL x0 x1:Sim ZS (Z7c x0 x1) (EE 6 [(.p (.v (.string x0))),(.p (.v (.string x1)))] []):=by
 unfold Z7c
 refine zf (ZIh ..)<|ze<|ze<|zi fun r1 hr1 => ?_
 obtain ⟨_,er1,_,rfl⟩:=ZhW r1 hr1
 refine zc [] (bv r1) [] er1<|zq ?_
 refine za (!r1) ?_ ?_
 ·refine ze ?_
  exact zr ((bv false),[]) ⟨_,rfl⟩
 ·exact zk (ZeQ x0 x1)
theorem ZgM x0 x1 {r} (h:Z7c x0 x1 = some r):Z9s x0 x1 = some r :=
 Z1l (fun _ _ ha hb => ru_ Z2P ha hb) (ZfL x0 x1 r h)
def Z3R:Option Bool :=
 some false
theorem Z57:Sim ZS Z3R (ZkH 0 []):=by
 unfold Z3R
 refine zf (ZBt ..)<|ze ?_
 exact zr ((bv false),[]) ⟨_,rfl⟩
def Z3S:Option Bool :=
 some false
theorem Z58:Sim ZS Z3S (ZkI 0 []):=by
 unfold Z3S
 refine zf (ZBv ..)<|ze ?_
 exact zr ((bv false),[]) ⟨_,rfl⟩
def Z15 (x5 x11:List Zl) (x14:Int) (x117:List Zl) (x118 x119:Int):Option Bool :=
 Z4H x5 x11 x14 x117 x118 (IntKind.i64.wrap (x119 + 1))
theorem Z17 (x5 x11:List Zl) x14 (x117:List Zl) x118 x119 ox5 ox11 ox117:Sim ZS (Z15 x5 x11 x14 x117 x118 x119) (Z4U 0 (ZP ox5 (x5.map ZC)) (ZP ox11 (x11.map ZC)) (iv x14) (ZP ox117 (x117.map ZC)) (iv x118) (iv x119) []):=by
 unfold Z15
 refine zf (ZBw ..)<|ze<|zq ?_
 exact zk (Z9P x5 x11 x14 x117 x118 (IntKind.i64.wrap (x119 + 1)) ox5 ox11 ox117)
def Z69 (x5 x11:List Zl) (x14:Int) (x117:List Zl) (x118 x119:Int) (b0 b1:Zl):Option Bool :=
 if (b0.Op == 2) = true then
 (if (b0.Op == 2) = true then
 (if (b1.A != (IntKind.i64.wrap (b0.A + x14))) = true then
 Z3S
 else
 (if (b0.Op == 3) = true then
 (if (b1.B != (IntKind.i64.wrap (b0.B + x14))) = true then
 Z3S
 else
 (Z15 x5 x11 x14 x117 x118 x119))
 else
 (Z15 x5 x11 x14 x117 x118 x119)))
 else
 (if (b0.Op == 7) = true then
 (if (b0.Op == 7) = true then
 (if (b1.B != (IntKind.i64.wrap (b0.B + x14))) = true then
 (some false)
 else
 (Z15 x5 x11 x14 x117 x118 x119))
 else
 (if (b0.Op == 10) = true then
 (if (b0.Op == 10) = true then
 ((Z3c x5).bind fun r1 =>
 if (b1.A != (IntKind.i64.wrap (b0.A + r1))) = true then
 (some false)
 else
 (Z15 x5 x11 x14 x117 x118 x119))
 else
 (Z15 x5 x11 x14 x117 x118 x119))
 else
 (if (b0.Op == 11) = true then
 ((Z3c x5).bind fun r2 =>
 if (b1.A != (IntKind.i64.wrap (b0.A + r2))) = true then
 (some false)
 else
 (Z15 x5 x11 x14 x117 x118 x119))
 else
 (Z15 x5 x11 x14 x117 x118 x119))))
 else
 (if (b0.Op == 8) = true then
 (if (b1.B != (IntKind.i64.wrap (b0.B + x14))) = true then
 (some false)
 else
 (Z15 x5 x11 x14 x117 x118 x119))
 else
 (if (b0.Op == 10) = true then
 (if (b0.Op == 10) = true then
 ((Z3c x5).bind fun r3 =>
 if (b1.A != (IntKind.i64.wrap (b0.A + r3))) = true then
 (some false)
 else
 (Z15 x5 x11 x14 x117 x118 x119))
 else
 (Z15 x5 x11 x14 x117 x118 x119))
 else
 (if (b0.Op == 11) = true then
 ((Z3c x5).bind fun r4 =>
 if (b1.A != (IntKind.i64.wrap (b0.A + r4))) = true then
 (some false)
 else
 (Z15 x5 x11 x14 x117 x118 x119))
 else
 (Z15 x5 x11 x14 x117 x118 x119))))))
 else
 (if (b0.Op == 3) = true then
 (if (b1.A != (IntKind.i64.wrap (b0.A + x14))) = true then
 Z3S
 else
 (if (b0.Op == 3) = true then
 (if (b1.B != (IntKind.i64.wrap (b0.B + x14))) = true then
 Z3S
 else
 (Z15 x5 x11 x14 x117 x118 x119))
 else
 (Z15 x5 x11 x14 x117 x118 x119)))
 else
 (if (b0.Op == 7) = true then
 (if (b0.Op == 7) = true then
 (if (b1.B != (IntKind.i64.wrap (b0.B + x14))) = true then
 (some false)
 else
 (Z15 x5 x11 x14 x117 x118 x119))
 else
 (if (b0.Op == 10) = true then
 (if (b0.Op == 10) = true then
 ((Z3c x5).bind fun r5 =>
 if (b1.A != (IntKind.i64.wrap (b0.A + r5))) = true then
 (some false)
 else
 (Z15 x5 x11 x14 x117 x118 x119))
 else
 (Z15 x5 x11 x14 x117 x118 x119))
 else
 (if (b0.Op == 11) = true then
 ((Z3c x5).bind fun r6 =>
 if (b1.A != (IntKind.i64.wrap (b0.A + r6))) = true then
 (some false)
 else
 (Z15 x5 x11 x14 x117 x118 x119))
 else
 (Z15 x5 x11 x14 x117 x118 x119))))
 else
 (if (b0.Op == 8) = true then
 (if (b1.B != (IntKind.i64.wrap (b0.B + x14))) = true then
 (some false)
 else
 (Z15 x5 x11 x14 x117 x118 x119))
 else
 (if (b0.Op == 10) = true then
 (if (b0.Op == 10) = true then
 ((Z3c x5).bind fun r7 =>
 if (b1.A != (IntKind.i64.wrap (b0.A + r7))) = true then
 (some false)
 else
 (Z15 x5 x11 x14 x117 x118 x119))
 else
 (Z15 x5 x11 x14 x117 x118 x119))
 else
 (if (b0.Op == 11) = true then
 ((Z3c x5).bind fun r8 =>
 if (b1.A != (IntKind.i64.wrap (b0.A + r8))) = true then
 (some false)
 else
 (Z15 x5 x11 x14 x117 x118 x119))
 else
 (Z15 x5 x11 x14 x117 x118 x119))))))
theorem Zeb (x5 x11:List Zl) x14 (x117:List Zl) x118 x119 b0 b1 ox5 ox11 ox117 z1u zH:Sim ZS (Z69 x5 x11 x14 x117 x118 x119 b0 b1) (Zv3 0 (ZP ox5 (x5.map ZC)) (ZP ox11 (x11.map ZC)) (iv x14) (.ptr 0 0) (.ptr 1 0) (ZP ox117 (x117.map ZC)) (iv x118) (iv x119) [(ZO b0 z1u),(ZO b1 zH)]):=by
 unfold Z69
 refine zf (ZBu ..)<|ze<|zq<|zq<|ze<|zq ?_
 refine za (b0.Op == 2) ?_ ?_
 ·refine za (b0.Op == 2) ?_ ?_
  ·refine ze<|zq<|zq<|zq<|zq<|zq<|zq ?_
   refine za (b1.A != (IntKind.i64.wrap (b0.A + x14))) ?_ ?_
   ·exact zk Z58
   ·refine zq<|zq<|zq ?_
    refine za (b0.Op == 3) ?_ ?_
    ·refine zq<|zq<|zq<|zq<|zq<|zq ?_
     refine za (b1.B != (IntKind.i64.wrap (b0.B + x14))) ?_ ?_
     ·exact zk Z58
     ·exact zk (Z17 x5 x11 x14 x117 x118 x119 ox5 ox11 ox117)
    ·exact zk (Z17 x5 x11 x14 x117 x118 x119 ox5 ox11 ox117)
  ·refine ze<|zq ?_
   refine za (b0.Op == 7) ?_ ?_
   ·refine za (b0.Op == 7) ?_ ?_
    ·refine ze<|zq<|zq<|zq<|zq<|zq<|zq ?_
     refine za (b1.B != (IntKind.i64.wrap (b0.B + x14))) ?_ ?_
     ·refine ze ?_
      exact zr ((bv false),[(ZO b0 z1u),(ZO b1 zH)]) ⟨_,rfl⟩
     ·exact zk (Z17 x5 x11 x14 x117 x118 x119 ox5 ox11 ox117)
    ·refine ze<|zq ?_
     refine za (b0.Op == 10) ?_ ?_
     ·refine za (b0.Op == 10) ?_ ?_
      ·refine ze<|zq<|zq<|zq<|zq<|zi fun r1 hr1 => ?_
       obtain ⟨_,er1,_,rfl⟩:=Z3V x5 .sh r1 hr1
       refine zc [] (iv r1) [(ZO b0 z1u),(ZO b1 zH)] er1<|zq<|zq<|zg<|zg ?_
       refine za (b1.A != (IntKind.i64.wrap (b0.A + r1))) ?_ ?_
       ·refine ze ?_
        exact zr ((bv false),[(ZO b0 z1u),(ZO b1 zH)]) ⟨_,rfl⟩
       ·exact zk (Z17 x5 x11 x14 x117 x118 x119 ox5 ox11 ox117)
      ·exact zk (Z17 x5 x11 x14 x117 x118 x119 ox5 ox11 ox117)
     ·refine ze<|zq ?_
      refine za (b0.Op == 11) ?_ ?_
      ·refine ze<|zq<|zq<|zq<|zq<|zi fun r2 hr2 => ?_
       obtain ⟨_,er2,_,rfl⟩:=Z3V x5 .sh r2 hr2
       refine zc [] (iv r2) [(ZO b0 z1u),(ZO b1 zH)] er2<|zq<|zq<|zg<|zg ?_
       refine za (b1.A != (IntKind.i64.wrap (b0.A + r2))) ?_ ?_
       ·refine ze ?_
        exact zr ((bv false),[(ZO b0 z1u),(ZO b1 zH)]) ⟨_,rfl⟩
       ·exact zk (Z17 x5 x11 x14 x117 x118 x119 ox5 ox11 ox117)
      ·exact zk (Z17 x5 x11 x14 x117 x118 x119 ox5 ox11 ox117)
   ·refine ze<|zq ?_
    refine za (b0.Op == 8) ?_ ?_
    ·refine ze<|zq<|zq<|zq<|zq<|zq<|zq ?_
     refine za (b1.B != (IntKind.i64.wrap (b0.B + x14))) ?_ ?_
     ·refine ze ?_
      exact zr ((bv false),[(ZO b0 z1u),(ZO b1 zH)]) ⟨_,rfl⟩
     ·exact zk (Z17 x5 x11 x14 x117 x118 x119 ox5 ox11 ox117)
    ·refine ze<|zq ?_
     refine za (b0.Op == 10) ?_ ?_
     ·refine za (b0.Op == 10) ?_ ?_
      ·refine ze<|zq<|zq<|zq<|zq<|zi fun r3 hr3 => ?_
       obtain ⟨_,er3,_,rfl⟩:=Z3V x5 .sh r3 hr3
       refine zc [] (iv r3) [(ZO b0 z1u),(ZO b1 zH)] er3<|zq<|zq<|zg<|zg ?_
       refine za (b1.A != (IntKind.i64.wrap (b0.A + r3))) ?_ ?_
       ·refine ze ?_
        exact zr ((bv false),[(ZO b0 z1u),(ZO b1 zH)]) ⟨_,rfl⟩
       ·exact zk (Z17 x5 x11 x14 x117 x118 x119 ox5 ox11 ox117)
      ·exact zk (Z17 x5 x11 x14 x117 x118 x119 ox5 ox11 ox117)
     ·refine ze<|zq ?_
      refine za (b0.Op == 11) ?_ ?_
      ·refine ze<|zq<|zq<|zq<|zq<|zi fun r4 hr4 => ?_
       obtain ⟨_,er4,_,rfl⟩:=Z3V x5 .sh r4 hr4
       refine zc [] (iv r4) [(ZO b0 z1u),(ZO b1 zH)] er4<|zq<|zq<|zg<|zg ?_
       refine za (b1.A != (IntKind.i64.wrap (b0.A + r4))) ?_ ?_
       ·refine ze ?_
        exact zr ((bv false),[(ZO b0 z1u),(ZO b1 zH)]) ⟨_,rfl⟩
       ·exact zk (Z17 x5 x11 x14 x117 x118 x119 ox5 ox11 ox117)
      ·exact zk (Z17 x5 x11 x14 x117 x118 x119 ox5 ox11 ox117)
 ·refine ze<|zq ?_
  refine za (b0.Op == 3) ?_ ?_
  ·refine ze<|zq<|zq<|zq<|zq<|zq<|zq ?_
   refine za (b1.A != (IntKind.i64.wrap (b0.A + x14))) ?_ ?_
   ·exact zk Z58
   ·refine zq<|zq<|zq ?_
    refine za (b0.Op == 3) ?_ ?_
    ·refine zq<|zq<|zq<|zq<|zq<|zq ?_
     refine za (b1.B != (IntKind.i64.wrap (b0.B + x14))) ?_ ?_
     ·exact zk Z58
     ·exact zk (Z17 x5 x11 x14 x117 x118 x119 ox5 ox11 ox117)
    ·exact zk (Z17 x5 x11 x14 x117 x118 x119 ox5 ox11 ox117)
  ·refine ze<|zq ?_
   refine za (b0.Op == 7) ?_ ?_
   ·refine za (b0.Op == 7) ?_ ?_
    ·refine ze<|zq<|zq<|zq<|zq<|zq<|zq ?_
     refine za (b1.B != (IntKind.i64.wrap (b0.B + x14))) ?_ ?_
     ·refine ze ?_
      exact zr ((bv false),[(ZO b0 z1u),(ZO b1 zH)]) ⟨_,rfl⟩
     ·exact zk (Z17 x5 x11 x14 x117 x118 x119 ox5 ox11 ox117)
    ·refine ze<|zq ?_
     refine za (b0.Op == 10) ?_ ?_
     ·refine za (b0.Op == 10) ?_ ?_
      ·refine ze<|zq<|zq<|zq<|zq<|zi fun r5 hr5 => ?_
       obtain ⟨_,er5,_,rfl⟩:=Z3V x5 .sh r5 hr5
       refine zc [] (iv r5) [(ZO b0 z1u),(ZO b1 zH)] er5<|zq<|zq<|zg<|zg ?_
       refine za (b1.A != (IntKind.i64.wrap (b0.A + r5))) ?_ ?_
       ·refine ze ?_
        exact zr ((bv false),[(ZO b0 z1u),(ZO b1 zH)]) ⟨_,rfl⟩
       ·exact zk (Z17 x5 x11 x14 x117 x118 x119 ox5 ox11 ox117)
      ·exact zk (Z17 x5 x11 x14 x117 x118 x119 ox5 ox11 ox117)
     ·refine ze<|zq ?_
      refine za (b0.Op == 11) ?_ ?_
      ·refine ze<|zq<|zq<|zq<|zq<|zi fun r6 hr6 => ?_
       obtain ⟨_,er6,_,rfl⟩:=Z3V x5 .sh r6 hr6
       refine zc [] (iv r6) [(ZO b0 z1u),(ZO b1 zH)] er6<|zq<|zq<|zg<|zg ?_
       refine za (b1.A != (IntKind.i64.wrap (b0.A + r6))) ?_ ?_
       ·refine ze ?_
        exact zr ((bv false),[(ZO b0 z1u),(ZO b1 zH)]) ⟨_,rfl⟩
       ·exact zk (Z17 x5 x11 x14 x117 x118 x119 ox5 ox11 ox117)
      ·exact zk (Z17 x5 x11 x14 x117 x118 x119 ox5 ox11 ox117)
   ·refine ze<|zq ?_
    refine za (b0.Op == 8) ?_ ?_
    ·refine ze<|zq<|zq<|zq<|zq<|zq<|zq ?_
     refine za (b1.B != (IntKind.i64.wrap (b0.B + x14))) ?_ ?_
     ·refine ze ?_
      exact zr ((bv false),[(ZO b0 z1u),(ZO b1 zH)]) ⟨_,rfl⟩
     ·exact zk (Z17 x5 x11 x14 x117 x118 x119 ox5 ox11 ox117)
    ·refine ze<|zq ?_
     refine za (b0.Op == 10) ?_ ?_
     ·refine za (b0.Op == 10) ?_ ?_
      ·refine ze<|zq<|zq<|zq<|zq<|zi fun r7 hr7 => ?_
       obtain ⟨_,er7,_,rfl⟩:=Z3V x5 .sh r7 hr7
       refine zc [] (iv r7) [(ZO b0 z1u),(ZO b1 zH)] er7<|zq<|zq<|zg<|zg ?_
       refine za (b1.A != (IntKind.i64.wrap (b0.A + r7))) ?_ ?_
       ·refine ze ?_
        exact zr ((bv false),[(ZO b0 z1u),(ZO b1 zH)]) ⟨_,rfl⟩
       ·exact zk (Z17 x5 x11 x14 x117 x118 x119 ox5 ox11 ox117)
      ·exact zk (Z17 x5 x11 x14 x117 x118 x119 ox5 ox11 ox117)
     ·refine ze<|zq ?_
      refine za (b0.Op == 11) ?_ ?_
      ·refine ze<|zq<|zq<|zq<|zq<|zi fun r8 hr8 => ?_
       obtain ⟨_,er8,_,rfl⟩:=Z3V x5 .sh r8 hr8
       refine zc [] (iv r8) [(ZO b0 z1u),(ZO b1 zH)] er8<|zq<|zq<|zg<|zg ?_
       refine za (b1.A != (IntKind.i64.wrap (b0.A + r8))) ?_ ?_
       ·refine ze ?_
        exact zr ((bv false),[(ZO b0 z1u),(ZO b1 zH)]) ⟨_,rfl⟩
       ·exact zk (Z17 x5 x11 x14 x117 x118 x119 ox5 ox11 ox117)
      ·exact zk (Z17 x5 x11 x14 x117 x118 x119 ox5 ox11 ox117)
def Z68 (x5 x11:List Zl) (x14:Int) (x117:List Zl) (x118 x119:Int):Option Bool :=
 (lget x117 x119).bind fun a1 =>
 (lget x11 (IntKind.i64.wrap ((IntKind.i64.wrap (x119 + 1)) + x14))).bind fun a2 =>
 if (a1.Op != a2.Op) = true then
 Z3R
 else
 (if (a1.C != a2.C) = true then
 Z3R
 else
 (if (a1.D != a2.D) = true then
 Z3R
 else
 (if ((a1.Set.length:Int) != (a2.Set.length:Int)) = true then
 Z3R
 else
 (Z69 x5 x11 x14 x117 x118 x119 a1 a2))))
theorem Zea (x5 x11:List Zl) x14 (x117:List Zl) x118 x119 ox5 ox11 ox117:Sim ZS (Z68 x5 x11 x14 x117 x118 x119) (Zv2 0 (ZP ox5 (x5.map ZC)) (ZP ox11 (x11.map ZC)) (iv x14) (ZP ox117 (x117.map ZC)) (iv x118) (iv x119) []):=by
 unfold Z68
 refine zf (ZBs ..)<|ze<|zi fun a1 ha1 => zp (.cptr (Z1q a1 .sh)) (et_ (Z2Q (o:=ox117) (k:=.i64) (n:=6) (e:=ZC) (cs:=Z4G) (fun _ => rfl) (fun _ => rfl) (by decide) ha1))<|zq<|zz (.ptr 0 0) [(ZO Zps .nl)]<|zt [(ZO a1 .sh)]<|ze<|zq<|zq<|zi fun a2 ha2 => zp (.cptr (Z1q a2 .sh)) (et_ (Z2Q (o:=(shrO ox11)) (k:=.i64) (n:=6) (e:=ZC) (cs:=Z4G) (fun _ => rfl) (fun _ => rfl) (by decide) ha2))<|zq<|zz (.ptr 1 0) [(ZO a1 .sh),(ZO Zps .nl)]<|zt [(ZO a1 .sh),(ZO a2 .sh)]<|ze<|zq<|zq<|zq<|zq<|zq ?_
 refine za (a1.Op != a2.Op) ?_ ?_
 ·exact zk Z57
 ·refine zq<|zq<|zq<|zq<|zq ?_
  refine za (a1.C != a2.C) ?_ ?_
  ·exact zk Z57
  ·refine zq<|zq<|zq<|zq<|zq ?_
   refine za (a1.D != a2.D) ?_ ?_
   ·exact zk Z57
   ·refine zq<|zq<|zp (iv (a1.Set.length:Int)) (et_ (Z37 (P:=PP) (t:=28) (d:=47) (by kernel_rfl) Zz .sh a1.Set))<|zq<|zq<|zp (iv (a2.Set.length:Int)) (et_ (Z37 (P:=PP) (t:=28) (d:=47) (by kernel_rfl) Zz .sh a2.Set))<|zq ?_
    refine za ((a1.Set.length:Int) != (a2.Set.length:Int)) ?_ ?_
    ·exact zk Z57
    ·exact zk (Zeb x5 x11 x14 x117 x118 x119 a1 a2 ox5 ox11 ox117 .sh .sh)
def Z7Y:Option Bool :=
 some true
theorem Zec:Sim ZS Z7Y (Zv4 0 []):=by
 unfold Z7Y
 refine zf (ZBx ..)<|ze ?_
 exact zr ((bv true),[]) ⟨_,rfl⟩
def Z4y (x5 x11:List Zl) (x14:Int) (x117:List Zl) (x118 x119:Int):Option Bool :=
 if (decide (x119 < x118)) = true then
 (Z68 x5 x11 x14 x117 x118 x119)
 else
 Z7Y
theorem Ze8 (x5 x11:List Zl) x14 (x117:List Zl) x118 x119 ox5 ox11 ox117:Sim ZS (Z4y x5 x11 x14 x117 x118 x119) (ZmQ 0 (ZP ox5 (x5.map ZC)) (ZP ox11 (x11.map ZC)) (iv x14) (ZP ox117 (x117.map ZC)) (iv x118) (iv x119) []):=by
 unfold Z4y
 refine zf (ZBo ..)<|ze<|zq ?_
 refine za (decide (x119 < x118)) ?_ ?_
 ·exact zk (Zea x5 x11 x14 x117 x118 x119 ox5 ox11 ox117)
 ·exact zk Zec
theorem Z9O x5 x11 x14 x117 x118 x119 {r} (h:Z4y x5 x11 x14 x117 x118 x119 = some r):Z4H x5 x11 x14 x117 x118 x119 = some r :=
 Z1l (fun _ _ ha hb => ru_ Z2P (ha .ex .ex .ex) (hb .ex .ex .ex)) (fun ox5 ox11 ox117 => Ze8 x5 x11 x14 x117 x118 x119 ox5 ox11 ox117 r h)
def Z35:Option Bool :=
 some false
theorem Z3I:Sim ZS Z35 (ZjA 0 []):=by
 unfold Z35
 refine zf (ZDb ..)<|ze ?_
 exact zr ((bv false),[]) ⟨_,rfl⟩
def Z73 (x1 x4:List Zl):Option Bool :=
 (lget x1 1).bind fun a1 =>
 if (a1.Op == 3) = true then
 ((lget x1 1).bind fun a2 =>
 if (a2.A == 2) = true then
 ((lget x1 1).bind fun a3 =>
 if (a3.B == 4) = true then
 ((lget x1 3).bind fun a4 =>
 if (a4.Op == 2) = true then
 ((lget x1 3).bind fun a5 =>
 if (a5.A == 5) = true then
 ((lget x4 4).bind fun a6 =>
 if (a6.Op == 11) = true then
 ((lget x4 1).bind fun a7 =>
 if (a7.B == 6) = true then
 ((Z3c x4).bind fun r8 =>
 some (r8 == 1))
 else
 (some false))
 else
 (some false))
 else
 (some false))
 else
 (some false))
 else
 (some false))
 else
 (some false))
 else
 (some false)
theorem Zfx (x1 x4:List Zl) ox1 ox4:Sim ZS (Z73 x1 x4) (ZyQ 0 (ZP ox1 (x1.map ZC)) (ZP ox4 (x4.map ZC)) []):=by
 unfold Z73
 refine zf (ZDc ..)<|ze<|zi fun a1 ha1 => zp (.cptr (Z1q a1 .sh)) (et_ (Z2Q (o:=(shrO ox1)) (k:=.i64) (n:=6) (e:=ZC) (cs:=Z4G) (fun _ => rfl) (fun _ => rfl) (by decide) ha1))<|zq<|zq<|zq ?_
 refine za (a1.Op == 3) ?_ ?_
 ·refine zi fun a2 ha2 => zp (.cptr (Z1q a2 .sh)) (et_ (Z2Q (o:=(shrO ox1)) (k:=.i64) (n:=6) (e:=ZC) (cs:=Z4G) (fun _ => rfl) (fun _ => rfl) (by decide) ha2))<|zq<|zq<|zq ?_
  refine za (a2.A == 2) ?_ ?_
  ·refine zi fun a3 ha3 => zp (.cptr (Z1q a3 .sh)) (et_ (Z2Q (o:=(shrO ox1)) (k:=.i64) (n:=6) (e:=ZC) (cs:=Z4G) (fun _ => rfl) (fun _ => rfl) (by decide) ha3))<|zq<|zq<|zq ?_
   refine za (a3.B == 4) ?_ ?_
   ·refine zi fun a4 ha4 => zp (.cptr (Z1q a4 .sh)) (et_ (Z2Q (o:=(shrO ox1)) (k:=.i64) (n:=6) (e:=ZC) (cs:=Z4G) (fun _ => rfl) (fun _ => rfl) (by decide) ha4))<|zq<|zq<|zq ?_
    refine za (a4.Op == 2) ?_ ?_
    ·refine zi fun a5 ha5 => zp (.cptr (Z1q a5 .sh)) (et_ (Z2Q (o:=(shrO ox1)) (k:=.i64) (n:=6) (e:=ZC) (cs:=Z4G) (fun _ => rfl) (fun _ => rfl) (by decide) ha5))<|zq<|zq<|zq ?_
     refine za (a5.A == 5) ?_ ?_
     ·refine zi fun a6 ha6 => zp (.cptr (Z1q a6 .sh)) (et_ (Z2Q (o:=(shrO ox4)) (k:=.i64) (n:=6) (e:=ZC) (cs:=Z4G) (fun _ => rfl) (fun _ => rfl) (by decide) ha6))<|zq<|zq<|zq ?_
      refine za (a6.Op == 11) ?_ ?_
      ·refine zi fun a7 ha7 => zp (.cptr (Z1q a7 .sh)) (et_ (Z2Q (o:=(shrO ox4)) (k:=.i64) (n:=6) (e:=ZC) (cs:=Z4G) (fun _ => rfl) (fun _ => rfl) (by decide) ha7))<|zq<|zq<|zq ?_
       refine za (a7.B == 6) ?_ ?_
       ·refine zi fun r8 hr8 => ?_
        obtain ⟨_,er8,_,rfl⟩:=Z3V x4 .sh r8 hr8
        refine zc [] (iv r8) [] er8<|zq ?_
        exact zr ((bv (r8 == 1)),[]) ⟨_,rfl⟩
       ·exact zr ((bv false),[]) ⟨_,rfl⟩
      ·exact zr ((bv false),[]) ⟨_,rfl⟩
     ·exact zr ((bv false),[]) ⟨_,rfl⟩
    ·exact zr ((bv false),[]) ⟨_,rfl⟩
   ·exact zr ((bv false),[]) ⟨_,rfl⟩
  ·exact zr ((bv false),[]) ⟨_,rfl⟩
 ·exact zr ((bv false),[]) ⟨_,rfl⟩
def Z8a:Option Bool :=
 (Z2m (ByteArray.mk #[97,124,98])).bind fun r1 =>
 (Z2m (ByteArray.mk #[97,42])).bind fun r2 =>
 if (r1.2.1 != 0) = true then
 Z35
 else
 (if (r1.2.2 != 0) = true then
 Z35
 else
 (if (r2.2.1 != 0) = true then
 Z35
 else
 (if (r2.2.2 != 0) = true then
 Z35
 else
 (if ((r1.1.length:Int) != 7) = true then
 Z35
 else
 (if ((r2.1.length:Int) != 8) = true then
 Z35
 else
 (Z73 r1.1 r2.1))))))
theorem Zhq:Sim ZS Z8a (EE 8 [] []):=by
 unfold Z8a
 refine zf (ZIs ..)<|ze<|ze<|zi fun r1 hr1 => ?_
 obtain ⟨_,er1,_,rfl⟩:=Z6q (ByteArray.mk #[97,124,98]) r1 hr1
 refine zc [] (.p (.tup [(.lst .sh (r1.1.map ZC)),(.v (.int .i64 r1.2.1)),(.v (.int .i64 r1.2.2))])) [] er1<|zq<|zq<|zq<|ze<|zi fun r2 hr2 => ?_
 obtain ⟨_,er2,_,rfl⟩:=Z6q (ByteArray.mk #[97,42]) r2 hr2
 refine zc [] (.p (.tup [(.lst .sh (r2.1.map ZC)),(.v (.int .i64 r2.2.1)),(.v (.int .i64 r2.2.2))])) [] er2<|zq<|zq<|zq<|ze<|zq ?_
 refine za (r1.2.1 != 0) ?_ ?_
 ·exact zk Z3I
 ·refine zq ?_
  refine za (r1.2.2 != 0) ?_ ?_
  ·exact zk Z3I
  ·refine zq ?_
   refine za (r2.2.1 != 0) ?_ ?_
   ·exact zk Z3I
   ·refine zq ?_
    refine za (r2.2.2 != 0) ?_ ?_
    ·exact zk Z3I
    ·refine zp (iv (r1.1.length:Int)) (et_ (Z37 (P:=PP) (t:=23) (d:=40) (by kernel_rfl) ZC .sh r1.1))<|zq ?_
     refine za ((r1.1.length:Int) != 7) ?_ ?_
     ·exact zk Z3I
     ·refine zp (iv (r2.1.length:Int)) (et_ (Z37 (P:=PP) (t:=23) (d:=40) (by kernel_rfl) ZC .sh r2.1))<|zq ?_
      refine za ((r2.1.length:Int) != 8) ?_ ?_
      ·exact zk Z3I
      ·exact zk (Zfx r1.1 r2.1 .sh .sh)
theorem ZhV {r} (h:Z8a = some r):Z8g = some r :=
 Z1l (fun _ _ ha hb => ru_ Z2P ha hb) (Zhq r h)
def Z7M (b0:Z1f):Option ((List Zl) × Int × Int) :=
 (Z9h b0).bind fun r1 =>
 some (r1.1,0,r1.2)
theorem ZgO b0 z14 zU:Sim Z7b (Z7M b0) (ZyT 0 (.ptr 0 0) [(ZT b0 z14 zU)]):=by
 unfold Z7M
 refine zf (ZDd ..)<|ze<|zq<|zi fun r1 hr1 => ?_
 obtain ⟨_,er1,_,rfl⟩:=Zol b0 .sh .sh r1 hr1
 refine zc [] (.p (.tup [(.lst .sh (r1.1.map ZC)),(.v (.int .i64 r1.2))])) [(ZT b0 z14 zU)] er1<|zq<|zq<|ze ?_
 exact zr ((.p (.tup [(.lst .sh (r1.1.map ZC)),(.v (.int .i64 0)),(.v (.int .i64 r1.2))])),[(ZT b0 z14 zU)]) ⟨_,rfl⟩
def Z7d (x0:ByteArray):Option ((List Zl) × Int × Int) :=
 (Ze2 x0).bind fun r1 =>
 if (r1.2.Code != 0) = true then
 (some (([]:List Zl),r1.2.Code,0))
 else
 (Z7M r1.1)
theorem ZiO x0:Sim Z7b (Z7d x0) (EE 9 [(.p (.v (.string x0)))] []):=by
 unfold Z7d
 refine zf (ZIu ..)<|ze<|ze<|zi fun r1 hr1 => ?_
 obtain ⟨_,er1,_,rfl⟩:=ZoV x0 r1 hr1
 refine zc [] (.p (.tup [(.agg (Z2R r1.1 .sh .sh)),(.agg (Z5p r1.2))])) [] er1<|zq<|zq<|zz (.ptr 0 0) [(ZT ZdE .nl .nl)]<|zz (.ptr 1 0) [(ZT ZdE .nl .nl),(Z1E Zfw)]<|zt [(ZT r1.1 .sh .sh),(Z1E Zfw)]<|zt [(ZT r1.1 .sh .sh),(Z1E r1.2)]<|ze<|zq<|zq<|zq ?_
 refine za (r1.2.Code != 0) ?_ ?_
 ·refine ze<|zq<|zq ?_
  exact zr ((.p (.tup [(.lst .sh []),(.v (.int .i64 r1.2.Code)),(.v (.int .i64 0))])),[(ZT r1.1 .sh .sh),(Z1E r1.2)]) ⟨_,rfl⟩
 ·exact zk (ZgO r1.1 .sh .sh)
theorem Zdn x0 {r} (h:Z7d x0 = some r):Z2m x0 = some r :=
 Z1l (fun _ _ ha hb => ru_ ZjQ ha hb) (ZiO x0 r h)
def Z52 (z38:List Int) (z1e:Int) (z23:List ZA) (zV z1h z12 z1j z1i z13 z1a:Int) (z1b:List Z8) (z11:List Z9) (z1G:Bool):Option (Z1f × Z16) :=
 Z81 z23 (z23.length:Int) 0 z38 z1e zV z1h z12 z1j z1i z13 z1a z1b z11 z1G
theorem Zbs b0 b1 z38 z31 z1e z2F z23 zV z1h z12 z1j z1i z13 z1a z1b z11 z2q z1G z14 zU z3G z1O z1y z1t (z2t:ZM z14 = true) (z2i:ZM zU = true) (z3N:ZM z1O = true):Sim Z4e (Z52 z38 z1e z23 zV z1h z12 z1j z1i z13 z1a z1b z11 z1G) (Zmx 0 (.ptr 0 0) (.ptr 1 0) (.ptr 2 0) (.ptr 3 0) [(ZT b0 z14 zU),(Z1E b1),(ZL z38 z31 z1e z2F z23 zV z1h z3G z1O),(Z9w z12 z1j z1i z13 z1a z1b z11 z2q z1G z1y z1t)]):=by
 unfold Z52
 refine zf (ZzS ..)<|ze<|zq<|zq<|zq<|zp (iv (z23.length:Int)) (et_ (Z37 (P:=PP) (t:=55) (d:=61) (by kernel_rfl) Z2Z (shrO z1O) z23)) ?_
 exact zk (ZfF z23 (z23.length:Int) 0 b0 b1 z38 z31 z1e z2F z23 zV z1h z12 z1j z1i z13 z1a z1b z11 z2q z1G (shrO z1O) z14 zU z3G z1O z1y z1t z2t z2i z3N)
def Z9k (z38:List Int) (z31 z1e:Int) (z23:List ZA) (zV z1h z12 z1j z1i z13 z1a:Int) (z1b:List Z8) (z11:List Z9) (z1G:Bool):Option (Z1f × Z16) :=
 (Z1g 20 z31 z38 zV z1h).bind fun r1 =>
 Z52 z38 z1e z23 r1.2.1 r1.2.2 z12 z1j z1i z13 z1a z1b z11 z1G
theorem Zly b0 b1 z38 z31 z1e z2F z23 zV z1h z12 z1j z1i z13 z1a z1b z11 z2q z1G z14 zU z3G z1O z1y z1t (z2t:ZM z14 = true) (z2i:ZM zU = true) (z3N:ZM z1O = true):Sim Z4e (Z9k z38 z31 z1e z23 zV z1h z12 z1j z1i z13 z1a z1b z11 z1G) (Zts 0 (.ptr 0 0) (.ptr 1 0) (.ptr 2 0) (.ptr 3 0) [(ZT b0 z14 zU),(Z1E b1),(ZL z38 z31 z1e z2F z23 zV z1h z3G z1O),(Z9w z12 z1j z1i z13 z1a z1b z11 z2q z1G z1y z1t)]):=by
 unfold Z9k
 refine zf (ZzR ..)<|ze<|zq<|zq<|zq<|zi fun r1 hr1 => ?_
 obtain ⟨_,er1,_,rfl⟩:=Z1k 20 z31 z38 z31 z1e z2F z23 zV z1h z3G z1O z3N r1 hr1
 refine zc [2] (.p (.tup [])) [(ZT b0 z14 zU),(Z1E b1),(ZL z38 r1.1 z1e z2F z23 r1.2.1 r1.2.2 z3G z1O),(Z9w z12 z1j z1i z13 z1a z1b z11 z2q z1G z1y z1t)] er1 ?_
 exact zk (Zbs b0 b1 z38 r1.1 z1e z2F z23 r1.2.1 r1.2.2 z12 z1j z1i z13 z1a z1b z11 z2q z1G z14 zU z3G z1O z1y z1t z2t z2i z3N)
def Zbk (x0:ByteArray):Option (Z1f × Z16) :=
 (Z1L (ByteArray.mk #[40,63,105,41]) (Z4i x0) 0).bind fun r1 =>
 (Z4k (Z4i x0) r1.2 0 0 ([]:List ZA) 0 0).bind fun r2 =>
 if (r2.2.2.2.2.2.1 == 0) = true then
 (if (decide (r2.2.1 < ((Z4i x0).length:Int))) = true then
 (Z9k (Z4i x0) r2.2.1 r2.2.2.1 r2.2.2.2.2.1 r2.2.2.2.2.2.1 r2.2.2.2.2.2.2 r2.1.Kind r2.1.Lo r2.1.Hi r2.1.Mode r2.1.Ref r2.1.Set r2.1.Kids r1.1)
 else
 (Z52 (Z4i x0) r2.2.2.1 r2.2.2.2.2.1 r2.2.2.2.2.2.1 r2.2.2.2.2.2.2 r2.1.Kind r2.1.Lo r2.1.Hi r2.1.Mode r2.1.Ref r2.1.Set r2.1.Kids r1.1))
 else
 (Z52 (Z4i x0) r2.2.2.1 r2.2.2.2.2.1 r2.2.2.2.2.2.1 r2.2.2.2.2.2.2 r2.1.Kind r2.1.Lo r2.1.Hi r2.1.Mode r2.1.Ref r2.1.Set r2.1.Kids r1.1)
theorem Zlx x0 b0 b1 z14 zU (z2t:ZM z14 = true) (z2i:ZM zU = true):Sim Z4e (Zbk x0) (Ztr 0 (.p (.v (.string x0))) (.ptr 0 0) (.ptr 1 0) [(ZT b0 z14 zU),(Z1E b1)]):=by
 unfold Zbk
 refine zf (ZzQ ..)<|ze<|zp (ZP .sh ((Z4i x0).map (eI .u8))) (et_ (ZE1 (P:=PP) (s:=9) (d:=54) (by kernel_rfl) (by kernel_rfl) x0))<|zq<|zx (.ptr 2 0) [(ZT b0 z14 zU),(Z1E b1),(Z3W (Z1D.mk (Z4i x0) 0 0 0 ([]:List ZA) Zfw) .sh .nl)]<|ze<|zi fun r1 hr1 => ?_
 obtain ⟨_,er1,_,rfl⟩:=Z1T (ByteArray.mk #[40,63,105,41]) (Z4i x0) 0 0 0 ([]:List ZA) 0 0 .sh .nl rfl r1 hr1
 refine zc [2] (bv r1.1) [(ZT b0 z14 zU),(Z1E b1),(Z3W (Z1D.mk (Z4i x0) r1.2 0 0 ([]:List ZA) Zfw) .sh .nl)] er1<|zq<|zz (.ptr 3 0) [(ZT b0 z14 zU),(Z1E b1),(Z3W (Z1D.mk (Z4i x0) r1.2 0 0 ([]:List ZA) Zfw) .sh .nl),(ZT ZdE .nl .nl)]<|zt [(ZT b0 z14 zU),(Z1E b1),(Z3W (Z1D.mk (Z4i x0) r1.2 0 0 ([]:List ZA) Zfw) .sh .nl),(ZT (Z1f.mk Z1F 0 r1.1) .nl .nl)]<|ze<|zi fun r2 hr2 => ?_
 obtain ⟨_,er2,zl7,_,zp7,rfl⟩:=ZeF (Z4i x0) r1.2 0 0 ([]:List ZA) 0 0 .sh .nl rfl r2 hr2
 refine zc [2] (pA_ (ZI r2.1 .sh .sh)) [(ZT b0 z14 zU),(Z1E b1),(ZL (Z4i x0) r2.2.1 r2.2.2.1 r2.2.2.2.1 r2.2.2.2.2.1 r2.2.2.2.2.2.1 r2.2.2.2.2.2.2 .sh zl7),(ZT (Z1f.mk Z1F 0 r1.1) .nl .nl)] er2<|zq<|zt [(ZT b0 z14 zU),(Z1E b1),(ZL (Z4i x0) r2.2.1 r2.2.2.1 r2.2.2.2.1 r2.2.2.2.2.1 r2.2.2.2.2.2.1 r2.2.2.2.2.2.2 .sh zl7),(Z9w r2.1.Kind r2.1.Lo r2.1.Hi r2.1.Mode r2.1.Ref r2.1.Set r2.1.Kids 0 r1.1 .sh .sh)]<|ze<|zq<|zq<|zq<|zq<|zq ?_
 refine za (r2.2.2.2.2.2.1 == 0) ?_ ?_
 ·refine zq<|zq<|zq<|zq<|zq<|zq<|zp (iv ((Z4i x0).length:Int)) (et_ (Z37 (P:=PP) (t:=54) (d:=5) (by kernel_rfl) (eI .u8) .sh (Z4i x0)))<|zq ?_
  refine za (decide (r2.2.1 < ((Z4i x0).length:Int))) ?_ ?_
  ·exact zk (Zly b0 b1 (Z4i x0) r2.2.1 r2.2.2.1 r2.2.2.2.1 r2.2.2.2.2.1 r2.2.2.2.2.2.1 r2.2.2.2.2.2.2 r2.1.Kind r2.1.Lo r2.1.Hi r2.1.Mode r2.1.Ref r2.1.Set r2.1.Kids 0 r1.1 z14 zU .sh zl7 .sh .sh z2t z2i zp7)
  ·exact zk (Zbs b0 b1 (Z4i x0) r2.2.1 r2.2.2.1 r2.2.2.2.1 r2.2.2.2.2.1 r2.2.2.2.2.2.1 r2.2.2.2.2.2.2 r2.1.Kind r2.1.Lo r2.1.Hi r2.1.Mode r2.1.Ref r2.1.Set r2.1.Kids 0 r1.1 z14 zU .sh zl7 .sh .sh z2t z2i zp7)
 ·exact zk (Zbs b0 b1 (Z4i x0) r2.2.1 r2.2.2.1 r2.2.2.2.1 r2.2.2.2.2.1 r2.2.2.2.2.2.1 r2.2.2.2.2.2.2 r2.1.Kind r2.1.Lo r2.1.Hi r2.1.Mode r2.1.Ref r2.1.Set r2.1.Kids 0 r1.1 z14 zU .sh zl7 .sh .sh z2t z2i zp7)
def ZdY (x0:ByteArray):Option (Z1f × Z16) :=
 if (decide (256 < (x0.size:Int))) = true then
 (some ((Z1f.mk (Z9.mk 0 0 0 0 0 ([]:List Z8) ([]:List Z9)) 0 false),(Z16.mk 12 0)))
 else
 (Zbk x0)
theorem Zoi x0:Sim Z4e (ZdY x0) (EE 10 [(.p (.v (.string x0)))] []):=by
 unfold ZdY
 refine zf (ZFy ..)<|ze<|zz (.ptr 0 0) [(ZT ZdE .nl .nl)]<|zz (.ptr 1 0) [(ZT ZdE .nl .nl),(Z1E Zfw)]<|ze<|zq<|zq ?_
 refine za (decide (256 < (x0.size:Int))) ?_ ?_
 ·refine ze<|zq<|zq<|zt [(ZT ZdE .nl .nl),(Z1E Zfw)]<|zt [(ZT ZdE .nl .nl),(Z1E (Z16.mk 12 0))] ?_
  exact zr ((.p (.tup [(.agg (Z2R ZdE .sh .sh)),(.agg (Z5p (Z16.mk 12 0)))])),[(ZT ZdE .nl .nl),(Z1E (Z16.mk 12 0))]) ⟨_,rfl⟩
 ·exact zk (Zlx x0 ZdE Zfw .nl .nl rfl rfl)
theorem ZoU x0 {r} (h:ZdY x0 = some r):Ze2 x0 = some r :=
 Z1l (fun _ _ ha hb => ru_ Zjy ha hb) (Zoi x0 r h)
def Z5s (x50:List ZA) (x51 x52:Int) (z38:List Int) (z1e zV z1h z12 z1j z1i z13 z1a:Int) (z1b:List Z8) (z11:List Z9) (z1G:Bool):Option (Z1f × Z16) :=
 Z81 x50 x51 (IntKind.i64.wrap (x52 + 1)) z38 z1e zV z1h z12 z1j z1i z13 z1a z1b z11 z1G
theorem ZeD (x50:List ZA) x51 x52 b0 b1 z38 z31 z1e z2F z23 zV z1h z12 z1j z1i z13 z1a z1b z11 z2q z1G ox50 z14 zU z3G z1O z1y z1t (z2t:ZM z14 = true) (z2i:ZM zU = true) (z3N:ZM z1O = true):Sim Z4e (Z5s x50 x51 x52 z38 z1e zV z1h z12 z1j z1i z13 z1a z1b z11 z1G) (ZnQ 0 (.ptr 0 0) (.ptr 1 0) (.ptr 2 0) (.ptr 3 0) (ZP ox50 (x50.map Z2Z)) (iv x51) (iv x52) [(ZT b0 z14 zU),(Z1E b1),(ZL z38 z31 z1e z2F z23 zV z1h z3G z1O),(Z9w z12 z1j z1i z13 z1a z1b z11 z2q z1G z1y z1t)]):=by
 unfold Z5s
 refine zf (ZxV ..)<|ze<|zq ?_
 exact zk (ZfF x50 x51 (IntKind.i64.wrap (x52 + 1)) b0 b1 z38 z31 z1e z2F z23 zV z1h z12 z1j z1i z13 z1a z1b z11 z2q z1G ox50 z14 zU z3G z1O z1y z1t z2t z2i z3N)
def Z8Q (x50:List ZA) (x51 x52:Int) (z38:List Int) (z1e zV z1h z12 z1j z1i z13 z1a:Int) (z1b:List Z8) (z11:List Z9) (z1G:Bool):Option (Z1f × Z16) :=
 (lget x50 x52).bind fun a1 =>
 if (decide (z1e < a1.group)) = true then
 ((Z1g 26 a1.at_ z38 zV z1h).bind fun r2 =>
 Z5s x50 x51 x52 z38 z1e r2.2.1 r2.2.2 z12 z1j z1i z13 z1a z1b z11 z1G)
 else
 (Z5s x50 x51 x52 z38 z1e zV z1h z12 z1j z1i z13 z1a z1b z11 z1G)
theorem ZkM (x50:List ZA) x51 x52 b0 b1 z38 z31 z1e z2F z23 zV z1h z12 z1j z1i z13 z1a z1b z11 z2q z1G ox50 z14 zU z3G z1O z1y z1t (z2t:ZM z14 = true) (z2i:ZM zU = true) (z3N:ZM z1O = true):Sim Z4e (Z8Q x50 x51 x52 z38 z1e zV z1h z12 z1j z1i z13 z1a z1b z11 z1G) (ZrB 0 (.ptr 0 0) (.ptr 1 0) (.ptr 2 0) (.ptr 3 0) (ZP ox50 (x50.map Z2Z)) (iv x51) (iv x52) [(ZT b0 z14 zU),(Z1E b1),(ZL z38 z31 z1e z2F z23 zV z1h z3G z1O),(Z9w z12 z1j z1i z13 z1a z1b z11 z2q z1G z1y z1t)]):=by
 unfold Z8Q
 refine zf (ZxU ..)<|ze<|zi fun a1 ha1 => zp (.cptr (Zep a1)) (et_ (Z2Q (o:=ox50) (k:=.i64) (n:=2) (e:=Z2Z) (cs:=Zbp) (fun _ => rfl) (fun _ => rfl) (by decide) ha1))<|zq<|zz (.ptr 4 0) [(ZT b0 z14 zU),(Z1E b1),(ZL z38 z31 z1e z2F z23 zV z1h z3G z1O),(Z9w z12 z1j z1i z13 z1a z1b z11 z2q z1G z1y z1t),(Zex (ZA.mk 0 0))]<|zt [(ZT b0 z14 zU),(Z1E b1),(ZL z38 z31 z1e z2F z23 zV z1h z3G z1O),(Z9w z12 z1j z1i z13 z1a z1b z11 z2q z1G z1y z1t),(Zex a1)]<|ze<|zq<|zq<|zq<|zq<|zq<|zq ?_
 refine za (decide (z1e < a1.group)) ?_ ?_
 ·refine ze<|zq<|zq<|zi fun r2 hr2 => ?_
  obtain ⟨_,er2,_,rfl⟩:=Z1k 26 a1.at_ z38 z31 z1e z2F z23 zV z1h z3G z1O z3N r2 hr2
  refine zc [2] (.p (.tup [])) [(ZT b0 z14 zU),(Z1E b1),(ZL z38 r2.1 z1e z2F z23 r2.2.1 r2.2.2 z3G z1O),(Z9w z12 z1j z1i z13 z1a z1b z11 z2q z1G z1y z1t),(Zex a1)] er2 ?_
  exact zk (ZeD x50 x51 x52 b0 b1 z38 r2.1 z1e z2F z23 r2.2.1 r2.2.2 z12 z1j z1i z13 z1a z1b z11 z2q z1G ox50 z14 zU z3G z1O z1y z1t z2t z2i z3N)
 ·exact zk (ZeD x50 x51 x52 b0 b1 z38 z31 z1e z2F z23 zV z1h z12 z1j z1i z13 z1a z1b z11 z2q z1G ox50 z14 zU z3G z1O z1y z1t z2t z2i z3N)
def Zdp (z1e z12 z1j z1i z13 z1a:Int) (z1b:List Z8) (z11:List Z9) (z1G:Bool):Option (Z1f × Z16) :=
 some ((Z1f.mk (Z9.mk z12 z1j z1i z13 z1a z1b z11) z1e z1G),(Z16.mk 0 0))
theorem ZkO b0 b1 z38 z31 z1e z2F z23 zV z1h z12 z1j z1i z13 z1a z1b z11 z2q z1G z14 zU z3G z1O z1y z1t (z2t:ZM z14 = true) (z2i:ZM zU = true) (z3N:ZM z1O = true):Sim Z4e (Zdp z1e z12 z1j z1i z13 z1a z1b z11 z1G) (ZrD 0 (.ptr 0 0) (.ptr 1 0) (.ptr 2 0) (.ptr 3 0) [(ZT b0 z14 zU),(Z1E b1),(ZL z38 z31 z1e z2F z23 zV z1h z3G z1O),(Z9w z12 z1j z1i z13 z1a z1b z11 z2q z1G z1y z1t)]):=by
 unfold Zdp
 refine zf (ZxX ..)<|ze<|zq<|zq<|zq<|zq<|zt [(ZT b0 z14 zU),(Z1E b1),(ZL z38 z31 z1e z2F z23 zV z1h z3G z1O),(Z9w z12 z1j z1i z13 z1a z1b z11 z1e z1G z1y z1t)]<|ze<|zq<|zq<|zt [(Z9w z12 z1j z1i z13 z1a z1b z11 z1e z1G (shrO z1y) (shrO z1t)),(Z1E b1),(ZL z38 z31 z1e z2F z23 zV z1h z3G z1O),(Z9w z12 z1j z1i z13 z1a z1b z11 z1e z1G z1y z1t)]<|zt [(Z9w z12 z1j z1i z13 z1a z1b z11 z1e z1G (shrO z1y) (shrO z1t)),(Z1E Zfw),(ZL z38 z31 z1e z2F z23 zV z1h z3G z1O),(Z9w z12 z1j z1i z13 z1a z1b z11 z1e z1G z1y z1t)] ?_
 exact zr ((.p (.tup [(.agg (Z2R (Z1f.mk (Z9.mk z12 z1j z1i z13 z1a z1b z11) z1e z1G) .sh .sh)),(.agg (Z5p Zfw))])),[(Z9w z12 z1j z1i z13 z1a z1b z11 z1e z1G (shrO z1y) (shrO z1t)),(Z1E Zfw),(ZL z38 z31 z1e z2F z23 zV z1h z3G z1O),(Z9w z12 z1j z1i z13 z1a z1b z11 z1e z1G z1y z1t)]) ⟨_,rfl⟩
def Z8R (z1e zV z1h z12 z1j z1i z13 z1a:Int) (z1b:List Z8) (z11:List Z9) (z1G:Bool):Option (Z1f × Z16) :=
 if (zV != 0) = true then
 (some ((Z1f.mk (Z9.mk 0 0 0 0 0 ([]:List Z8) ([]:List Z9)) 0 false),(Z16.mk zV z1h)))
 else
 (Zdp z1e z12 z1j z1i z13 z1a z1b z11 z1G)
theorem ZkN b0 b1 z38 z31 z1e z2F z23 zV z1h z12 z1j z1i z13 z1a z1b z11 z2q z1G z14 zU z3G z1O z1y z1t (z2t:ZM z14 = true) (z2i:ZM zU = true) (z3N:ZM z1O = true):Sim Z4e (Z8R z1e zV z1h z12 z1j z1i z13 z1a z1b z11 z1G) (ZrC 0 (.ptr 0 0) (.ptr 1 0) (.ptr 2 0) (.ptr 3 0) [(ZT b0 z14 zU),(Z1E b1),(ZL z38 z31 z1e z2F z23 zV z1h z3G z1O),(Z9w z12 z1j z1i z13 z1a z1b z11 z2q z1G z1y z1t)]):=by
 unfold Z8R
 refine zf (ZxW ..)<|ze<|zq<|zq<|zq<|zq<|zq ?_
 refine za (zV != 0) ?_ ?_
 ·refine ze<|zq<|zq<|zq<|zq<|zt [(ZT ZdE .nl .nl),(Z1E b1),(ZL z38 z31 z1e z2F z23 zV z1h z3G z1O),(Z9w z12 z1j z1i z13 z1a z1b z11 z2q z1G z1y z1t)]<|zt [(ZT ZdE .nl .nl),(Z1E (Z16.mk zV z1h)),(ZL z38 z31 z1e z2F z23 zV z1h z3G z1O),(Z9w z12 z1j z1i z13 z1a z1b z11 z2q z1G z1y z1t)]<|zg ?_
  exact zr ((.p (.tup [(.agg (Z2R ZdE .sh .sh)),(.agg (Z5p (Z16.mk zV z1h)))])),[(ZT ZdE .nl .nl),(Z1E (Z16.mk zV z1h)),(ZL z38 z31 z1e z2F z23 zV z1h z3G z1O),(Z9w z12 z1j z1i z13 z1a z1b z11 z2q z1G z1y z1t)]) ⟨_,rfl⟩
 ·exact zk (ZkO b0 b1 z38 z31 z1e z2F z23 zV z1h z12 z1j z1i z13 z1a z1b z11 z2q z1G z14 zU z3G z1O z1y z1t z2t z2i z3N)
def Z6I (x50:List ZA) (x51 x52:Int) (z38:List Int) (z1e zV z1h z12 z1j z1i z13 z1a:Int) (z1b:List Z8) (z11:List Z9) (z1G:Bool):Option (Z1f × Z16) :=
 if (decide (x52 < x51)) = true then
 (Z8Q x50 x51 x52 z38 z1e zV z1h z12 z1j z1i z13 z1a z1b z11 z1G)
 else
 (Z8R z1e zV z1h z12 z1j z1i z13 z1a z1b z11 z1G)
theorem Zlw (x50:List ZA) x51 x52 b0 b1 z38 z31 z1e z2F z23 zV z1h z12 z1j z1i z13 z1a z1b z11 z2q z1G ox50 z14 zU z3G z1O z1y z1t (z2t:ZM z14 = true) (z2i:ZM zU = true) (z3N:ZM z1O = true):Sim Z4e (Z6I x50 x51 x52 z38 z1e zV z1h z12 z1j z1i z13 z1a z1b z11 z1G) (Zmw 0 (.ptr 0 0) (.ptr 1 0) (.ptr 2 0) (.ptr 3 0) (ZP ox50 (x50.map Z2Z)) (iv x51) (iv x52) [(ZT b0 z14 zU),(Z1E b1),(ZL z38 z31 z1e z2F z23 zV z1h z3G z1O),(Z9w z12 z1j z1i z13 z1a z1b z11 z2q z1G z1y z1t)]):=by
 unfold Z6I
 refine zf (ZzP ..)<|ze<|zq ?_
 refine za (decide (x52 < x51)) ?_ ?_
 ·exact zk (ZkM x50 x51 x52 b0 b1 z38 z31 z1e z2F z23 zV z1h z12 z1j z1i z13 z1a z1b z11 z2q z1G ox50 z14 zU z3G z1O z1y z1t z2t z2i z3N)
 ·exact zk (ZkN b0 b1 z38 z31 z1e z2F z23 zV z1h z12 z1j z1i z13 z1a z1b z11 z2q z1G z14 zU z3G z1O z1y z1t z2t z2i z3N)
theorem Z9L x50 x51 x52 z38 z1e zV z1h z12 z1j z1i z13 z1a z1b z11 z1G {r} (h:Z6I x50 x51 x52 z38 z1e zV z1h z12 z1j z1i z13 z1a z1b z11 z1G = some r):Z81 x50 x51 x52 z38 z1e zV z1h z12 z1j z1i z13 z1a z1b z11 z1G = some r :=
 Z1l (fun _ _ ha hb => ru_ Zjy (ha default default default default default default .ex .ex .ex .ex .ex .ex .ex rfl rfl rfl) (hb default default default default default default .ex .ex .ex .ex .ex .ex .ex rfl rfl rfl)) (fun b0 b1 z31 z2F z23 z2q ox50 z14 zU z3G z1O z1y z1t z2t z2i z3N => Zlw x50 x51 x52 b0 b1 z38 z31 z1e z2F z23 zV z1h z12 z1j z1i z13 z1a z1b z11 z2q z1G ox50 z14 zU z3G z1O z1y z1t z2t z2i z3N r h)
def Z8d (zn:Int):Option (Bool × Int) :=
 some (false,zn)
theorem ZbJ zm zn z7 zh zj z2 z6 zu zd (zy:ZM zd = true):Sim (Z6B zm z7 zh zj z2 z6 zu zd) (Z8d zn) (ZpR 1 [(ZL zm zn z7 zh zj z2 z6 zu zd)]):=by
 unfold Z8d
 refine zf (ZAh ..)<|ze ?_
 exact zr ((bv false),[(ZL zm zn z7 zh zj z2 z6 zu zd)]) ⟨_,rfl⟩
def Z8e (x1:ByteArray) (zn:Int):Option (Bool × Int) :=
 some (true,(IntKind.i64.wrap (zn + (x1.size:Int))))
theorem Zht x1 zm zn z7 zh zj z2 z6 zu zd (zy:ZM zd = true):Sim (Z6B zm z7 zh zj z2 z6 zu zd) (Z8e x1 zn) (ZtU 1 (.ptr 0 0) (.p (.v (.string x1))) [(ZL zm zn z7 zh zj z2 z6 zu zd)]):=by
 unfold Z8e
 refine zf (ZAi ..)<|ze<|zq<|zq<|zq<|zq<|zq<|zq<|zq<|zt [(ZL zm (IntKind.i64.wrap (zn + (x1.size:Int))) z7 zh zj z2 z6 zu zd)]<|ze ?_
 exact zr ((bv true),[(ZL zm (IntKind.i64.wrap (zn + (x1.size:Int))) z7 zh zj z2 z6 zu zd)]) ⟨_,rfl⟩
def Z9K (x1:ByteArray) (zm:List Int) (zn:Int):Option (Bool × Int) :=
 if ((decide ((IntKind.i64.wrap ((zm.length:Int) - zn)) < (x1.size:Int)))) = true then
 (Z8d zn)
 else
 ((lsl zm zn (IntKind.i64.wrap (zn + (x1.size:Int)))).bind fun a1 =>
 if (!(seq (strI a1) x1)) = true then
 (Z8d zn)
 else
 (Z8e x1 zn))
theorem Zjw x1 zm zn z7 zh zj z2 z6 zu zd (zy:ZM zd = true):Sim (Z6B zm z7 zh zj z2 z6 zu zd) (Z9K x1 zm zn) (EE 19 [(.ptr 0 0),(.p (.v (.string x1)))] [(ZL zm zn z7 zh zj z2 z6 zu zd)]):=by
 unfold Z9K
 refine zf (ZFU ..)<|ze<|ze<|zq<|zq<|zq<|zp (iv (zm.length:Int)) (et_ (Z37 (P:=PP) (t:=54) (d:=5) (by kernel_rfl) (eI .u8) (shrO zu) zm))<|zq<|zq<|zq<|zq<|zq<|zq ?_
 refine za ((decide ((IntKind.i64.wrap ((zm.length:Int) - zn)) < (x1.size:Int)))) ?_ ?_
 ·exact zk (ZbJ zm zn z7 zh zj z2 z6 zu zd zy)
 ·refine zq<|zq<|zq<|zq<|zq<|zq<|zq<|zq<|zq<|zq<|zq<|zi fun a1 ha1 => zp (ZP (slO (shrO zu)) (a1.map (eI .u8))) (Eq.trans (by kernel_rfl) <| Zrr (n:=1) (o:=(shrO zu)) (lo:=(some (iv zn))) (hi:=(some (iv (IntKind.i64.wrap (zn + (x1.size:Int)))))) (e:=(eI .u8)) (fun _ => rfl) (by decide) (by kernel_rfl) (by kernel_rfl) ha1)<|zp (.p (.v (.string (strI a1)))) (et_ (ZE2 (P:=PP) (s:=54) (d:=9) (by kernel_rfl) (slO (shrO zu)) a1))<|zq ?_
  refine za (!(seq (strI a1) x1)) ?_ ?_
  ·exact zk (ZbJ zm zn z7 zh zj z2 z6 zu zd zy)
  ·exact zk (Zht x1 zm zn z7 zh zj z2 z6 zu zd zy)
theorem Zk6 x1 zm zn {r} (h:Z9K x1 zm zn = some r):Z1L x1 zm zn = some r :=
 Z1l (fun _ _ ha hb => ru_ (Zki _ _ _ _ _ _ _ _) (ha default default default default default .ex .ex rfl) (hb default default default default default .ex .ex rfl)) (fun z7 zh zj z2 z6 zu zd zy => Zjw x1 zm zn z7 zh zj z2 z6 zu zd zy r h)
def Z6R (zm:List Int) (zn z7 zh:Int) (zj:List ZA) (z2 z6:Int):Option (Z9 × Int × Int × Int × (List ZA) × Int × Int) :=
 (Z6Y zm zn z7 zh zj z2 z6).bind fun r1 =>
 Z5L ([r1.1]:List Z9) zm r1.2.1 r1.2.2.1 r1.2.2.2.1 r1.2.2.2.2.1 r1.2.2.2.2.2.1 r1.2.2.2.2.2.2
theorem Zk0 zm zn z7 zh zj z2 z6 zu zd (zy:ZM zd = true):Sim (Z2C zm zu) (Z6R zm zn z7 zh zj z2 z6) (EE 20 [(.ptr 0 0)] [(ZL zm zn z7 zh zj z2 z6 zu zd)]):=by
 unfold Z6R
 refine zf (ZFW ..)<|ze<|zz (.ptr 1 0) [(ZL zm zn z7 zh zj z2 z6 zu zd),(Zk Z1F .nl .nl)]<|ze<|zi fun r1 hr1 => ?_
 obtain ⟨_,er1,z5r,_,z9v,rfl⟩:=ZeH zm zn z7 zh zj z2 z6 zu zd zy r1 hr1
 refine zc [0] (pA_ (ZI r1.1 .sh .sh)) [(ZL zm r1.2.1 r1.2.2.1 r1.2.2.2.1 r1.2.2.2.2.1 r1.2.2.2.2.2.1 r1.2.2.2.2.2.2 zu z5r),(Zk Z1F .nl .nl)] er1<|zp (ZP .ex (([r1.1]:List Z9).map ZJ)) (Eq.trans (b:=some (ZP .ex [.agg (Z21 r1.1)])) (by kernel_rfl) (by simp only [Z99,Zev,Z55])) ?_
 exact zk (Zcn ([r1.1]:List Z9) zm r1.2.1 r1.2.2.1 r1.2.2.2.1 r1.2.2.2.2.1 r1.2.2.2.2.2.1 r1.2.2.2.2.2.2 Z1F .ex zu z5r .nl .nl rfl z9v rfl rfl)
theorem ZeE zm zn z7 zh zj z2 z6 {r} (h:Z6R zm zn z7 zh zj z2 z6 = some r):Z4k zm zn z7 zh zj z2 z6 = some r :=
 Z1l (fun _ _ ha hb => ru_ (Z91 _ _) (ha .ex .ex rfl) (hb .ex .ex rfl)) (fun zu zd zy => Zk0 zm zn z7 zh zj z2 z6 zu zd zy r h)
def Z8C (x3:List Z9) (zm:List Int) (zn z7 zh:Int) (zj:List ZA) (z2 z6:Int):Option (Z9 × Int × Int × Int × (List ZA) × Int × Int) :=
 (Z6Y zm zn z7 zh zj z2 z6).bind fun r1 =>
 (lapp x3 ([r1.1]:List Z9)).bind fun a2 =>
 Z5L a2 zm r1.2.1 r1.2.2.1 r1.2.2.2.1 r1.2.2.2.2.1 r1.2.2.2.2.2.1 r1.2.2.2.2.2.2
theorem ZhY (x3:List Z9) zm zn z7 zh zj z2 z6 b1 ox3 zu zd zH zE (hox3:ZM ox3 = true) (zy:ZM zd = true) (z19:ZM zH = true) (zY:ZM zE = true):Sim (Z2C zm zu) (Z8C x3 zm zn z7 zh zj z2 z6) (ZtY 1 (.ptr 0 0) (.ptr 1 0) (ZP ox3 (x3.map ZJ)) [(ZL zm zn z7 zh zj z2 z6 zu zd),(Zk b1 zH zE)]):=by
 unfold Z8C
 refine zf (ZAk ..)<|ze<|zi fun r1 hr1 => ?_
 obtain ⟨_,er1,z5r,_,z9v,rfl⟩:=ZeH zm zn z7 zh zj z2 z6 zu zd zy r1 hr1
 refine zc [0] (pA_ (ZI r1.1 .sh .sh)) [(ZL zm r1.2.1 r1.2.2.1 r1.2.2.2.1 r1.2.2.2.2.1 r1.2.2.2.2.2.1 r1.2.2.2.2.2.2 zu z5r),(Zk b1 zH zE)] er1<|zp (ZP .ex (([r1.1]:List Z9).map ZJ)) (Eq.trans (b:=some (ZP .ex [.agg (Z21 r1.1)])) (by kernel_rfl) (by simp only [Z99,Zev,Z55]))<|zi fun a2 ha2 => zp (ZP .un (a2.map ZJ)) (Eq.trans (by kernel_rfl) <| ZeP (n:=7) (o:=ox3) (o':=.ex) (e:=ZJ) (ys:=([r1.1]:List Z9)) Zgc (by decide) hox3 ha2) ?_
 exact zk (Zcn a2 zm r1.2.1 r1.2.2.1 r1.2.2.2.1 r1.2.2.2.2.1 r1.2.2.2.2.2.1 r1.2.2.2.2.2.2 b1 .un zu z5r zH zE rfl z9v z19 zY)
def Z6S (x3:List Z9) (zn z7 zh:Int) (zj:List ZA) (z2 z6:Int):Option (Z9 × Int × Int × Int × (List ZA) × Int × Int) :=
 (ZaZ 3 x3).bind fun r1 =>
 some (r1,zn,z7,zh,zj,z2,z6)
theorem ZhZ (x3:List Z9) zm zn z7 zh zj z2 z6 b1 ox3 zu zd zH zE (hox3:ZM ox3 = true) (zy:ZM zd = true) (z19:ZM zH = true) (zY:ZM zE = true):Sim (Z2C zm zu) (Z6S x3 zn z7 zh zj z2 z6) (ZtZ 1 (.ptr 1 0) (ZP ox3 (x3.map ZJ)) [(ZL zm zn z7 zh zj z2 z6 zu zd),(Zk b1 zH zE)]):=by
 unfold Z6S
 refine zf (ZAl ..)<|ze<|zi fun r1 hr1 => ?_
 obtain ⟨_,er1,_,rfl⟩:=ZhJ 3 x3 .sh r1 hr1
 refine zc [] (pA_ (ZI r1 .sh .sh)) [(ZL zm zn z7 zh zj z2 z6 zu zd),(Zk b1 zH zE)] er1<|zt [(ZL zm zn z7 zh zj z2 z6 zu zd),(Zk r1 .sh .sh)] ?_
 exact zr ((pA_ (ZI r1 .sh .sh)),[(ZL zm zn z7 zh zj z2 z6 zu zd),(Zk r1 .sh .sh)]) ⟨zd,_,zy,rfl⟩
def Z5H (x3:List Z9) (zm:List Int) (zn z7 zh:Int) (zj:List ZA) (z2 z6:Int):Option (Z9 × Int × Int × Int × (List ZA) × Int × Int) :=
 (Z1L (ByteArray.mk #[124]) zm zn).bind fun r1 =>
 if r1.1 = true then
 (Z8C x3 zm r1.2 z7 zh zj z2 z6)
 else
 (Z6S x3 r1.2 z7 zh zj z2 z6)
theorem ZhX (x3:List Z9) zm zn z7 zh zj z2 z6 b1 ox3 zu zd zH zE (hox3:ZM ox3 = true) (zy:ZM zd = true) (z19:ZM zH = true) (zY:ZM zE = true):Sim (Z2C zm zu) (Z5H x3 zm zn z7 zh zj z2 z6) (ZmC 1 (.ptr 0 0) (.ptr 1 0) (ZP ox3 (x3.map ZJ)) [(ZL zm zn z7 zh zj z2 z6 zu zd),(Zk b1 zH zE)]):=by
 unfold Z5H
 refine zf (ZAj ..)<|ze<|zi fun r1 hr1 => ?_
 obtain ⟨_,er1,_,rfl⟩:=Z1T (ByteArray.mk #[124]) zm zn z7 zh zj z2 z6 zu zd zy r1 hr1
 refine zc [0] (bv r1.1) [(ZL zm r1.2 z7 zh zj z2 z6 zu zd),(Zk b1 zH zE)] er1 ?_
 refine za r1.1 ?_ ?_
 ·exact zk (ZhY x3 zm r1.2 z7 zh zj z2 z6 b1 ox3 zu zd zH zE hox3 zy z19 zY)
 ·exact zk (ZhZ x3 zm r1.2 z7 zh zj z2 z6 b1 ox3 zu zd zH zE hox3 zy z19 zY)
theorem Zcm x3 zm zn z7 zh zj z2 z6 {r} (h:Z5H x3 zm zn z7 zh zj z2 z6 = some r):Z5L x3 zm zn z7 zh zj z2 z6 = some r :=
 Z1l (fun _ _ ha hb => ru_ (Z91 _ _) (ha default .ex .ex .ex .ex .ex rfl rfl rfl rfl) (hb default .ex .ex .ex .ex .ex rfl rfl rfl rfl)) (fun b1 ox3 zu zd zH zE hox3 zy z19 zY => ZhX x3 zm zn z7 zh zj z2 z6 b1 ox3 zu zd zH zE hox3 zy z19 zY r h)
def Z8l (zm:List Int) (zn z7 zh:Int) (zj:List ZA) (z2 z6:Int):Option (Z9 × Int × Int × Int × (List ZA) × Int × Int) :=
 Z5M ([]:List Z9) zm zn z7 zh zj z2 z6
theorem Zk3 zm zn z7 zh zj z2 z6 zu zd (zy:ZM zd = true):Sim (Z2C zm zu) (Z8l zm zn z7 zh zj z2 z6) (EE 30 [(.ptr 0 0)] [(ZL zm zn z7 zh zj z2 z6 zu zd)]):=by
 unfold Z8l
 refine zf (ZGd ..)<|ze<|zz (.ptr 1 0) [(ZL zm zn z7 zh zj z2 z6 zu zd),(Zk Z1F .nl .nl)]<|ze ?_
 exact zk (Zcp ([]:List Z9) zm zn z7 zh zj z2 z6 Z1F .nl zu zd .nl .nl rfl zy rfl rfl)
theorem ZeG zm zn z7 zh zj z2 z6 {r} (h:Z8l zm zn z7 zh zj z2 z6 = some r):Z6Y zm zn z7 zh zj z2 z6 = some r :=
 Z1l (fun _ _ ha hb => ru_ (Z91 _ _) (ha .ex .ex rfl) (hb .ex .ex rfl)) (fun zu zd zy => Zk3 zm zn z7 zh zj z2 z6 zu zd zy r h)
def Z3C (x3:List Z9) (zn z7 zh:Int) (zj:List ZA) (z2 z6:Int):Option (Z9 × Int × Int × Int × (List ZA) × Int × Int) :=
 (ZaZ 2 x3).bind fun r1 =>
 some (r1,zn,z7,zh,zj,z2,z6)
theorem Z76 (x3:List Z9) zm zn z7 zh zj z2 z6 b1 ox3 zu zd zH zE (hox3:ZM ox3 = true) (zy:ZM zd = true) (z19:ZM zH = true) (zY:ZM zE = true):Sim (Z2C zm zu) (Z3C x3 zn z7 zh zj z2 z6) (Zkt 1 (.ptr 1 0) (ZP ox3 (x3.map ZJ)) [(ZL zm zn z7 zh zj z2 z6 zu zd),(Zk b1 zH zE)]):=by
 unfold Z3C
 refine zf (ZAx ..)<|ze<|zi fun r1 hr1 => ?_
 obtain ⟨_,er1,_,rfl⟩:=ZhJ 2 x3 .sh r1 hr1
 refine zc [] (pA_ (ZI r1 .sh .sh)) [(ZL zm zn z7 zh zj z2 z6 zu zd),(Zk b1 zH zE)] er1<|zt [(ZL zm zn z7 zh zj z2 z6 zu zd),(Zk r1 .sh .sh)] ?_
 exact zr ((pA_ (ZI r1 .sh .sh)),[(ZL zm zn z7 zh zj z2 z6 zu zd),(Zk r1 .sh .sh)]) ⟨zd,_,zy,rfl⟩
def Z4z (x3:List Z9) (zm:List Int) (zn z7 zh:Int) (zj:List ZA) (z2 z6:Int):Option (Z9 × Int × Int × Int × (List ZA) × Int × Int) :=
 (Z9M zm zn z7 zh zj z2 z6).bind fun r1 =>
 (Z70 r1.1 r1.2.1 zm r1.2.2.1 r1.2.2.2.1 r1.2.2.2.2.1 r1.2.2.2.2.2.1 r1.2.2.2.2.2.2.1 r1.2.2.2.2.2.2.2).bind fun r2 =>
 (lapp x3 ([r2.1]:List Z9)).bind fun a3 =>
 Z5M a3 zm r2.2.1 r1.2.2.2.1 r1.2.2.2.2.1 r1.2.2.2.2.2.1 r2.2.2.1 r2.2.2.2
theorem Z94 (x3:List Z9) zm zn z7 zh zj z2 z6 b1 ox3 zu zd zH zE (hox3:ZM ox3 = true) (zy:ZM zd = true) (z19:ZM zH = true) (zY:ZM zE = true):Sim (Z2C zm zu) (Z4z x3 zm zn z7 zh zj z2 z6) (ZmG 1 (.ptr 0 0) (.ptr 1 0) (ZP ox3 (x3.map ZJ)) [(ZL zm zn z7 zh zj z2 z6 zu zd),(Zk b1 zH zE)]):=by
 unfold Z4z
 refine zf (ZAw ..)<|ze<|zi fun r1 hr1 => ?_
 obtain ⟨_,er1,z5r,_,z9v,rfl⟩:=Zk2 zm zn z7 zh zj z2 z6 zu zd zy r1 hr1
 refine zc [0] (.p (.tup [(.agg (ZI r1.1 .sh .sh)),(.v (.bool r1.2.1))])) [(ZL zm r1.2.2.1 r1.2.2.2.1 r1.2.2.2.2.1 r1.2.2.2.2.2.1 r1.2.2.2.2.2.2.1 r1.2.2.2.2.2.2.2 zu z5r),(Zk b1 zH zE)] er1<|zq<|zq<|zz (.ptr 2 0) [(ZL zm r1.2.2.1 r1.2.2.2.1 r1.2.2.2.2.1 r1.2.2.2.2.2.1 r1.2.2.2.2.2.2.1 r1.2.2.2.2.2.2.2 zu z5r),(Zk b1 zH zE),(Zk Z1F .nl .nl)]<|zt [(ZL zm r1.2.2.1 r1.2.2.2.1 r1.2.2.2.2.1 r1.2.2.2.2.2.1 r1.2.2.2.2.2.2.1 r1.2.2.2.2.2.2.2 zu z5r),(Zk b1 zH zE),(Zk r1.1 .sh .sh)]<|ze<|zq<|zi fun r2 hr2 => ?_
 obtain ⟨_,er2,_,rfl⟩:=ZiW r1.1 r1.2.1 zm r1.2.2.1 r1.2.2.2.1 r1.2.2.2.2.1 r1.2.2.2.2.2.1 r1.2.2.2.2.2.2.1 r1.2.2.2.2.2.2.2 .sh .sh zu z5r z9v r2 hr2
 refine zc [0] (pA_ (ZI r2.1 .sh .sh)) [(ZL zm r2.2.1 r1.2.2.2.1 r1.2.2.2.2.1 r1.2.2.2.2.2.1 r2.2.2.1 r2.2.2.2 zu z5r),(Zk b1 zH zE),(Zk r1.1 .sh .sh)] er2<|zp (ZP .ex (([r2.1]:List Z9).map ZJ)) (Eq.trans (b:=some (ZP .ex [.agg (Z21 r2.1)])) (by kernel_rfl) (by simp only [Z99,Zev,Z55]))<|zi fun a3 ha3 => zp (ZP .un (a3.map ZJ)) (Eq.trans (by kernel_rfl) <| ZeP (n:=7) (o:=ox3) (o':=.ex) (e:=ZJ) (ys:=([r2.1]:List Z9)) Zgc (by decide) hox3 ha3) ?_
 exact zk (Zcp a3 zm r2.2.1 r1.2.2.2.1 r1.2.2.2.2.1 r1.2.2.2.2.2.1 r2.2.2.1 r2.2.2.2 b1 .un zu z5r zH zE rfl z9v z19 zY)
def Z6U (x3:List Z9) (zm:List Int) (zn z7 zh:Int) (zj:List ZA) (z2 z6:Int):Option (Z9 × Int × Int × Int × (List ZA) × Int × Int) :=
 (Z2I (Z1D.mk zm zn z7 zh zj (Z16.mk z2 z6))).bind fun r1 =>
 if (r1 == (-1)) = true then
 (if (r1 == (-1)) = true then
 (Z3C x3 zn z7 zh zj z2 z6)
 else
 (Z4z x3 zm zn z7 zh zj z2 z6))
 else
 (if (r1 == 124) = true then
 (if (r1 == 124) = true then
 (Z3C x3 zn z7 zh zj z2 z6)
 else
 (Z4z x3 zm zn z7 zh zj z2 z6))
 else
 (if (r1 == 41) = true then
 (Z3C x3 zn z7 zh zj z2 z6)
 else
 (Z4z x3 zm zn z7 zh zj z2 z6)))
theorem Zi1 (x3:List Z9) zm zn z7 zh zj z2 z6 b1 ox3 zu zd zH zE (hox3:ZM ox3 = true) (zy:ZM zd = true) (z19:ZM zH = true) (zY:ZM zE = true):Sim (Z2C zm zu) (Z6U x3 zm zn z7 zh zj z2 z6) (Zu8 1 (.ptr 0 0) (.ptr 1 0) (ZP ox3 (x3.map ZJ)) [(ZL zm zn z7 zh zj z2 z6 zu zd),(Zk b1 zH zE)]):=by
 unfold Z6U
 refine zf (ZAv ..)<|ze<|zi fun r1 hr1 => ?_
 obtain ⟨_,er1,_,rfl⟩:=Z2W (Z1D.mk zm zn z7 zh zj (Z16.mk z2 z6)) zu zd zy r1 hr1
 refine zc [0] (iv r1) [(ZL zm zn z7 zh zj z2 z6 zu zd),(Zk b1 zH zE)] er1<|ze<|zq ?_
 refine za (r1 == (-1)) ?_ ?_
 ·refine za (r1 == (-1)) ?_ ?_
  ·exact zk (Z76 x3 zm zn z7 zh zj z2 z6 b1 ox3 zu zd zH zE hox3 zy z19 zY)
  ·exact zk (Z94 x3 zm zn z7 zh zj z2 z6 b1 ox3 zu zd zH zE hox3 zy z19 zY)
 ·refine ze<|zq ?_
  refine za (r1 == 124) ?_ ?_
  ·refine za (r1 == 124) ?_ ?_
   ·exact zk (Z76 x3 zm zn z7 zh zj z2 z6 b1 ox3 zu zd zH zE hox3 zy z19 zY)
   ·exact zk (Z94 x3 zm zn z7 zh zj z2 z6 b1 ox3 zu zd zH zE hox3 zy z19 zY)
  ·refine ze<|zq ?_
   refine za (r1 == 41) ?_ ?_
   ·exact zk (Z76 x3 zm zn z7 zh zj z2 z6 b1 ox3 zu zd zH zE hox3 zy z19 zY)
   ·exact zk (Z94 x3 zm zn z7 zh zj z2 z6 b1 ox3 zu zd zH zE hox3 zy z19 zY)
def Z6T (x3:List Z9) (zm:List Int) (zn z7 zh:Int) (zj:List ZA) (z2 z6:Int):Option (Z9 × Int × Int × Int × (List ZA) × Int × Int) :=
 if (z2 == 0) = true then
 (Z6U x3 zm zn z7 zh zj z2 z6)
 else
 (Z3C x3 zn z7 zh zj z2 z6)
theorem Zi0 (x3:List Z9) zm zn z7 zh zj z2 z6 b1 ox3 zu zd zH zE (hox3:ZM ox3 = true) (zy:ZM zd = true) (z19:ZM zH = true) (zY:ZM zE = true):Sim (Z2C zm zu) (Z6T x3 zm zn z7 zh zj z2 z6) (ZmF 1 (.ptr 0 0) (.ptr 1 0) (ZP ox3 (x3.map ZJ)) [(ZL zm zn z7 zh zj z2 z6 zu zd),(Zk b1 zH zE)]):=by
 unfold Z6T
 refine zf (ZAu ..)<|ze<|zq<|zq<|zq<|zq<|zq ?_
 refine za (z2 == 0) ?_ ?_
 ·exact zk (Zi1 x3 zm zn z7 zh zj z2 z6 b1 ox3 zu zd zH zE hox3 zy z19 zY)
 ·exact zk (Z76 x3 zm zn z7 zh zj z2 z6 b1 ox3 zu zd zH zE hox3 zy z19 zY)
theorem Zco x3 zm zn z7 zh zj z2 z6 {r} (h:Z6T x3 zm zn z7 zh zj z2 z6 = some r):Z5M x3 zm zn z7 zh zj z2 z6 = some r :=
 Z1l (fun _ _ ha hb => ru_ (Z91 _ _) (ha default .ex .ex .ex .ex .ex rfl rfl rfl rfl) (hb default .ex .ex .ex .ex .ex rfl rfl rfl rfl)) (fun b1 ox3 zu zd zH zE hox3 zy z19 zY => Zi0 x3 zm zn z7 zh zj z2 z6 b1 ox3 zu zd zH zE hox3 zy z19 zY r h)
def Z8c (b0:Z1D):Option Int :=
 (ZdS b0.b b0.at_).bind fun r1 =>
 some r1.1
theorem Zhs b0 zu zd (zy:ZM zd = true):Sim (Z7P b0 zu zd) (Z8c b0) (Zuv 1 (.ptr 0 0) [(Z3W b0 zu zd)]):=by
 unfold Z8c
 refine zf (ZAS ..)<|ze<|zq<|zq<|zq<|zq<|zq<|zq<|zi fun r1 hr1 => ?_
 obtain ⟨_,er1,_,rfl⟩:=ZkX b0.b b0.at_ .sh r1 hr1
 refine zc [] (.p (.tup [(.v (.int .i64 r1.1)),(.v (.int .i64 r1.2))])) [(Z3W b0 zu zd)] er1<|zq<|zq<|ze ?_
 exact zr ((iv r1.1),[(Z3W b0 zu zd)]) ⟨_,rfl⟩
def Z9I (b0:Z1D):Option Int :=
 if (decide ((b0.b.length:Int) ≤ b0.at_)) = true then
 (some (-1))
 else
 (Z8c b0)
theorem Zjt b0 zu zd (zy:ZM zd = true):Sim (Z7P b0 zu zd) (Z9I b0) (EE 47 [(.ptr 0 0)] [(Z3W b0 zu zd)]):=by
 unfold Z9I
 refine zf (ZGD ..)<|ze<|ze<|zq<|zq<|zq<|zq<|zq<|zq<|zp (iv (b0.b.length:Int)) (et_ (Z37 (P:=PP) (t:=54) (d:=5) (by kernel_rfl) (eI .u8) (shrO zu) b0.b))<|zq ?_
 refine za (decide ((b0.b.length:Int) ≤ b0.at_)) ?_ ?_
 ·refine ze ?_
  exact zr ((iv (-1)),[(Z3W b0 zu zd)]) ⟨_,rfl⟩
 ·exact zk (Zhs b0 zu zd zy)
theorem Zk4 b0 {r} (h:Z9I b0 = some r):Z2I b0 = some r :=
 Z1l (fun _ _ ha hb => ru_ (Zkh _ _ _) (ha .ex .ex rfl) (hb .ex .ex rfl)) (fun zu zd zy => Zjt b0 zu zd zy r h)
def ZcY:Option (Int × Int) :=
 some (0,0)
theorem Zhg:Sim Z3l ZcY (Zql 0 []):=by
 unfold ZcY
 refine zf (ZB7 ..)<|ze ?_
 exact zr ((.p (.tup [(.v (.int .i64 0)),(.v (.int .i64 0))])),[]) ⟨_,rfl⟩
def Zd0 (x0:List Int) (x1:Int):Option (Int × Int) :=
 (lget x0 x1).bind fun a1 =>
 some ((IntKind.i64.wrap (1114112 + (IntKind.i64.wrap a1))),1)
theorem Zn8 (x0:List Int) x1 ox0:Sim Z3l (Zd0 x0 x1) (ZuN 0 (ZP ox0 (x0.map (eI .u8))) (iv x1) []):=by
 unfold Zd0
 refine zf (ZB9 ..)<|ze<|zi fun a1 ha1 => zp (.cptr [(.v (.int .u8 a1))]) (et_ (Z2Q (o:=(shrO ox0)) (k:=.i64) (n:=1) (e:=(eI .u8)) (cs:=(fun a => [(eI .u8) a])) (fun _ => rfl) (fun _ => rfl) (by decide) ha1))<|zq<|zq<|zq ?_
 exact zr ((.p (.tup [(.v (.int .i64 (IntKind.i64.wrap (1114112 + (IntKind.i64.wrap a1))))),(.v (.int .i64 1))])),[]) ⟨_,rfl⟩
def Z9f (x6 x7:Int):Option (Int × Int) :=
 some ((IntKind.i64.wrap x6),x7)
theorem Zhh x6 x7:Sim Z3l (Z9f x6 x7) (Zqm 0 (.p (.v (.int .i32 x6))) (iv x7) []):=by
 unfold Z9f
 refine zf (ZBa ..)<|ze<|zq ?_
 exact zr ((.p (.tup [(.v (.int .i64 (IntKind.i64.wrap x6))),(.v (.int .i64 x7))])),[]) ⟨_,rfl⟩
def ZcZ (x0:List Int) (x1:Int):Option (Int × Int) :=
 (lsl x0 x1 (x0.length:Int)).bind fun a1 =>
 (Z96 a1).bind fun r2 =>
 if (r2.1 == 65533) = true then
 (if (r2.2 == 1) = true then
 (Zd0 x0 x1)
 else
 (Z9f r2.1 r2.2))
 else
 (Z9f r2.1 r2.2)
theorem Zn7 (x0:List Int) x1 ox0:Sim Z3l (ZcZ x0 x1) (ZuM 0 (ZP ox0 (x0.map (eI .u8))) (iv x1) []):=by
 unfold ZcZ
 refine zf (ZB8 ..)<|ze<|zi fun a1 ha1 => zp (ZP (slO (shrO ox0)) (a1.map (eI .u8))) (Eq.trans (by kernel_rfl) <| Zrr (n:=1) (o:=(shrO ox0)) (lo:=(some (iv x1))) (hi:=none) (e:=(eI .u8)) (fun _ => rfl) (by decide) (by kernel_rfl) (by kernel_rfl) ha1)<|zi fun r2 hr2 => ?_
 obtain ⟨_,er2,_,rfl⟩:=Zg9 a1 .sh r2 hr2
 refine zc [] (.p (.tup [(.v (.int .i32 r2.1)),(.v (.int .i64 r2.2))])) [] er2<|zq<|zq<|ze<|zq ?_
 refine za (r2.1 == 65533) ?_ ?_
 ·refine zq ?_
  refine za (r2.2 == 1) ?_ ?_
  ·exact zk (Zn8 x0 x1 ox0)
  ·exact zk (Zhh r2.1 r2.2)
 ·exact zk (Zhh r2.1 r2.2)
def Zgt (x0:List Int) (x1:Int):Option (Int × Int) :=
 if (decide (x1 < 0)) = true then
 ZcY
 else
 (if (decide ((x0.length:Int) ≤ x1)) = true then
 ZcY
 else
 (ZcZ x0 x1))
theorem ZqO (x0:List Int) x1 ox0:Sim Z3l (Zgt x0 x1) (EE 62 [(ZP ox0 (x0.map (eI .u8))),(iv x1)] []):=by
 unfold Zgt
 refine zf (ZGT ..)<|ze<|ze<|zq ?_
 refine za (decide (x1 < 0)) ?_ ?_
 ·exact zk Zhg
 ·refine zp (iv (x0.length:Int)) (et_ (Z37 (P:=PP) (t:=54) (d:=5) (by kernel_rfl) (eI .u8) (shrO ox0) x0))<|zq ?_
  refine za (decide ((x0.length:Int) ≤ x1)) ?_ ?_
  ·exact zk Zhg
  ·exact zk (Zn7 x0 x1 ox0)
theorem Zs4 x0 x1 {r} (h:Zgt x0 x1 = some r):ZdS x0 x1 = some r :=
 Z1l (fun _ _ ha hb => ru_ ZdX (ha .ex) (hb .ex)) (fun ox0 => ZqO x0 x1 ox0 r h)
def Zdq (x0:Int) (x1:List Z9):Option Z9 :=
 some (Z9.mk x0 0 0 0 0 ([]:List Z8) x1)
theorem ZkQ x0 (x1:List Z9) b0 ox1 z1u z1A (zDh:ZM z1u = true) (zC2:ZM z1A = true):Sim Z6N (Zdq x0 x1) (Zua 0 (iv x0) (ZP ox1 (x1.map ZJ)) (.ptr 0 0) [(Zk b0 z1u z1A)]):=by
 unfold Zdq
 refine zf (ZAy ..)<|ze<|zq<|zt [(Z2U x0 0 0 0 0 ([]:List Z8) x1 .nl (shrO (shrO ox1)))] ?_
 exact zr ((pA_ (ZI (Z9.mk x0 0 0 0 0 ([]:List Z8) x1) .sh .sh)),[(Z2U x0 0 0 0 0 ([]:List Z8) x1 .nl (shrO (shrO ox1)))]) ⟨_,rfl⟩
def ZcV (x0:Int) (x1:List Z9):Option Z9 :=
 if ((x1.length:Int) == 0) = true then
 (some (Z9.mk 0 0 0 0 0 ([]:List Z8) ([]:List Z9)))
 else
 (if ((x1.length:Int) == 1) = true then
 ((lget x1 0).bind fun a1 =>
 some a1)
 else
 (Zdq x0 x1))
theorem Zn3 x0 (x1:List Z9) ox1:Sim Z6N (ZcV x0 x1) (EE 31 [(iv x0),(ZP ox1 (x1.map ZJ))] []):=by
 unfold ZcV
 refine zf (ZGg ..)<|ze<|zz (.ptr 0 0) [(Zk Z1F .nl .nl)]<|ze<|zp (iv (x1.length:Int)) (et_ (Z37 (P:=PP) (t:=29) (d:=31) (by kernel_rfl) ZJ (shrO ox1) x1))<|ze<|zq ?_
 refine za ((x1.length:Int) == 0) ?_ ?_
 ·refine ze<|zq<|zt [(Zk Z1F .nl .nl)] ?_
  exact zr ((pA_ (ZI Z1F .sh .sh)),[(Zk Z1F .nl .nl)]) ⟨_,rfl⟩
 ·refine ze<|zq ?_
  refine za ((x1.length:Int) == 1) ?_ ?_
  ·refine ze<|zi fun a1 ha1 => zp (.cptr (ZI a1 .sh .sh)) (et_ (Z2Q (o:=(shrO ox1)) (k:=.i64) (n:=7) (e:=ZJ) (cs:=Z21) Z2M (fun _ => rfl) (by decide) ha1))<|zq<|zt [(Zk a1 .sh .sh)] ?_
   exact zr ((pA_ (ZI a1 .sh .sh)),[(Zk a1 .sh .sh)]) ⟨_,rfl⟩
  ·exact zk (ZkQ x0 x1 Z1F ox1 .nl .nl rfl rfl)
theorem Zoj x0 x1 {r} (h:ZcV x0 x1 = some r):ZaZ x0 x1 = some r :=
 Z1l (fun _ _ ha hb => ru_ ZiF (ha .ex) (hb .ex)) (fun ox1 => Zn3 x0 x1 ox1 r h)
def Z25 (zn z7 zh:Int) (zj:List ZA) (z2 z6:Int):Option (Z9 × Bool × Int × Int × Int × (List ZA) × Int × Int) :=
 some ((Z9.mk 0 0 0 0 0 ([]:List Z8) ([]:List Z9)),true,zn,z7,zh,zj,z2,z6)
theorem Z2a zm zn z7 zh zj z2 z6 b1 zu zd zH zE (zy:ZM zd = true) (z19:ZM zH = true) (zY:ZM zE = true):Sim (Z2X zm zu) (Z25 zn z7 zh zj z2 z6) (Z8F 1 (.ptr 1 0) [(ZL zm zn z7 zh zj z2 z6 zu zd),(Zk b1 zH zE)]):=by
 unfold Z25
 refine zf (Zym ..)<|ze<|zq<|zt [(ZL zm zn z7 zh zj z2 z6 zu zd),(Zk Z1F .nl .nl)] ?_
 exact zr ((.p (.tup [(.agg (ZI Z1F .sh .sh)),(.v (.bool true))])),[(ZL zm zn z7 zh zj z2 z6 zu zd),(Zk Z1F .nl .nl)]) ⟨zd,_,zy,rfl⟩
def Z7R (zm:List Int) (zn z7 zh:Int) (zj:List ZA) (z2 z6:Int):Option (Z9 × Bool × Int × Int × Int × (List ZA) × Int × Int) :=
 (Z3o zm zn).bind fun r1 =>
 if (r1.1 == 46) = true then
 ((Z2y 10).bind fun r2 =>
 (Z45 true ([r2]:List Z8)).bind fun r3 =>
 some (r3,true,r1.2,z7,zh,zj,z2,z6))
 else
 (if (r1.1 == 94) = true then
 (some ((Z9.mk 9 0 0 0 0 ([]:List Z8) ([]:List Z9)),false,r1.2,z7,zh,zj,z2,z6))
 else
 (if (r1.1 == 36) = true then
 (some ((Z9.mk 9 0 0 0 1 ([]:List Z8) ([]:List Z9)),false,r1.2,z7,zh,zj,z2,z6))
 else
 (if (r1.1 == 92) = true then
 ((Z4I zn zm r1.2 z7 zh zj z2 z6).bind fun r4 =>
 some (r4.1,(r4.1.Kind != 9),r4.2.1,z7,zh,r4.2.2.1,r4.2.2.2.1,r4.2.2.2.2))
 else
 (if (r1.1 == 91) = true then
 ((Z95 zn zm r1.2 z7 zh zj z2 z6).bind fun r5 =>
 some (r5.1,true,r5.2.1,z7,zh,zj,r5.2.2.1,r5.2.2.2))
 else
 (if (r1.1 == 40) = true then
 ((Z59 zn zm r1.2 z7 zh zj z2 z6).bind fun r6 =>
 some (r6.1,r6.2.1,r6.2.2.1,r6.2.2.2.1,r6.2.2.2.2.1,r6.2.2.2.2.2.1,r6.2.2.2.2.2.2.1,r6.2.2.2.2.2.2.2))
 else
 (if (r1.1 == 42) = true then
 (if (r1.1 == 42) = true then
 ((Z1g 23 zn zm z2 z6).bind fun r7 =>
 Z25 r7.1 z7 zh zj r7.2.1 r7.2.2)
 else
 (if (r1.1 == 93) = true then
 (if (r1.1 == 93) = true then
 ((Z1g 20 zn zm z2 z6).bind fun r8 =>
 Z25 r8.1 z7 zh zj r8.2.1 r8.2.2)
 else
 ((Z2y r1.1).bind fun r9 =>
 (Z45 false ([r9]:List Z8)).bind fun r10 =>
 some (r10,true,r1.2,z7,zh,zj,z2,z6)))
 else
 (if (r1.1 == 125) = true then
 ((Z1g 20 zn zm z2 z6).bind fun r11 =>
 Z25 r11.1 z7 zh zj r11.2.1 r11.2.2)
 else
 ((Z2y r1.1).bind fun r12 =>
 (Z45 false ([r12]:List Z8)).bind fun r13 =>
 some (r13,true,r1.2,z7,zh,zj,z2,z6)))))
 else
 (if (r1.1 == 43) = true then
 (if (r1.1 == 43) = true then
 ((Z1g 23 zn zm z2 z6).bind fun r14 =>
 Z25 r14.1 z7 zh zj r14.2.1 r14.2.2)
 else
 (if (r1.1 == 93) = true then
 (if (r1.1 == 93) = true then
 ((Z1g 20 zn zm z2 z6).bind fun r15 =>
 Z25 r15.1 z7 zh zj r15.2.1 r15.2.2)
 else
 ((Z2y r1.1).bind fun r16 =>
 (Z45 false ([r16]:List Z8)).bind fun r17 =>
 some (r17,true,r1.2,z7,zh,zj,z2,z6)))
 else
 (if (r1.1 == 125) = true then
 ((Z1g 20 zn zm z2 z6).bind fun r18 =>
 Z25 r18.1 z7 zh zj r18.2.1 r18.2.2)
 else
 ((Z2y r1.1).bind fun r19 =>
 (Z45 false ([r19]:List Z8)).bind fun r20 =>
 some (r20,true,r1.2,z7,zh,zj,z2,z6)))))
 else
 (if (r1.1 == 63) = true then
 (if (r1.1 == 63) = true then
 ((Z1g 23 zn zm z2 z6).bind fun r21 =>
 Z25 r21.1 z7 zh zj r21.2.1 r21.2.2)
 else
 (if (r1.1 == 93) = true then
 (if (r1.1 == 93) = true then
 ((Z1g 20 zn zm z2 z6).bind fun r22 =>
 Z25 r22.1 z7 zh zj r22.2.1 r22.2.2)
 else
 ((Z2y r1.1).bind fun r23 =>
 (Z45 false ([r23]:List Z8)).bind fun r24 =>
 some (r24,true,r1.2,z7,zh,zj,z2,z6)))
 else
 (if (r1.1 == 125) = true then
 ((Z1g 20 zn zm z2 z6).bind fun r25 =>
 Z25 r25.1 z7 zh zj r25.2.1 r25.2.2)
 else
 ((Z2y r1.1).bind fun r26 =>
 (Z45 false ([r26]:List Z8)).bind fun r27 =>
 some (r27,true,r1.2,z7,zh,zj,z2,z6)))))
 else
 (if (r1.1 == 123) = true then
 ((Z1g 23 zn zm z2 z6).bind fun r28 =>
 Z25 r28.1 z7 zh zj r28.2.1 r28.2.2)
 else
 (if (r1.1 == 93) = true then
 (if (r1.1 == 93) = true then
 ((Z1g 20 zn zm z2 z6).bind fun r29 =>
 Z25 r29.1 z7 zh zj r29.2.1 r29.2.2)
 else
 ((Z2y r1.1).bind fun r30 =>
 (Z45 false ([r30]:List Z8)).bind fun r31 =>
 some (r31,true,r1.2,z7,zh,zj,z2,z6)))
 else
 (if (r1.1 == 125) = true then
 ((Z1g 20 zn zm z2 z6).bind fun r32 =>
 Z25 r32.1 z7 zh zj r32.2.1 r32.2.2)
 else
 ((Z2y r1.1).bind fun r33 =>
 (Z45 false ([r33]:List Z8)).bind fun r34 =>
 some (r34,true,r1.2,z7,zh,zj,z2,z6)))))))))))))
theorem Zjo zm zn z7 zh zj z2 z6 zu zd (zy:ZM zd = true):Sim (Z2X zm zu) (Z7R zm zn z7 zh zj z2 z6) (EE 48 [(.ptr 0 0)] [(ZL zm zn z7 zh zj z2 z6 zu zd)]):=by
 unfold Z7R
 refine zf (ZGF ..)<|ze<|zz (.ptr 1 0) [(ZL zm zn z7 zh zj z2 z6 zu zd),(Zk Z1F .nl .nl)]<|ze<|zq<|zq<|zq<|ze<|zi fun r1 hr1 => ?_
 obtain ⟨_,er1,_,rfl⟩:=Z3M zm zn z7 zh zj z2 z6 zu zd zy r1 hr1
 refine zc [0] (iv r1.1) [(ZL zm r1.2 z7 zh zj z2 z6 zu zd),(Zk Z1F .nl .nl)] er1<|ze<|ze<|zq ?_
 refine za (r1.1 == 46) ?_ ?_
 ·refine ze<|zi fun r2 hr2 => ?_
  obtain ⟨_,er2,_,rfl⟩:=Z2l 10 r2 hr2
  refine zc [] (pA_ (ZQ r2)) [(ZL zm r1.2 z7 zh zj z2 z6 zu zd),(Zk Z1F .nl .nl)] er2<|zq<|zi fun r3 hr3 => ?_
  obtain ⟨_,er3,_,rfl⟩:=Z4g true ([r2]:List Z8) .sh r3 hr3
  refine zc [] (pA_ (ZI r3 .sh .sh)) [(ZL zm r1.2 z7 zh zj z2 z6 zu zd),(Zk Z1F .nl .nl)] er3<|zt [(ZL zm r1.2 z7 zh zj z2 z6 zu zd),(Zk r3 .sh .sh)] ?_
  exact zr ((.p (.tup [(.agg (ZI r3 .sh .sh)),(.v (.bool true))])),[(ZL zm r1.2 z7 zh zj z2 z6 zu zd),(Zk r3 .sh .sh)]) ⟨zd,_,zy,rfl⟩
 ·refine ze<|zq ?_
  refine za (r1.1 == 94) ?_ ?_
  ·refine ze<|zq<|zt [(ZL zm r1.2 z7 zh zj z2 z6 zu zd),(Z2U 9 0 0 0 0 ([]:List Z8) ([]:List Z9) .nl .nl)] ?_
   exact zr ((.p (.tup [(.agg (ZI (Z9.mk 9 0 0 0 0 ([]:List Z8) ([]:List Z9)) .sh .sh)),(.v (.bool false))])),[(ZL zm r1.2 z7 zh zj z2 z6 zu zd),(Z2U 9 0 0 0 0 ([]:List Z8) ([]:List Z9) .nl .nl)]) ⟨zd,_,zy,rfl⟩
  ·refine ze<|zq ?_
   refine za (r1.1 == 36) ?_ ?_
   ·refine ze<|zq<|zt [(ZL zm r1.2 z7 zh zj z2 z6 zu zd),(Z2U 9 0 0 0 1 ([]:List Z8) ([]:List Z9) .nl .nl)] ?_
    exact zr ((.p (.tup [(.agg (ZI (Z9.mk 9 0 0 0 1 ([]:List Z8) ([]:List Z9)) .sh .sh)),(.v (.bool false))])),[(ZL zm r1.2 z7 zh zj z2 z6 zu zd),(Z2U 9 0 0 0 1 ([]:List Z8) ([]:List Z9) .nl .nl)]) ⟨zd,_,zy,rfl⟩
   ·refine ze<|zq ?_
    refine za (r1.1 == 92) ?_ ?_
    ·refine ze<|zi fun r4 hr4 => ?_
     obtain ⟨_,er4,ziz,_,zDi,rfl⟩:=ZiS zn zm r1.2 z7 zh zj z2 z6 zu zd zy r4 hr4
     refine zc [0] (pA_ (ZI r4.1 .sh .sh)) [(ZL zm r4.2.1 z7 zh r4.2.2.1 r4.2.2.2.1 r4.2.2.2.2 zu ziz),(Zk Z1F .nl .nl)] er4<|zz (.ptr 2 0) [(ZL zm r4.2.1 z7 zh r4.2.2.1 r4.2.2.2.1 r4.2.2.2.2 zu ziz),(Zk Z1F .nl .nl),(Zk Z1F .nl .nl)]<|zt [(ZL zm r4.2.1 z7 zh r4.2.2.1 r4.2.2.2.1 r4.2.2.2.2 zu ziz),(Zk Z1F .nl .nl),(Zk r4.1 .sh .sh)]<|ze<|zq<|zq<|zq<|zq<|zt [(ZL zm r4.2.1 z7 zh r4.2.2.1 r4.2.2.2.1 r4.2.2.2.2 zu ziz),(Zk r4.1 .sh .sh),(Zk r4.1 .sh .sh)]<|zg ?_
     exact zr ((.p (.tup [(.agg (ZI r4.1 .sh .sh)),(.v (.bool (r4.1.Kind != 9)))])),[(ZL zm r4.2.1 z7 zh r4.2.2.1 r4.2.2.2.1 r4.2.2.2.2 zu ziz),(Zk r4.1 .sh .sh),(Zk r4.1 .sh .sh)]) ⟨ziz,_,zDi,rfl⟩
    ·refine ze<|zq ?_
     refine za (r1.1 == 91) ?_ ?_
     ·refine ze<|zi fun r5 hr5 => ?_
      obtain ⟨_,er5,_,rfl⟩:=Zjq zn zm r1.2 z7 zh zj z2 z6 zu zd zy r5 hr5
      refine zc [0] (pA_ (ZI r5.1 .sh .sh)) [(ZL zm r5.2.1 z7 zh zj r5.2.2.1 r5.2.2.2 zu zd),(Zk Z1F .nl .nl)] er5<|zt [(ZL zm r5.2.1 z7 zh zj r5.2.2.1 r5.2.2.2 zu zd),(Zk r5.1 .sh .sh)] ?_
      exact zr ((.p (.tup [(.agg (ZI r5.1 .sh .sh)),(.v (.bool true))])),[(ZL zm r5.2.1 z7 zh zj r5.2.2.1 r5.2.2.2 zu zd),(Zk r5.1 .sh .sh)]) ⟨zd,_,zy,rfl⟩
     ·refine ze<|zq ?_
      refine za (r1.1 == 40) ?_ ?_
      ·refine ze<|zi fun r6 hr6 => ?_
       obtain ⟨_,er6,zo7,_,zDj,rfl⟩:=Zjs zn zm r1.2 z7 zh zj z2 z6 zu zd zy r6 hr6
       refine zc [0] (.p (.tup [(.agg (ZI r6.1 .sh .sh)),(.v (.bool r6.2.1))])) [(ZL zm r6.2.2.1 r6.2.2.2.1 r6.2.2.2.2.1 r6.2.2.2.2.2.1 r6.2.2.2.2.2.2.1 r6.2.2.2.2.2.2.2 zu zo7),(Zk Z1F .nl .nl)] er6<|zq<|zq<|zt [(ZL zm r6.2.2.1 r6.2.2.2.1 r6.2.2.2.2.1 r6.2.2.2.2.2.1 r6.2.2.2.2.2.2.1 r6.2.2.2.2.2.2.2 zu zo7),(Zk r6.1 .sh .sh)] ?_
       exact zr ((.p (.tup [(.agg (ZI r6.1 .sh .sh)),(.v (.bool r6.2.1))])),[(ZL zm r6.2.2.1 r6.2.2.2.1 r6.2.2.2.2.1 r6.2.2.2.2.2.1 r6.2.2.2.2.2.2.1 r6.2.2.2.2.2.2.2 zu zo7),(Zk r6.1 .sh .sh)]) ⟨zo7,_,zDj,rfl⟩
      ·refine ze<|zq ?_
       refine za (r1.1 == 42) ?_ ?_
       ·refine za (r1.1 == 42) ?_ ?_
        ·refine ze<|zi fun r7 hr7 => ?_
         obtain ⟨_,er7,_,rfl⟩:=Z1k 23 zn zm r1.2 z7 zh zj z2 z6 zu zd zy r7 hr7
         refine zc [0] (.p (.tup [])) [(ZL zm r7.1 z7 zh zj r7.2.1 r7.2.2 zu zd),(Zk Z1F .nl .nl)] er7 ?_
         exact zk (Z2a zm r7.1 z7 zh zj r7.2.1 r7.2.2 Z1F zu zd .nl .nl zy rfl rfl)
        ·refine ze<|zq ?_
         refine za (r1.1 == 93) ?_ ?_
         ·refine za (r1.1 == 93) ?_ ?_
          ·refine ze<|zi fun r8 hr8 => ?_
           obtain ⟨_,er8,_,rfl⟩:=Z1k 20 zn zm r1.2 z7 zh zj z2 z6 zu zd zy r8 hr8
           refine zc [0] (.p (.tup [])) [(ZL zm r8.1 z7 zh zj r8.2.1 r8.2.2 zu zd),(Zk Z1F .nl .nl)] er8 ?_
           exact zk (Z2a zm r8.1 z7 zh zj r8.2.1 r8.2.2 Z1F zu zd .nl .nl zy rfl rfl)
          ·refine ze<|zi fun r9 hr9 => ?_
           obtain ⟨_,er9,_,rfl⟩:=Z2l r1.1 r9 hr9
           refine zc [] (pA_ (ZQ r9)) [(ZL zm r1.2 z7 zh zj z2 z6 zu zd),(Zk Z1F .nl .nl)] er9<|zq<|zi fun r10 hr10 => ?_
           obtain ⟨_,er10,_,rfl⟩:=Z4g false ([r9]:List Z8) .sh r10 hr10
           refine zc [] (pA_ (ZI r10 .sh .sh)) [(ZL zm r1.2 z7 zh zj z2 z6 zu zd),(Zk Z1F .nl .nl)] er10<|zt [(ZL zm r1.2 z7 zh zj z2 z6 zu zd),(Zk r10 .sh .sh)] ?_
           exact zr ((.p (.tup [(.agg (ZI r10 .sh .sh)),(.v (.bool true))])),[(ZL zm r1.2 z7 zh zj z2 z6 zu zd),(Zk r10 .sh .sh)]) ⟨zd,_,zy,rfl⟩
         ·refine ze<|zq ?_
          refine za (r1.1 == 125) ?_ ?_
          ·refine ze<|zi fun r11 hr11 => ?_
           obtain ⟨_,er11,_,rfl⟩:=Z1k 20 zn zm r1.2 z7 zh zj z2 z6 zu zd zy r11 hr11
           refine zc [0] (.p (.tup [])) [(ZL zm r11.1 z7 zh zj r11.2.1 r11.2.2 zu zd),(Zk Z1F .nl .nl)] er11 ?_
           exact zk (Z2a zm r11.1 z7 zh zj r11.2.1 r11.2.2 Z1F zu zd .nl .nl zy rfl rfl)
          ·refine ze<|zi fun r12 hr12 => ?_
           obtain ⟨_,er12,_,rfl⟩:=Z2l r1.1 r12 hr12
           refine zc [] (pA_ (ZQ r12)) [(ZL zm r1.2 z7 zh zj z2 z6 zu zd),(Zk Z1F .nl .nl)] er12<|zq<|zi fun r13 hr13 => ?_
           obtain ⟨_,er13,_,rfl⟩:=Z4g false ([r12]:List Z8) .sh r13 hr13
           refine zc [] (pA_ (ZI r13 .sh .sh)) [(ZL zm r1.2 z7 zh zj z2 z6 zu zd),(Zk Z1F .nl .nl)] er13<|zt [(ZL zm r1.2 z7 zh zj z2 z6 zu zd),(Zk r13 .sh .sh)] ?_
           exact zr ((.p (.tup [(.agg (ZI r13 .sh .sh)),(.v (.bool true))])),[(ZL zm r1.2 z7 zh zj z2 z6 zu zd),(Zk r13 .sh .sh)]) ⟨zd,_,zy,rfl⟩
       ·refine ze<|zq ?_
        refine za (r1.1 == 43) ?_ ?_
        ·refine za (r1.1 == 43) ?_ ?_
         ·refine ze<|zi fun r14 hr14 => ?_
          obtain ⟨_,er14,_,rfl⟩:=Z1k 23 zn zm r1.2 z7 zh zj z2 z6 zu zd zy r14 hr14
          refine zc [0] (.p (.tup [])) [(ZL zm r14.1 z7 zh zj r14.2.1 r14.2.2 zu zd),(Zk Z1F .nl .nl)] er14 ?_
          exact zk (Z2a zm r14.1 z7 zh zj r14.2.1 r14.2.2 Z1F zu zd .nl .nl zy rfl rfl)
         ·refine ze<|zq ?_
          refine za (r1.1 == 93) ?_ ?_
          ·refine za (r1.1 == 93) ?_ ?_
           ·refine ze<|zi fun r15 hr15 => ?_
            obtain ⟨_,er15,_,rfl⟩:=Z1k 20 zn zm r1.2 z7 zh zj z2 z6 zu zd zy r15 hr15
            refine zc [0] (.p (.tup [])) [(ZL zm r15.1 z7 zh zj r15.2.1 r15.2.2 zu zd),(Zk Z1F .nl .nl)] er15 ?_
            exact zk (Z2a zm r15.1 z7 zh zj r15.2.1 r15.2.2 Z1F zu zd .nl .nl zy rfl rfl)
           ·refine ze<|zi fun r16 hr16 => ?_
            obtain ⟨_,er16,_,rfl⟩:=Z2l r1.1 r16 hr16
            refine zc [] (pA_ (ZQ r16)) [(ZL zm r1.2 z7 zh zj z2 z6 zu zd),(Zk Z1F .nl .nl)] er16<|zq<|zi fun r17 hr17 => ?_
            obtain ⟨_,er17,_,rfl⟩:=Z4g false ([r16]:List Z8) .sh r17 hr17
            refine zc [] (pA_ (ZI r17 .sh .sh)) [(ZL zm r1.2 z7 zh zj z2 z6 zu zd),(Zk Z1F .nl .nl)] er17<|zt [(ZL zm r1.2 z7 zh zj z2 z6 zu zd),(Zk r17 .sh .sh)] ?_
            exact zr ((.p (.tup [(.agg (ZI r17 .sh .sh)),(.v (.bool true))])),[(ZL zm r1.2 z7 zh zj z2 z6 zu zd),(Zk r17 .sh .sh)]) ⟨zd,_,zy,rfl⟩
          ·refine ze<|zq ?_
           refine za (r1.1 == 125) ?_ ?_
           ·refine ze<|zi fun r18 hr18 => ?_
            obtain ⟨_,er18,_,rfl⟩:=Z1k 20 zn zm r1.2 z7 zh zj z2 z6 zu zd zy r18 hr18
            refine zc [0] (.p (.tup [])) [(ZL zm r18.1 z7 zh zj r18.2.1 r18.2.2 zu zd),(Zk Z1F .nl .nl)] er18 ?_
            exact zk (Z2a zm r18.1 z7 zh zj r18.2.1 r18.2.2 Z1F zu zd .nl .nl zy rfl rfl)
           ·refine ze<|zi fun r19 hr19 => ?_
            obtain ⟨_,er19,_,rfl⟩:=Z2l r1.1 r19 hr19
            refine zc [] (pA_ (ZQ r19)) [(ZL zm r1.2 z7 zh zj z2 z6 zu zd),(Zk Z1F .nl .nl)] er19<|zq<|zi fun r20 hr20 => ?_
            obtain ⟨_,er20,_,rfl⟩:=Z4g false ([r19]:List Z8) .sh r20 hr20
            refine zc [] (pA_ (ZI r20 .sh .sh)) [(ZL zm r1.2 z7 zh zj z2 z6 zu zd),(Zk Z1F .nl .nl)] er20<|zt [(ZL zm r1.2 z7 zh zj z2 z6 zu zd),(Zk r20 .sh .sh)] ?_
            exact zr ((.p (.tup [(.agg (ZI r20 .sh .sh)),(.v (.bool true))])),[(ZL zm r1.2 z7 zh zj z2 z6 zu zd),(Zk r20 .sh .sh)]) ⟨zd,_,zy,rfl⟩
        ·refine ze<|zq ?_
         refine za (r1.1 == 63) ?_ ?_
         ·refine za (r1.1 == 63) ?_ ?_
          ·refine ze<|zi fun r21 hr21 => ?_
           obtain ⟨_,er21,_,rfl⟩:=Z1k 23 zn zm r1.2 z7 zh zj z2 z6 zu zd zy r21 hr21
           refine zc [0] (.p (.tup [])) [(ZL zm r21.1 z7 zh zj r21.2.1 r21.2.2 zu zd),(Zk Z1F .nl .nl)] er21 ?_
           exact zk (Z2a zm r21.1 z7 zh zj r21.2.1 r21.2.2 Z1F zu zd .nl .nl zy rfl rfl)
          ·refine ze<|zq ?_
           refine za (r1.1 == 93) ?_ ?_
           ·refine za (r1.1 == 93) ?_ ?_
            ·refine ze<|zi fun r22 hr22 => ?_
             obtain ⟨_,er22,_,rfl⟩:=Z1k 20 zn zm r1.2 z7 zh zj z2 z6 zu zd zy r22 hr22
             refine zc [0] (.p (.tup [])) [(ZL zm r22.1 z7 zh zj r22.2.1 r22.2.2 zu zd),(Zk Z1F .nl .nl)] er22 ?_
             exact zk (Z2a zm r22.1 z7 zh zj r22.2.1 r22.2.2 Z1F zu zd .nl .nl zy rfl rfl)
            ·refine ze<|zi fun r23 hr23 => ?_
             obtain ⟨_,er23,_,rfl⟩:=Z2l r1.1 r23 hr23
             refine zc [] (pA_ (ZQ r23)) [(ZL zm r1.2 z7 zh zj z2 z6 zu zd),(Zk Z1F .nl .nl)] er23<|zq<|zi fun r24 hr24 => ?_
             obtain ⟨_,er24,_,rfl⟩:=Z4g false ([r23]:List Z8) .sh r24 hr24
             refine zc [] (pA_ (ZI r24 .sh .sh)) [(ZL zm r1.2 z7 zh zj z2 z6 zu zd),(Zk Z1F .nl .nl)] er24<|zt [(ZL zm r1.2 z7 zh zj z2 z6 zu zd),(Zk r24 .sh .sh)] ?_
             exact zr ((.p (.tup [(.agg (ZI r24 .sh .sh)),(.v (.bool true))])),[(ZL zm r1.2 z7 zh zj z2 z6 zu zd),(Zk r24 .sh .sh)]) ⟨zd,_,zy,rfl⟩
           ·refine ze<|zq ?_
            refine za (r1.1 == 125) ?_ ?_
            ·refine ze<|zi fun r25 hr25 => ?_
             obtain ⟨_,er25,_,rfl⟩:=Z1k 20 zn zm r1.2 z7 zh zj z2 z6 zu zd zy r25 hr25
             refine zc [0] (.p (.tup [])) [(ZL zm r25.1 z7 zh zj r25.2.1 r25.2.2 zu zd),(Zk Z1F .nl .nl)] er25 ?_
             exact zk (Z2a zm r25.1 z7 zh zj r25.2.1 r25.2.2 Z1F zu zd .nl .nl zy rfl rfl)
            ·refine ze<|zi fun r26 hr26 => ?_
             obtain ⟨_,er26,_,rfl⟩:=Z2l r1.1 r26 hr26
             refine zc [] (pA_ (ZQ r26)) [(ZL zm r1.2 z7 zh zj z2 z6 zu zd),(Zk Z1F .nl .nl)] er26<|zq<|zi fun r27 hr27 => ?_
             obtain ⟨_,er27,_,rfl⟩:=Z4g false ([r26]:List Z8) .sh r27 hr27
             refine zc [] (pA_ (ZI r27 .sh .sh)) [(ZL zm r1.2 z7 zh zj z2 z6 zu zd),(Zk Z1F .nl .nl)] er27<|zt [(ZL zm r1.2 z7 zh zj z2 z6 zu zd),(Zk r27 .sh .sh)] ?_
             exact zr ((.p (.tup [(.agg (ZI r27 .sh .sh)),(.v (.bool true))])),[(ZL zm r1.2 z7 zh zj z2 z6 zu zd),(Zk r27 .sh .sh)]) ⟨zd,_,zy,rfl⟩
         ·refine ze<|zq ?_
          refine za (r1.1 == 123) ?_ ?_
          ·refine ze<|zi fun r28 hr28 => ?_
           obtain ⟨_,er28,_,rfl⟩:=Z1k 23 zn zm r1.2 z7 zh zj z2 z6 zu zd zy r28 hr28
           refine zc [0] (.p (.tup [])) [(ZL zm r28.1 z7 zh zj r28.2.1 r28.2.2 zu zd),(Zk Z1F .nl .nl)] er28 ?_
           exact zk (Z2a zm r28.1 z7 zh zj r28.2.1 r28.2.2 Z1F zu zd .nl .nl zy rfl rfl)
          ·refine ze<|zq ?_
           refine za (r1.1 == 93) ?_ ?_
           ·refine za (r1.1 == 93) ?_ ?_
            ·refine ze<|zi fun r29 hr29 => ?_
             obtain ⟨_,er29,_,rfl⟩:=Z1k 20 zn zm r1.2 z7 zh zj z2 z6 zu zd zy r29 hr29
             refine zc [0] (.p (.tup [])) [(ZL zm r29.1 z7 zh zj r29.2.1 r29.2.2 zu zd),(Zk Z1F .nl .nl)] er29 ?_
             exact zk (Z2a zm r29.1 z7 zh zj r29.2.1 r29.2.2 Z1F zu zd .nl .nl zy rfl rfl)
            ·refine ze<|zi fun r30 hr30 => ?_
             obtain ⟨_,er30,_,rfl⟩:=Z2l r1.1 r30 hr30
             refine zc [] (pA_ (ZQ r30)) [(ZL zm r1.2 z7 zh zj z2 z6 zu zd),(Zk Z1F .nl .nl)] er30<|zq<|zi fun r31 hr31 => ?_
             obtain ⟨_,er31,_,rfl⟩:=Z4g false ([r30]:List Z8) .sh r31 hr31
             refine zc [] (pA_ (ZI r31 .sh .sh)) [(ZL zm r1.2 z7 zh zj z2 z6 zu zd),(Zk Z1F .nl .nl)] er31<|zt [(ZL zm r1.2 z7 zh zj z2 z6 zu zd),(Zk r31 .sh .sh)] ?_
             exact zr ((.p (.tup [(.agg (ZI r31 .sh .sh)),(.v (.bool true))])),[(ZL zm r1.2 z7 zh zj z2 z6 zu zd),(Zk r31 .sh .sh)]) ⟨zd,_,zy,rfl⟩
           ·refine ze<|zq ?_
            refine za (r1.1 == 125) ?_ ?_
            ·refine ze<|zi fun r32 hr32 => ?_
             obtain ⟨_,er32,_,rfl⟩:=Z1k 20 zn zm r1.2 z7 zh zj z2 z6 zu zd zy r32 hr32
             refine zc [0] (.p (.tup [])) [(ZL zm r32.1 z7 zh zj r32.2.1 r32.2.2 zu zd),(Zk Z1F .nl .nl)] er32 ?_
             exact zk (Z2a zm r32.1 z7 zh zj r32.2.1 r32.2.2 Z1F zu zd .nl .nl zy rfl rfl)
            ·refine ze<|zi fun r33 hr33 => ?_
             obtain ⟨_,er33,_,rfl⟩:=Z2l r1.1 r33 hr33
             refine zc [] (pA_ (ZQ r33)) [(ZL zm r1.2 z7 zh zj z2 z6 zu zd),(Zk Z1F .nl .nl)] er33<|zq<|zi fun r34 hr34 => ?_
             obtain ⟨_,er34,_,rfl⟩:=Z4g false ([r33]:List Z8) .sh r34 hr34
             refine zc [] (pA_ (ZI r34 .sh .sh)) [(ZL zm r1.2 z7 zh zj z2 z6 zu zd),(Zk Z1F .nl .nl)] er34<|zt [(ZL zm r1.2 z7 zh zj z2 z6 zu zd),(Zk r34 .sh .sh)] ?_
             exact zr ((.p (.tup [(.agg (ZI r34 .sh .sh)),(.v (.bool true))])),[(ZL zm r1.2 z7 zh zj z2 z6 zu zd),(Zk r34 .sh .sh)]) ⟨zd,_,zy,rfl⟩
theorem Zk1 zm zn z7 zh zj z2 z6 {r} (h:Z7R zm zn z7 zh zj z2 z6 = some r):Z9M zm zn z7 zh zj z2 z6 = some r :=
 Z1l (fun _ _ ha hb => ru_ (ZdF _ _) (ha .ex .ex rfl) (hb .ex .ex rfl)) (fun zu zd zy => Zjo zm zn z7 zh zj z2 z6 zu zd zy r h)
def Z9J (zm:List Int) (zn:Int):Option (Int × Int) :=
 (ZdS zm zn).bind fun r1 =>
 some (r1.1,(IntKind.i64.wrap (zn + r1.2)))
theorem Zjv zm zn z7 zh zj z2 z6 zu zd (zy:ZM zd = true):Sim (Z2c zm z7 zh zj z2 z6 zu zd) (Z9J zm zn) (EE 63 [(.ptr 0 0)] [(ZL zm zn z7 zh zj z2 z6 zu zd)]):=by
 unfold Z9J
 refine zf (ZGW ..)<|ze<|ze<|zq<|zq<|zq<|zq<|zq<|zq<|zi fun r1 hr1 => ?_
 obtain ⟨_,er1,_,rfl⟩:=ZkX zm zn .sh r1 hr1
 refine zc [] (.p (.tup [(.v (.int .i64 r1.1)),(.v (.int .i64 r1.2))])) [(ZL zm zn z7 zh zj z2 z6 zu zd)] er1<|zq<|zq<|ze<|zq<|zq<|zq<|zq<|zq<|zq<|zt [(ZL zm (IntKind.i64.wrap (zn + r1.2)) z7 zh zj z2 z6 zu zd)]<|ze ?_
 exact zr ((iv r1.1),[(ZL zm (IntKind.i64.wrap (zn + r1.2)) z7 zh zj z2 z6 zu zd)]) ⟨_,rfl⟩
theorem Zk5 zm zn {r} (h:Z9J zm zn = some r):Z3o zm zn = some r :=
 Z1l (fun _ _ ha hb => ru_ (Z6O _ _ _ _ _ _ _ _) (ha default default default default default .ex .ex rfl) (hb default default default default default .ex .ex rfl)) (fun z7 zh zj z2 z6 zu zd zy => Zjv zm zn z7 zh zj z2 z6 zu zd zy r h)
def ZjS (x0:Int):Option Z8 :=
 some (Z8.mk x0 x0)
theorem ZqJ x0:Sim Zgp (ZjS x0) (EE 65 [(iv x0)] []):=by
 unfold ZjS
 refine zf (ZGZ ..)<|ze<|zz (.ptr 0 0) [(Z2B (Z8.mk 0 0))]<|ze<|zq<|zt [(Z2B (Z8.mk x0 x0))] ?_
 exact zr ((pA_ (ZQ (Z8.mk x0 x0))),[(Z2B (Z8.mk x0 x0))]) ⟨_,rfl⟩
theorem Zs0 x0 {r} (h:ZjS x0 = some r):Z2y x0 = some r :=
 Z1l (fun _ _ ha hb => ru_ ZsO ha hb) (ZqJ x0 r h)
def ZcW (x5:List Z8):Option Z9 :=
 some (Z9.mk 1 0 0 0 0 x5 ([]:List Z9))
theorem ZgV (x5:List Z8) b0 ox5 z1u z1A (zDh:ZM z1u = true) (zC2:ZM z1A = true):Sim Z6N (ZcW x5) (Zqn 0 (.ptr 0 0) (ZP ox5 (x5.map Zz)) [(Zk b0 z1u z1A)]):=by
 unfold ZcW
 refine zf (ZBb ..)<|ze<|zq<|zt [(Z2U 1 0 0 0 0 x5 ([]:List Z9) (shrO (shrO ox5)) .nl)] ?_
 exact zr ((pA_ (ZI (Z9.mk 1 0 0 0 0 x5 ([]:List Z9)) .sh .sh)),[(Z2U 1 0 0 0 0 x5 ([]:List Z9) (shrO (shrO ox5)) .nl)]) ⟨_,rfl⟩
def Zgr (x0:Bool) (x1:List Z8):Option Z9 :=
 (Zf6 x1).bind fun r1 =>
 if x0 = true then
 ((Zag r1.1).bind fun r2 =>
 ZcW r2.1)
 else
 (ZcW r1.1)
theorem ZqK x0 (x1:List Z8) ox1:Sim Z6N (Zgr x0 x1) (EE 64 [(bv x0),(ZP ox1 (x1.map Zz))] []):=by
 unfold Zgr
 refine zf (ZGX ..)<|ze<|zz (.ptr 0 0) [(Zk Z1F .nl .nl)]<|ze<|zi fun r1 hr1 => ?_
 obtain ⟨_,er1,_,rfl⟩:=ZqH x1 .sh r1 hr1
 refine zc [] (.p (.tup [(.lst .sh (r1.1.map Zz)),(.v (.int .i64 r1.2))])) [(Zk Z1F .nl .nl)] er1<|zq<|zq<|ze ?_
 refine za x0 ?_ ?_
 ·refine ze<|zi fun r2 hr2 => ?_
  obtain ⟨_,er2,_,rfl⟩:=ZgL r1.1 .sh r2 hr2
  refine zc [] (.p (.tup [(.lst .sh (r2.1.map Zz)),(.v (.int .i64 r2.2))])) [(Zk Z1F .nl .nl)] er2<|zq<|zq ?_
  exact zk (ZgV r2.1 Z1F .sh .nl .nl rfl rfl)
 ·exact zk (ZgV r1.1 Z1F .sh .nl .nl rfl rfl)
theorem Zs1 x0 x1 {r} (h:Zgr x0 x1 = some r):Z45 x0 x1 = some r :=
 Z1l (fun _ _ ha hb => ru_ ZiF (ha .ex) (hb .ex)) (fun ox1 => ZqK x0 x1 ox1 r h)
def ZbV (x0:List Z8):Option ((List Z8) × Int) :=
 (ZaY x0).bind fun r1 =>
 some (r1,0)
theorem Zme (x0:List Z8) ox0:Sim Z2V (ZbV x0) (Zvc 0 (ZP ox0 (x0.map Zz)) []):=by
 unfold ZbV
 refine zf (ZBF ..)<|ze<|zi fun r1 hr1 => ?_
 obtain ⟨_,er1,_,rfl⟩:=Zdr x0 .sh r1 hr1
 refine zc [] (ZP .sh (r1.map Zz)) [] er1 ?_
 exact zr ((.p (.tup [(.lst .sh (r1.map Zz)),(.v (.int .i64 0))])),[]) ⟨_,rfl⟩
def Zf0 (x0:List Z8):Option ((List Z8) × Int) :=
 (Z5l x0).bind fun r1 =>
 if r1 = true then
 (some (([]:List Z8),13))
 else
 (ZbV x0)
theorem ZoT (x0:List Z8) ox0:Sim Z2V (Zf0 x0) (EE 77 [(ZP ox0 (x0.map Zz))] []):=by
 unfold Zf0
 refine zf (ZHi ..)<|ze<|ze<|zi fun r1 hr1 => ?_
 obtain ⟨_,er1,_,rfl⟩:=Zdw x0 .sh r1 hr1
 refine zc [] (bv r1) [] er1 ?_
 refine za r1 ?_ ?_
 ·refine ze ?_
  exact zr ((.p (.tup [(.lst .sh []),(.v (.int .i64 13))])),[]) ⟨_,rfl⟩
 ·exact zk (Zme x0 ox0)
theorem ZqG x0 {r} (h:Zf0 x0 = some r):Zf6 x0 = some r :=
 Z1l (fun _ _ ha hb => ru_ ZaP (ha .ex) (hb .ex)) (fun ox0 => ZoT x0 ox0 r h)
def Z5g (x0:List Z8):Option Bool :=
 (Z6l x0).bind fun r1 =>
 some (decide (0 ≤ r1))
theorem Zd5 (x0:List Z8) ox0:Sim ZS (Z5g x0) (EE 96 [(ZP ox0 (x0.map Zz)),(.clo 97 [] [])] []):=by
 unfold Z5g
 refine zf (ZHy ..)<|ze<|ze<|zi fun r1 hr1 => ?_
 obtain ⟨_,er1,_,rfl⟩:=ZeZ x0 .sh r1 hr1
 refine zc [] (iv r1) [] er1<|zq ?_
 exact zr ((bv (decide (0 ≤ r1))),[]) ⟨_,rfl⟩
theorem Zdv x0 {r} (h:Z5g x0 = some r):Z5l x0 = some r :=
 Z1l (fun _ _ ha hb => ru_ Z2P (ha .ex) (hb .ex)) (fun ox0 => Zd5 x0 ox0 r h)
def Z6f (x0:List Z8):Option Int :=
 Z49 x0 (x0.length:Int) 0
theorem Zek (x0:List Z8) ox0:Sim ZK (Z6f x0) (EE 104 [(ZP ox0 (x0.map Zz)),(.clo 97 [] [])] []):=by
 unfold Z6f
 refine zf (ZEN ..)<|ze<|ze<|zp (iv (x0.length:Int)) (et_ (Z37 (P:=PP) (t:=27) (d:=47) (by kernel_rfl) Zz (shrO ox0) x0)) ?_
 exact zk (Z8Z x0 (x0.length:Int) 0 ox0)
theorem ZeY x0 {r} (h:Z6f x0 = some r):Z6l x0 = some r :=
 Z1l (fun _ _ ha hb => ru_ Z1N (ha .ex) (hb .ex)) (fun ox0 => Zek x0 ox0 r h)
def Z5j (x0:List Z8) (x7 x8:Int):Option Int :=
 Z49 x0 x7 (IntKind.i64.wrap (x8 + 1))
theorem Zdc (x0:List Z8) x7 x8 ox0:Sim ZK (Z5j x0 x7 x8) (Zry 0 (ZP ox0 (x0.map Zz)) (.clo 97 [] []) (iv x7) (iv x8) []):=by
 unfold Z5j
 refine zf (ZxS ..)<|ze<|zq ?_
 exact zk (Z8Z x0 x7 (IntKind.i64.wrap (x8 + 1)) ox0)
def Z5i (x0:List Z8) (x7 x8:Int):Option Int :=
 (lget x0 x8).bind fun a1 =>
 (Zd3 a1).bind fun r2 =>
 if r2 = true then
 (some x8)
 else
 (Z5j x0 x7 x8)
theorem Zdb (x0:List Z8) x7 x8 ox0:Sim ZK (Z5i x0 x7 x8) (Zrx 0 (ZP ox0 (x0.map Zz)) (.clo 97 [] []) (iv x7) (iv x8) []):=by
 unfold Z5i
 refine zf (ZxR ..)<|ze<|ze<|zi fun a1 ha1 => zp (.cptr (ZQ a1)) (et_ (Z2Q (o:=(shrO ox0)) (k:=.i64) (n:=2) (e:=Zz) (cs:=Z7Z) (fun _ => rfl) (fun _ => rfl) (by decide) ha1))<|zq<|zi fun r2 hr2 => ?_
 obtain ⟨_,er2,_,rfl⟩:=Zoh a1 r2 hr2
 refine zv [] (bv r2) [] er2 ?_
 refine za r2 ?_ ?_
 ·refine ze ?_
  exact zr ((iv x8),[]) ⟨_,rfl⟩
 ·exact zk (Zdc x0 x7 x8 ox0)
def Z79:Option Int :=
 some (-1)
theorem Zdd:Sim ZK Z79 (Zrz 0 []):=by
 unfold Z79
 refine zf (ZxT ..)<|ze ?_
 exact zr ((iv (-1)),[]) ⟨_,rfl⟩
def Z47 (x0:List Z8) (x7 x8:Int):Option Int :=
 if (decide (x8 < x7)) = true then
 (Z5i x0 x7 x8)
 else
 Z79
theorem Zda (x0:List Z8) x7 x8 ox0:Sim ZK (Z47 x0 x7 x8) (Zkp 0 (ZP ox0 (x0.map Zz)) (.clo 97 [] []) (iv x7) (iv x8) []):=by
 unfold Z47
 refine zf (ZxQ ..)<|ze<|zq ?_
 refine za (decide (x8 < x7)) ?_ ?_
 ·exact zk (Zdb x0 x7 x8 ox0)
 ·exact zk Zdd
theorem Z8Y x0 x7 x8 {r} (h:Z47 x0 x7 x8 = some r):Z49 x0 x7 x8 = some r :=
 Z1l (fun _ _ ha hb => ru_ Z1N (ha .ex) (hb .ex)) (fun ox0 => Zda x0 x7 x8 ox0 r h)
def ZcS (x0:Z8):Option Bool :=
 (Z7T x0).bind fun r1 =>
 some (!r1)
theorem ZmV x0:Sim ZS (ZcS x0) (EE 97 [(pA_ (ZQ x0))] []):=by
 unfold ZcS
 refine zf (ZHz ..)<|ze<|zx (.ptr 0 0) [(Z2B x0)]<|ze<|zq<|zi fun r1 hr1 => ?_
 obtain ⟨_,er1,_,rfl⟩:=ZdI x0 r1 hr1
 refine zc [] (bv r1) [(Z2B x0)] er1<|zq ?_
 exact zr ((bv (!r1)),[(Z2B x0)]) ⟨_,rfl⟩
theorem Zog x0 {r} (h:ZcS x0 = some r):Zd3 x0 = some r :=
 Z1l (fun _ _ ha hb => ru_ Z2P ha hb) (ZmV x0 r h)
def Z9D (x0:Z8):Option Bool :=
 if (decide (0 ≤ x0.Lo)) = true then
 (if (decide (x0.Lo ≤ x0.Hi)) = true then
 (some (decide (x0.Hi ≤ 1114367)))
 else
 (some false))
 else
 (some false)
theorem Zji x0:Sim ZS (Z9D x0) (EE 22 [(pA_ (ZQ x0))] []):=by
 unfold Z9D
 refine zf (ZG1 ..)<|ze<|zx (.ptr 0 0) [(Z2B x0)]<|ze<|zq<|zq<|zq ?_
 refine za (decide (0 ≤ x0.Lo)) ?_ ?_
 ·refine zq<|zq<|zq<|zq<|zq ?_
  refine za (decide (x0.Lo ≤ x0.Hi)) ?_ ?_
  ·refine zq<|zq<|zq ?_
   exact zr ((bv (decide (x0.Hi ≤ 1114367))),[(Z2B x0)]) ⟨_,rfl⟩
  ·exact zr ((bv false),[(Z2B x0)]) ⟨_,rfl⟩
 ·exact zr ((bv false),[(Z2B x0)]) ⟨_,rfl⟩
theorem ZjU x0 {r} (h:Z9D x0 = some r):Z7T x0 = some r :=
 Z1l (fun _ _ ha hb => ru_ Z2P ha hb) (Zji x0 r h)
def Za8 (x0:List Z8):Option ((List Z8) × Int) :=
 (Zc5 x0).bind fun r1 =>
 some (r1,0)
theorem ZjW (x0:List Z8) ox0:Sim Z2V (Za8 x0) (ZtR 0 (ZP ox0 (x0.map Zz)) []):=by
 unfold Za8
 refine zf (ZAf ..)<|ze<|zi fun r1 hr1 => ?_
 obtain ⟨_,er1,_,rfl⟩:=Zn0 x0 .sh r1 hr1
 refine zc [] (ZP .sh (r1.map Zz)) [] er1 ?_
 exact zr ((.p (.tup [(.lst .sh (r1.map Zz)),(.v (.int .i64 0))])),[]) ⟨_,rfl⟩
def ZbX (x0:List Z8):Option ((List Z8) × Int) :=
 (Z5Z x0).bind fun r1 =>
 if (!r1) = true then
 (some (([]:List Z8),10))
 else
 (Za8 x0)
theorem Zmi (x0:List Z8) ox0:Sim Z2V (ZbX x0) (EE 17 [(ZP ox0 (x0.map Zz))] []):=by
 unfold ZbX
 refine zf (ZFQ ..)<|ze<|ze<|zi fun r1 hr1 => ?_
 obtain ⟨_,er1,_,rfl⟩:=Z8G x0 .sh r1 hr1
 refine zc [] (bv r1) [] er1<|zq ?_
 refine za (!r1) ?_ ?_
 ·refine ze ?_
  exact zr ((.p (.tup [(.lst .sh []),(.v (.int .i64 10))])),[]) ⟨_,rfl⟩
 ·exact zk (ZjW x0 ox0)
theorem ZmX x0 {r} (h:ZbX x0 = some r):Zag x0 = some r :=
 Z1l (fun _ _ ha hb => ru_ ZaP (ha .ex) (hb .ex)) (fun ox0 => Zmi x0 ox0 r h)
def Za7 (x0:List Z8):Option Bool :=
 Z6X (-2) x0 (x0.length:Int) 0
theorem ZjV (x0:List Z8) ox0:Sim ZS (Za7 x0) (EE 12 [(ZP ox0 (x0.map Zz))] []):=by
 unfold Za7
 refine zf (ZFG ..)<|ze<|ze<|ze<|zp (iv (x0.length:Int)) (et_ (Z37 (P:=PP) (t:=28) (d:=47) (by kernel_rfl) Zz (shrO ox0) x0)) ?_
 exact zk (Zcl (-2) x0 (x0.length:Int) 0 (shrO ox0))
theorem ZkK x0 {r} (h:Za7 x0 = some r):Z5Z x0 = some r :=
 Z1l (fun _ _ ha hb => ru_ Z2P (ha .ex) (hb .ex)) (fun ox0 => ZjV x0 ox0 r h)
def Z8z:Option Bool :=
 some false
theorem Zc4:Sim ZS Z8z (ZpJ 0 []):=by
 unfold Z8z
 refine zf (ZzZ ..)<|ze ?_
 exact zr ((bv false),[]) ⟨_,rfl⟩
def Z8B (x3:Int) (x6:List Z8) (x7 x8:Int):Option Bool :=
 Z6X x3 x6 x7 (IntKind.i64.wrap (x8 + 1))
theorem ZhT x3 (x6:List Z8) x7 x8 ox6:Sim ZS (Z8B x3 x6 x7 x8) (ZtC 0 (iv x3) (ZP ox6 (x6.map Zz)) (iv x7) (iv x8) []):=by
 unfold Z8B
 refine zf (ZA1 ..)<|ze<|zq ?_
 exact zk (Zcl x3 x6 x7 (IntKind.i64.wrap (x8 + 1)) ox6)
def Z8A (x6:List Z8) (x7 x8:Int) (b0:Z8):Option Bool :=
 Z8B b0.Hi x6 x7 x8
theorem ZhS (x6:List Z8) x7 x8 b0 ox6:Sim ZS (Z8A x6 x7 x8 b0) (ZtB 0 (.ptr 0 0) (ZP ox6 (x6.map Zz)) (iv x7) (iv x8) [(Z2B b0)]):=by
 unfold Z8A
 refine zf (ZA0 ..)<|ze<|zq<|zq ?_
 exact zk (ZhT b0.Hi x6 x7 x8 ox6)
def Z8y (x3:Int) (x6:List Z8) (x7 x8:Int):Option Bool :=
 (lget x6 x8).bind fun a1 =>
 (Z7T a1).bind fun r2 =>
 if (!r2) = true then
 Z8z
 else
 (if (decide (a1.Lo < (IntKind.i64.wrap (x3 + 2)))) = true then
 Z8z
 else
 (Z8A x6 x7 x8 a1))
theorem ZhR x3 (x6:List Z8) x7 x8 ox6:Sim ZS (Z8y x3 x6 x7 x8) (ZtA 0 (iv x3) (ZP ox6 (x6.map Zz)) (iv x7) (iv x8) []):=by
 unfold Z8y
 refine zf (ZzY ..)<|ze<|zi fun a1 ha1 => zp (.cptr (ZQ a1)) (et_ (Z2Q (o:=ox6) (k:=.i64) (n:=2) (e:=Zz) (cs:=Z7Z) (fun _ => rfl) (fun _ => rfl) (by decide) ha1))<|zq<|zz (.ptr 0 0) [(Z2B (Z8.mk 0 0))]<|zt [(Z2B a1)]<|ze<|zq<|zi fun r2 hr2 => ?_
 obtain ⟨_,er2,_,rfl⟩:=ZdI a1 r2 hr2
 refine zc [] (bv r2) [(Z2B a1)] er2<|zq ?_
 refine za (!r2) ?_ ?_
 ·exact zk Zc4
 ·refine zq<|zq<|zq<|zq ?_
  refine za (decide (a1.Lo < (IntKind.i64.wrap (x3 + 2)))) ?_ ?_
  ·exact zk Zc4
  ·exact zk (ZhS x6 x7 x8 a1 ox6)
def ZaR:Option Bool :=
 some true
theorem ZhU:Sim ZS ZaR (ZtD 0 []):=by
 unfold ZaR
 refine zf (ZA2 ..)<|ze ?_
 exact zr ((bv true),[]) ⟨_,rfl⟩
def Z6P (x3:Int) (x6:List Z8) (x7 x8:Int):Option Bool :=
 if (decide (x8 < x7)) = true then
 (Z8y x3 x6 x7 x8)
 else
 ZaR
theorem ZhQ x3 (x6:List Z8) x7 x8 ox6:Sim ZS (Z6P x3 x6 x7 x8) (Zmz 0 (iv x3) (ZP ox6 (x6.map Zz)) (iv x7) (iv x8) []):=by
 unfold Z6P
 refine zf (ZzX ..)<|ze<|zq ?_
 refine za (decide (x8 < x7)) ?_ ?_
 ·exact zk (ZhR x3 x6 x7 x8 ox6)
 ·exact zk ZhU
theorem Zck x3 x6 x7 x8 {r} (h:Z6P x3 x6 x7 x8 = some r):Z6X x3 x6 x7 x8 = some r :=
 Z1l (fun _ _ ha hb => ru_ Z2P (ha .ex) (hb .ex)) (fun ox6 => ZhQ x3 x6 x7 x8 ox6 r h)
def ZbY (x0:List Z8):Option (List Z8) :=
 Z8p ([]:List Z8) 0 x0 (x0.length:Int) 0
theorem Zmj (x0:List Z8) ox0:Sim Z3P (ZbY x0) (EE 26 [(ZP ox0 (x0.map Zz))] []):=by
 unfold ZbY
 refine zf (ZG3 ..)<|ze<|ze<|ze<|ze<|zp (iv (x0.length:Int)) (et_ (Z37 (P:=PP) (t:=28) (d:=47) (by kernel_rfl) Zz (shrO ox0) x0)) ?_
 exact zk (ZeC ([]:List Z8) 0 x0 (x0.length:Int) 0 .nl (shrO ox0) rfl)
theorem ZmZ x0 {r} (h:ZbY x0 = some r):Zc5 x0 = some r :=
 Z1l (fun _ _ ha hb => ru_ Zbh (ha .ex) (hb .ex)) (fun ox0 => Zmj x0 ox0 r h)
def Zaa (x3:List Z8) (x4:Int) (x7:List Z8) (x8 x9:Int):Option (List Z8) :=
 Z8p x3 x4 x7 x8 (IntKind.i64.wrap (x9 + 1))
theorem ZjZ (x3:List Z8) x4 (x7:List Z8) x8 x9 ox3 ox7 (hox3:ZM ox3 = true):Sim Z3P (Zaa x3 x4 x7 x8 x9) (Zu3 0 (ZP ox3 (x3.map Zz)) (iv x4) (ZP ox7 (x7.map Zz)) (iv x8) (iv x9) []):=by
 unfold Zaa
 refine zf (ZAq ..)<|ze<|zq ?_
 exact zk (ZeC x3 x4 x7 x8 (IntKind.i64.wrap (x9 + 1)) ox3 ox7 hox3)
def Z6Q (x3 x7:List Z8) (x8 x9:Int) (b0:Z8):Option (List Z8) :=
 Zaa x3 (IntKind.i64.wrap (b0.Hi + 1)) x7 x8 x9
theorem ZdL (x3 x7:List Z8) x8 x9 b0 ox3 ox7 (hox3:ZM ox3 = true):Sim Z3P (Z6Q x3 x7 x8 x9 b0) (ZpW 0 (ZP ox3 (x3.map Zz)) (.ptr 0 0) (ZP ox7 (x7.map Zz)) (iv x8) (iv x9) [(Z2B b0)]):=by
 unfold Z6Q
 refine zf (ZAp ..)<|ze<|zq<|zq<|zq ?_
 exact zk (ZjZ x3 (IntKind.i64.wrap (b0.Hi + 1)) x7 x8 x9 ox3 ox7 hox3)
def Za9 (x3:List Z8) (x4:Int) (x7:List Z8) (x8 x9:Int):Option (List Z8) :=
 (lget x7 x9).bind fun a1 =>
 if (decide (x4 < a1.Lo)) = true then
 ((lapp x3 ([(Z8.mk x4 (IntKind.i64.wrap (a1.Lo - 1)))]:List Z8)).bind fun a2 =>
 Z6Q a2 x7 x8 x9 a1)
 else
 (Z6Q x3 x7 x8 x9 a1)
theorem ZjY (x3:List Z8) x4 (x7:List Z8) x8 x9 ox3 ox7 (hox3:ZM ox3 = true):Sim Z3P (Za9 x3 x4 x7 x8 x9) (Zu2 0 (ZP ox3 (x3.map Zz)) (iv x4) (ZP ox7 (x7.map Zz)) (iv x8) (iv x9) []):=by
 unfold Za9
 refine zf (ZAo ..)<|ze<|zi fun a1 ha1 => zp (.cptr (ZQ a1)) (et_ (Z2Q (o:=ox7) (k:=.i64) (n:=2) (e:=Zz) (cs:=Z7Z) (fun _ => rfl) (fun _ => rfl) (by decide) ha1))<|zq<|zz (.ptr 0 0) [(Z2B (Z8.mk 0 0))]<|zt [(Z2B a1)]<|ze<|zq<|zq<|zq ?_
 refine za (decide (x4 < a1.Lo)) ?_ ?_
 ·refine ze<|zq<|zq<|zq<|zq<|zq<|zi fun a2 ha2 => zp (ZP .un (a2.map Zz)) (Eq.trans (by kernel_rfl) <| ZeP (n:=2) (o:=ox3) (o':=.ex) (e:=Zz) (ys:=([(Z8.mk x4 (IntKind.i64.wrap (a1.Lo - 1)))]:List Z8)) (fun _ => rfl) (by decide) hox3 ha2) ?_
  exact zk (ZdL a2 x7 x8 x9 a1 .un ox7 rfl)
 ·exact zk (ZdL x3 x7 x8 x9 a1 ox3 ox7 hox3)
def Z6D (x3:List Z8):Option (List Z8) :=
 some x3
theorem Zdm (x3:List Z8) ox3 (hox3:ZM ox3 = true):Sim Z3P (Z6D x3) (ZnR 0 (ZP ox3 (x3.map Zz)) []):=by
 unfold Z6D
 refine zf (Zy1 ..)<|ze ?_
 exact zr ((ZP .sh (x3.map Zz)),[]) ⟨_,rfl⟩
def Z9H (x3:List Z8) (x4:Int):Option (List Z8) :=
 if (decide (x4 ≤ 1114367)) = true then
 ((lapp x3 ([(Z8.mk x4 1114367)]:List Z8)).bind fun a1 =>
 Z6D a1)
 else
 (Z6D x3)
theorem Zjn (x3:List Z8) x4 ox3 (hox3:ZM ox3 = true):Sim Z3P (Z9H x3 x4) (ZrF 0 (ZP ox3 (x3.map Zz)) (iv x4) []):=by
 unfold Z9H
 refine zf (Zy0 ..)<|ze<|zq ?_
 refine za (decide (x4 ≤ 1114367)) ?_ ?_
 ·refine ze<|zq<|zq<|zi fun a1 ha1 => zp (ZP .un (a1.map Zz)) (Eq.trans (by kernel_rfl) <| ZeP (n:=2) (o:=ox3) (o':=.ex) (e:=Zz) (ys:=([(Z8.mk x4 1114367)]:List Z8)) (fun _ => rfl) (by decide) hox3 ha1) ?_
  exact zk (Zdm a1 .un rfl)
 ·exact zk (Zdm x3 ox3 hox3)
def Z8k (x3:List Z8) (x4:Int) (x7:List Z8) (x8 x9:Int):Option (List Z8) :=
 if (decide (x9 < x8)) = true then
 (Za9 x3 x4 x7 x8 x9)
 else
 (Z9H x3 x4)
theorem ZjX (x3:List Z8) x4 (x7:List Z8) x8 x9 ox3 ox7 (hox3:ZM ox3 = true):Sim Z3P (Z8k x3 x4 x7 x8 x9) (ZmD 0 (ZP ox3 (x3.map Zz)) (iv x4) (ZP ox7 (x7.map Zz)) (iv x8) (iv x9) []):=by
 unfold Z8k
 refine zf (ZAn ..)<|ze<|zq ?_
 refine za (decide (x9 < x8)) ?_ ?_
 ·exact zk (ZjY x3 x4 x7 x8 x9 ox3 ox7 hox3)
 ·exact zk (Zjn x3 x4 ox3 hox3)
theorem ZeB x3 x4 x7 x8 x9 {r} (h:Z8k x3 x4 x7 x8 x9 = some r):Z8p x3 x4 x7 x8 x9 = some r :=
 Z1l (fun _ _ ha hb => ru_ Zbh (ha .ex .ex rfl) (hb .ex .ex rfl)) (fun ox3 ox7 hox3 => ZjX x3 x4 x7 x8 x9 ox3 ox7 hox3 r h)
def Z5v (x1 x5 zn:Int) (zj:List ZA) (z2 z6:Int):Option (Z9 × Int × (List ZA) × Int × Int) :=
 (lapp zj ([(ZA.mk (IntKind.i64.wrap (x5 - 48)) x1)]:List ZA)).bind fun a1 =>
 some ((Z9.mk 6 0 0 0 (IntKind.i64.wrap (x5 - 48)) ([]:List Z8) ([]:List Z9)),zn,a1,z2,z6)
theorem Zfy x1 x5 zm zn z7 zh zj z2 z6 b1 zu zd zH zE (zy:ZM zd = true) (z19:ZM zH = true) (zY:ZM zE = true):Sim (Z4w zm z7 zh zu) (Z5v x1 x5 zn zj z2 z6) (ZrP 1 (.ptr 0 0) (iv x1) (.ptr 1 0) (iv x5) [(ZL zm zn z7 zh zj z2 z6 zu zd),(Zk b1 zH zE)]):=by
 unfold Z5v
 refine zf (Zyr ..)<|ze<|zq<|zq<|zw (ZP zd (zj.map Z2Z)) [(ZL zm zn z7 zh zj z2 z6 zu (shrO zd)),(Zk b1 zH zE)]<|zq<|zq<|zq<|zi fun a1 ha1 => zp (ZP .un (a1.map Z2Z)) (Eq.trans (by kernel_rfl) <| ZeP (n:=2) (o:=zd) (o':=.ex) (e:=Z2Z) (ys:=([(ZA.mk (IntKind.i64.wrap (x5 - 48)) x1)]:List ZA)) (fun _ => rfl) (by decide) zy ha1)<|zq<|zq<|zt [(ZL zm zn z7 zh a1 z2 z6 zu .un),(Zk b1 zH zE)]<|ze<|zq<|zq<|zt [(ZL zm zn z7 zh a1 z2 z6 zu .un),(Z2U 6 0 0 0 (IntKind.i64.wrap (x5 - 48)) ([]:List Z8) ([]:List Z9) .nl .nl)] ?_
 exact zr ((pA_ (ZI (Z9.mk 6 0 0 0 (IntKind.i64.wrap (x5 - 48)) ([]:List Z8) ([]:List Z9)) .sh .sh)),[(ZL zm zn z7 zh a1 z2 z6 zu .un),(Z2U 6 0 0 0 (IntKind.i64.wrap (x5 - 48)) ([]:List Z8) ([]:List Z9) .nl .nl)]) ⟨.un,_,rfl,rfl⟩
def Z3r (x1 x5:Int) (zm:List Int) (zn z7 zh:Int) (zj:List ZA) (z2 z6:Int):Option (Z9 × Int × (List ZA) × Int × Int) :=
 (Z7x x5 x1 zm zn z7 zh zj z2 z6).bind fun r1 =>
 (Z2y r1.1).bind fun r2 =>
 (Z45 false ([r2]:List Z8)).bind fun r3 =>
 some (r3,r1.2.1,zj,r1.2.2.1,r1.2.2.2)
theorem ZaB x1 x5 zm zn z7 zh zj z2 z6 b1 zu zd zH zE (zy:ZM zd = true) (z19:ZM zH = true) (zY:ZM zE = true):Sim (Z4w zm z7 zh zu) (Z3r x1 x5 zm zn z7 zh zj z2 z6) (ZnX 1 (.ptr 0 0) (iv x1) (.ptr 1 0) (iv x5) [(ZL zm zn z7 zh zj z2 z6 zu zd),(Zk b1 zH zE)]):=by
 unfold Z3r
 refine zf (Zys ..)<|ze<|zi fun r1 hr1 => ?_
 obtain ⟨_,er1,_,rfl⟩:=Zdo x5 x1 zm zn z7 zh zj z2 z6 zu zd zy r1 hr1
 refine zc [0] (iv r1.1) [(ZL zm r1.2.1 z7 zh zj r1.2.2.1 r1.2.2.2 zu zd),(Zk b1 zH zE)] er1<|zi fun r2 hr2 => ?_
 obtain ⟨_,er2,_,rfl⟩:=Z2l r1.1 r2 hr2
 refine zc [] (pA_ (ZQ r2)) [(ZL zm r1.2.1 z7 zh zj r1.2.2.1 r1.2.2.2 zu zd),(Zk b1 zH zE)] er2<|zq<|zi fun r3 hr3 => ?_
 obtain ⟨_,er3,_,rfl⟩:=Z4g false ([r2]:List Z8) .sh r3 hr3
 refine zc [] (pA_ (ZI r3 .sh .sh)) [(ZL zm r1.2.1 z7 zh zj r1.2.2.1 r1.2.2.2 zu zd),(Zk b1 zH zE)] er3<|zt [(ZL zm r1.2.1 z7 zh zj r1.2.2.1 r1.2.2.2 zu zd),(Zk r3 .sh .sh)] ?_
 exact zr ((pA_ (ZI r3 .sh .sh)),[(ZL zm r1.2.1 z7 zh zj r1.2.2.1 r1.2.2.2 zu zd),(Zk r3 .sh .sh)]) ⟨zd,_,zy,rfl⟩
def Z3A (x1 x5:Int) (zm:List Int) (zn z7 zh:Int) (zj:List ZA) (z2 z6:Int):Option (Z9 × Int × (List ZA) × Int × Int) :=
 (Z3o zm zn).bind fun r1 =>
 (Z7H x5).bind fun r2 =>
 (nilO r2.1 r2.2).bind fun a3 =>
 if (!a3) = true then
 ((Z7H x5).bind fun r4 =>
 (Z45 (decide (x5 < 97)) r4.2).bind fun r5 =>
 some (r5,r1.2,zj,z2,z6))
 else
 (if (x5 == 98) = true then
 (some ((Z9.mk 9 0 0 0 2 ([]:List Z8) ([]:List Z9)),r1.2,zj,z2,z6))
 else
 (if (x5 == 66) = true then
 (some ((Z9.mk 9 0 0 0 3 ([]:List Z8) ([]:List Z9)),r1.2,zj,z2,z6))
 else
 (if (decide (49 ≤ x5)) = true then
 (if (decide (x5 ≤ 57)) = true then
 (Z5v x1 x5 r1.2 zj z2 z6)
 else
 (Z3r x1 x5 zm r1.2 z7 zh zj z2 z6))
 else
 (Z3r x1 x5 zm r1.2 z7 zh zj z2 z6))))
theorem ZfS x1 x5 zm zn z7 zh zj z2 z6 b1 zu zd zH zE (zy:ZM zd = true) (z19:ZM zH = true) (zY:ZM zE = true):Sim (Z4w zm z7 zh zu) (Z3A x1 x5 zm zn z7 zh zj z2 z6) (ZuP 1 (.ptr 0 0) (iv x1) (.ptr 1 0) (iv x5) [(ZL zm zn z7 zh zj z2 z6 zu zd),(Zk b1 zH zE)]):=by
 unfold Z3A
 refine zf (ZBc ..)<|ze<|zi fun r1 hr1 => ?_
 obtain ⟨_,er1,_,rfl⟩:=Z3M zm zn z7 zh zj z2 z6 zu zd zy r1 hr1
 refine zc [0] (iv r1.1) [(ZL zm r1.2 z7 zh zj z2 z6 zu zd),(Zk b1 zH zE)] er1<|ze<|zi fun r2 hr2 => ?_
 obtain ⟨_,er2,_,rfl⟩:=Zbt x5 r2 hr2
 refine zc [] (ZP r2.1 (r2.2.map Zz)) [(ZL zm r1.2 z7 zh zj z2 z6 zu zd),(Zk b1 zH zE)] er2<|zi fun a3 ha3 => zp (bv (!a3)) (et_ (Zmb (P:=PP) (t:=27) (c:=.slice none 0 0) (e:=Zz) (by kernel_rfl) ha3)) ?_
 refine za (!a3) ?_ ?_
 ·refine ze<|zq<|zi fun r4 hr4 => ?_
  obtain ⟨_,er4,_,rfl⟩:=Zbt x5 r4 hr4
  refine zc [] (ZP r4.1 (r4.2.map Zz)) [(ZL zm r1.2 z7 zh zj z2 z6 zu zd),(Zk b1 zH zE)] er4<|zi fun r5 hr5 => ?_
  obtain ⟨_,er5,_,rfl⟩:=Z4g (decide (x5 < 97)) r4.2 .sh r5 hr5
  refine zc [] (pA_ (ZI r5 .sh .sh)) [(ZL zm r1.2 z7 zh zj z2 z6 zu zd),(Zk b1 zH zE)] er5<|zt [(ZL zm r1.2 z7 zh zj z2 z6 zu zd),(Zk r5 .sh .sh)] ?_
  exact zr ((pA_ (ZI r5 .sh .sh)),[(ZL zm r1.2 z7 zh zj z2 z6 zu zd),(Zk r5 .sh .sh)]) ⟨zd,_,zy,rfl⟩
 ·refine ze<|zq ?_
  refine za (x5 == 98) ?_ ?_
  ·refine ze<|zq<|zt [(ZL zm r1.2 z7 zh zj z2 z6 zu zd),(Z2U 9 0 0 0 2 ([]:List Z8) ([]:List Z9) .nl .nl)] ?_
   exact zr ((pA_ (ZI (Z9.mk 9 0 0 0 2 ([]:List Z8) ([]:List Z9)) .sh .sh)),[(ZL zm r1.2 z7 zh zj z2 z6 zu zd),(Z2U 9 0 0 0 2 ([]:List Z8) ([]:List Z9) .nl .nl)]) ⟨zd,_,zy,rfl⟩
  ·refine ze<|zq ?_
   refine za (x5 == 66) ?_ ?_
   ·refine ze<|zq<|zt [(ZL zm r1.2 z7 zh zj z2 z6 zu zd),(Z2U 9 0 0 0 3 ([]:List Z8) ([]:List Z9) .nl .nl)] ?_
    exact zr ((pA_ (ZI (Z9.mk 9 0 0 0 3 ([]:List Z8) ([]:List Z9)) .sh .sh)),[(ZL zm r1.2 z7 zh zj z2 z6 zu zd),(Z2U 9 0 0 0 3 ([]:List Z8) ([]:List Z9) .nl .nl)]) ⟨zd,_,zy,rfl⟩
   ·refine ze<|zq ?_
    refine za (decide (49 ≤ x5)) ?_ ?_
    ·refine zq ?_
     refine za (decide (x5 ≤ 57)) ?_ ?_
     ·exact zk (Zfy x1 x5 zm r1.2 z7 zh zj z2 z6 b1 zu zd zH zE zy z19 zY)
     ·exact zk (ZaB x1 x5 zm r1.2 z7 zh zj z2 z6 b1 zu zd zH zE zy z19 zY)
    ·exact zk (ZaB x1 x5 zm r1.2 z7 zh zj z2 z6 b1 zu zd zH zE zy z19 zY)
def Z5I (x1:Int) (zm:List Int) (zn z7 zh:Int) (zj:List ZA) (z2 z6:Int):Option (Z9 × Int × (List ZA) × Int × Int) :=
 (Z2I (Z1D.mk zm zn z7 zh zj (Z16.mk z2 z6))).bind fun r1 =>
 if (decide (r1 < 0)) = true then
 ((Z1g 21 x1 zm z2 z6).bind fun r2 =>
 some ((Z9.mk 0 0 0 0 0 ([]:List Z8) ([]:List Z9)),r2.1,zj,r2.2.1,r2.2.2))
 else
 (Z3A x1 r1 zm zn z7 zh zj z2 z6)
theorem Zi4 x1 zm zn z7 zh zj z2 z6 zu zd (zy:ZM zd = true):Sim (Z4w zm z7 zh zu) (Z5I x1 zm zn z7 zh zj z2 z6) (EE 66 [(.ptr 0 0),(iv x1)] [(ZL zm zn z7 zh zj z2 z6 zu zd)]):=by
 unfold Z5I
 refine zf (ZH0 ..)<|ze<|zz (.ptr 1 0) [(ZL zm zn z7 zh zj z2 z6 zu zd),(Zk Z1F .nl .nl)]<|ze<|zi fun r1 hr1 => ?_
 obtain ⟨_,er1,_,rfl⟩:=Z2W (Z1D.mk zm zn z7 zh zj (Z16.mk z2 z6)) zu zd zy r1 hr1
 refine zc [0] (iv r1) [(ZL zm zn z7 zh zj z2 z6 zu zd),(Zk Z1F .nl .nl)] er1<|ze<|zq ?_
 refine za (decide (r1 < 0)) ?_ ?_
 ·refine ze<|zi fun r2 hr2 => ?_
  obtain ⟨_,er2,_,rfl⟩:=Z1k 21 x1 zm zn z7 zh zj z2 z6 zu zd zy r2 hr2
  refine zc [0] (.p (.tup [])) [(ZL zm r2.1 z7 zh zj r2.2.1 r2.2.2 zu zd),(Zk Z1F .nl .nl)] er2<|ze<|zq<|zt [(ZL zm r2.1 z7 zh zj r2.2.1 r2.2.2 zu zd),(Zk Z1F .nl .nl)] ?_
  exact zr ((pA_ (ZI Z1F .sh .sh)),[(ZL zm r2.1 z7 zh zj r2.2.1 r2.2.2 zu zd),(Zk Z1F .nl .nl)]) ⟨zd,_,zy,rfl⟩
 ·exact zk (ZfS x1 r1 zm zn z7 zh zj z2 z6 Z1F zu zd .nl .nl zy rfl rfl)
theorem ZiR x1 zm zn z7 zh zj z2 z6 {r} (h:Z5I x1 zm zn z7 zh zj z2 z6 = some r):Z4I x1 zm zn z7 zh zj z2 z6 = some r :=
 Z1l (fun _ _ ha hb => ru_ (Zjf _ _ _ _) (ha .ex .ex rfl) (hb .ex .ex rfl)) (fun zu zd zy => Zi4 x1 zm zn z7 zh zj z2 z6 zu zd zy r h)
def Z5m (zm:List Int) (z2 z6:Int):Option (Int × Int × Int) :=
 some ((zm.length:Int),z2,z6)
theorem ZbI zm zn z7 zh zj z2 z6 zu zd (zy:ZM zd = true):Sim (Z7O zm z7 zh zj zu zd) (Z5m zm z2 z6) (ZpT 1 (.ptr 0 0) [(ZL zm zn z7 zh zj z2 z6 zu zd)]):=by
 unfold Z5m
 refine zf (ZAm ..)<|ze<|zq<|zq<|zq<|zp (iv (zm.length:Int)) (et_ (Z37 (P:=PP) (t:=54) (d:=5) (by kernel_rfl) (eI .u8) (shrO zu) zm))<|zq<|zq<|zt [(ZL zm (zm.length:Int) z7 zh zj z2 z6 zu zd)] ?_
 exact zr ((.p (.tup [])),[(ZL zm (zm.length:Int) z7 zh zj z2 z6 zu zd)]) ⟨_,rfl⟩
def Z7S (x1 x2:Int) (zm:List Int) (z2 z6:Int):Option (Int × Int × Int) :=
 if (z2 == 0) = true then
 (Z5m zm x1 x2)
 else
 (Z5m zm z2 z6)
theorem Zjr x1 x2 zm zn z7 zh zj z2 z6 zu zd (zy:ZM zd = true):Sim (Z7O zm z7 zh zj zu zd) (Z7S x1 x2 zm z2 z6) (EE 21 [(.ptr 0 0),(iv x1),(iv x2)] [(ZL zm zn z7 zh zj z2 z6 zu zd)]):=by
 unfold Z7S
 refine zf (ZFZ ..)<|ze<|zq<|zq<|zq<|zq<|zq ?_
 refine za (z2 == 0) ?_ ?_
 ·refine ze<|zq<|zq<|zq<|zt [(ZL zm zn z7 zh zj x1 x2 zu zd)] ?_
  exact zk (ZbI zm zn z7 zh zj x1 x2 zu zd zy)
 ·exact zk (ZbI zm zn z7 zh zj z2 z6 zu zd zy)
theorem ZdN x1 x2 zm z2 z6 {r} (h:Z7S x1 x2 zm z2 z6 = some r):Z1g x1 x2 zm z2 z6 = some r :=
 Z1l (fun _ _ ha hb => ru_ (Zkg _ _ _ _ _ _) (ha default default default default .ex .ex rfl) (hb default default default default .ex .ex rfl)) (fun zn z7 zh zj zu zd zy => Zjr x1 x2 zm zn z7 zh zj z2 z6 zu zd zy r h)
def Z33:Option (Own × (List Z8)) :=
 some (.nl,([]:List Z8))
theorem Z3t:Sim Z7D Z33 (ZbM 0 []):=by
 unfold Z33
 refine zf (ZyL ..)<|ze ?_
 exact zr ((ZP .nl []),[]) ⟨_,rfl⟩
def Z44 (x0:Int):Option (Own × (List Z8)) :=
 if (x0 == 100) = true then
 (if (x0 == 100) = true then
 (some (.ex,([(Z8.mk 48 57)]:List Z8)))
 else
 (if (x0 == 119) = true then
 (if (x0 == 119) = true then
 ((Z2y 95).bind fun r1 =>
 some (.ex,([(Z8.mk 48 57),(Z8.mk 65 90),r1,(Z8.mk 97 122)]:List Z8)))
 else
 (if (x0 == 115) = true then
 (if (x0 == 115) = true then
 ((Z2y 32).bind fun r2 =>
 some (.ex,([(Z8.mk 9 13),r2]:List Z8)))
 else
 Z33)
 else
 (if (x0 == 83) = true then
 ((Z2y 32).bind fun r3 =>
 some (.ex,([(Z8.mk 9 13),r3]:List Z8)))
 else
 Z33)))
 else
 (if (x0 == 87) = true then
 ((Z2y 95).bind fun r4 =>
 some (.ex,([(Z8.mk 48 57),(Z8.mk 65 90),r4,(Z8.mk 97 122)]:List Z8)))
 else
 (if (x0 == 115) = true then
 (if (x0 == 115) = true then
 ((Z2y 32).bind fun r5 =>
 some (.ex,([(Z8.mk 9 13),r5]:List Z8)))
 else
 Z33)
 else
 (if (x0 == 83) = true then
 ((Z2y 32).bind fun r6 =>
 some (.ex,([(Z8.mk 9 13),r6]:List Z8)))
 else
 Z33)))))
 else
 (if (x0 == 68) = true then
 (some (.ex,([(Z8.mk 48 57)]:List Z8)))
 else
 (if (x0 == 119) = true then
 (if (x0 == 119) = true then
 ((Z2y 95).bind fun r7 =>
 some (.ex,([(Z8.mk 48 57),(Z8.mk 65 90),r7,(Z8.mk 97 122)]:List Z8)))
 else
 (if (x0 == 115) = true then
 (if (x0 == 115) = true then
 ((Z2y 32).bind fun r8 =>
 some (.ex,([(Z8.mk 9 13),r8]:List Z8)))
 else
 Z33)
 else
 (if (x0 == 83) = true then
 ((Z2y 32).bind fun r9 =>
 some (.ex,([(Z8.mk 9 13),r9]:List Z8)))
 else
 Z33)))
 else
 (if (x0 == 87) = true then
 ((Z2y 95).bind fun r10 =>
 some (.ex,([(Z8.mk 48 57),(Z8.mk 65 90),r10,(Z8.mk 97 122)]:List Z8)))
 else
 (if (x0 == 115) = true then
 (if (x0 == 115) = true then
 ((Z2y 32).bind fun r11 =>
 some (.ex,([(Z8.mk 9 13),r11]:List Z8)))
 else
 Z33)
 else
 (if (x0 == 83) = true then
 ((Z2y 32).bind fun r12 =>
 some (.ex,([(Z8.mk 9 13),r12]:List Z8)))
 else
 Z33)))))
theorem ZkR x0:Sim Z7D (Z44 x0) (EE 78 [(iv x0)] []):=by
 unfold Z44
 refine zf (ZHk ..)<|ze<|ze<|ze<|zq ?_
 refine za (x0 == 100) ?_ ?_
 ·refine za (x0 == 100) ?_ ?_
  ·refine ze<|zq<|zq ?_
   exact zr ((ZP .ex (([(Z8.mk 48 57)]:List Z8).map Zz)),[]) ⟨_,rfl⟩
  ·refine ze<|zq ?_
   refine za (x0 == 119) ?_ ?_
   ·refine za (x0 == 119) ?_ ?_
    ·refine ze<|zq<|zq<|zi fun r1 hr1 => ?_
     obtain ⟨_,er1,_,rfl⟩:=Z2l 95 r1 hr1
     refine zc [] (pA_ (ZQ r1)) [] er1<|zq<|zq ?_
     exact zr ((ZP .ex (([(Z8.mk 48 57),(Z8.mk 65 90),r1,(Z8.mk 97 122)]:List Z8).map Zz)),[]) ⟨_,rfl⟩
    ·refine ze<|zq ?_
     refine za (x0 == 115) ?_ ?_
     ·refine za (x0 == 115) ?_ ?_
      ·refine ze<|zq<|zi fun r2 hr2 => ?_
       obtain ⟨_,er2,_,rfl⟩:=Z2l 32 r2 hr2
       refine zc [] (pA_ (ZQ r2)) [] er2<|zq ?_
       exact zr ((ZP .ex (([(Z8.mk 9 13),r2]:List Z8).map Zz)),[]) ⟨_,rfl⟩
      ·exact zk Z3t
     ·refine ze<|zq ?_
      refine za (x0 == 83) ?_ ?_
      ·refine ze<|zq<|zi fun r3 hr3 => ?_
       obtain ⟨_,er3,_,rfl⟩:=Z2l 32 r3 hr3
       refine zc [] (pA_ (ZQ r3)) [] er3<|zq ?_
       exact zr ((ZP .ex (([(Z8.mk 9 13),r3]:List Z8).map Zz)),[]) ⟨_,rfl⟩
      ·exact zk Z3t
   ·refine ze<|zq ?_
    refine za (x0 == 87) ?_ ?_
    ·refine ze<|zq<|zq<|zi fun r4 hr4 => ?_
     obtain ⟨_,er4,_,rfl⟩:=Z2l 95 r4 hr4
     refine zc [] (pA_ (ZQ r4)) [] er4<|zq<|zq ?_
     exact zr ((ZP .ex (([(Z8.mk 48 57),(Z8.mk 65 90),r4,(Z8.mk 97 122)]:List Z8).map Zz)),[]) ⟨_,rfl⟩
    ·refine ze<|zq ?_
     refine za (x0 == 115) ?_ ?_
     ·refine za (x0 == 115) ?_ ?_
      ·refine ze<|zq<|zi fun r5 hr5 => ?_
       obtain ⟨_,er5,_,rfl⟩:=Z2l 32 r5 hr5
       refine zc [] (pA_ (ZQ r5)) [] er5<|zq ?_
       exact zr ((ZP .ex (([(Z8.mk 9 13),r5]:List Z8).map Zz)),[]) ⟨_,rfl⟩
      ·exact zk Z3t
     ·refine ze<|zq ?_
      refine za (x0 == 83) ?_ ?_
      ·refine ze<|zq<|zi fun r6 hr6 => ?_
       obtain ⟨_,er6,_,rfl⟩:=Z2l 32 r6 hr6
       refine zc [] (pA_ (ZQ r6)) [] er6<|zq ?_
       exact zr ((ZP .ex (([(Z8.mk 9 13),r6]:List Z8).map Zz)),[]) ⟨_,rfl⟩
      ·exact zk Z3t
 ·refine ze<|zq ?_
  refine za (x0 == 68) ?_ ?_
  ·refine ze<|zq<|zq ?_
   exact zr ((ZP .ex (([(Z8.mk 48 57)]:List Z8).map Zz)),[]) ⟨_,rfl⟩
  ·refine ze<|zq ?_
   refine za (x0 == 119) ?_ ?_
   ·refine za (x0 == 119) ?_ ?_
    ·refine ze<|zq<|zq<|zi fun r7 hr7 => ?_
     obtain ⟨_,er7,_,rfl⟩:=Z2l 95 r7 hr7
     refine zc [] (pA_ (ZQ r7)) [] er7<|zq<|zq ?_
     exact zr ((ZP .ex (([(Z8.mk 48 57),(Z8.mk 65 90),r7,(Z8.mk 97 122)]:List Z8).map Zz)),[]) ⟨_,rfl⟩
    ·refine ze<|zq ?_
     refine za (x0 == 115) ?_ ?_
     ·refine za (x0 == 115) ?_ ?_
      ·refine ze<|zq<|zi fun r8 hr8 => ?_
       obtain ⟨_,er8,_,rfl⟩:=Z2l 32 r8 hr8
       refine zc [] (pA_ (ZQ r8)) [] er8<|zq ?_
       exact zr ((ZP .ex (([(Z8.mk 9 13),r8]:List Z8).map Zz)),[]) ⟨_,rfl⟩
      ·exact zk Z3t
     ·refine ze<|zq ?_
      refine za (x0 == 83) ?_ ?_
      ·refine ze<|zq<|zi fun r9 hr9 => ?_
       obtain ⟨_,er9,_,rfl⟩:=Z2l 32 r9 hr9
       refine zc [] (pA_ (ZQ r9)) [] er9<|zq ?_
       exact zr ((ZP .ex (([(Z8.mk 9 13),r9]:List Z8).map Zz)),[]) ⟨_,rfl⟩
      ·exact zk Z3t
   ·refine ze<|zq ?_
    refine za (x0 == 87) ?_ ?_
    ·refine ze<|zq<|zq<|zi fun r10 hr10 => ?_
     obtain ⟨_,er10,_,rfl⟩:=Z2l 95 r10 hr10
     refine zc [] (pA_ (ZQ r10)) [] er10<|zq<|zq ?_
     exact zr ((ZP .ex (([(Z8.mk 48 57),(Z8.mk 65 90),r10,(Z8.mk 97 122)]:List Z8).map Zz)),[]) ⟨_,rfl⟩
    ·refine ze<|zq ?_
     refine za (x0 == 115) ?_ ?_
     ·refine za (x0 == 115) ?_ ?_
      ·refine ze<|zq<|zi fun r11 hr11 => ?_
       obtain ⟨_,er11,_,rfl⟩:=Z2l 32 r11 hr11
       refine zc [] (pA_ (ZQ r11)) [] er11<|zq ?_
       exact zr ((ZP .ex (([(Z8.mk 9 13),r11]:List Z8).map Zz)),[]) ⟨_,rfl⟩
      ·exact zk Z3t
     ·refine ze<|zq ?_
      refine za (x0 == 83) ?_ ?_
      ·refine ze<|zq<|zi fun r12 hr12 => ?_
       obtain ⟨_,er12,_,rfl⟩:=Z2l 32 r12 hr12
       refine zc [] (pA_ (ZQ r12)) [] er12<|zq ?_
       exact zr ((ZP .ex (([(Z8.mk 9 13),r12]:List Z8).map Zz)),[]) ⟨_,rfl⟩
      ·exact zk Z3t
theorem Zlz x0 {r} (h:Z44 x0 = some r):Z7H x0 = some r :=
 Z1l (fun _ _ ha hb => ru_ ZfE ha hb) (ZkR x0 r h)
def Z3b (x2:Int) (zm:List Int) (z2 z6:Int):Option (Int × Int × Int × Int) :=
 (Z1g 21 x2 zm z2 z6).bind fun r1 =>
 some (0,r1.1,r1.2.1,r1.2.2)
theorem Z4J x2 zm zn z7 zh zj z2 z6 zu zd (zy:ZM zd = true):Sim (Z65 zm z7 zh zj zu zd) (Z3b x2 zm z2 z6) (ZfK 1 (.ptr 0 0) (iv x2) [(ZL zm zn z7 zh zj z2 z6 zu zd)]):=by
 unfold Z3b
 refine zf (ZyN ..)<|ze<|zi fun r1 hr1 => ?_
 obtain ⟨_,er1,_,rfl⟩:=Z1k 21 x2 zm zn z7 zh zj z2 z6 zu zd zy r1 hr1
 refine zc [0] (.p (.tup [])) [(ZL zm r1.1 z7 zh zj r1.2.1 r1.2.2 zu zd)] er1<|ze ?_
 exact zr ((iv 0),[(ZL zm r1.1 z7 zh zj r1.2.1 r1.2.2 zu zd)]) ⟨_,rfl⟩
def Z9n (x1 zn z2 z6:Int):Option (Int × Int × Int × Int) :=
 some (x1,zn,z2,z6)
theorem ZfZ x1 zm zn z7 zh zj z2 z6 zu zd (zy:ZM zd = true):Sim (Z65 zm z7 zh zj zu zd) (Z9n x1 zn z2 z6) (ZrW 1 (iv x1) [(ZL zm zn z7 zh zj z2 z6 zu zd)]):=by
 unfold Z9n
 refine zf (ZyM ..)<|ze ?_
 exact zr ((iv x1),[(ZL zm zn z7 zh zj z2 z6 zu zd)]) ⟨_,rfl⟩
def Z93 (x1 x2:Int) (zm:List Int) (zn z7 zh:Int) (zj:List ZA) (z2 z6:Int):Option (Int × Int × Int × Int) :=
 if (x1 == 110) = true then
 (some (10,zn,z2,z6))
 else
 (if (x1 == 116) = true then
 (some (9,zn,z2,z6))
 else
 (if (x1 == 114) = true then
 (some (13,zn,z2,z6))
 else
 (if (x1 == 120) = true then
 ((Z2I (Z1D.mk zm zn z7 zh zj (Z16.mk z2 z6))).bind fun r1 =>
 (ZdM r1).bind fun r2 =>
 if (decide (0 ≤ r2)) = true then
 ((Z3o zm zn).bind fun r3 =>
 (Z2I (Z1D.mk zm r3.2 z7 zh zj (Z16.mk z2 z6))).bind fun r4 =>
 (ZdM r4).bind fun r5 =>
 if (decide (0 ≤ r5)) = true then
 ((Z3o zm r3.2).bind fun r6 =>
 some ((IntKind.i64.wrap ((IntKind.i64.wrap (16 * r2)) + r5)),r6.2,z2,z6))
 else
 (Z3b x2 zm z2 z6))
 else
 (Z3b x2 zm z2 z6))
 else
 (if (decide (32 < x1)) = true then
 (if (decide (x1 < 127)) = true then
 ((Z7w ([(Z8.mk 48 57),(Z8.mk 65 90),(Z8.mk 97 122)]:List Z8) x1).bind fun r7 =>
 if (!r7) = true then
 (Z9n x1 zn z2 z6)
 else
 (Z3b x2 zm z2 z6))
 else
 (Z3b x2 zm z2 z6))
 else
 (Z3b x2 zm z2 z6)))))
theorem ZiV x1 x2 zm zn z7 zh zj z2 z6 zu zd (zy:ZM zd = true):Sim (Z65 zm z7 zh zj zu zd) (Z93 x1 x2 zm zn z7 zh zj z2 z6) (EE 79 [(.ptr 0 0),(iv x1),(iv x2)] [(ZL zm zn z7 zh zj z2 z6 zu zd)]):=by
 unfold Z93
 refine zf (ZHm ..)<|ze<|ze<|zq ?_
 refine za (x1 == 110) ?_ ?_
 ·refine ze ?_
  exact zr ((iv 10),[(ZL zm zn z7 zh zj z2 z6 zu zd)]) ⟨_,rfl⟩
 ·refine ze<|zq ?_
  refine za (x1 == 116) ?_ ?_
  ·refine ze ?_
   exact zr ((iv 9),[(ZL zm zn z7 zh zj z2 z6 zu zd)]) ⟨_,rfl⟩
  ·refine ze<|zq ?_
   refine za (x1 == 114) ?_ ?_
   ·refine ze ?_
    exact zr ((iv 13),[(ZL zm zn z7 zh zj z2 z6 zu zd)]) ⟨_,rfl⟩
   ·refine ze<|zq ?_
    refine za (x1 == 120) ?_ ?_
    ·refine ze<|zi fun r1 hr1 => ?_
     obtain ⟨_,er1,_,rfl⟩:=Z2W (Z1D.mk zm zn z7 zh zj (Z16.mk z2 z6)) zu zd zy r1 hr1
     refine zc [0] (iv r1) [(ZL zm zn z7 zh zj z2 z6 zu zd)] er1<|zi fun r2 hr2 => ?_
     obtain ⟨_,er2,_,rfl⟩:=ZkP r1 r2 hr2
     refine zc [] (iv r2) [(ZL zm zn z7 zh zj z2 z6 zu zd)] er2<|ze<|zq ?_
     refine za (decide (0 ≤ r2)) ?_ ?_
     ·refine ze<|zi fun r3 hr3 => ?_
      obtain ⟨_,er3,_,rfl⟩:=Z3M zm zn z7 zh zj z2 z6 zu zd zy r3 hr3
      refine zc [0] (iv r3.1) [(ZL zm r3.2 z7 zh zj z2 z6 zu zd)] er3<|ze<|zi fun r4 hr4 => ?_
      obtain ⟨_,er4,_,rfl⟩:=Z2W (Z1D.mk zm r3.2 z7 zh zj (Z16.mk z2 z6)) zu zd zy r4 hr4
      refine zc [0] (iv r4) [(ZL zm r3.2 z7 zh zj z2 z6 zu zd)] er4<|zi fun r5 hr5 => ?_
      obtain ⟨_,er5,_,rfl⟩:=ZkP r4 r5 hr5
      refine zc [] (iv r5) [(ZL zm r3.2 z7 zh zj z2 z6 zu zd)] er5<|ze<|zq ?_
      refine za (decide (0 ≤ r5)) ?_ ?_
      ·refine ze<|zi fun r6 hr6 => ?_
       obtain ⟨_,er6,_,rfl⟩:=Z3M zm r3.2 z7 zh zj z2 z6 zu zd zy r6 hr6
       refine zc [0] (iv r6.1) [(ZL zm r6.2 z7 zh zj z2 z6 zu zd)] er6<|ze<|zq<|zq ?_
       exact zr ((iv (IntKind.i64.wrap ((IntKind.i64.wrap (16 * r2)) + r5))),[(ZL zm r6.2 z7 zh zj z2 z6 zu zd)]) ⟨_,rfl⟩
      ·exact zk (Z4J x2 zm r3.2 z7 zh zj z2 z6 zu zd zy)
     ·exact zk (Z4J x2 zm zn z7 zh zj z2 z6 zu zd zy)
    ·refine ze<|zq ?_
     refine za (decide (32 < x1)) ?_ ?_
     ·refine zq ?_
      refine za (decide (x1 < 127)) ?_ ?_
      ·refine zq<|zq<|zq<|zq<|zi fun r7 hr7 => ?_
       obtain ⟨_,er7,_,rfl⟩:=Zcj ([(Z8.mk 48 57),(Z8.mk 65 90),(Z8.mk 97 122)]:List Z8) x1 .sh r7 hr7
       refine zc [] (bv r7) [(ZL zm zn z7 zh zj z2 z6 zu zd)] er7<|zq ?_
       refine za (!r7) ?_ ?_
       ·exact zk (ZfZ x1 zm zn z7 zh zj z2 z6 zu zd zy)
       ·exact zk (Z4J x2 zm zn z7 zh zj z2 z6 zu zd zy)
      ·exact zk (Z4J x2 zm zn z7 zh zj z2 z6 zu zd zy)
     ·exact zk (Z4J x2 zm zn z7 zh zj z2 z6 zu zd zy)
theorem Zju x1 x2 zm zn z7 zh zj z2 z6 {r} (h:Z93 x1 x2 zm zn z7 zh zj z2 z6 = some r):Z7x x1 x2 zm zn z7 zh zj z2 z6 = some r :=
 Z1l (fun _ _ ha hb => ru_ (ZjR _ _ _ _ _ _) (ha .ex .ex rfl) (hb .ex .ex rfl)) (fun zu zd zy => ZiV x1 x2 zm zn z7 zh zj z2 z6 zu zd zy r h)
def ZcT (x0:Int):Option Int :=
 some (IntKind.i64.wrap (x0 - 48))
theorem Zn1 x0:Sim ZK (ZcT x0) (Zvv 0 (iv x0) []):=by
 unfold ZcT
 refine zf (ZBR ..)<|ze<|zq ?_
 exact zr ((iv (IntKind.i64.wrap (x0 - 48))),[]) ⟨_,rfl⟩
def ZcU (x0:Int):Option Int :=
 some (IntKind.i64.wrap ((IntKind.i64.wrap (x0 - 97)) + 10))
theorem Zn2 x0:Sim ZK (ZcU x0) (Zvw 0 (iv x0) []):=by
 unfold ZcU
 refine zf (ZBT ..)<|ze<|zq<|zq ?_
 exact zr ((iv (IntKind.i64.wrap ((IntKind.i64.wrap (x0 - 97)) + 10))),[]) ⟨_,rfl⟩
def ZaU:Option Int :=
 some (-1)
theorem ZgQ:Sim ZK ZaU (ZqD 0 []):=by
 unfold ZaU
 refine zf (ZBU ..)<|ze ?_
 exact zr ((iv (-1)),[]) ⟨_,rfl⟩
def ZaT (x0:Int):Option Int :=
 if (decide (97 ≤ x0)) = true then
 (if (decide (x0 ≤ 102)) = true then
 (ZcU x0)
 else
 ZaU)
 else
 ZaU
theorem ZgP x0:Sim ZK (ZaT x0) (ZqC 0 (iv x0) []):=by
 unfold ZaT
 refine zf (ZBS ..)<|ze<|zq ?_
 refine za (decide (97 ≤ x0)) ?_ ?_
 ·refine zq ?_
  refine za (decide (x0 ≤ 102)) ?_ ?_
  ·exact zk (Zn2 x0)
  ·exact zk ZgQ
 ·exact zk ZgQ
def Zgq (x0:Int):Option Int :=
 if (decide (48 ≤ x0)) = true then
 (if (decide (x0 ≤ 57)) = true then
 (ZcT x0)
 else
 (ZaT x0))
 else
 (ZaT x0)
theorem ZqI x0:Sim ZK (Zgq x0) (EE 98 [(iv x0)] []):=by
 unfold Zgq
 refine zf (ZHA ..)<|ze<|ze<|zq ?_
 refine za (decide (48 ≤ x0)) ?_ ?_
 ·refine zq ?_
  refine za (decide (x0 ≤ 57)) ?_ ?_
  ·exact zk (Zn1 x0)
  ·exact zk (ZgP x0)
 ·exact zk (ZgP x0)
theorem ZrZ x0 {r} (h:Zgq x0 = some r):ZdM x0 = some r :=
 Z1l (fun _ _ ha hb => ru_ Z1N ha hb) (ZqI x0 r h)
def ZbW (x0:List Z8) (x1:Int):Option Bool :=
 (Z5k x0 x1).bind fun r1 =>
 some r1
theorem Zmh (x0:List Z8) x1 ox0:Sim ZS (ZbW x0 x1) (EE 24 [(ZP ox0 (x0.map Zz)),(iv x1)] []):=by
 unfold ZbW
 refine zf (ZG2 ..)<|ze<|zx (.ptr 0 0) [[(iv x1)]]<|ze<|zi fun r1 hr1 => ?_
 obtain ⟨_,er1,_,rfl⟩:=Zdu x0 x1 .sh r1 hr1
 refine zc [0] (bv r1) [[(iv x1)]] er1 ?_
 exact zr ((bv r1),[[(iv x1)]]) ⟨_,rfl⟩
theorem ZmW x0 x1 {r} (h:ZbW x0 x1 = some r):Z7w x0 x1 = some r :=
 Z1l (fun _ _ ha hb => ru_ Z2P (ha .ex) (hb .ex)) (fun ox0 => Zmh x0 x1 ox0 r h)
def Z5f (x0:List Z8) (z1C:Int):Option Bool :=
 (Z6k x0 z1C).bind fun r1 =>
 some (decide (0 ≤ r1))
theorem Zd4 (x0:List Z8) z1C ox0:Sim (Z7C z1C) (Z5f x0 z1C) (EE 32 [(ZP ox0 (x0.map Zz)),(.clo 33 [] [(.ptr 0 0)])] [[(iv z1C)]]):=by
 unfold Z5f
 refine zf (ZGi ..)<|ze<|ze<|zi fun r1 hr1 => ?_
 obtain ⟨_,er1,_,rfl⟩:=ZeX x0 z1C .sh r1 hr1
 refine zc [0] (iv r1) [[(iv z1C)]] er1<|zq ?_
 exact zr ((bv (decide (0 ≤ r1))),[[(iv z1C)]]) ⟨_,rfl⟩
theorem Zdt x0 z1C {r} (h:Z5f x0 z1C = some r):Z5k x0 z1C = some r :=
 Z1l (fun _ _ ha hb => ru_ (ZfD _) (ha .ex) (hb .ex)) (fun ox0 => Zd4 x0 z1C ox0 r h)
def Z6e (x0:List Z8) (z1C:Int):Option Int :=
 Z48 x0 (x0.length:Int) 0 z1C
theorem Zej (x0:List Z8) z1C ox0:Sim (Z2L z1C) (Z6e x0 z1C) (EE 50 [(ZP ox0 (x0.map Zz)),(.clo 33 [] [(.ptr 0 0)])] [[(iv z1C)]]):=by
 unfold Z6e
 refine zf (ZGI ..)<|ze<|ze<|zp (iv (x0.length:Int)) (et_ (Z37 (P:=PP) (t:=28) (d:=47) (by kernel_rfl) Zz (shrO ox0) x0)) ?_
 exact zk (Z8X x0 (x0.length:Int) 0 z1C ox0)
theorem ZeW x0 z1C {r} (h:Z6e x0 z1C = some r):Z6k x0 z1C = some r :=
 Z1l (fun _ _ ha hb => ru_ (Za2 _) (ha .ex) (hb .ex)) (fun ox0 => Zej x0 z1C ox0 r h)
def Z5h (x0:List Z8) (x7 x8 z1C:Int):Option Int :=
 Z48 x0 x7 (IntKind.i64.wrap (x8 + 1)) z1C
theorem Zd8 (x0:List Z8) x7 x8 z1C ox0:Sim (Z2L z1C) (Z5h x0 x7 x8 z1C) (ZuB 1 (ZP ox0 (x0.map Zz)) (.clo 33 [] [(.ptr 0 0)]) (iv x7) (iv x8) [[(iv z1C)]]):=by
 unfold Z5h
 refine zf (ZAW ..)<|ze<|zq ?_
 exact zk (Z8X x0 x7 (IntKind.i64.wrap (x8 + 1)) z1C ox0)
def Z46 (x0:List Z8) (x7 x8 z1C:Int):Option Int :=
 (lget x0 x8).bind fun a1 =>
 (ZaM a1 z1C).bind fun r2 =>
 if r2 = true then
 (some x8)
 else
 (Z5h x0 x7 x8 z1C)
theorem Zd7 (x0:List Z8) x7 x8 z1C ox0:Sim (Z2L z1C) (Z46 x0 x7 x8 z1C) (ZuA 1 (ZP ox0 (x0.map Zz)) (.clo 33 [] [(.ptr 0 0)]) (iv x7) (iv x8) [[(iv z1C)]]):=by
 unfold Z46
 refine zf (ZAV ..)<|ze<|ze<|zi fun a1 ha1 => zp (.cptr (ZQ a1)) (et_ (Z2Q (o:=(shrO ox0)) (k:=.i64) (n:=2) (e:=Zz) (cs:=Z7Z) (fun _ => rfl) (fun _ => rfl) (by decide) ha1))<|zq<|zi fun r2 hr2 => ?_
 obtain ⟨_,er2,_,rfl⟩:=Zlv a1 z1C r2 hr2
 refine zv [0] (bv r2) [[(iv z1C)]] er2 ?_
 refine za r2 ?_ ?_
 ·refine ze ?_
  exact zr ((iv x8),[[(iv z1C)]]) ⟨_,rfl⟩
 ·exact zk (Zd8 x0 x7 x8 z1C ox0)
def Z78:Option Int :=
 some (-1)
theorem Zd9 z1C:Sim (Z2L z1C) Z78 (ZuC 1 [[(iv z1C)]]):=by
 unfold Z78
 refine zf (ZAX ..)<|ze ?_
 exact zr ((iv (-1)),[[(iv z1C)]]) ⟨_,rfl⟩
def Z3x (x0:List Z8) (x7 x8 z1C:Int):Option Int :=
 if (decide (x8 < x7)) = true then
 (Z46 x0 x7 x8 z1C)
 else
 Z78
theorem Zd6 (x0:List Z8) x7 x8 z1C ox0:Sim (Z2L z1C) (Z3x x0 x7 x8 z1C) (ZmM 1 (ZP ox0 (x0.map Zz)) (.clo 33 [] [(.ptr 0 0)]) (iv x7) (iv x8) [[(iv z1C)]]):=by
 unfold Z3x
 refine zf (ZAU ..)<|ze<|zq ?_
 refine za (decide (x8 < x7)) ?_ ?_
 ·exact zk (Zd7 x0 x7 x8 z1C ox0)
 ·exact zk (Zd9 z1C)
theorem Z6t x0 x7 x8 z1C {r} (h:Z3x x0 x7 x8 z1C = some r):Z48 x0 x7 x8 z1C = some r :=
 Z1l (fun _ _ ha hb => ru_ (Za2 _) (ha .ex) (hb .ex)) (fun ox0 => Zd6 x0 x7 x8 z1C ox0 r h)
def ZaG (x0:Z8) (z1C:Int):Option Bool :=
 if (decide (x0.Lo ≤ z1C)) = true then
 (some (decide (z1C ≤ x0.Hi)))
 else
 (some false)
theorem ZkJ x0 z1C:Sim (Z7C z1C) (ZaG x0 z1C) (EE 33 [(pA_ (ZQ x0)),(.ptr 0 0)] [[(iv z1C)]]):=by
 unfold ZaG
 refine zf (ZGj ..)<|ze<|zx (.ptr 1 0) [[(iv z1C)],(Z2B x0)]<|ze<|zq<|zq<|zq<|zq ?_
 refine za (decide (x0.Lo ≤ z1C)) ?_ ?_
 ·refine zq<|zq<|zq<|zq ?_
  exact zr ((bv (decide (z1C ≤ x0.Hi))),[[(iv z1C)],(Z2B x0)]) ⟨_,rfl⟩
 ·exact zr ((bv false),[[(iv z1C)],(Z2B x0)]) ⟨_,rfl⟩
theorem Zlu x0 z1C {r} (h:ZaG x0 z1C = some r):ZaM x0 z1C = some r :=
 Z1l (fun _ _ ha hb => ru_ (ZfD _) ha hb) (ZkJ x0 z1C r h)
def Z7e (x1:Int) (zm:List Int) (zn z7 zh:Int) (zj:List ZA) (z2 z6:Int):Option (Z9 × Int × Int × Int) :=
 (Z1L (ByteArray.mk #[94]) zm zn).bind fun r1 =>
 Z4a x1 r1.1 0 zm r1.2 z7 zh zj z2 z6 ([]:List Z8)
theorem ZiP x1 zm zn z7 zh zj z2 z6 zu zd (zy:ZM zd = true):Sim (Z1K zm z7 zh zj zu zd) (Z7e x1 zm zn z7 zh zj z2 z6) (EE 67 [(.ptr 0 0),(iv x1)] [(ZL zm zn z7 zh zj z2 z6 zu zd)]):=by
 unfold Z7e
 refine zf (ZH3 ..)<|ze<|zz (.ptr 1 0) [(ZL zm zn z7 zh zj z2 z6 zu zd),(Zk Z1F .nl .nl)]<|ze<|zi fun r1 hr1 => ?_
 obtain ⟨_,er1,_,rfl⟩:=Z1T (ByteArray.mk #[94]) zm zn z7 zh zj z2 z6 zu zd zy r1 hr1
 refine zc [0] (bv r1.1) [(ZL zm r1.2 z7 zh zj z2 z6 zu zd),(Zk Z1F .nl .nl)] er1<|ze<|zz (.ptr 2 0) [(ZL zm r1.2 z7 zh zj z2 z6 zu zd),(Zk Z1F .nl .nl),[(ZP .nl [])]]<|ze<|ze ?_
 exact zk (ZbH x1 r1.1 0 zm r1.2 z7 zh zj z2 z6 Z1F ([]:List Z8) zu zd .nl .nl .nl zy rfl rfl)
theorem Zjp x1 zm zn z7 zh zj z2 z6 {r} (h:Z7e x1 zm zn z7 zh zj z2 z6 = some r):Z95 x1 zm zn z7 zh zj z2 z6 = some r :=
 Z1l (fun _ _ ha hb => ru_ (Zav _ _ _ _ _ _) (ha .ex .ex rfl) (hb .ex .ex rfl)) (fun zu zd zy => ZiP x1 zm zn z7 zh zj z2 z6 zu zd zy r h)
def Z1V (x1:Int) (x5:Bool) (x8:Int) (zm:List Int) (zn z7 zh:Int) (zj:List ZA) (z2 z6:Int) (z1x:List Z8):Option (Z9 × Int × Int × Int) :=
 Z4a x1 x5 (IntKind.i64.wrap (x8 + 1)) zm zn z7 zh zj z2 z6 z1x
theorem Z2S x1 x5 x8 zm zn z7 zh zj z2 z6 b1 (z1x:List Z8) zu zd zH zE z1Y (zy:ZM zd = true) (z19:ZM zH = true) (zY:ZM zE = true):Sim (Z1K zm z7 zh zj zu zd) (Z1V x1 x5 x8 zm zn z7 zh zj z2 z6 z1x) (Zch 1 (.ptr 0 0) (iv x1) (.ptr 1 0) (bv x5) (.ptr 2 0) (.clo 80 [] [(.ptr 2 0)]) (iv x8) [(ZL zm zn z7 zh zj z2 z6 zu zd),(Zk b1 zH zE),[(ZP z1Y (z1x.map Zz))]]):=by
 unfold Z1V
 refine zf (ZBf ..)<|ze<|zq ?_
 exact zk (ZbH x1 x5 (IntKind.i64.wrap (x8 + 1)) zm zn z7 zh zj z2 z6 b1 z1x zu zd zH zE z1Y zy z19 zY)
def Z5T (zn z2 z6:Int) (z1x:List Z8):Option (Z9 × Int × Int × Int) :=
 some ((Z9.mk 1 0 0 0 0 z1x ([]:List Z9)),zn,z2,z6)
theorem Zb0 zm zn z7 zh zj z2 z6 b1 (z1x:List Z8) zu zd zH zE z1Y (zy:ZM zd = true) (z19:ZM zH = true) (zY:ZM zE = true):Sim (Z1K zm z7 zh zj zu zd) (Z5T zn z2 z6 z1x) (ZnY 1 (.ptr 1 0) (.ptr 2 0) [(ZL zm zn z7 zh zj z2 z6 zu zd),(Zk b1 zH zE),[(ZP z1Y (z1x.map Zz))]]):=by
 unfold Z5T
 refine zf (Zyu ..)<|ze<|zq<|zq<|zt [(ZL zm zn z7 zh zj z2 z6 zu zd),(Z2U 1 0 0 0 0 z1x ([]:List Z9) (shrO (shrO z1Y)) .nl),[(ZP z1Y (z1x.map Zz))]] ?_
 exact zr ((pA_ (ZI (Z9.mk 1 0 0 0 0 z1x ([]:List Z9)) .sh .sh)),[(ZL zm zn z7 zh zj z2 z6 zu zd),(Z2U 1 0 0 0 0 z1x ([]:List Z9) (shrO (shrO z1Y)) .nl),[(ZP z1Y (z1x.map Zz))]]) ⟨_,rfl⟩
def Z7f (x5:Bool) (zm:List Int) (zn z2 z6:Int) (z1x:List Z8):Option (Z9 × Int × Int × Int) :=
 (Z3o zm zn).bind fun r1 =>
 if x5 = true then
 ((Zag z1x).bind fun r2 =>
 Z5T r1.2 z2 z6 r2.1)
 else
 (Z5T r1.2 z2 z6 z1x)
theorem ZfM x5 zm zn z7 zh zj z2 z6 b1 (z1x:List Z8) zu zd zH zE z1Y (zy:ZM zd = true) (z19:ZM zH = true) (zY:ZM zE = true):Sim (Z1K zm z7 zh zj zu zd) (Z7f x5 zm zn z2 z6 z1x) (ZrQ 1 (.ptr 0 0) (.ptr 1 0) (bv x5) (.ptr 2 0) [(ZL zm zn z7 zh zj z2 z6 zu zd),(Zk b1 zH zE),[(ZP z1Y (z1x.map Zz))]]):=by
 unfold Z7f
 refine zf (Zyt ..)<|ze<|zi fun r1 hr1 => ?_
 obtain ⟨_,er1,_,rfl⟩:=Z3M zm zn z7 zh zj z2 z6 zu zd zy r1 hr1
 refine zc [0] (iv r1.1) [(ZL zm r1.2 z7 zh zj z2 z6 zu zd),(Zk b1 zH zE),[(ZP z1Y (z1x.map Zz))]] er1<|ze ?_
 refine za x5 ?_ ?_
 ·refine ze<|zq<|zi fun r2 hr2 => ?_
  obtain ⟨_,er2,_,rfl⟩:=ZgL z1x .sh r2 hr2
  refine zc [] (.p (.tup [(.lst .sh (r2.1.map Zz)),(.v (.int .i64 r2.2))])) [(ZL zm r1.2 z7 zh zj z2 z6 zu zd),(Zk b1 zH zE),[(ZP z1Y (z1x.map Zz))]] er2<|zq<|zq<|zt [(ZL zm r1.2 z7 zh zj z2 z6 zu zd),(Zk b1 zH zE),[(ZP .sh (r2.1.map Zz))]] ?_
  exact zk (Zb0 zm r1.2 z7 zh zj z2 z6 b1 r2.1 zu zd zH zE .sh zy z19 zY)
 ·exact zk (Zb0 zm r1.2 z7 zh zj z2 z6 b1 z1x zu zd zH zE z1Y zy z19 zY)
def Z3Y (x1:Int) (x5:Bool) (x8 x9:Int) (zm:List Int) (z7 zh:Int) (zj:List ZA) (z2 z6:Int) (z1x:List Z8):Option (Z9 × Int × Int × Int) :=
 (Z1g 22 x9 zm z2 z6).bind fun r1 =>
 Z1V x1 x5 x8 zm r1.1 z7 zh zj r1.2.1 r1.2.2 z1x
theorem Z6h x1 x5 x8 x9 zm zn z7 zh zj z2 z6 b1 (z1x:List Z8) zu zd zH zE z1Y (zy:ZM zd = true) (z19:ZM zH = true) (zY:ZM zE = true):Sim (Z1K zm z7 zh zj zu zd) (Z3Y x1 x5 x8 x9 zm z7 zh zj z2 z6 z1x) (Zit 1 (.ptr 0 0) (iv x1) (.ptr 1 0) (bv x5) (.ptr 2 0) (.clo 80 [] [(.ptr 2 0)]) (iv x8) (iv x9) [(ZL zm zn z7 zh zj z2 z6 zu zd),(Zk b1 zH zE),[(ZP z1Y (z1x.map Zz))]]):=by
 unfold Z3Y
 refine zf (Zyx ..)<|ze<|zi fun r1 hr1 => ?_
 obtain ⟨_,er1,_,rfl⟩:=Z1k 22 x9 zm zn z7 zh zj z2 z6 zu zd zy r1 hr1
 refine zc [0] (.p (.tup [])) [(ZL zm r1.1 z7 zh zj r1.2.1 r1.2.2 zu zd),(Zk b1 zH zE),[(ZP z1Y (z1x.map Zz))]] er1 ?_
 exact zk (Z2S x1 x5 x8 zm r1.1 z7 zh zj r1.2.1 r1.2.2 b1 z1x zu zd zH zE z1Y zy z19 zY)
def Z2D (x1:Int) (x5:Bool) (x8 x11 x15:Int) (zm:List Int) (zn z7 zh:Int) (zj:List ZA) (z2 z6:Int) (z1x:List Z8):Option (Z9 × Int × Int × Int) :=
 if (z2 == 0) = true then
 ((Z6F ([(Z8.mk x11 x15)]:List Z8) z1x).bind fun r1 =>
 Z1V x1 x5 x8 zm zn z7 zh zj z2 z6 r1)
 else
 (Z1V x1 x5 x8 zm zn z7 zh zj z2 z6 z1x)
theorem Z6i x1 x5 x8 x11 x15 zm zn z7 zh zj z2 z6 b1 (z1x:List Z8) zu zd zH zE z1Y (zy:ZM zd = true) (z19:ZM zH = true) (zY:ZM zE = true):Sim (Z1K zm z7 zh zj zu zd) (Z2D x1 x5 x8 x11 x15 zm zn z7 zh zj z2 z6 z1x) (Ziu 1 (.ptr 0 0) (iv x1) (.ptr 1 0) (bv x5) (.ptr 2 0) (.clo 80 [] [(.ptr 2 0)]) (iv x8) (iv x11) (iv x15) [(ZL zm zn z7 zh zj z2 z6 zu zd),(Zk b1 zH zE),[(ZP z1Y (z1x.map Zz))]]):=by
 unfold Z2D
 refine zf (ZyA ..)<|ze<|zq<|zq<|zq<|zq<|zq ?_
 refine za (z2 == 0) ?_ ?_
 ·refine ze<|zq<|zq<|zi fun r1 hr1 => ?_
  obtain ⟨_,er1,zxt,_,rfl⟩:=Zc6 ([(Z8.mk x11 x15)]:List Z8) z1x .sh z1Y r1 hr1
  refine zv [2] (.p (.tup [])) [(ZL zm zn z7 zh zj z2 z6 zu zd),(Zk b1 zH zE),[(ZP zxt (r1.map Zz))]] er1 ?_
  exact zk (Z2S x1 x5 x8 zm zn z7 zh zj z2 z6 b1 r1 zu zd zH zE zxt zy z19 zY)
 ·exact zk (Z2S x1 x5 x8 zm zn z7 zh zj z2 z6 b1 z1x zu zd zH zE z1Y zy z19 zY)
def Z4A (x1:Int) (x5:Bool) (x8 x9 x11 x15:Int) (zm:List Int) (z7 zh:Int) (zj:List ZA) (z2 z6:Int) (z1x:List Z8):Option (Z9 × Int × Int × Int) :=
 (Z1g 22 x9 zm z2 z6).bind fun r1 =>
 Z2D x1 x5 x8 x11 x15 zm r1.1 z7 zh zj r1.2.1 r1.2.2 z1x
theorem Zb2 x1 x5 x8 x9 x11 x15 zm zn z7 zh zj z2 z6 b1 (z1x:List Z8) zu zd zH zE z1Y (zy:ZM zd = true) (z19:ZM zH = true) (zY:ZM zE = true):Sim (Z1K zm z7 zh zj zu zd) (Z4A x1 x5 x8 x9 x11 x15 zm z7 zh zj z2 z6 z1x) (Zo0 1 (.ptr 0 0) (iv x1) (.ptr 1 0) (bv x5) (.ptr 2 0) (.clo 80 [] [(.ptr 2 0)]) (iv x8) (iv x9) (iv x11) (iv x15) [(ZL zm zn z7 zh zj z2 z6 zu zd),(Zk b1 zH zE),[(ZP z1Y (z1x.map Zz))]]):=by
 unfold Z4A
 refine zf (Zyz ..)<|ze<|zi fun r1 hr1 => ?_
 obtain ⟨_,er1,_,rfl⟩:=Z1k 22 x9 zm zn z7 zh zj z2 z6 zu zd zy r1 hr1
 refine zc [0] (.p (.tup [])) [(ZL zm r1.1 z7 zh zj r1.2.1 r1.2.2 zu zd),(Zk b1 zH zE),[(ZP z1Y (z1x.map Zz))]] er1 ?_
 exact zk (Z6i x1 x5 x8 x11 x15 zm r1.1 z7 zh zj r1.2.1 r1.2.2 b1 z1x zu zd zH zE z1Y zy z19 zY)
def Z7g (x1:Int) (x5:Bool) (x8 x9 x11:Int) (zm:List Int) (zn z7 zh:Int) (zj:List ZA) (z2 z6:Int) (z1x:List Z8):Option (Z9 × Int × Int × Int) :=
 (Z5N zm zn z7 zh zj z2 z6).bind fun r1 =>
 if (r1.2.2.2.2.1 == 0) = true then
 ((nilO (shrO (shrO (shrO (shrO r1.2.1.1)))) r1.2.1.2).bind fun a2 =>
 if (!a2) = true then
 (Z4A x1 x5 x8 x9 x11 r1.1 zm z7 zh zj r1.2.2.2.2.1 r1.2.2.2.2.2 z1x)
 else
 (if (decide (r1.1 < x11)) = true then
 (Z4A x1 x5 x8 x9 x11 r1.1 zm z7 zh zj r1.2.2.2.2.1 r1.2.2.2.2.2 z1x)
 else
 (Z2D x1 x5 x8 x11 r1.1 zm r1.2.2.2.1 z7 zh zj r1.2.2.2.2.1 r1.2.2.2.2.2 z1x)))
 else
 (Z2D x1 x5 x8 x11 r1.1 zm r1.2.2.2.1 z7 zh zj r1.2.2.2.2.1 r1.2.2.2.2.2 z1x)
theorem ZfO x1 x5 x8 x9 x11 zm zn z7 zh zj z2 z6 b1 (z1x:List Z8) zu zd zH zE z1Y (zy:ZM zd = true) (z19:ZM zH = true) (zY:ZM zE = true):Sim (Z1K zm z7 zh zj zu zd) (Z7g x1 x5 x8 x9 x11 zm zn z7 zh zj z2 z6 z1x) (ZrS 1 (.ptr 0 0) (iv x1) (.ptr 1 0) (bv x5) (.ptr 2 0) (.clo 80 [] [(.ptr 2 0)]) (iv x8) (iv x9) (iv x11) [(ZL zm zn z7 zh zj z2 z6 zu zd),(Zk b1 zH zE),[(ZP z1Y (z1x.map Zz))]]):=by
 unfold Z7g
 refine zf (Zyy ..)<|ze<|zi fun r1 hr1 => ?_
 obtain ⟨_,er1,_,rfl⟩:=Zcs zm zn z7 zh zj z2 z6 zu zd zy r1 hr1
 refine zc [0] (.p (.tup [(.v (.int .i64 r1.1)),(.lst r1.2.1.1 (r1.2.1.2.map Zz)),(.v (.bool r1.2.2.1))])) [(ZL zm r1.2.2.2.1 z7 zh zj r1.2.2.2.2.1 r1.2.2.2.2.2 zu zd),(Zk b1 zH zE),[(ZP z1Y (z1x.map Zz))]] er1<|zq<|zq<|zq<|ze<|zq<|zq<|zq<|zq<|zq ?_
 refine za (r1.2.2.2.2.1 == 0) ?_ ?_
 ·refine zi fun a2 ha2 => zp (bv (!a2)) (et_ (Zmb (P:=PP) (t:=27) (c:=.slice none 0 0) (e:=Zz) (by kernel_rfl) ha2)) ?_
  refine za (!a2) ?_ ?_
  ·exact zk (Zb2 x1 x5 x8 x9 x11 r1.1 zm r1.2.2.2.1 z7 zh zj r1.2.2.2.2.1 r1.2.2.2.2.2 b1 z1x zu zd zH zE z1Y zy z19 zY)
  ·refine zq ?_
   refine za (decide (r1.1 < x11)) ?_ ?_
   ·exact zk (Zb2 x1 x5 x8 x9 x11 r1.1 zm r1.2.2.2.1 z7 zh zj r1.2.2.2.2.1 r1.2.2.2.2.2 b1 z1x zu zd zH zE z1Y zy z19 zY)
   ·exact zk (Z6i x1 x5 x8 x11 r1.1 zm r1.2.2.2.1 z7 zh zj r1.2.2.2.2.1 r1.2.2.2.2.2 b1 z1x zu zd zH zE z1Y zy z19 zY)
 ·exact zk (Z6i x1 x5 x8 x11 r1.1 zm r1.2.2.2.1 z7 zh zj r1.2.2.2.2.1 r1.2.2.2.2.2 b1 z1x zu zd zH zE z1Y zy z19 zY)
def Z5V (x1:Int) (x5:Bool) (x8 x9 x11:Int) (zm:List Int) (zn z7 zh:Int) (zj:List ZA) (z2 z6:Int) (z1x:List Z8):Option (Z9 × Int × Int × Int) :=
 (Z1L (ByteArray.mk #[45]) zm zn).bind fun r1 =>
 if r1.1 = true then
 ((Z2I (Z1D.mk zm r1.2 z7 zh zj (Z16.mk z2 z6))).bind fun r2 =>
 if (r2 == 93) = true then
 (Z3Y x1 x5 x8 x9 zm z7 zh zj z2 z6 z1x)
 else
 (if (r2 == 91) = true then
 (Z3Y x1 x5 x8 x9 zm z7 zh zj z2 z6 z1x)
 else
 (if (r2 == 45) = true then
 (Z3Y x1 x5 x8 x9 zm z7 zh zj z2 z6 z1x)
 else
 (if (decide (r2 < 0)) = true then
 (Z3Y x1 x5 x8 x9 zm z7 zh zj z2 z6 z1x)
 else
 (Z7g x1 x5 x8 x9 x11 zm r1.2 z7 zh zj z2 z6 z1x)))))
 else
 (Z2D x1 x5 x8 x11 x11 zm r1.2 z7 zh zj z2 z6 z1x)
theorem ZfN x1 x5 x8 x9 x11 zm zn z7 zh zj z2 z6 b1 (z1x:List Z8) zu zd zH zE z1Y (zy:ZM zd = true) (z19:ZM zH = true) (zY:ZM zE = true):Sim (Z1K zm z7 zh zj zu zd) (Z5V x1 x5 x8 x9 x11 zm zn z7 zh zj z2 z6 z1x) (ZrR 1 (.ptr 0 0) (iv x1) (.ptr 1 0) (bv x5) (.ptr 2 0) (.clo 80 [] [(.ptr 2 0)]) (iv x8) (iv x9) (iv x11) [(ZL zm zn z7 zh zj z2 z6 zu zd),(Zk b1 zH zE),[(ZP z1Y (z1x.map Zz))]]):=by
 unfold Z5V
 refine zf (Zyw ..)<|ze<|ze<|zi fun r1 hr1 => ?_
 obtain ⟨_,er1,_,rfl⟩:=Z1T (ByteArray.mk #[45]) zm zn z7 zh zj z2 z6 zu zd zy r1 hr1
 refine zc [0] (bv r1.1) [(ZL zm r1.2 z7 zh zj z2 z6 zu zd),(Zk b1 zH zE),[(ZP z1Y (z1x.map Zz))]] er1 ?_
 refine za r1.1 ?_ ?_
 ·refine ze<|zi fun r2 hr2 => ?_
  obtain ⟨_,er2,_,rfl⟩:=Z2W (Z1D.mk zm r1.2 z7 zh zj (Z16.mk z2 z6)) zu zd zy r2 hr2
  refine zc [0] (iv r2) [(ZL zm r1.2 z7 zh zj z2 z6 zu zd),(Zk b1 zH zE),[(ZP z1Y (z1x.map Zz))]] er2<|ze<|zq ?_
  refine za (r2 == 93) ?_ ?_
  ·exact zk (Z6h x1 x5 x8 x9 zm r1.2 z7 zh zj z2 z6 b1 z1x zu zd zH zE z1Y zy z19 zY)
  ·refine zq ?_
   refine za (r2 == 91) ?_ ?_
   ·exact zk (Z6h x1 x5 x8 x9 zm r1.2 z7 zh zj z2 z6 b1 z1x zu zd zH zE z1Y zy z19 zY)
   ·refine zq ?_
    refine za (r2 == 45) ?_ ?_
    ·exact zk (Z6h x1 x5 x8 x9 zm r1.2 z7 zh zj z2 z6 b1 z1x zu zd zH zE z1Y zy z19 zY)
    ·refine zq ?_
     refine za (decide (r2 < 0)) ?_ ?_
     ·exact zk (Z6h x1 x5 x8 x9 zm r1.2 z7 zh zj z2 z6 b1 z1x zu zd zH zE z1Y zy z19 zY)
     ·exact zk (ZfO x1 x5 x8 x9 x11 zm r1.2 z7 zh zj z2 z6 b1 z1x zu zd zH zE z1Y zy z19 zY)
 ·exact zk (Z6i x1 x5 x8 x11 x11 zm r1.2 z7 zh zj z2 z6 b1 z1x zu zd zH zE z1Y zy z19 zY)
def Z5U (x1:Int) (x5:Bool) (x8 x9:Int) (zm:List Int) (zn z7 zh:Int) (zj:List ZA) (z2 z6:Int) (z1x:List Z8):Option (Z9 × Int × Int × Int) :=
 (Z5N zm zn z7 zh zj z2 z6).bind fun r1 =>
 (nilO (shrO (shrO (shrO (shrO r1.2.1.1)))) r1.2.1.2).bind fun a2 =>
 if (!a2) = true then
 ((Z45 r1.2.2.1 r1.2.1.2).bind fun r3 =>
 (Z6F r3.Set z1x).bind fun r4 =>
 (Z2I (Z1D.mk zm r1.2.2.2.1 z7 zh zj (Z16.mk r1.2.2.2.2.1 r1.2.2.2.2.2))).bind fun r5 =>
 if (r5 == 45) = true then
 ((Z1g 22 r1.2.2.2.1 zm r1.2.2.2.2.1 r1.2.2.2.2.2).bind fun r6 =>
 Z1V x1 x5 x8 zm r6.1 z7 zh zj r6.2.1 r6.2.2 r4)
 else
 (Z1V x1 x5 x8 zm r1.2.2.2.1 z7 zh zj r1.2.2.2.2.1 r1.2.2.2.2.2 r4))
 else
 (Z5V x1 x5 x8 x9 r1.1 zm r1.2.2.2.1 z7 zh zj r1.2.2.2.2.1 r1.2.2.2.2.2 z1x)
theorem Zb1 x1 x5 x8 x9 zm zn z7 zh zj z2 z6 b1 (z1x:List Z8) zu zd zH zE z1Y (zy:ZM zd = true) (z19:ZM zH = true) (zY:ZM zE = true):Sim (Z1K zm z7 zh zj zu zd) (Z5U x1 x5 x8 x9 zm zn z7 zh zj z2 z6 z1x) (ZnZ 1 (.ptr 0 0) (iv x1) (.ptr 1 0) (bv x5) (.ptr 2 0) (.clo 80 [] [(.ptr 2 0)]) (iv x8) (iv x9) [(ZL zm zn z7 zh zj z2 z6 zu zd),(Zk b1 zH zE),[(ZP z1Y (z1x.map Zz))]]):=by
 unfold Z5U
 refine zf (Zyv ..)<|ze<|zi fun r1 hr1 => ?_
 obtain ⟨_,er1,_,rfl⟩:=Zcs zm zn z7 zh zj z2 z6 zu zd zy r1 hr1
 refine zc [0] (.p (.tup [(.v (.int .i64 r1.1)),(.lst r1.2.1.1 (r1.2.1.2.map Zz)),(.v (.bool r1.2.2.1))])) [(ZL zm r1.2.2.2.1 z7 zh zj r1.2.2.2.2.1 r1.2.2.2.2.2 zu zd),(Zk b1 zH zE),[(ZP z1Y (z1x.map Zz))]] er1<|zq<|zq<|zq<|ze<|zi fun a2 ha2 => zp (bv (!a2)) (et_ (Zmb (P:=PP) (t:=27) (c:=.slice none 0 0) (e:=Zz) (by kernel_rfl) ha2)) ?_
 refine za (!a2) ?_ ?_
 ·refine ze<|zi fun r3 hr3 => ?_
  obtain ⟨_,er3,_,rfl⟩:=Z4g r1.2.2.1 r1.2.1.2 .sh r3 hr3
  refine zc [] (pA_ (ZI r3 .sh .sh)) [(ZL zm r1.2.2.2.1 z7 zh zj r1.2.2.2.2.1 r1.2.2.2.2.2 zu zd),(Zk b1 zH zE),[(ZP z1Y (z1x.map Zz))]] er3<|zz (.ptr 3 0) [(ZL zm r1.2.2.2.1 z7 zh zj r1.2.2.2.2.1 r1.2.2.2.2.2 zu zd),(Zk b1 zH zE),[(ZP z1Y (z1x.map Zz))],(Zk Z1F .nl .nl)]<|zt [(ZL zm r1.2.2.2.1 z7 zh zj r1.2.2.2.2.1 r1.2.2.2.2.2 zu zd),(Zk b1 zH zE),[(ZP z1Y (z1x.map Zz))],(Zk r3 .sh .sh)]<|ze<|zq<|zq<|zi fun r4 hr4 => ?_
  obtain ⟨_,er4,zl8,_,rfl⟩:=Zc6 r3.Set z1x .sh z1Y r4 hr4
  refine zv [2] (.p (.tup [])) [(ZL zm r1.2.2.2.1 z7 zh zj r1.2.2.2.2.1 r1.2.2.2.2.2 zu zd),(Zk b1 zH zE),[(ZP zl8 (r4.map Zz))],(Zk r3 .sh .sh)] er4<|ze<|zi fun r5 hr5 => ?_
  obtain ⟨_,er5,_,rfl⟩:=Z2W (Z1D.mk zm r1.2.2.2.1 z7 zh zj (Z16.mk r1.2.2.2.2.1 r1.2.2.2.2.2)) zu zd zy r5 hr5
  refine zc [0] (iv r5) [(ZL zm r1.2.2.2.1 z7 zh zj r1.2.2.2.2.1 r1.2.2.2.2.2 zu zd),(Zk b1 zH zE),[(ZP zl8 (r4.map Zz))],(Zk r3 .sh .sh)] er5<|zq ?_
  refine za (r5 == 45) ?_ ?_
  ·refine ze<|zq<|zq<|zq<|zi fun r6 hr6 => ?_
   obtain ⟨_,er6,_,rfl⟩:=Z1k 22 r1.2.2.2.1 zm r1.2.2.2.1 z7 zh zj r1.2.2.2.2.1 r1.2.2.2.2.2 zu zd zy r6 hr6
   refine zc [0] (.p (.tup [])) [(ZL zm r6.1 z7 zh zj r6.2.1 r6.2.2 zu zd),(Zk b1 zH zE),[(ZP zl8 (r4.map Zz))],(Zk r3 .sh .sh)] er6 ?_
   exact zk (Z2S x1 x5 x8 zm r6.1 z7 zh zj r6.2.1 r6.2.2 b1 r4 zu zd zH zE zl8 zy z19 zY)
  ·exact zk (Z2S x1 x5 x8 zm r1.2.2.2.1 z7 zh zj r1.2.2.2.2.1 r1.2.2.2.2.2 b1 r4 zu zd zH zE zl8 zy z19 zY)
 ·exact zk (ZfN x1 x5 x8 x9 r1.1 zm r1.2.2.2.1 z7 zh zj r1.2.2.2.2.1 r1.2.2.2.2.2 b1 z1x zu zd zH zE z1Y zy z19 zY)
def Z4X (x1:Int) (x5:Bool) (x8:Int) (zm:List Int) (zn z7 zh:Int) (zj:List ZA) (z2 z6:Int) (z1x:List Z8):Option (Z9 × Int × Int × Int) :=
 (Z2I (Z1D.mk zm zn z7 zh zj (Z16.mk z2 z6))).bind fun r1 =>
 if (r1 == (-1)) = true then
 ((Z1g 22 x1 zm z2 z6).bind fun r2 =>
 Z1V x1 x5 x8 zm r2.1 z7 zh zj r2.2.1 r2.2.2 z1x)
 else
 (if (r1 == 93) = true then
 (if (x8 == 0) = true then
 ((Z1g 22 x1 zm z2 z6).bind fun r3 =>
 Z1V x1 x5 x8 zm r3.1 z7 zh zj r3.2.1 r3.2.2 z1x)
 else
 (Z7f x5 zm zn z2 z6 z1x))
 else
 (if (r1 == 91) = true then
 (if (r1 == 91) = true then
 ((Z1g 22 zn zm z2 z6).bind fun r4 =>
 Z1V x1 x5 x8 zm r4.1 z7 zh zj r4.2.1 r4.2.2 z1x)
 else
 (Z5U x1 x5 x8 zn zm zn z7 zh zj z2 z6 z1x))
 else
 (if (r1 == 45) = true then
 ((Z1g 22 zn zm z2 z6).bind fun r5 =>
 Z1V x1 x5 x8 zm r5.1 z7 zh zj r5.2.1 r5.2.2 z1x)
 else
 (Z5U x1 x5 x8 zn zm zn z7 zh zj z2 z6 z1x))))
theorem ZgS x1 x5 x8 zm zn z7 zh zj z2 z6 b1 (z1x:List Z8) zu zd zH zE z1Y (zy:ZM zd = true) (z19:ZM zH = true) (zY:ZM zE = true):Sim (Z1K zm z7 zh zj zu zd) (Z4X x1 x5 x8 zm zn z7 zh zj z2 z6 z1x) (ZuU 1 (.ptr 0 0) (iv x1) (.ptr 1 0) (bv x5) (.ptr 2 0) (.clo 80 [] [(.ptr 2 0)]) (iv x8) [(ZL zm zn z7 zh zj z2 z6 zu zd),(Zk b1 zH zE),[(ZP z1Y (z1x.map Zz))]]):=by
 unfold Z4X
 refine zf (ZBg ..)<|ze<|zq<|zq<|zq<|ze<|zi fun r1 hr1 => ?_
 obtain ⟨_,er1,_,rfl⟩:=Z2W (Z1D.mk zm zn z7 zh zj (Z16.mk z2 z6)) zu zd zy r1 hr1
 refine zc [0] (iv r1) [(ZL zm zn z7 zh zj z2 z6 zu zd),(Zk b1 zH zE),[(ZP z1Y (z1x.map Zz))]] er1<|ze<|ze<|zq ?_
 refine za (r1 == (-1)) ?_ ?_
 ·refine ze<|zi fun r2 hr2 => ?_
  obtain ⟨_,er2,_,rfl⟩:=Z1k 22 x1 zm zn z7 zh zj z2 z6 zu zd zy r2 hr2
  refine zc [0] (.p (.tup [])) [(ZL zm r2.1 z7 zh zj r2.2.1 r2.2.2 zu zd),(Zk b1 zH zE),[(ZP z1Y (z1x.map Zz))]] er2 ?_
  exact zk (Z2S x1 x5 x8 zm r2.1 z7 zh zj r2.2.1 r2.2.2 b1 z1x zu zd zH zE z1Y zy z19 zY)
 ·refine ze<|zq ?_
  refine za (r1 == 93) ?_ ?_
  ·refine ze<|zq ?_
   refine za (x8 == 0) ?_ ?_
   ·refine ze<|zi fun r3 hr3 => ?_
    obtain ⟨_,er3,_,rfl⟩:=Z1k 22 x1 zm zn z7 zh zj z2 z6 zu zd zy r3 hr3
    refine zc [0] (.p (.tup [])) [(ZL zm r3.1 z7 zh zj r3.2.1 r3.2.2 zu zd),(Zk b1 zH zE),[(ZP z1Y (z1x.map Zz))]] er3 ?_
    exact zk (Z2S x1 x5 x8 zm r3.1 z7 zh zj r3.2.1 r3.2.2 b1 z1x zu zd zH zE z1Y zy z19 zY)
   ·exact zk (ZfM x5 zm zn z7 zh zj z2 z6 b1 z1x zu zd zH zE z1Y zy z19 zY)
  ·refine ze<|zq ?_
   refine za (r1 == 91) ?_ ?_
   ·refine za (r1 == 91) ?_ ?_
    ·refine ze<|zi fun r4 hr4 => ?_
     obtain ⟨_,er4,_,rfl⟩:=Z1k 22 zn zm zn z7 zh zj z2 z6 zu zd zy r4 hr4
     refine zc [0] (.p (.tup [])) [(ZL zm r4.1 z7 zh zj r4.2.1 r4.2.2 zu zd),(Zk b1 zH zE),[(ZP z1Y (z1x.map Zz))]] er4 ?_
     exact zk (Z2S x1 x5 x8 zm r4.1 z7 zh zj r4.2.1 r4.2.2 b1 z1x zu zd zH zE z1Y zy z19 zY)
    ·exact zk (Zb1 x1 x5 x8 zn zm zn z7 zh zj z2 z6 b1 z1x zu zd zH zE z1Y zy z19 zY)
   ·refine ze<|zq ?_
    refine za (r1 == 45) ?_ ?_
    ·refine ze<|zi fun r5 hr5 => ?_
     obtain ⟨_,er5,_,rfl⟩:=Z1k 22 zn zm zn z7 zh zj z2 z6 zu zd zy r5 hr5
     refine zc [0] (.p (.tup [])) [(ZL zm r5.1 z7 zh zj r5.2.1 r5.2.2 zu zd),(Zk b1 zH zE),[(ZP z1Y (z1x.map Zz))]] er5 ?_
     exact zk (Z2S x1 x5 x8 zm r5.1 z7 zh zj r5.2.1 r5.2.2 b1 z1x zu zd zH zE z1Y zy z19 zY)
    ·exact zk (Zb1 x1 x5 x8 zn zm zn z7 zh zj z2 z6 b1 z1x zu zd zH zE z1Y zy z19 zY)
def Z9l (zn z2 z6:Int):Option (Z9 × Int × Int × Int) :=
 some ((Z9.mk 0 0 0 0 0 ([]:List Z8) ([]:List Z9)),zn,z2,z6)
theorem ZfP zm zn z7 zh zj z2 z6 b1 zu zd zH zE (zy:ZM zd = true) (z19:ZM zH = true) (zY:ZM zE = true):Sim (Z1K zm z7 zh zj zu zd) (Z9l zn z2 z6) (ZrT 1 (.ptr 1 0) [(ZL zm zn z7 zh zj z2 z6 zu zd),(Zk b1 zH zE)]):=by
 unfold Z9l
 refine zf (ZyB ..)<|ze<|zq<|zt [(ZL zm zn z7 zh zj z2 z6 zu zd),(Zk Z1F .nl .nl)] ?_
 exact zr ((pA_ (ZI Z1F .sh .sh)),[(ZL zm zn z7 zh zj z2 z6 zu zd),(Zk Z1F .nl .nl)]) ⟨_,rfl⟩
def Z6o (x1:Int) (x5:Bool) (x8:Int) (zm:List Int) (zn z7 zh:Int) (zj:List ZA) (z2 z6:Int) (z1x:List Z8):Option (Z9 × Int × Int × Int) :=
 if (z2 == 0) = true then
 (Z4X x1 x5 x8 zm zn z7 zh zj z2 z6 z1x)
 else
 (Z9l zn z2 z6)
theorem ZgR x1 x5 x8 zm zn z7 zh zj z2 z6 b1 (z1x:List Z8) zu zd zH zE z1Y (zy:ZM zd = true) (z19:ZM zH = true) (zY:ZM zE = true):Sim (Z1K zm z7 zh zj zu zd) (Z6o x1 x5 x8 zm zn z7 zh zj z2 z6 z1x) (ZmO 1 (.ptr 0 0) (iv x1) (.ptr 1 0) (bv x5) (.ptr 2 0) (.clo 80 [] [(.ptr 2 0)]) (iv x8) [(ZL zm zn z7 zh zj z2 z6 zu zd),(Zk b1 zH zE),[(ZP z1Y (z1x.map Zz))]]):=by
 unfold Z6o
 refine zf (ZBe ..)<|ze<|zq<|zq<|zq<|zq<|zq ?_
 refine za (z2 == 0) ?_ ?_
 ·exact zk (ZgS x1 x5 x8 zm zn z7 zh zj z2 z6 b1 z1x zu zd zH zE z1Y zy z19 zY)
 ·exact zk (ZfP zm zn z7 zh zj z2 z6 b1 zu zd zH zE zy z19 zY)
theorem ZbG x1 x5 x8 zm zn z7 zh zj z2 z6 z1x {r} (h:Z6o x1 x5 x8 zm zn z7 zh zj z2 z6 z1x = some r):Z4a x1 x5 x8 zm zn z7 zh zj z2 z6 z1x = some r :=
 Z1l (fun _ _ ha hb => ru_ (Zav _ _ _ _ _ _) (ha default .ex .ex .ex .ex .ex rfl rfl rfl) (hb default .ex .ex .ex .ex .ex rfl rfl rfl)) (fun b1 zu zd zH zE z1Y zy z19 zY => ZgR x1 x5 x8 zm zn z7 zh zj z2 z6 b1 z1x zu zd zH zE z1Y zy z19 zY r h)
end Go.Proofs.YtocikhhkicahoaaDoor.N2
end
