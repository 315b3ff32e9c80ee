/- More of the functions' typed texts. No condition. -/
import Derived.Test.YtocikhhkicahoaaDoorTypA

set_option linter.unusedSimpArgs false
set_option linter.unusedVariables false
set_option linter.defProp false
noncomputable section
namespace Go.Proofs.YtocikhhkicahoaaDoor.N2
open Go Go.Abs
set_option maxRecDepth 100000
def Z8b (x0 z1x : List Z8) : Option (List Z8) :=
 (Z9k z1x x0).bind fun r1 =>
 some r1.1
theorem ZhB (x0 z1x : List Z8) ox0 ziu : Sim Z88 (Z8b x0 z1x) (EE 80 [(ZO ox0 (x0.map Zp)), (.ptr 0 0)] [[(ZO ziu (z1x.map Zp))]]) := by
 unfold Z8b
 refine zf (ZHM ..)<|ze<|zq<|zi fun r1 hr1 => ?_
 obtain ⟨_, er1, _, rfl⟩ := ZhR z1x x0 .sh .sh r1 hr1
 refine zc [] (.p (.tup [(.lst .sh (r1.1.map Zp)), (.v (.int .i64 r1.2))])) [[(ZO ziu (z1x.map Zp))]] er1<|zq<|zq<|zt [[(ZO .sh (r1.1.map Zp))]] ?_
 exact zr ((.p (.tup [])), [[(ZO .sh (r1.1.map Zp))]]) ⟨.sh, _, rfl⟩
theorem Zid x0 z1x {r} (h : Z8b x0 z1x = some r) : Z6A x0 z1x = some r :=
 Z1h (fun _ _ ha hb => ru_ ZiP (ha .ex .ex) (hb .ex .ex)) (fun ox0 ziu => ZhB x0 z1x ox0 ziu r h)
def ZaG : Option ((List Z8) × Int) :=
 some (([] : List Z8), 10)
theorem ZeF : Sim Z2R ZaG (Zqa 0 []) := by
 unfold ZaG
 refine zf (ZAT ..)<|ze ?_
 exact zr ((.p (.tup [(.lst .sh []), (.v (.int .i64 10))])), []) ⟨_, rfl⟩
def Z8T (x0 x1 : List Z8) : Option ((List Z8) × Int) :=
 (Zb9 ([x0, x1] : List (List Z8))).bind fun r1 =>
 (ZaZ r1).bind fun r2 =>
 some (r2, 0)
theorem ZkK (x0 x1 : List Z8) ox0 ox1 : Sim Z2R (Z8T x0 x1) (Zuh 0 (ZO ox0 (x0.map Zp)) (ZO ox1 (x1.map Zp)) []) := by
 unfold Z8T
 refine zf (ZAU ..)<|ze<|zq<|zi fun r1 hr1 => ?_
 obtain ⟨_, er1, _, rfl⟩ := Zj9 ([x0, x1] : List (List Z8)) .sh r1 hr1
 refine zc [] (ZO .sh (r1.map Zp)) [] er1<|zi fun r2 hr2 => ?_
 obtain ⟨_, er2, _, rfl⟩ := Zdu r1 .sh r2 hr2
 refine zc [] (ZO .sh (r2.map Zp)) [] er2 ?_
 exact zr ((.p (.tup [(.lst .sh (r2.map Zp)), (.v (.int .i64 0))])), []) ⟨_, rfl⟩
def ZaT (x0 x1 : List Z8) : Option ((List Z8) × Int) :=
 (Z5T x0).bind fun r1 =>
 if (!r1) = true then
 ZaG
 else
 ((Z5T x1).bind fun r2 =>
 if (!r2) = true then
 ZaG
 else
 (Z8T x0 x1))
theorem Zn2 (x0 x1 : List Z8) ox0 ox1 : Sim Z2R (ZaT x0 x1) (EE 39 [(ZO ox0 (x0.map Zp)), (ZO ox1 (x1.map Zp))] []) := by
 unfold ZaT
 refine zf (ZGJ ..)<|ze<|ze<|zi fun r1 hr1 => ?_
 obtain ⟨_, er1, _, rfl⟩ := Z8K x0 .sh r1 hr1
 refine zc [] (bv r1) [] er1<|zq ?_
 refine za (!r1) ?_ ?_
 ·exact zk ZeF
 ·refine zi fun r2 hr2 => ?_
  obtain ⟨_, er2, _, rfl⟩ := Z8K x1 .sh r2 hr2
  refine zc [] (bv r2) [] er2<|zq ?_
  refine za (!r2) ?_ ?_
  ·exact zk ZeF
  ·exact zk (ZkK x0 x1 ox0 ox1)
theorem ZhQ x0 x1 {r} (h : ZaT x0 x1 = some r) : Z9k x0 x1 = some r :=
 Z1h (fun _ _ ha hb => ru_ ZaQ (ha .ex .ex) (hb .ex .ex)) (fun ox0 ox1 => Zn2 x0 x1 ox0 ox1 r h)
def Z5Q (zm z7 zh : Int) (zj : List Zz) (z2 z6 z1I z2F z2E z1N z2b : Int) (z2c : List Z8) (b2 : Z9) : Option (Z9 × Bool × Int × Int × Int × (List Zz) × Int × Int) :=
 some ((Z9.mk z1I z2F z2E z1N z2b z2c ([b2] : List Z9)), (z1I != 7), zm, z7, zh, zj, z2, z6)
theorem Zg9 zl zm z7 zh zj z2 z6 z1I z2F z2E z1N z2b z2c z3k b2 zn zd zG zD z18 zY (zu : ZL zd = true) (z15 : ZL zG = true) (zV : ZL zD = true) : Sim (Z2V zl zn) (Z5Q zm z7 zh zj z2 z6 z1I z2F z2E z1N z2b z2c b2) (ZrZ 1 (.ptr 1 0) (.ptr 2 0) [(ZK zl zm z7 zh zj z2 z6 zn zd), (Z2Q z1I z2F z2E z1N z2b z2c z3k zG zD), (Zk b2 z18 zY)]) := by
 unfold Z5Q
 refine zf (ZyL ..)<|ze<|zq<|zp (ZO .ex (([b2] : List Z9).map ZI)) (Eq.trans (b := some (ZO .ex [.agg (Z1W b2)])) (by kernel_rfl) (by simp only [Z8S, ZdH, Z4W]))<|zq<|zt [(ZK zl zm z7 zh zj z2 z6 zn zd), (Z2Q z1I z2F z2E z1N z2b z2c ([b2] : List Z9) zG .ex), (Zk b2 z18 zY)]<|ze<|zq<|zq<|zq<|zq<|zt [(ZK zl zm z7 zh zj z2 z6 zn zd), (Z2Q z1I z2F z2E z1N z2b z2c ([b2] : List Z9) (shrO zG) .ex), (Zk b2 z18 zY)] ?_
 exact zr ((.p (.tup [(.agg (ZH (Z9.mk z1I z2F z2E z1N z2b z2c ([b2] : List Z9)) .sh .sh)), (.v (.bool (z1I != 7)))])), [(ZK zl zm z7 zh zj z2 z6 zn zd), (Z2Q z1I z2F z2E z1N z2b z2c ([b2] : List Z9) (shrO zG) .ex), (Zk b2 z18 zY)]) ⟨zd, _, zu, rfl⟩
def Z38 (zm z7 zh : Int) (zj : List Zz) (z2 z6 z1I z2F z2E z1N z2b : Int) (z2c : List Z8) (b2 : Z9) : Option (Z9 × Bool × Int × Int × Int × (List Zz) × Int × Int) :=
 if (z1I == 0) = true then
 (some (b2, true, zm, z7, (IntKind.i64.wrap (zh - 1)), zj, z2, z6))
 else
 (Z5Q zm z7 (IntKind.i64.wrap (zh - 1)) zj z2 z6 z1I z2F z2E z1N z2b z2c b2)
theorem Z83 zl zm z7 zh zj z2 z6 z1I z2F z2E z1N z2b z2c z3k b2 zn zd zG zD z18 zY (zu : ZL zd = true) (z15 : ZL zG = true) (zV : ZL zD = true) : Sim (Z2V zl zn) (Z38 zm z7 zh zj z2 z6 z1I z2F z2E z1N z2b z2c b2) (ZkF 1 (.ptr 0 0) (.ptr 1 0) (.ptr 2 0) [(ZK zl zm z7 zh zj z2 z6 zn zd), (Z2Q z1I z2F z2E z1N z2b z2c z3k zG zD), (Zk b2 z18 zY)]) := by
 unfold Z38
 refine zf (ZyK ..)<|ze<|zq<|zq<|zq<|zq<|zq<|zq<|zt [(ZK zl zm z7 (IntKind.i64.wrap (zh - 1)) zj z2 z6 zn zd), (Z2Q z1I z2F z2E z1N z2b z2c z3k zG zD), (Zk b2 z18 zY)]<|ze<|zq<|zq<|zq ?_
 refine za (z1I == 0) ?_ ?_
 ·refine ze<|zq<|zt [(ZK zl zm z7 (IntKind.i64.wrap (zh - 1)) zj z2 z6 zn zd), (Zk b2 (shrO z18) (shrO zY)), (Zk b2 z18 zY)] ?_
  exact zr ((.p (.tup [(.agg (ZH b2 .sh .sh)), (.v (.bool true))])), [(ZK zl zm z7 (IntKind.i64.wrap (zh - 1)) zj z2 z6 zn zd), (Zk b2 (shrO z18) (shrO zY)), (Zk b2 z18 zY)]) ⟨zd, _, zu, rfl⟩
 ·exact zk (Zg9 zl zm z7 (IntKind.i64.wrap (zh - 1)) zj z2 z6 z1I z2F z2E z1N z2b z2c z3k b2 zn zd zG zD z18 zY zu z15 zV)
def Z7l (x1 : Int) (zl : List Int) (z7 zh : Int) (zj : List Zz) (z2 z6 z1I z2F z2E z1N z2b : Int) (z2c : List Z8) (b2 : Z9) : Option (Z9 × Bool × Int × Int × Int × (List Zz) × Int × Int) :=
 (Z1c 20 x1 zl z2 z6).bind fun r1 =>
 Z38 r1.1 z7 zh zj r1.2.1 r1.2.2 z1I z2F z2E z1N z2b z2c b2
theorem Zg8 x1 zl zm z7 zh zj z2 z6 z1I z2F z2E z1N z2b z2c z3k b2 zn zd zG zD z18 zY (zu : ZL zd = true) (z15 : ZL zG = true) (zV : ZL zD = true) : Sim (Z2V zl zn) (Z7l x1 zl z7 zh zj z2 z6 z1I z2F z2E z1N z2b z2c b2) (ZrY 1 (.ptr 0 0) (iv x1) (.ptr 1 0) (.ptr 2 0) [(ZK zl zm z7 zh zj z2 z6 zn zd), (Z2Q z1I z2F z2E z1N z2b z2c z3k zG zD), (Zk b2 z18 zY)]) := by
 unfold Z7l
 refine zf (ZyJ ..)<|ze<|zi fun r1 hr1 => ?_
 obtain ⟨_, er1, _, rfl⟩ := Z1g 20 x1 zl zm z7 zh zj z2 z6 zn zd zu r1 hr1
 refine zc [0] (.p (.tup [])) [(ZK zl r1.1 z7 zh zj r1.2.1 r1.2.2 zn zd), (Z2Q z1I z2F z2E z1N z2b z2c z3k zG zD), (Zk b2 z18 zY)] er1 ?_
 exact zk (Z83 zl r1.1 z7 zh zj r1.2.1 r1.2.2 z1I z2F z2E z1N z2b z2c z3k b2 zn zd zG zD z18 zY zu z15 zV)
def Z2s (x1 : Int) (zl : List Int) (zm z7 zh : Int) (zj : List Zz) (z2 z6 z1I z2F z2E z1N z2b : Int) (z2c : List Z8) : Option (Z9 × Bool × Int × Int × Int × (List Zz) × Int × Int) :=
 (Z4e zl zm z7 zh zj z2 z6).bind fun r1 =>
 if (r1.2.2.2.2.2.1 == 0) = true then
 ((Z1H (ByteArray.mk #[41]) zl r1.2.1).bind fun r2 =>
 if (!r2.1) = true then
 (Z7l x1 zl r1.2.2.1 r1.2.2.2.1 r1.2.2.2.2.1 r1.2.2.2.2.2.1 r1.2.2.2.2.2.2 z1I z2F z2E z1N z2b z2c r1.1)
 else
 (Z38 r2.2 r1.2.2.1 r1.2.2.2.1 r1.2.2.2.2.1 r1.2.2.2.2.2.1 r1.2.2.2.2.2.2 z1I z2F z2E z1N z2b z2c r1.1))
 else
 (Z38 r1.2.1 r1.2.2.1 r1.2.2.2.1 r1.2.2.2.2.1 r1.2.2.2.2.2.1 r1.2.2.2.2.2.2 z1I z2F z2E z1N z2b z2c r1.1)
theorem Z3R x1 zl zm z7 zh zj z2 z6 z1I z2F z2E z1N z2b z2c z3k zn zd zG zD (zu : ZL zd = true) (z15 : ZL zG = true) (zV : ZL zD = true) : Sim (Z2V zl zn) (Z2s x1 zl zm z7 zh zj z2 z6 z1I z2F z2E z1N z2b z2c) (ZeD 1 (.ptr 0 0) (iv x1) (.ptr 1 0) [(ZK zl zm z7 zh zj z2 z6 zn zd), (Z2Q z1I z2F z2E z1N z2b z2c z3k zG zD)]) := by
 unfold Z2s
 refine zf (ZyI ..)<|ze<|zi fun r1 hr1 => ?_
 obtain ⟨_, er1, z5g, _, z9y, rfl⟩ := ZeK zl zm z7 zh zj z2 z6 zn zd zu r1 hr1
 refine zc [0] (pA_ (ZH r1.1 .sh .sh)) [(ZK zl r1.2.1 r1.2.2.1 r1.2.2.2.1 r1.2.2.2.2.1 r1.2.2.2.2.2.1 r1.2.2.2.2.2.2 zn z5g), (Z2Q z1I z2F z2E z1N z2b z2c z3k zG zD)] er1<|zz (.ptr 2 0) [(ZK zl r1.2.1 r1.2.2.1 r1.2.2.2.1 r1.2.2.2.2.1 r1.2.2.2.2.2.1 r1.2.2.2.2.2.2 zn z5g), (Z2Q z1I z2F z2E z1N z2b z2c z3k zG zD), (Zk Z1A .nl .nl)]<|zt [(ZK zl r1.2.1 r1.2.2.1 r1.2.2.2.1 r1.2.2.2.2.1 r1.2.2.2.2.2.1 r1.2.2.2.2.2.2 zn z5g), (Z2Q z1I z2F z2E z1N z2b z2c z3k zG zD), (Zk r1.1 .sh .sh)]<|ze<|zq<|zq<|zq<|zq<|zq ?_
 refine za (r1.2.2.2.2.2.1 == 0) ?_ ?_
 ·refine zi fun r2 hr2 => ?_
  obtain ⟨_, er2, _, rfl⟩ := Z1P (ByteArray.mk #[41]) zl r1.2.1 r1.2.2.1 r1.2.2.2.1 r1.2.2.2.2.1 r1.2.2.2.2.2.1 r1.2.2.2.2.2.2 zn z5g z9y r2 hr2
  refine zc [0] (bv r2.1) [(ZK zl r2.2 r1.2.2.1 r1.2.2.2.1 r1.2.2.2.2.1 r1.2.2.2.2.2.1 r1.2.2.2.2.2.2 zn z5g), (Z2Q z1I z2F z2E z1N z2b z2c z3k zG zD), (Zk r1.1 .sh .sh)] er2<|zq ?_
  refine za (!r2.1) ?_ ?_
  ·exact zk (Zg8 x1 zl r2.2 r1.2.2.1 r1.2.2.2.1 r1.2.2.2.2.1 r1.2.2.2.2.2.1 r1.2.2.2.2.2.2 z1I z2F z2E z1N z2b z2c z3k r1.1 zn z5g zG zD .sh .sh z9y z15 zV)
  ·exact zk (Z83 zl r2.2 r1.2.2.1 r1.2.2.2.1 r1.2.2.2.2.1 r1.2.2.2.2.2.1 r1.2.2.2.2.2.2 z1I z2F z2E z1N z2b z2c z3k r1.1 zn z5g zG zD .sh .sh z9y z15 zV)
 ·exact zk (Z83 zl r1.2.1 r1.2.2.1 r1.2.2.2.1 r1.2.2.2.2.1 r1.2.2.2.2.2.1 r1.2.2.2.2.2.2 z1I z2F z2E z1N z2b z2c z3k r1.1 zn z5g zG zD .sh .sh z9y z15 zV)
def Z6l (x1 : Int) (zl : List Int) (zm z7 zh : Int) (zj : List Zz) (z2 z6 z1I z2F z2E z1N z2b : Int) (z2c : List Z8) : Option (Z9 × Bool × Int × Int × Int × (List Zz) × Int × Int) :=
 (Zee).bind fun r1 =>
 (Z5M r1 zl zm).bind fun r2 =>
 if (decide (0 ≤ r2.1)) = true then
 (Z2s x1 zl r2.2 z7 (IntKind.i64.wrap (zh + 1)) zj z2 z6 7 0 0 r2.1 0 ([] : List Z8))
 else
 ((Z1H (ByteArray.mk #[63, 62]) zl r2.2).bind fun r3 =>
 if r3.1 = true then
 (Z2s x1 zl r3.2 z7 (IntKind.i64.wrap (zh + 1)) zj z2 z6 8 0 0 0 0 ([] : List Z8))
 else
 ((Z1H (ByteArray.mk #[63, 58]) zl r3.2).bind fun r4 =>
 if r4.1 = true then
 (Z2s x1 zl r4.2 z7 (IntKind.i64.wrap (zh + 1)) zj z2 z6 z1I z2F z2E z1N z2b z2c)
 else
 ((Z2G (Z1y.mk zl r4.2 z7 (IntKind.i64.wrap (zh + 1)) zj (Z12.mk z2 z6))).bind fun r5 =>
 if (r5 == 63) = true then
 ((Z1c 20 x1 zl z2 z6).bind fun r6 =>
 Z2s x1 zl r6.1 z7 (IntKind.i64.wrap (zh + 1)) zj r6.2.1 r6.2.2 z1I z2F z2E z1N z2b z2c)
 else
 (if (z7 == 9) = true then
 ((Z1c 24 x1 zl z2 z6).bind fun r7 =>
 Z2s x1 zl r7.1 z7 (IntKind.i64.wrap (zh + 1)) zj r7.2.1 r7.2.2 z1I z2F z2E z1N z2b z2c)
 else
 (Z2s x1 zl r4.2 (IntKind.i64.wrap (z7 + 1)) (IntKind.i64.wrap (zh + 1)) zj z2 z6 5 0 0 0 (IntKind.i64.wrap (z7 + 1)) ([] : List Z8))))))
theorem Zh2 x1 zl zm z7 zh zj z2 z6 z1I z2F z2E z1N z2b z2c z3k zn zd zG zD (zu : ZL zd = true) (z15 : ZL zG = true) (zV : ZL zD = true) : Sim (Z2V zl zn) (Z6l x1 zl zm z7 zh zj z2 z6 z1I z2F z2E z1N z2b z2c) (Zv3 1 (.ptr 0 0) (iv x1) (.ptr 1 0) [(ZK zl zm z7 zh zj z2 z6 zn zd), (Z2Q z1I z2F z2E z1N z2b z2c z3k zG zD)]) := by
 unfold Z6l
 refine zf (ZBG ..)<|ze<|zq<|zq<|zq<|zq<|zq<|zq<|zt [(ZK zl zm z7 (IntKind.i64.wrap (zh + 1)) zj z2 z6 zn zd), (Z2Q z1I z2F z2E z1N z2b z2c z3k zG zD)]<|ze<|zi fun r1 hr1 => ?_
 obtain ⟨_, er1, _, rfl⟩ := Zp1 r1 hr1
 refine zc [] (ZO .sh (r1.map eS)) [(ZK zl zm z7 (IntKind.i64.wrap (zh + 1)) zj z2 z6 zn zd), (Z2Q z1I z2F z2E z1N z2b z2c z3k zG zD)] er1<|zi fun r2 hr2 => ?_
 obtain ⟨_, er2, _, rfl⟩ := Zet r1 zl zm z7 (IntKind.i64.wrap (zh + 1)) zj z2 z6 .sh zn zd zu r2 hr2
 refine zc [0] (iv r2.1) [(ZK zl r2.2 z7 (IntKind.i64.wrap (zh + 1)) zj z2 z6 zn zd), (Z2Q z1I z2F z2E z1N z2b z2c z3k zG zD)] er2<|ze<|zq ?_
 refine za (decide (0 ≤ r2.1)) ?_ ?_
 ·refine ze<|zq<|zt [(ZK zl r2.2 z7 (IntKind.i64.wrap (zh + 1)) zj z2 z6 zn zd), (Z2Q 7 0 0 r2.1 0 ([] : List Z8) ([] : List Z9) .nl .nl)] ?_
  exact zk (Z3R x1 zl r2.2 z7 (IntKind.i64.wrap (zh + 1)) zj z2 z6 7 0 0 r2.1 0 ([] : List Z8) ([] : List Z9) zn zd .nl .nl zu rfl rfl)
 ·refine ze<|zi fun r3 hr3 => ?_
  obtain ⟨_, er3, _, rfl⟩ := Z1P (ByteArray.mk #[63, 62]) zl r2.2 z7 (IntKind.i64.wrap (zh + 1)) zj z2 z6 zn zd zu r3 hr3
  refine zc [0] (bv r3.1) [(ZK zl r3.2 z7 (IntKind.i64.wrap (zh + 1)) zj z2 z6 zn zd), (Z2Q z1I z2F z2E z1N z2b z2c z3k zG zD)] er3 ?_
  refine za r3.1 ?_ ?_
  ·refine ze<|zq<|zt [(ZK zl r3.2 z7 (IntKind.i64.wrap (zh + 1)) zj z2 z6 zn zd), (Z2Q 8 0 0 0 0 ([] : List Z8) ([] : List Z9) .nl .nl)] ?_
   exact zk (Z3R x1 zl r3.2 z7 (IntKind.i64.wrap (zh + 1)) zj z2 z6 8 0 0 0 0 ([] : List Z8) ([] : List Z9) zn zd .nl .nl zu rfl rfl)
  ·refine ze<|zi fun r4 hr4 => ?_
   obtain ⟨_, er4, _, rfl⟩ := Z1P (ByteArray.mk #[63, 58]) zl r3.2 z7 (IntKind.i64.wrap (zh + 1)) zj z2 z6 zn zd zu r4 hr4
   refine zc [0] (bv r4.1) [(ZK zl r4.2 z7 (IntKind.i64.wrap (zh + 1)) zj z2 z6 zn zd), (Z2Q z1I z2F z2E z1N z2b z2c z3k zG zD)] er4 ?_
   refine za r4.1 ?_ ?_
   ·exact zk (Z3R x1 zl r4.2 z7 (IntKind.i64.wrap (zh + 1)) zj z2 z6 z1I z2F z2E z1N z2b z2c z3k zn zd zG zD zu z15 zV)
   ·refine ze<|zi fun r5 hr5 => ?_
    obtain ⟨_, er5, _, rfl⟩ := Z2S (Z1y.mk zl r4.2 z7 (IntKind.i64.wrap (zh + 1)) zj (Z12.mk z2 z6)) zn zd zu r5 hr5
    refine zc [0] (iv r5) [(ZK zl r4.2 z7 (IntKind.i64.wrap (zh + 1)) zj z2 z6 zn zd), (Z2Q z1I z2F z2E z1N z2b z2c z3k zG zD)] er5<|zq ?_
    refine za (r5 == 63) ?_ ?_
    ·refine ze<|zi fun r6 hr6 => ?_
     obtain ⟨_, er6, _, rfl⟩ := Z1g 20 x1 zl r4.2 z7 (IntKind.i64.wrap (zh + 1)) zj z2 z6 zn zd zu r6 hr6
     refine zc [0] (.p (.tup [])) [(ZK zl r6.1 z7 (IntKind.i64.wrap (zh + 1)) zj r6.2.1 r6.2.2 zn zd), (Z2Q z1I z2F z2E z1N z2b z2c z3k zG zD)] er6 ?_
     exact zk (Z3R x1 zl r6.1 z7 (IntKind.i64.wrap (zh + 1)) zj r6.2.1 r6.2.2 z1I z2F z2E z1N z2b z2c z3k zn zd zG zD zu z15 zV)
    ·refine ze<|zq<|zq<|zq<|zq ?_
     refine za (z7 == 9) ?_ ?_
     ·refine ze<|zi fun r7 hr7 => ?_
      obtain ⟨_, er7, _, rfl⟩ := Z1g 24 x1 zl r4.2 z7 (IntKind.i64.wrap (zh + 1)) zj z2 z6 zn zd zu r7 hr7
      refine zc [0] (.p (.tup [])) [(ZK zl r7.1 z7 (IntKind.i64.wrap (zh + 1)) zj r7.2.1 r7.2.2 zn zd), (Z2Q z1I z2F z2E z1N z2b z2c z3k zG zD)] er7 ?_
      exact zk (Z3R x1 zl r7.1 z7 (IntKind.i64.wrap (zh + 1)) zj r7.2.1 r7.2.2 z1I z2F z2E z1N z2b z2c z3k zn zd zG zD zu z15 zV)
     ·refine ze<|zq<|zq<|zq<|zq<|zq<|zq<|zt [(ZK zl r4.2 (IntKind.i64.wrap (z7 + 1)) (IntKind.i64.wrap (zh + 1)) zj z2 z6 zn zd), (Z2Q z1I z2F z2E z1N z2b z2c z3k zG zD)]<|ze<|zq<|zq<|zq<|zq<|zt [(ZK zl r4.2 (IntKind.i64.wrap (z7 + 1)) (IntKind.i64.wrap (zh + 1)) zj z2 z6 zn zd), (Z2Q 5 0 0 0 (IntKind.i64.wrap (z7 + 1)) ([] : List Z8) ([] : List Z9) .nl .nl)] ?_
      exact zk (Z3R x1 zl r4.2 (IntKind.i64.wrap (z7 + 1)) (IntKind.i64.wrap (zh + 1)) zj z2 z6 5 0 0 0 (IntKind.i64.wrap (z7 + 1)) ([] : List Z8) ([] : List Z9) zn zd .nl .nl zu rfl rfl)
def Z64 (x1 : Int) (zl : List Int) (zm z7 zh : Int) (zj : List Zz) (z2 z6 : Int) : Option (Z9 × Bool × Int × Int × Int × (List Zz) × Int × Int) :=
 if (zh == 32) = true then
 ((Z1c 25 x1 zl z2 z6).bind fun r1 =>
 some ((Z9.mk 0 0 0 0 0 ([] : List Z8) ([] : List Z9)), true, r1.1, z7, zh, zj, r1.2.1, r1.2.2))
 else
 (Z6l x1 zl zm z7 zh zj z2 z6 0 0 0 0 0 ([] : List Z8))
theorem Zj3 x1 zl zm z7 zh zj z2 z6 zn zd (zu : ZL zd = true) : Sim (Z2V zl zn) (Z64 x1 zl zm z7 zh zj z2 z6) (EE 68 [(.ptr 0 0), (iv x1)] [(ZK zl zm z7 zh zj z2 z6 zn zd)]) := by
 unfold Z64
 refine zf (ZHw ..)<|ze<|zz (.ptr 1 0) [(ZK zl zm z7 zh zj z2 z6 zn zd), (Zk Z1A .nl .nl)]<|ze<|zq<|zq<|zq<|zq ?_
 refine za (zh == 32) ?_ ?_
 ·refine ze<|zi fun r1 hr1 => ?_
  obtain ⟨_, er1, _, rfl⟩ := Z1g 25 x1 zl zm z7 zh zj z2 z6 zn zd zu r1 hr1
  refine zc [0] (.p (.tup [])) [(ZK zl r1.1 z7 zh zj r1.2.1 r1.2.2 zn zd), (Zk Z1A .nl .nl)] er1<|ze<|zq<|zt [(ZK zl r1.1 z7 zh zj r1.2.1 r1.2.2 zn zd), (Zk Z1A .nl .nl)] ?_
  exact zr ((.p (.tup [(.agg (ZH Z1A .sh .sh)), (.v (.bool true))])), [(ZK zl r1.1 z7 zh zj r1.2.1 r1.2.2 zn zd), (Zk Z1A .nl .nl)]) ⟨zd, _, zu, rfl⟩
 ·exact zk (Zh2 x1 zl zm z7 zh zj z2 z6 0 0 0 0 0 ([] : List Z8) ([] : List Z9) zn zd .nl .nl zu rfl rfl)
theorem Z9V x1 zl zm z7 zh zj z2 z6 {r} (h : Z64 x1 zl zm z7 zh zj z2 z6 = some r) : Z4X x1 zl zm z7 zh zj z2 z6 = some r :=
 Z1h (fun _ _ ha hb => ru_ (ZdL _ _) (ha .ex .ex rfl) (hb .ex .ex rfl)) (fun zn zd zu => Zj3 x1 zl zm z7 zh zj z2 z6 zn zd zu r h)
def Zhy : Option (List ByteArray) :=
 some ([(ByteArray.mk #[63, 61]), (ByteArray.mk #[63, 33]), (ByteArray.mk #[63, 60, 61]), (ByteArray.mk #[63, 60, 33])] : List ByteArray)
theorem Zom : Sim Ze7 Zhy (EE 83 [] []) := by
 unfold Zhy
 refine zf (ZHQ ..)<|ze<|ze<|zq ?_
 exact zr ((ZO .sh (([(ByteArray.mk #[63, 61]), (ByteArray.mk #[63, 33]), (ByteArray.mk #[63, 60, 61]), (ByteArray.mk #[63, 60, 33])] : List ByteArray).map eS)), []) ⟨_, rfl⟩
theorem Zp0 {r} (h : Zhy = some r) : Zee = some r :=
 Z1h (fun _ _ ha hb => ru_ ZpB ha hb) (Zom r h)
def Z5J (x0 : List ByteArray) (zl : List Int) (zm : Int) : Option (Int × Int) :=
 Z2m x0 (x0.length : Int) 0 zl zm
theorem Ze2 (x0 : List ByteArray) zl zm z7 zh zj z2 z6 ox0 zn zd (zu : ZL zd = true) : Sim (Z2a zl z7 zh zj z2 z6 zn zd) (Z5J x0 zl zm) (EE 82 [(ZO ox0 (x0.map eS)), (.clo 19 [(.ptr 0 0)] [])] [(ZK zl zm z7 zh zj z2 z6 zn zd)]) := by
 unfold Z5J
 refine zf (ZHO ..)<|ze<|ze<|zp (iv (x0.length : Int)) (et_ (Z3d (P := PP) (t := 121) (d := 9) (by kernel_rfl) eS (shrO ox0) x0)) ?_
 exact zk (Z8M x0 (x0.length : Int) 0 zl zm z7 zh zj z2 z6 ox0 zn zd zu)
theorem Zes x0 zl zm {r} (h : Z5J x0 zl zm = some r) : Z5M x0 zl zm = some r :=
 Z1h (fun _ _ ha hb => ru_ (Z6M _ _ _ _ _ _ _ _) (ha default default default default default .ex .ex .ex rfl) (hb default default default default default .ex .ex .ex rfl)) (fun z7 zh zj z2 z6 ox0 zn zd zu => Ze2 x0 zl zm z7 zh zj z2 z6 ox0 zn zd zu r h)
def Z4V (x0 : List ByteArray) (x7 x8 : Int) (zl : List Int) (zm : Int) : Option (Int × Int) :=
 Z2m x0 x7 (IntKind.i64.wrap (x8 + 1)) zl zm
theorem ZcD (x0 : List ByteArray) x7 x8 zl zm z7 zh zj z2 z6 ox0 zn zd (zu : ZL zd = true) : Sim (Z2a zl z7 zh zj z2 z6 zn zd) (Z4V x0 x7 x8 zl zm) (Zvo 1 (ZO ox0 (x0.map eS)) (.clo 19 [(.ptr 0 0)] []) (iv x7) (iv x8) [(ZK zl zm z7 zh zj z2 z6 zn zd)]) := by
 unfold Z4V
 refine zf (ZBZ ..)<|ze<|zq ?_
 exact zk (Z8M x0 x7 (IntKind.i64.wrap (x8 + 1)) zl zm z7 zh zj z2 z6 ox0 zn zd zu)
def Z3V (x0 : List ByteArray) (x7 x8 : Int) (zl : List Int) (zm : Int) : Option (Int × Int) :=
 (lget x0 x8).bind fun a1 =>
 (Z1H a1 zl zm).bind fun r2 =>
 if r2.1 = true then
 (some (x8, r2.2))
 else
 (Z4V x0 x7 x8 zl r2.2)
theorem ZcC (x0 : List ByteArray) x7 x8 zl zm z7 zh zj z2 z6 ox0 zn zd (zu : ZL zd = true) : Sim (Z2a zl z7 zh zj z2 z6 zn zd) (Z3V x0 x7 x8 zl zm) (Zvn 1 (ZO ox0 (x0.map eS)) (.clo 19 [(.ptr 0 0)] []) (iv x7) (iv x8) [(ZK zl zm z7 zh zj z2 z6 zn zd)]) := by
 unfold Z3V
 refine zf (ZBY ..)<|ze<|ze<|zi fun a1 ha1 => zp (.cptr [(.v (.string a1))]) (et_ (Z2D (o := (shrO ox0)) (k := .i64) (n := 1) (e := eS) (cs := (fun a => [eS a])) (fun _ => rfl) (fun _ => rfl) (by decide) ha1))<|zq<|zi fun r2 hr2 => ?_
 obtain ⟨_, er2, _, rfl⟩ := Z1P a1 zl zm z7 zh zj z2 z6 zn zd zu r2 hr2
 refine zv [0] (bv r2.1) [(ZK zl r2.2 z7 zh zj z2 z6 zn zd)] er2 ?_
 refine za r2.1 ?_ ?_
 ·refine ze ?_
  exact zr ((iv x8), [(ZK zl r2.2 z7 zh zj z2 z6 zn zd)]) ⟨_, rfl⟩
 ·exact zk (ZcD x0 x7 x8 zl r2.2 z7 zh zj z2 z6 ox0 zn zd zu)
def Z6E (zm : Int) : Option (Int × Int) :=
 some ((-1), zm)
theorem ZcE zl zm z7 zh zj z2 z6 zn zd (zu : ZL zd = true) : Sim (Z2a zl z7 zh zj z2 z6 zn zd) (Z6E zm) (Zvp 1 [(ZK zl zm z7 zh zj z2 z6 zn zd)]) := by
 unfold Z6E
 refine zf (ZC0 ..)<|ze ?_
 exact zr ((iv (-1)), [(ZK zl zm z7 zh zj z2 z6 zn zd)]) ⟨_, rfl⟩
def Z3t (x0 : List ByteArray) (x7 x8 : Int) (zl : List Int) (zm : Int) : Option (Int × Int) :=
 if (decide (x8 < x7)) = true then
 (Z3V x0 x7 x8 zl zm)
 else
 (Z6E zm)
theorem ZcB (x0 : List ByteArray) x7 x8 zl zm z7 zh zj z2 z6 ox0 zn zd (zu : ZL zd = true) : Sim (Z2a zl z7 zh zj z2 z6 zn zd) (Z3t x0 x7 x8 zl zm) (ZmV 1 (ZO ox0 (x0.map eS)) (.clo 19 [(.ptr 0 0)] []) (iv x7) (iv x8) [(ZK zl zm z7 zh zj z2 z6 zn zd)]) := by
 unfold Z3t
 refine zf (ZBX ..)<|ze<|zq ?_
 refine za (decide (x8 < x7)) ?_ ?_
 ·exact zk (ZcC x0 x7 x8 zl zm z7 zh zj z2 z6 ox0 zn zd zu)
 ·exact zk (ZcE zl zm z7 zh zj z2 z6 zn zd zu)
theorem Z6h x0 x7 x8 zl zm {r} (h : Z3t x0 x7 x8 zl zm = some r) : Z2m x0 x7 x8 zl zm = some r :=
 Z1h (fun _ _ ha hb => ru_ (Z6M _ _ _ _ _ _ _ _) (ha default default default default default .ex .ex .ex rfl) (hb default default default default default .ex .ex .ex rfl)) (fun z7 zh zj z2 z6 ox0 zn zd zu => ZcB x0 x7 x8 zl zm z7 zh zj z2 z6 ox0 zn zd zu r h)
def Z4k (zm z2 z6 z3b z4r z4q z3Q z3F : Int) (z2r : List Z8) (z3a : List Z9) : Option (Z9 × Int × Int × Int) :=
 some ((Z9.mk z3b z4r z4q z3Q z3F z2r z3a), zm, z2, z6)
theorem Z7L zl zm z7 zh zj z2 z6 b1 b2 z3b z4r z4q z3Q z3F z2r z3a zn zd zG zD z18 zY z32 z3Y (zu : ZL zd = true) (zeu : ZL z18 = true) (zcF : ZL zY = true) (zbz : ZL z32 = true) (zcG : ZL z3Y = true) : Sim (Z1G zl z7 zh zj zn zd) (Z4k zm z2 z6 z3b z4r z4q z3Q z3F z2r z3a) (ZkA 1 (.ptr 2 0) (.ptr 3 0) [(ZK zl zm z7 zh zj z2 z6 zn zd), (Zk b1 zG zD), (Zk b2 z18 zY), (Z2Q z3b z4r z4q z3Q z3F z2r z3a z32 z3Y)]) := by
 unfold Z4k
 refine zf (Zyr ..)<|ze<|zq<|zt [(ZK zl zm z7 zh zj z2 z6 zn zd), (Zk b1 zG zD), (Z2Q z3b z4r z4q z3Q z3F z2r z3a (shrO z32) (shrO z3Y)), (Z2Q z3b z4r z4q z3Q z3F z2r z3a z32 z3Y)] ?_
 exact zr ((pA_ (ZH (Z9.mk z3b z4r z4q z3Q z3F z2r z3a) .sh .sh)), [(ZK zl zm z7 zh zj z2 z6 zn zd), (Zk b1 zG zD), (Z2Q z3b z4r z4q z3Q z3F z2r z3a (shrO z32) (shrO z3Y)), (Z2Q z3b z4r z4q z3Q z3F z2r z3a z32 z3Y)]) ⟨_, rfl⟩
def Z3J (zl : List Int) (zm z2 z6 z3b z4r z4q z3Q z3F : Int) (z2r : List Z8) (z3a : List Z9) : Option (Z9 × Int × Int × Int) :=
 (Z1H (ByteArray.mk #[63]) zl zm).bind fun r1 =>
 if r1.1 = true then
 (Z4k r1.2 z2 z6 z3b z4r z4q 1 z3F z2r z3a)
 else
 ((Z1H (ByteArray.mk #[43]) zl r1.2).bind fun r2 =>
 if r2.1 = true then
 (Z4k r2.2 z2 z6 z3b z4r z4q 2 z3F z2r z3a)
 else
 (Z4k r2.2 z2 z6 z3b z4r z4q z3Q z3F z2r z3a))
theorem ZaB zl zm z7 zh zj z2 z6 b1 b2 z3b z4r z4q z3Q z3F z2r z3a zn zd zG zD z18 zY z32 z3Y (zu : ZL zd = true) (zeu : ZL z18 = true) (zcF : ZL zY = true) (zbz : ZL z32 = true) (zcG : ZL z3Y = true) : Sim (Z1G zl z7 zh zj zn zd) (Z3J zl zm z2 z6 z3b z4r z4q z3Q z3F z2r z3a) (Zo1 1 (.ptr 0 0) (.ptr 2 0) (.ptr 3 0) [(ZK zl zm z7 zh zj z2 z6 zn zd), (Zk b1 zG zD), (Zk b2 z18 zY), (Z2Q z3b z4r z4q z3Q z3F z2r z3a z32 z3Y)]) := by
 unfold Z3J
 refine zf (Zyq ..)<|ze<|zi fun r1 hr1 => ?_
 obtain ⟨_, er1, _, rfl⟩ := Z1P (ByteArray.mk #[63]) zl zm z7 zh zj z2 z6 zn zd zu r1 hr1
 refine zc [0] (bv r1.1) [(ZK zl r1.2 z7 zh zj z2 z6 zn zd), (Zk b1 zG zD), (Zk b2 z18 zY), (Z2Q z3b z4r z4q z3Q z3F z2r z3a z32 z3Y)] er1 ?_
 refine za r1.1 ?_ ?_
 ·refine ze<|zq<|zt [(ZK zl r1.2 z7 zh zj z2 z6 zn zd), (Zk b1 zG zD), (Zk b2 z18 zY), (Z2Q z3b z4r z4q 1 z3F z2r z3a z32 z3Y)] ?_
  exact zk (Z7L zl r1.2 z7 zh zj z2 z6 b1 b2 z3b z4r z4q 1 z3F z2r z3a zn zd zG zD z18 zY z32 z3Y zu zeu zcF zbz zcG)
 ·refine ze<|zi fun r2 hr2 => ?_
  obtain ⟨_, er2, _, rfl⟩ := Z1P (ByteArray.mk #[43]) zl r1.2 z7 zh zj z2 z6 zn zd zu r2 hr2
  refine zc [0] (bv r2.1) [(ZK zl r2.2 z7 zh zj z2 z6 zn zd), (Zk b1 zG zD), (Zk b2 z18 zY), (Z2Q z3b z4r z4q z3Q z3F z2r z3a z32 z3Y)] er2 ?_
  refine za r2.1 ?_ ?_
  ·refine ze<|zq<|zt [(ZK zl r2.2 z7 zh zj z2 z6 zn zd), (Zk b1 zG zD), (Zk b2 z18 zY), (Z2Q z3b z4r z4q 2 z3F z2r z3a z32 z3Y)] ?_
   exact zk (Z7L zl r2.2 z7 zh zj z2 z6 b1 b2 z3b z4r z4q 2 z3F z2r z3a zn zd zG zD z18 zY z32 z3Y zu zeu zcF zbz zcG)
  ·exact zk (Z7L zl r2.2 z7 zh zj z2 z6 b1 b2 z3b z4r z4q z3Q z3F z2r z3a zn zd zG zD z18 zY z32 z3Y zu zeu zcF zbz zcG)
def Z35 (x2 : Bool) (x7 : Int) (zl : List Int) (zm z2 z6 z3b z4r z4q z3Q z3F : Int) (z2r : List Z8) (z3a : List Z9) : Option (Z9 × Int × Int × Int) :=
 if (!x2) = true then
 ((Z1c 23 x7 zl z2 z6).bind fun r1 =>
 Z3J zl r1.1 r1.2.1 r1.2.2 z3b z4r z4q z3Q z3F z2r z3a)
 else
 (Z3J zl zm z2 z6 z3b z4r z4q z3Q z3F z2r z3a)
theorem Z5L x2 x7 zl zm z7 zh zj z2 z6 b1 b2 z3b z4r z4q z3Q z3F z2r z3a zn zd zG zD z18 zY z32 z3Y (zu : ZL zd = true) (zeu : ZL z18 = true) (zcF : ZL zY = true) (zbz : ZL z32 = true) (zcG : ZL z3Y = true) : Sim (Z1G zl z7 zh zj zn zd) (Z35 x2 x7 zl zm z2 z6 z3b z4r z4q z3Q z3F z2r z3a) (ZiE 1 (.ptr 0 0) (bv x2) (.ptr 2 0) (iv x7) (.ptr 3 0) [(ZK zl zm z7 zh zj z2 z6 zn zd), (Zk b1 zG zD), (Zk b2 z18 zY), (Z2Q z3b z4r z4q z3Q z3F z2r z3a z32 z3Y)]) := by
 unfold Z35
 refine zf (Zyp ..)<|ze<|zq ?_
 refine za (!x2) ?_ ?_
 ·refine ze<|zi fun r1 hr1 => ?_
  obtain ⟨_, er1, _, rfl⟩ := Z1g 23 x7 zl zm z7 zh zj z2 z6 zn zd zu r1 hr1
  refine zc [0] (.p (.tup [])) [(ZK zl r1.1 z7 zh zj r1.2.1 r1.2.2 zn zd), (Zk b1 zG zD), (Zk b2 z18 zY), (Z2Q z3b z4r z4q z3Q z3F z2r z3a z32 z3Y)] er1 ?_
  exact zk (ZaB zl r1.1 z7 zh zj r1.2.1 r1.2.2 b1 b2 z3b z4r z4q z3Q z3F z2r z3a zn zd zG zD z18 zY z32 z3Y zu zeu zcF zbz zcG)
 ·exact zk (ZaB zl zm z7 zh zj z2 z6 b1 b2 z3b z4r z4q z3Q z3F z2r z3a zn zd zG zD z18 zY z32 z3Y zu zeu zcF zbz zcG)
def Z5z (x1 : Z9) (x2 : Bool) (zl : List Int) (zm z7 zh : Int) (zj : List Zz) (z2 z6 : Int) : Option (Z9 × Int × Int × Int) :=
 (Z1H (ByteArray.mk #[42]) zl zm).bind fun r1 =>
 if r1.1 = true then
 (Z35 x2 zm zl r1.2 z2 z6 4 0 (-1) 0 0 ([] : List Z8) ([x1] : List Z9))
 else
 ((Z1H (ByteArray.mk #[43]) zl r1.2).bind fun r2 =>
 if r2.1 = true then
 (Z35 x2 zm zl r2.2 z2 z6 4 1 (-1) 0 0 ([] : List Z8) ([x1] : List Z9))
 else
 ((Z1H (ByteArray.mk #[63]) zl r2.2).bind fun r3 =>
 if r3.1 = true then
 (Z35 x2 zm zl r3.2 z2 z6 4 0 1 0 0 ([] : List Z8) ([x1] : List Z9))
 else
 ((Z1H (ByteArray.mk #[123]) zl r3.2).bind fun r4 =>
 if r4.1 = true then
 ((Z6X zm zl r4.2 z7 zh zj z2 z6).bind fun r5 =>
 Z35 x2 zm zl r5.2.2.1 r5.2.2.2.1 r5.2.2.2.2 4 r5.1 r5.2.1 0 0 ([] : List Z8) ([x1] : List Z9))
 else
 (some (x1, r4.2, z2, z6)))))
theorem Zii x1 x2 zl zm z7 zh zj z2 z6 zM zU zn zd (zu : ZL zd = true) : Sim (Z1G zl z7 zh zj zn zd) (Z5z x1 x2 zl zm z7 zh zj z2 z6) (EE 49 [(.ptr 0 0), (pA_ (ZH x1 zM zU)), (bv x2)] [(ZK zl zm z7 zh zj z2 z6 zn zd)]) := by
 unfold Z5z
 refine zf (ZH5 ..)<|ze<|zx (.ptr 1 0) [(ZK zl zm z7 zh zj z2 z6 zn zd), (Zk x1 zM zU)]<|zz (.ptr 2 0) [(ZK zl zm z7 zh zj z2 z6 zn zd), (Zk x1 zM zU), (Zk Z1A .nl .nl)]<|ze<|zq<|zq<|zq<|ze<|zq<|zp (ZO .ex (([x1] : List Z9).map ZI)) (Eq.trans (b := some (ZO .ex [.agg (Z1W x1)])) (by kernel_rfl) (by simp only [Z8S, ZdH, Z4W]))<|zq<|zz (.ptr 3 0) [(ZK zl zm z7 zh zj z2 z6 zn zd), (Zk x1 zM zU), (Zk Z1A .nl .nl), (Zk Z1A .nl .nl)]<|zt [(ZK zl zm z7 zh zj z2 z6 zn zd), (Zk x1 zM zU), (Zk Z1A .nl .nl), (Z2Q 4 0 (-1) 0 0 ([] : List Z8) ([x1] : List Z9) .nl .ex)]<|ze<|zi fun r1 hr1 => ?_
 obtain ⟨_, er1, _, rfl⟩ := Z1P (ByteArray.mk #[42]) zl zm z7 zh zj z2 z6 zn zd zu r1 hr1
 refine zc [0] (bv r1.1) [(ZK zl r1.2 z7 zh zj z2 z6 zn zd), (Zk x1 zM zU), (Zk Z1A .nl .nl), (Z2Q 4 0 (-1) 0 0 ([] : List Z8) ([x1] : List Z9) .nl .ex)] er1 ?_
 refine za r1.1 ?_ ?_
 ·exact zk (Z5L x2 zm zl r1.2 z7 zh zj z2 z6 x1 Z1A 4 0 (-1) 0 0 ([] : List Z8) ([x1] : List Z9) zn zd zM zU .nl .nl .nl .ex zu rfl rfl rfl rfl)
 ·refine ze<|zi fun r2 hr2 => ?_
  obtain ⟨_, er2, _, rfl⟩ := Z1P (ByteArray.mk #[43]) zl r1.2 z7 zh zj z2 z6 zn zd zu r2 hr2
  refine zc [0] (bv r2.1) [(ZK zl r2.2 z7 zh zj z2 z6 zn zd), (Zk x1 zM zU), (Zk Z1A .nl .nl), (Z2Q 4 0 (-1) 0 0 ([] : List Z8) ([x1] : List Z9) .nl .ex)] er2 ?_
  refine za r2.1 ?_ ?_
  ·refine ze<|zq<|zt [(ZK zl r2.2 z7 zh zj z2 z6 zn zd), (Zk x1 zM zU), (Zk Z1A .nl .nl), (Z2Q 4 1 (-1) 0 0 ([] : List Z8) ([x1] : List Z9) .nl .ex)] ?_
   exact zk (Z5L x2 zm zl r2.2 z7 zh zj z2 z6 x1 Z1A 4 1 (-1) 0 0 ([] : List Z8) ([x1] : List Z9) zn zd zM zU .nl .nl .nl .ex zu rfl rfl rfl rfl)
  ·refine ze<|zi fun r3 hr3 => ?_
   obtain ⟨_, er3, _, rfl⟩ := Z1P (ByteArray.mk #[63]) zl r2.2 z7 zh zj z2 z6 zn zd zu r3 hr3
   refine zc [0] (bv r3.1) [(ZK zl r3.2 z7 zh zj z2 z6 zn zd), (Zk x1 zM zU), (Zk Z1A .nl .nl), (Z2Q 4 0 (-1) 0 0 ([] : List Z8) ([x1] : List Z9) .nl .ex)] er3 ?_
   refine za r3.1 ?_ ?_
   ·refine ze<|zq<|zt [(ZK zl r3.2 z7 zh zj z2 z6 zn zd), (Zk x1 zM zU), (Zk Z1A .nl .nl), (Z2Q 4 0 1 0 0 ([] : List Z8) ([x1] : List Z9) .nl .ex)] ?_
    exact zk (Z5L x2 zm zl r3.2 z7 zh zj z2 z6 x1 Z1A 4 0 1 0 0 ([] : List Z8) ([x1] : List Z9) zn zd zM zU .nl .nl .nl .ex zu rfl rfl rfl rfl)
   ·refine ze<|zi fun r4 hr4 => ?_
    obtain ⟨_, er4, _, rfl⟩ := Z1P (ByteArray.mk #[123]) zl r3.2 z7 zh zj z2 z6 zn zd zu r4 hr4
    refine zc [0] (bv r4.1) [(ZK zl r4.2 z7 zh zj z2 z6 zn zd), (Zk x1 zM zU), (Zk Z1A .nl .nl), (Z2Q 4 0 (-1) 0 0 ([] : List Z8) ([x1] : List Z9) .nl .ex)] er4 ?_
    refine za r4.1 ?_ ?_
    ·refine ze<|zi fun r5 hr5 => ?_
     obtain ⟨_, er5, _, rfl⟩ := ZiZ zm zl r4.2 z7 zh zj z2 z6 zn zd zu r5 hr5
     refine zc [0] (.p (.tup [(.v (.int .i64 r5.1)), (.v (.int .i64 r5.2.1))])) [(ZK zl r5.2.2.1 z7 zh zj r5.2.2.2.1 r5.2.2.2.2 zn zd), (Zk x1 zM zU), (Zk Z1A .nl .nl), (Z2Q 4 0 (-1) 0 0 ([] : List Z8) ([x1] : List Z9) .nl .ex)] er5<|zq<|zq<|zq<|zt [(ZK zl r5.2.2.1 z7 zh zj r5.2.2.2.1 r5.2.2.2.2 zn zd), (Zk x1 zM zU), (Zk Z1A .nl .nl), (Z2Q 4 r5.1 (-1) 0 0 ([] : List Z8) ([x1] : List Z9) .nl .ex)]<|zq<|zt [(ZK zl r5.2.2.1 z7 zh zj r5.2.2.2.1 r5.2.2.2.2 zn zd), (Zk x1 zM zU), (Zk Z1A .nl .nl), (Z2Q 4 r5.1 r5.2.1 0 0 ([] : List Z8) ([x1] : List Z9) .nl .ex)] ?_
     exact zk (Z5L x2 zm zl r5.2.2.1 z7 zh zj r5.2.2.2.1 r5.2.2.2.2 x1 Z1A 4 r5.1 r5.2.1 0 0 ([] : List Z8) ([x1] : List Z9) zn zd zM zU .nl .nl .nl .ex zu rfl rfl rfl rfl)
    ·refine ze<|zq<|zt [(ZK zl r4.2 z7 zh zj z2 z6 zn zd), (Zk x1 zM zU), (Zk x1 (shrO zM) (shrO zU)), (Z2Q 4 0 (-1) 0 0 ([] : List Z8) ([x1] : List Z9) .nl .ex)] ?_
     exact zr ((pA_ (ZH x1 .sh .sh)), [(ZK zl r4.2 z7 zh zj z2 z6 zn zd), (Zk x1 zM zU), (Zk x1 (shrO zM) (shrO zU)), (Z2Q 4 0 (-1) 0 0 ([] : List Z8) ([x1] : List Z9) .nl .ex)]) ⟨_, rfl⟩
theorem Zcz x1 x2 zl zm z7 zh zj z2 z6 {r} (h : Z5z x1 x2 zl zm z7 zh zj z2 z6 = some r) : Z6Y x1 x2 zl zm z7 zh zj z2 z6 = some r :=
 Z1h (fun _ _ ha hb => ru_ (Zau _ _ _ _ _ _) (ha .ex .ex .ex .ex rfl) (hb .ex .ex .ex .ex rfl)) (fun zM zU zn zd zu => Zii x1 x2 zl zm z7 zh zj z2 z6 zM zU zn zd zu r h)
def Z9q (x4 zm z2 z6 : Int) : Option (Int × Int × Int × Int × Int) :=
 some (x4, (-1), zm, z2, z6)
theorem Zg2 x4 zl zm z7 zh zj z2 z6 zn zd (zu : ZL zd = true) : Sim (Z3i zl z7 zh zj zn zd) (Z9q x4 zm z2 z6) (Zv6 1 (iv x4) [(ZK zl zm z7 zh zj z2 z6 zn zd)]) := by
 unfold Z9q
 refine zf (ZBJ ..)<|ze ?_
 exact zr ((.p (.tup [(.v (.int .i64 x4)), (.v (.int .i64 (-1)))])), [(ZK zl zm z7 zh zj z2 z6 zn zd)]) ⟨_, rfl⟩
def Z76 (x4 x5 zm z2 z6 : Int) : Option (Int × Int × Int × Int × Int) :=
 some (x4, x5, zm, z2, z6)
theorem Zaz x4 x5 zl zm z7 zh zj z2 z6 zn zd (zu : ZL zd = true) : Sim (Z3i zl z7 zh zj zn zd) (Z76 x4 x5 zm z2 z6) (Zo7 1 (iv x4) (iv x5) [(ZK zl zm z7 zh zj z2 z6 zn zd)]) := by
 unfold Z76
 refine zf (ZyN ..)<|ze ?_
 exact zr ((.p (.tup [(.v (.int .i64 x4)), (.v (.int .i64 x5))])), [(ZK zl zm z7 zh zj z2 z6 zn zd)]) ⟨_, rfl⟩
def Z3o (x1 x4 x5 : Int) (zl : List Int) (z2 z6 : Int) : Option (Int × Int × Int × Int × Int) :=
 (Z1c 23 x1 zl z2 z6).bind fun r1 =>
 Z76 x4 x5 r1.1 r1.2.1 r1.2.2
theorem Z5K x1 x4 x5 zl zm z7 zh zj z2 z6 zn zd (zu : ZL zd = true) : Sim (Z3i zl z7 zh zj zn zd) (Z3o x1 x4 x5 zl z2 z6) (ZiH 1 (.ptr 0 0) (iv x1) (iv x4) (iv x5) [(ZK zl zm z7 zh zj z2 z6 zn zd)]) := by
 unfold Z3o
 refine zf (ZyM ..)<|ze<|zi fun r1 hr1 => ?_
 obtain ⟨_, er1, _, rfl⟩ := Z1g 23 x1 zl zm z7 zh zj z2 z6 zn zd zu r1 hr1
 refine zc [0] (.p (.tup [])) [(ZK zl r1.1 z7 zh zj r1.2.1 r1.2.2 zn zd)] er1 ?_
 exact zk (Zaz x4 x5 zl r1.1 z7 zh zj r1.2.1 r1.2.2 zn zd zu)
def Z37 (x1 x4 x5 : Int) (zl : List Int) (zm z2 z6 : Int) : Option (Int × Int × Int × Int × Int) :=
 if (decide (x4 < 0)) = true then
 (Z3o x1 x4 x5 zl z2 z6)
 else
 (if (decide (x5 < x4)) = true then
 (Z3o x1 x4 x5 zl z2 z6)
 else
 (if (decide (64 < x5)) = true then
 (Z3o x1 x4 x5 zl z2 z6)
 else
 ((Z1H (ByteArray.mk #[125]) zl zm).bind fun r1 =>
 if (!r1.1) = true then
 (Z3o x1 x4 x5 zl z2 z6)
 else
 (Z76 x4 x5 r1.2 z2 z6))))
theorem Z6e x1 x4 x5 zl zm z7 zh zj z2 z6 zn zd (zu : ZL zd = true) : Sim (Z3i zl z7 zh zj zn zd) (Z37 x1 x4 x5 zl zm z2 z6) (ZkH 1 (.ptr 0 0) (iv x1) (iv x4) (iv x5) [(ZK zl zm z7 zh zj z2 z6 zn zd)]) := by
 unfold Z37
 refine zf (ZBL ..)<|ze<|zq ?_
 refine za (decide (x4 < 0)) ?_ ?_
 ·exact zk (Z5K x1 x4 x5 zl zm z7 zh zj z2 z6 zn zd zu)
 ·refine zq ?_
  refine za (decide (x5 < x4)) ?_ ?_
  ·exact zk (Z5K x1 x4 x5 zl zm z7 zh zj z2 z6 zn zd zu)
  ·refine zq ?_
   refine za (decide (64 < x5)) ?_ ?_
   ·exact zk (Z5K x1 x4 x5 zl zm z7 zh zj z2 z6 zn zd zu)
   ·refine zi fun r1 hr1 => ?_
    obtain ⟨_, er1, _, rfl⟩ := Z1P (ByteArray.mk #[125]) zl zm z7 zh zj z2 z6 zn zd zu r1 hr1
    refine zc [0] (bv r1.1) [(ZK zl r1.2 z7 zh zj z2 z6 zn zd)] er1<|zq ?_
    refine za (!r1.1) ?_ ?_
    ·exact zk (Z5K x1 x4 x5 zl r1.2 z7 zh zj z2 z6 zn zd zu)
    ·exact zk (Zaz x4 x5 zl r1.2 z7 zh zj z2 z6 zn zd zu)
def Z4w (x1 x4 : Int) (zl : List Int) (zm z2 z6 : Int) : Option (Int × Int × Int × Int × Int) :=
 Z37 x1 x4 (-2) zl zm z2 z6
theorem Zb6 x1 x4 zl zm z7 zh zj z2 z6 zn zd (zu : ZL zd = true) : Sim (Z3i zl z7 zh zj zn zd) (Z4w x1 x4 zl zm z2 z6) (ZqF 1 (.ptr 0 0) (iv x1) (iv x4) [(ZK zl zm z7 zh zj z2 z6 zn zd)]) := by
 unfold Z4w
 refine zf (ZBK ..)<|ze ?_
 exact zk (Z6e x1 x4 (-2) zl zm z7 zh zj z2 z6 zn zd zu)
def Z7g (x1 x4 : Int) (zl : List Int) (zm z2 z6 : Int) : Option (Int × Int × Int × Int × Int) :=
 (Z1H (ByteArray.mk #[125]) zl zm).bind fun r1 =>
 if r1.1 = true then
 (if (decide (x4 ≤ 64)) = true then
 (Z9q x4 r1.2 z2 z6)
 else
 (Z4w x1 x4 zl r1.2 z2 z6))
 else
 (Z4w x1 x4 zl r1.2 z2 z6)
theorem Zg1 x1 x4 zl zm z7 zh zj z2 z6 zn zd (zu : ZL zd = true) : Sim (Z3i zl z7 zh zj zn zd) (Z7g x1 x4 zl zm z2 z6) (Zv5 1 (.ptr 0 0) (iv x1) (iv x4) [(ZK zl zm z7 zh zj z2 z6 zn zd)]) := by
 unfold Z7g
 refine zf (ZBI ..)<|ze<|zi fun r1 hr1 => ?_
 obtain ⟨_, er1, _, rfl⟩ := Z1P (ByteArray.mk #[125]) zl zm z7 zh zj z2 z6 zn zd zu r1 hr1
 refine zc [0] (bv r1.1) [(ZK zl r1.2 z7 zh zj z2 z6 zn zd)] er1 ?_
 refine za r1.1 ?_ ?_
 ·refine zq ?_
  refine za (decide (x4 ≤ 64)) ?_ ?_
  ·exact zk (Zg2 x4 zl r1.2 z7 zh zj z2 z6 zn zd zu)
  ·exact zk (Zb6 x1 x4 zl r1.2 z7 zh zj z2 z6 zn zd zu)
 ·exact zk (Zb6 x1 x4 zl r1.2 z7 zh zj z2 z6 zn zd zu)
def Z6T (x1 : Int) (zl : List Int) (zm z7 zh : Int) (zj : List Zz) (z2 z6 : Int) : Option (Int × Int × Int × Int × Int) :=
 (Z5E zl zm z7 zh zj z2 z6).bind fun r1 =>
 (Z1H (ByteArray.mk #[44]) zl r1.2).bind fun r2 =>
 if r2.1 = true then
 ((Z5E zl r2.2 z7 zh zj z2 z6).bind fun r3 =>
 if (decide (r3.1 < 0)) = true then
 (if (decide (0 ≤ r1.1)) = true then
 (Z7g x1 r1.1 zl r3.2 z2 z6)
 else
 (Z37 x1 r1.1 r3.1 zl r3.2 z2 z6))
 else
 (Z37 x1 r1.1 r3.1 zl r3.2 z2 z6))
 else
 (Z37 x1 r1.1 r1.1 zl r2.2 z2 z6)
theorem Zie x1 zl zm z7 zh zj z2 z6 zn zd (zu : ZL zd = true) : Sim (Z3i zl z7 zh zj zn zd) (Z6T x1 zl zm z7 zh zj z2 z6) (EE 69 [(.ptr 0 0), (iv x1)] [(ZK zl zm z7 zh zj z2 z6 zn zd)]) := by
 unfold Z6T
 refine zf (ZHy ..)<|ze<|ze<|zi fun r1 hr1 => ?_
 obtain ⟨_, er1, _, rfl⟩ := Zcy zl zm z7 zh zj z2 z6 zn zd zu r1 hr1
 refine zc [0] (iv r1.1) [(ZK zl r1.2 z7 zh zj z2 z6 zn zd)] er1<|ze<|ze<|zi fun r2 hr2 => ?_
 obtain ⟨_, er2, _, rfl⟩ := Z1P (ByteArray.mk #[44]) zl r1.2 z7 zh zj z2 z6 zn zd zu r2 hr2
 refine zc [0] (bv r2.1) [(ZK zl r2.2 z7 zh zj z2 z6 zn zd)] er2 ?_
 refine za r2.1 ?_ ?_
 ·refine ze<|zi fun r3 hr3 => ?_
  obtain ⟨_, er3, _, rfl⟩ := Zcy zl r2.2 z7 zh zj z2 z6 zn zd zu r3 hr3
  refine zc [0] (iv r3.1) [(ZK zl r3.2 z7 zh zj z2 z6 zn zd)] er3<|ze<|zq ?_
  refine za (decide (r3.1 < 0)) ?_ ?_
  ·refine zq ?_
   refine za (decide (0 ≤ r1.1)) ?_ ?_
   ·exact zk (Zg1 x1 r1.1 zl r3.2 z7 zh zj z2 z6 zn zd zu)
   ·exact zk (Z6e x1 r1.1 r3.1 zl r3.2 z7 zh zj z2 z6 zn zd zu)
  ·exact zk (Z6e x1 r1.1 r3.1 zl r3.2 z7 zh zj z2 z6 zn zd zu)
 ·exact zk (Z6e x1 r1.1 r1.1 zl r2.2 z7 zh zj z2 z6 zn zd zu)
theorem Zcv x1 zl zm z7 zh zj z2 z6 {r} (h : Z6T x1 zl zm z7 zh zj z2 z6 = some r) : Z6X x1 zl zm z7 zh zj z2 z6 = some r :=
 Z1h (fun _ _ ha hb => ru_ (Zjl _ _ _ _ _ _) (ha .ex .ex rfl) (hb .ex .ex rfl)) (fun zn zd zu => Zie x1 zl zm z7 zh zj z2 z6 zn zd zu r h)
def ZaW (zl : List Int) (zm z7 zh : Int) (zj : List Zz) (z2 z6 : Int) : Option (Int × Int) :=
 Z3W (-1) 0 zl zm z7 zh zj z2 z6
theorem Zih zl zm z7 zh zj z2 z6 zn zd (zu : ZL zd = true) : Sim (Z2a zl z7 zh zj z2 z6 zn zd) (ZaW zl zm z7 zh zj z2 z6) (EE 84 [(.ptr 0 0)] [(ZK zl zm z7 zh zj z2 z6 zn zd)]) := by
 unfold ZaW
 refine zf (ZHR ..)<|ze<|ze<|ze ?_
 exact zk (Zbd (-1) 0 zl zm z7 zh zj z2 z6 zn zd zu)
theorem Zj2 zl zm z7 zh zj z2 z6 {r} (h : ZaW zl zm z7 zh zj z2 z6 = some r) : Z5E zl zm z7 zh zj z2 z6 = some r :=
 Z1h (fun _ _ ha hb => ru_ (Z6M _ _ _ _ _ _ _ _) (ha .ex .ex rfl) (hb .ex .ex rfl)) (fun zn zd zu => Zih zl zm z7 zh zj z2 z6 zn zd zu r h)
def Z7k (x3 x4 : Int) (zl : List Int) (zm z7 zh : Int) (zj : List Zz) (z2 z6 : Int) : Option (Int × Int) :=
 (Z3n zl zm).bind fun r1 =>
 Z3W ((IntKind.i64.wrap ((IntKind.i64.wrap ((IntKind.i64.wrap (10 * (max x3 0))) + r1.1)) - 48))) (IntKind.i64.wrap (x4 + 1)) zl r1.2 z7 zh zj z2 z6
theorem Zg7 x3 x4 zl zm z7 zh zj z2 z6 zn zd (zu : ZL zd = true) : Sim (Z2a zl z7 zh zj z2 z6 zn zd) (Z7k x3 x4 zl zm z7 zh zj z2 z6) (Zvt 1 (.ptr 0 0) (iv x3) (iv x4) [(ZK zl zm z7 zh zj z2 z6 zn zd)]) := by
 unfold Z7k
 refine zf (ZC3 ..)<|ze<|zp (iv (max x3 0)) (ZnN _ _)<|zq<|zi fun r1 hr1 => ?_
 obtain ⟨_, er1, _, rfl⟩ := Z3N zl zm z7 zh zj z2 z6 zn zd zu r1 hr1
 refine zc [0] (iv r1.1) [(ZK zl r1.2 z7 zh zj z2 z6 zn zd)] er1<|zq<|zq<|ze<|zq ?_
 exact zk (Zbd ((IntKind.i64.wrap ((IntKind.i64.wrap ((IntKind.i64.wrap (10 * (max x3 0))) + r1.1)) - 48))) (IntKind.i64.wrap (x4 + 1)) zl r1.2 z7 zh zj z2 z6 zn zd zu)
def Z4x (x3 zm : Int) : Option (Int × Int) :=
 some (x3, zm)
theorem Z82 x3 zl zm z7 zh zj z2 z6 zn zd (zu : ZL zd = true) : Sim (Z2a zl z7 zh zj z2 z6 zn zd) (Z4x x3 zm) (ZmX 1 (iv x3) [(ZK zl zm z7 zh zj z2 z6 zn zd)]) := by
 unfold Z4x
 refine zf (ZC4 ..)<|ze ?_
 exact zr ((iv x3), [(ZK zl zm z7 zh zj z2 z6 zn zd)]) ⟨_, rfl⟩
def Z7j (x3 x4 : Int) (zl : List Int) (zm z7 zh : Int) (zj : List Zz) (z2 z6 : Int) : Option (Int × Int) :=
 if (decide (x4 < 2)) = true then
 ((Z2G (Z1y.mk zl zm z7 zh zj (Z12.mk z2 z6))).bind fun r1 =>
 if (decide (48 ≤ r1)) = true then
 ((Z2G (Z1y.mk zl zm z7 zh zj (Z12.mk z2 z6))).bind fun r2 =>
 if (decide (r2 ≤ 57)) = true then
 (Z7k x3 x4 zl zm z7 zh zj z2 z6)
 else
 (Z4x x3 zm))
 else
 (Z4x x3 zm))
 else
 (Z4x x3 zm)
theorem Zg6 x3 x4 zl zm z7 zh zj z2 z6 zn zd (zu : ZL zd = true) : Sim (Z2a zl z7 zh zj z2 z6 zn zd) (Z7j x3 x4 zl zm z7 zh zj z2 z6) (ZmW 1 (.ptr 0 0) (iv x3) (iv x4) [(ZK zl zm z7 zh zj z2 z6 zn zd)]) := by
 unfold Z7j
 refine zf (ZC2 ..)<|ze<|zq ?_
 refine za (decide (x4 < 2)) ?_ ?_
 ·refine zi fun r1 hr1 => ?_
  obtain ⟨_, er1, _, rfl⟩ := Z2S (Z1y.mk zl zm z7 zh zj (Z12.mk z2 z6)) zn zd zu r1 hr1
  refine zc [0] (iv r1) [(ZK zl zm z7 zh zj z2 z6 zn zd)] er1<|zq ?_
  refine za (decide (48 ≤ r1)) ?_ ?_
  ·refine zi fun r2 hr2 => ?_
   obtain ⟨_, er2, _, rfl⟩ := Z2S (Z1y.mk zl zm z7 zh zj (Z12.mk z2 z6)) zn zd zu r2 hr2
   refine zc [0] (iv r2) [(ZK zl zm z7 zh zj z2 z6 zn zd)] er2<|zq ?_
   refine za (decide (r2 ≤ 57)) ?_ ?_
   ·exact zk (Zg7 x3 x4 zl zm z7 zh zj z2 z6 zn zd zu)
   ·exact zk (Z82 x3 zl zm z7 zh zj z2 z6 zn zd zu)
  ·exact zk (Z82 x3 zl zm z7 zh zj z2 z6 zn zd zu)
 ·exact zk (Z82 x3 zl zm z7 zh zj z2 z6 zn zd zu)
theorem Zh1 x3 x4 zl zm z7 zh zj z2 z6 {r} (h : Z7j x3 x4 zl zm z7 zh zj z2 z6 = some r) : Z3W x3 x4 zl zm z7 zh zj z2 z6 = some r :=
 Z1h (fun _ _ ha hb => ru_ (Z6M _ _ _ _ _ _ _ _) (ha .ex .ex rfl) (hb .ex .ex rfl)) (fun zn zd zu => Zg6 x3 x4 zl zm z7 zh zj z2 z6 zn zd zu r h)
def ZaH (b0 : Z1b) : Option ((List Zo) × Int) :=
 (Z1j (Zo.mk 4 0 0 0 0 ([] : List Z8)) ([] : List Zo)).bind fun r1 =>
 (Z1Q b0.Root r1.2 b0.Fold 0).bind fun r2 =>
 (Z1j (Zo.mk 4 1 0 0 0 ([] : List Z8)) r2.1).bind fun r3 =>
 (Z1j (Zo.mk 0 0 0 0 0 ([] : List Z8)) r3.2).bind fun r4 =>
 some (r4.2, 0)
theorem ZkR b0 z13 zS : Sim ZaR (ZaH b0) (ZtU 0 (.ptr 0 0) [(ZR b0 z13 zS)]) := by
 unfold ZaH
 refine zf (ZAv ..)<|ze<|zq<|zq<|zq<|zX (.ptr 1 0) [(ZR b0 z13 zS), [(.p (.ml 6 [])), (bv b0.Fold), (iv 0)]]<|ze<|zq<|zi fun r1 hr1 => ?_
 obtain ⟨_, er1, _, rfl⟩ := Z1r (Zo.mk 4 0 0 0 0 ([] : List Z8)) ([] : List Zo) b0.Fold 0 .sh r1 hr1
 refine zc [1] (iv r1.1) [(ZR b0 z13 zS), [(.p (.ml 6 (r1.2.map ZC))), (bv b0.Fold), (iv 0)]] er1<|ze<|zq<|zq<|zi fun r2 hr2 => ?_
 obtain ⟨_, er2, _, rfl⟩ := Z2L b0.Root r1.2 b0.Fold 0 .sh .sh r2 hr2
 refine zc [1] (.p (.tup [])) [(ZR b0 z13 zS), [(.p (.ml 6 (r2.1.map ZC))), (bv b0.Fold), (iv r2.2)]] er2<|ze<|zq<|zi fun r3 hr3 => ?_
 obtain ⟨_, er3, _, rfl⟩ := Z1r (Zo.mk 4 1 0 0 0 ([] : List Z8)) r2.1 b0.Fold r2.2 .sh r3 hr3
 refine zc [1] (iv r3.1) [(ZR b0 z13 zS), [(.p (.ml 6 (r3.2.map ZC))), (bv b0.Fold), (iv r2.2)]] er3<|ze<|zq<|zi fun r4 hr4 => ?_
 obtain ⟨_, er4, _, rfl⟩ := Z1r Zpy r3.2 b0.Fold r2.2 .sh r4 hr4
 refine zc [1] (iv r4.1) [(ZR b0 z13 zS), [(.p (.ml 6 (r4.2.map ZC))), (bv b0.Fold), (iv r2.2)]] er4<|ze<|zq<|zq<|zF (ZO .sh (r4.2.map ZC)) [(ZR b0 z13 zS), [(.p (.hd (List.length (r4.2.map ZC)))), (bv b0.Fold), (iv r2.2)]] ?_
 exact zr ((.p (.tup [(.lst .sh (r4.2.map ZC)), (.v (.int .i64 0))])), [(ZR b0 z13 zS), [(.p (.hd (List.length (r4.2.map ZC)))), (bv b0.Fold), (iv r2.2)]]) ⟨_, rfl⟩
def ZaX (x0 : Z1b) : Option ((List Zo) × Int) :=
 (Zef x0).bind fun r1 =>
 if (r1 != 0) = true then
 (some (([] : List Zo), r1))
 else
 (ZaH x0)
theorem Zn8 x0 z2g z20 : Sim ZaR (ZaX x0) (EE 18 [(pA_ (Z2O x0 z2g z20))] []) := by
 unfold ZaX
 refine zf (ZGg ..)<|ze<|zx (.ptr 0 0) [(ZR x0 z2g z20)]<|ze<|zq<|zi fun r1 hr1 => ?_
 obtain ⟨_, er1, _, rfl⟩ := Zp4 x0 .sh .sh r1 hr1
 refine zc [] (iv r1) [(ZR x0 z2g z20)] er1<|ze<|zq ?_
 refine za (r1 != 0) ?_ ?_
 ·refine ze ?_
  exact zr ((.p (.tup [(.lst .sh []), (.v (.int .i64 r1))])), [(ZR x0 z2g z20)]) ⟨_, rfl⟩
 ·exact zk (ZkR x0 z2g z20)
theorem ZhT x0 {r} (h : ZaX x0 = some r) : Z9l x0 = some r :=
 Z1h (fun _ _ ha hb => ru_ ZoN (ha .ex .ex) (hb .ex .ex)) (fun z2g z20 => Zn8 x0 z2g z20 r h)
def Zbo : Option Int :=
 some (0)
theorem Zlx : Sim ZJ Zbo (Zu6 0 []) := by
 unfold Zbo
 refine zf (ZAG ..)<|ze ?_
 exact zr ((iv 0), []) ⟨_, rfl⟩
def Zea (x0 : Z1b) : Option Int :=
 (Z4f x0.Root).bind fun r1 =>
 if (!r1) = true then
 (some (27))
 else
 ((Z5W x0.Root).bind fun r2 =>
 if (decide (2000 < (IntKind.i64.wrap (r2 + 3)))) = true then
 (some (28))
 else
 Zbo)
theorem Zoo x0 z2g z20 : Sim ZJ (Zea x0) (EE 27 [(pA_ (Z2O x0 z2g z20))] []) := by
 unfold Zea
 refine zf (ZGv ..)<|ze<|zx (.ptr 0 0) [(ZR x0 z2g z20)]<|ze<|zq<|zq<|zi fun r1 hr1 => ?_
 obtain ⟨_, er1, _, rfl⟩ := Zhm x0.Root .sh .sh r1 hr1
 refine zc [] (bv r1) [(ZR x0 z2g z20)] er1<|zq ?_
 refine za (!r1) ?_ ?_
 ·refine ze ?_
  exact zr ((iv 27), [(ZR x0 z2g z20)]) ⟨_, rfl⟩
 ·refine ze<|zq<|zq<|zi fun r2 hr2 => ?_
  obtain ⟨_, er2, _, rfl⟩ := ZjI x0.Root .sh .sh r2 hr2
  refine zc [] (iv r2) [(ZR x0 z2g z20)] er2<|zq<|zq ?_
  refine za (decide (2000 < (IntKind.i64.wrap (r2 + 3)))) ?_ ?_
  ·refine ze ?_
   exact zr ((iv 28), [(ZR x0 z2g z20)]) ⟨_, rfl⟩
  ·exact zk Zlx
theorem Zp3 x0 {r} (h : Zea x0 = some r) : Zef x0 = some r :=
 Z1h (fun _ _ ha hb => ru_ Z1J (ha .ex .ex) (hb .ex .ex)) (fun z2g z20 => Zoo x0 z2g z20 r h)
def Z8o : Option Bool :=
 some false
theorem ZdZ : Sim ZP Z8o (Zq9 0 []) := by
 unfold Z8o
 refine zf (ZAQ ..)<|ze ?_
 exact zr ((bv false), []) ⟨_, rfl⟩
def Z3M (b0 : Z9) : Option Bool :=
 (Z5v b0.Kids).bind fun r1 =>
 some (!r1)
theorem Zaw b0 z1O z1v : Sim ZP (Z3M b0) (ZmL 0 (.ptr 0 0) [(Zk b0 z1O z1v)]) := by
 unfold Z3M
 refine zf (ZAR ..)<|ze<|zq<|zq<|zi fun r1 hr1 => ?_
 obtain ⟨_, er1, _, rfl⟩ := Ze1 b0.Kids .sh r1 hr1
 refine zc [] (bv r1) [(Zk b0 z1O z1v)] er1<|zq ?_
 exact zr ((bv (!r1)), [(Zk b0 z1O z1v)]) ⟨_, rfl⟩
def Z8n (b0 : Z9) : Option Bool :=
 (lget b0.Kids 0).bind fun a1 =>
 (Z3g a1).bind fun r2 =>
 if (decide (r2.2 < 0)) = true then
 Z8o
 else
 (if (decide (32 < r2.2)) = true then
 Z8o
 else
 (Z3M b0))
theorem Zka b0 z1O z1v : Sim ZP (Z8n b0) (Zue 0 (.ptr 0 0) [(Zk b0 z1O z1v)]) := by
 unfold Z8n
 refine zf (ZAP ..)<|ze<|zq<|zq<|zi fun a1 ha1 => zp (.cptr (ZH a1 .sh .sh)) (et_ (Z2D (o := (shrO z1v)) (k := .i64) (n := 7) (e := ZI) (cs := Z1W) Z2J (fun _ => rfl) (by decide) ha1))<|zq<|zi fun r2 hr2 => ?_
 obtain ⟨_, er2, _, rfl⟩ := Z6J a1 .sh .sh r2 hr2
 refine zc [] (.p (.tup [(.v (.int .i64 r2.1)), (.v (.int .i64 r2.2))])) [(Zk b0 z1O z1v)] er2<|zq<|zq<|ze<|zq ?_
 refine za (decide (r2.2 < 0)) ?_ ?_
 ·exact zk ZdZ
 ·refine zq ?_
  refine za (decide (32 < r2.2)) ?_ ?_
  ·exact zk ZdZ
  ·exact zk (Zaw b0 z1O z1v)
def Zc5 (x0 : Z9) : Option Bool :=
 if (x0.Kind == 7) = true then
 (if (decide (2 ≤ x0.Mode)) = true then
 (Z8n x0)
 else
 (Z3M x0))
 else
 (Z3M x0)
theorem Zmq x0 z23 z1q : Sim ZP (Zc5 x0) (EE 38 [(pA_ (ZH x0 z23 z1q))] []) := by
 unfold Zc5
 refine zf (ZGI ..)<|ze<|zx (.ptr 0 0) [(Zk x0 z23 z1q)]<|ze<|zq<|zq<|zq ?_
 refine za (x0.Kind == 7) ?_ ?_
 ·refine zq<|zq<|zq ?_
  refine za (decide (2 ≤ x0.Mode)) ?_ ?_
  ·exact zk (Zka x0 z23 z1q)
  ·exact zk (Zaw x0 z23 z1q)
 ·exact zk (Zaw x0 z23 z1q)
theorem Zn9 x0 {r} (h : Zc5 x0 = some r) : Z4f x0 = some r :=
 Z1h (fun _ _ ha hb => ru_ Z2p (ha .ex .ex) (hb .ex .ex)) (fun z23 z1q => Zmq x0 z23 z1q r h)
def Z7D (x2 x3 : Int) : Option (Int × Int) :=
 some (x2, x3)
theorem Z8L x2 x3 : Sim Z3j (Z7D x2 x3) (ZiD 0 (iv x2) (iv x3) []) := by
 unfold Z7D
 refine zf (Zyn ..)<|ze ?_
 exact zr ((.p (.tup [(.v (.int .i64 x2)), (.v (.int .i64 x3))])), []) ⟨_, rfl⟩
def Zeb (x0 : Z9) : Option (Int × Int) :=
 if (x0.Kind == 1) = true then
 (some (1, 1))
 else
 (if (x0.Kind == 6) = true then
 (some (0, (-1)))
 else
 (if (x0.Kind == 2) = true then
 (Z9x 0 0 x0.Kids (x0.Kids.length : Int) 0)
 else
 (if (x0.Kind == 3) = true then
 (Z90 1048576 0 x0.Kids (x0.Kids.length : Int) 0)
 else
 (if (x0.Kind == 4) = true then
 ((lget x0.Kids 0).bind fun a1 =>
 (Z3g a1).bind fun r2 =>
 (ZbO r2.2 x0.Hi).bind fun r3 =>
 some ((min (IntKind.i64.wrap (r2.1 * x0.Lo)) 1048576), r3))
 else
 (if (x0.Kind == 5) = true then
 (if (x0.Kind == 5) = true then
 ((lget x0.Kids 0).bind fun a4 =>
 (Z3g a4).bind fun r5 =>
 some (r5.1, r5.2))
 else
 (Z7D 0 0))
 else
 (if (x0.Kind == 8) = true then
 ((lget x0.Kids 0).bind fun a6 =>
 (Z3g a6).bind fun r7 =>
 some (r7.1, r7.2))
 else
 (Z7D 0 0)))))))
theorem Zop x0 z23 z1q : Sim Z3j (Zeb x0) (EE 44 [(pA_ (ZH x0 z23 z1q))] []) := by
 unfold Zeb
 refine zf (ZGV ..)<|ze<|zx (.ptr 0 0) [(Zk x0 z23 z1q)]<|ze<|zq<|zq<|ze<|zq ?_
 refine za (x0.Kind == 1) ?_ ?_
 ·refine ze ?_
  exact zr ((.p (.tup [(.v (.int .i64 1)), (.v (.int .i64 1))])), [(Zk x0 z23 z1q)]) ⟨_, rfl⟩
 ·refine ze<|zq ?_
  refine za (x0.Kind == 6) ?_ ?_
  ·refine ze ?_
   exact zr ((.p (.tup [(.v (.int .i64 0)), (.v (.int .i64 (-1)))])), [(Zk x0 z23 z1q)]) ⟨_, rfl⟩
  ·refine ze<|zq ?_
   refine za (x0.Kind == 2) ?_ ?_
   ·refine ze<|zq<|zq<|zp (iv (x0.Kids.length : Int)) (et_ (Z3d (P := PP) (t := 29) (d := 31) (by kernel_rfl) ZI (shrO z1q) x0.Kids)) ?_
    exact zk (ZfS 0 0 x0.Kids (x0.Kids.length : Int) 0 (shrO z1q))
   ·refine ze<|zq ?_
    refine za (x0.Kind == 3) ?_ ?_
    ·refine ze<|ze<|zq<|zq<|zp (iv (x0.Kids.length : Int)) (et_ (Z3d (P := PP) (t := 29) (d := 31) (by kernel_rfl) ZI (shrO z1q) x0.Kids)) ?_
     exact zk (Zfg 1048576 0 x0.Kids (x0.Kids.length : Int) 0 (shrO z1q))
    ·refine ze<|zq ?_
     refine za (x0.Kind == 4) ?_ ?_
     ·refine ze<|zq<|zq<|zi fun a1 ha1 => zp (.cptr (ZH a1 .sh .sh)) (et_ (Z2D (o := (shrO z1q)) (k := .i64) (n := 7) (e := ZI) (cs := Z1W) Z2J (fun _ => rfl) (by decide) ha1))<|zq<|zi fun r2 hr2 => ?_
      obtain ⟨_, er2, _, rfl⟩ := Z6J a1 .sh .sh r2 hr2
      refine zc [] (.p (.tup [(.v (.int .i64 r2.1)), (.v (.int .i64 r2.2))])) [(Zk x0 z23 z1q)] er2<|zq<|zq<|ze<|zq<|zq<|zq<|zp (iv (min (IntKind.i64.wrap (r2.1 * x0.Lo)) 1048576)) (ZcU _ _)<|zq<|zq<|zi fun r3 hr3 => ?_
      obtain ⟨_, er3, _, rfl⟩ := Zp9 r2.2 x0.Hi r3 hr3
      refine zc [] (iv r3) [(Zk x0 z23 z1q)] er3<|zg ?_
      exact zr ((.p (.tup [(.v (.int .i64 (min (IntKind.i64.wrap (r2.1 * x0.Lo)) 1048576))), (.v (.int .i64 r3))])), [(Zk x0 z23 z1q)]) ⟨_, rfl⟩
     ·refine ze<|zq ?_
      refine za (x0.Kind == 5) ?_ ?_
      ·refine za (x0.Kind == 5) ?_ ?_
       ·refine ze<|zq<|zq<|zi fun a4 ha4 => zp (.cptr (ZH a4 .sh .sh)) (et_ (Z2D (o := (shrO z1q)) (k := .i64) (n := 7) (e := ZI) (cs := Z1W) Z2J (fun _ => rfl) (by decide) ha4))<|zq<|zi fun r5 hr5 => ?_
        obtain ⟨_, er5, _, rfl⟩ := Z6J a4 .sh .sh r5 hr5
        refine zc [] (.p (.tup [(.v (.int .i64 r5.1)), (.v (.int .i64 r5.2))])) [(Zk x0 z23 z1q)] er5<|zq<|zq ?_
        exact zr ((.p (.tup [(.v (.int .i64 r5.1)), (.v (.int .i64 r5.2))])), [(Zk x0 z23 z1q)]) ⟨_, rfl⟩
       ·exact zk (Z8L 0 0)
      ·refine ze<|zq ?_
       refine za (x0.Kind == 8) ?_ ?_
       ·refine ze<|zq<|zq<|zi fun a6 ha6 => zp (.cptr (ZH a6 .sh .sh)) (et_ (Z2D (o := (shrO z1q)) (k := .i64) (n := 7) (e := ZI) (cs := Z1W) Z2J (fun _ => rfl) (by decide) ha6))<|zq<|zi fun r7 hr7 => ?_
        obtain ⟨_, er7, _, rfl⟩ := Z6J a6 .sh .sh r7 hr7
        refine zc [] (.p (.tup [(.v (.int .i64 r7.1)), (.v (.int .i64 r7.2))])) [(Zk x0 z23 z1q)] er7<|zq<|zq ?_
        exact zr ((.p (.tup [(.v (.int .i64 r7.1)), (.v (.int .i64 r7.2))])), [(Zk x0 z23 z1q)]) ⟨_, rfl⟩
       ·exact zk (Z8L 0 0)
theorem Zp6 x0 {r} (h : Zeb x0 = some r) : Z3g x0 = some r :=
 Z1h (fun _ _ ha hb => ru_ Ze8 (ha .ex .ex) (hb .ex .ex)) (fun z23 z1q => Zop x0 z23 z1q r h)
def Zbp (x2 x3 : Int) (x23 : List Z9) (x24 x25 : Int) : Option (Int × Int) :=
 (lget x23 x25).bind fun a1 =>
 (Z3g a1).bind fun r2 =>
 (ZgF x3 r2.2).bind fun r3 =>
 Z9x (min (IntKind.i64.wrap (x2 + r2.1)) 1048576) r3 x23 x24 (IntKind.i64.wrap (x25 + 1))
theorem Zlz x2 x3 (x23 : List Z9) x24 x25 ox23 : Sim Z3j (Zbp x2 x3 x23 x24 x25) (Zuv 0 (iv x2) (iv x3) (ZO ox23 (x23.map ZI)) (iv x24) (iv x25) []) := by
 unfold Zbp
 refine zf (ZB6 ..)<|ze<|zi fun a1 ha1 => zp (.cptr (ZH a1 .sh .sh)) (et_ (Z2D (o := ox23) (k := .i64) (n := 7) (e := ZI) (cs := Z1W) Z2J (fun _ => rfl) (by decide) ha1))<|zq<|zz (.ptr 0 0) [(Zk Z1A .nl .nl)]<|zt [(Zk a1 .sh .sh)]<|ze<|zq<|zi fun r2 hr2 => ?_
 obtain ⟨_, er2, _, rfl⟩ := Z6J a1 .sh .sh r2 hr2
 refine zc [] (.p (.tup [(.v (.int .i64 r2.1)), (.v (.int .i64 r2.2))])) [(Zk a1 .sh .sh)] er2<|zq<|zq<|ze<|zq<|zp (iv (min (IntKind.i64.wrap (x2 + r2.1)) 1048576)) (ZcU _ _)<|zi fun r3 hr3 => ?_
 obtain ⟨_, er3, _, rfl⟩ := Zs7 x3 r2.2 r3 hr3
 refine zc [] (iv r3) [(Zk a1 .sh .sh)] er3<|ze<|zq ?_
 exact zk (ZfS (min (IntKind.i64.wrap (x2 + r2.1)) 1048576) r3 x23 x24 (IntKind.i64.wrap (x25 + 1)) ox23)
def Z9s (x2 x3 : Int) (x23 : List Z9) (x24 x25 : Int) : Option (Int × Int) :=
 if (decide (x25 < x24)) = true then
 (Zbp x2 x3 x23 x24 x25)
 else
 (Z7D x2 x3)
theorem Zly x2 x3 (x23 : List Z9) x24 x25 ox23 : Sim Z3j (Z9s x2 x3 x23 x24 x25) (ZmO 0 (iv x2) (iv x3) (ZO ox23 (x23.map ZI)) (iv x24) (iv x25) []) := by
 unfold Z9s
 refine zf (ZB5 ..)<|ze<|zq ?_
 refine za (decide (x25 < x24)) ?_ ?_
 ·exact zk (Zlz x2 x3 x23 x24 x25 ox23)
 ·exact zk (Z8L x2 x3)
theorem ZfR x2 x3 x23 x24 x25 {r} (h : Z9s x2 x3 x23 x24 x25 = some r) : Z9x x2 x3 x23 x24 x25 = some r :=
 Z1h (fun _ _ ha hb => ru_ Ze8 (ha .ex) (hb .ex)) (fun ox23 => Zly x2 x3 x23 x24 x25 ox23 r h)
def Z8Y (x2 x3 : Int) (x45 : List Z9) (x46 x47 : Int) : Option (Int × Int) :=
 Z90 x2 x3 x45 x46 (IntKind.i64.wrap (x47 + 1))
theorem ZeO x2 x3 (x45 : List Z9) x46 x47 ox45 : Sim Z3j (Z8Y x2 x3 x45 x46 x47) (Zo0 0 (iv x2) (iv x3) (ZO ox45 (x45.map ZI)) (iv x46) (iv x47) []) := by
 unfold Z8Y
 refine zf (Zym ..)<|ze<|zq ?_
 exact zk (Zfg x2 x3 x45 x46 (IntKind.i64.wrap (x47 + 1)) ox45)
def Z8X (x2 : Int) (x45 : List Z9) (x46 x47 : Int) : Option (Int × Int) :=
 Z8Y x2 (-1) x45 x46 x47
theorem ZeN x2 (x45 : List Z9) x46 x47 ox45 : Sim Z3j (Z8X x2 x45 x46 x47) (ZnZ 0 (iv x2) (ZO ox45 (x45.map ZI)) (iv x46) (iv x47) []) := by
 unfold Z8X
 refine zf (Zyk ..)<|ze ?_
 exact zk (ZeO x2 (-1) x45 x46 x47 ox45)
def ZaJ (x2 x3 x11 : Int) (x45 : List Z9) (x46 x47 : Int) : Option (Int × Int) :=
 Z8Y x2 (max x3 x11) x45 x46 x47
theorem ZkU x2 x3 x11 (x45 : List Z9) x46 x47 ox45 : Sim Z3j (ZaJ x2 x3 x11 x45 x46 x47) (ZrS 0 (iv x2) (iv x3) (iv x11) (ZO ox45 (x45.map ZI)) (iv x46) (iv x47) []) := by
 unfold ZaJ
 refine zf (Zyl ..)<|ze<|zp (iv (max x3 x11)) (ZnN _ _) ?_
 exact zk (ZeO x2 (max x3 x11) x45 x46 x47 ox45)
def ZaI (x2 x3 : Int) (x45 : List Z9) (x46 x47 : Int) : Option (Int × Int) :=
 (lget x45 x47).bind fun a1 =>
 (Z3g a1).bind fun r2 =>
 if (decide (r2.2 < 0)) = true then
 (Z8X (min x2 r2.1) x45 x46 x47)
 else
 (if (decide (x3 < 0)) = true then
 (Z8X (min x2 r2.1) x45 x46 x47)
 else
 (ZaJ (min x2 r2.1) x3 r2.2 x45 x46 x47))
theorem ZkT x2 x3 (x45 : List Z9) x46 x47 ox45 : Sim Z3j (ZaI x2 x3 x45 x46 x47) (ZrR 0 (iv x2) (iv x3) (ZO ox45 (x45.map ZI)) (iv x46) (iv x47) []) := by
 unfold ZaI
 refine zf (Zyj ..)<|ze<|zi fun a1 ha1 => zp (.cptr (ZH a1 .sh .sh)) (et_ (Z2D (o := ox45) (k := .i64) (n := 7) (e := ZI) (cs := Z1W) Z2J (fun _ => rfl) (by decide) ha1))<|zq<|zz (.ptr 0 0) [(Zk Z1A .nl .nl)]<|zt [(Zk a1 .sh .sh)]<|ze<|zq<|zi fun r2 hr2 => ?_
 obtain ⟨_, er2, _, rfl⟩ := Z6J a1 .sh .sh r2 hr2
 refine zc [] (.p (.tup [(.v (.int .i64 r2.1)), (.v (.int .i64 r2.2))])) [(Zk a1 .sh .sh)] er2<|zq<|zq<|ze<|zp (iv (min x2 r2.1)) (ZcU _ _)<|ze<|zq ?_
 refine za (decide (r2.2 < 0)) ?_ ?_
 ·exact zk (ZeN (min x2 r2.1) x45 x46 x47 ox45)
 ·refine zq ?_
  refine za (decide (x3 < 0)) ?_ ?_
  ·exact zk (ZeN (min x2 r2.1) x45 x46 x47 ox45)
  ·exact zk (ZkU (min x2 r2.1) x3 r2.2 x45 x46 x47 ox45)
def Z8W (x2 x3 : Int) (x45 : List Z9) (x46 x47 : Int) : Option (Int × Int) :=
 if (decide (x47 < x46)) = true then
 (ZaI x2 x3 x45 x46 x47)
 else
 (Z7D x2 x3)
theorem ZkS x2 x3 (x45 : List Z9) x46 x47 ox45 : Sim Z3j (Z8W x2 x3 x45 x46 x47) (Zky 0 (iv x2) (iv x3) (ZO ox45 (x45.map ZI)) (iv x46) (iv x47) []) := by
 unfold Z8W
 refine zf (Zyi ..)<|ze<|zq ?_
 refine za (decide (x47 < x46)) ?_ ?_
 ·exact zk (ZkT x2 x3 x45 x46 x47 ox45)
 ·exact zk (Z8L x2 x3)
theorem Zff x2 x3 x45 x46 x47 {r} (h : Z8W x2 x3 x45 x46 x47 = some r) : Z90 x2 x3 x45 x46 x47 = some r :=
 Z1h (fun _ _ ha hb => ru_ Ze8 (ha .ex) (hb .ex)) (fun ox45 => ZkS x2 x3 x45 x46 x47 ox45 r h)
def Z9t : Option Int :=
 some (0)
theorem Zfh : Sim ZJ Z9t (Zqs 0 []) := by
 unfold Z9t
 refine zf (ZBq ..)<|ze ?_
 exact zr ((iv 0), []) ⟨_, rfl⟩
def Z9u : Option Int :=
 some (-1)
theorem Zfi : Sim ZJ Z9u (Zqt 0 []) := by
 unfold Z9u
 refine zf (ZBs ..)<|ze ?_
 exact zr ((iv (-1)), []) ⟨_, rfl⟩
def Zbr (x0 x1 : Int) : Option Int :=
 (ZcA (IntKind.i64.wrap (x0 * x1))).bind fun r1 =>
 some r1
theorem ZlD x0 x1 : Sim ZJ (Zbr x0 x1) (ZuQ 0 (iv x0) (iv x1) []) := by
 unfold Zbr
 refine zf (ZBt ..)<|ze<|zq<|zi fun r1 hr1 => ?_
 obtain ⟨_, er1, _, rfl⟩ := ZjJ (IntKind.i64.wrap (x0 * x1)) r1 hr1
 refine zc [] (iv r1) [] er1 ?_
 exact zr ((iv r1), []) ⟨_, rfl⟩
def Zbq (x0 x1 : Int) : Option Int :=
 if (decide (x0 < 0)) = true then
 Z9u
 else
 (if (decide (x1 < 0)) = true then
 Z9u
 else
 (Zbr x0 x1))
theorem ZlC x0 x1 : Sim ZJ (Zbq x0 x1) (ZuP 0 (iv x0) (iv x1) []) := by
 unfold Zbq
 refine zf (ZBr ..)<|ze<|zq ?_
 refine za (decide (x0 < 0)) ?_ ?_
 ·exact zk Zfi
 ·refine zq ?_
  refine za (decide (x1 < 0)) ?_ ?_
  ·exact zk Zfi
  ·exact zk (ZlD x0 x1)
def Zec (x0 x1 : Int) : Option Int :=
 if (x0 == 0) = true then
 Z9t
 else
 (if (x1 == 0) = true then
 Z9t
 else
 (Zbq x0 x1))
theorem Zoq x0 x1 : Sim ZJ (Zec x0 x1) (EE 61 [(iv x0), (iv x1)] []) := by
 unfold Zec
 refine zf (ZHf ..)<|ze<|ze<|zq ?_
 refine za (x0 == 0) ?_ ?_
 ·exact zk Zfh
 ·refine zq ?_
  refine za (x1 == 0) ?_ ?_
  ·exact zk Zfh
  ·exact zk (ZlC x0 x1)
theorem Zp8 x0 x1 {r} (h : Zec x0 x1 = some r) : ZbO x0 x1 = some r :=
 Z1h (fun _ _ ha hb => ru_ Z1J ha hb) (Zoq x0 x1 r h)
def Zc6 (x0 : Int) : Option Int :=
 some x0
theorem Zmr x0 : Sim ZJ (Zc6 x0) (Zvd 0 (iv x0) []) := by
 unfold Zc6
 refine zf (ZBS ..)<|ze ?_
 exact zr ((iv x0), []) ⟨_, rfl⟩
def Zf5 (x0 : Int) : Option Int :=
 if (decide (1048576 < x0)) = true then
 (some (-1))
 else
 (Zc6 x0)
theorem Zp7 x0 : Sim ZJ (Zf5 x0) (EE 75 [(iv x0)] []) := by
 unfold Zf5
 refine zf (ZHD ..)<|ze<|ze<|zq ?_
 refine za (decide (1048576 < x0)) ?_ ?_
 ·refine ze ?_
  exact zr ((iv (-1)), []) ⟨_, rfl⟩
 ·exact zk (Zmr x0)
theorem ZqU x0 {r} (h : Zf5 x0 = some r) : ZcA x0 = some r :=
 Z1h (fun _ _ ha hb => ru_ Z1J ha hb) (Zp7 x0 r h)
def ZaY : Option Int :=
 some (-1)
theorem Zhn : Sim ZJ ZaY (Zqr 0 []) := by
 unfold ZaY
 refine zf (ZBo ..)<|ze ?_
 exact zr ((iv (-1)), []) ⟨_, rfl⟩
def Zd1 (x0 x1 : Int) : Option Int :=
 (ZcA (IntKind.i64.wrap (x0 + x1))).bind fun r1 =>
 some r1
theorem Zna x0 x1 : Sim ZJ (Zd1 x0 x1) (ZuL 0 (iv x0) (iv x1) []) := by
 unfold Zd1
 refine zf (ZBp ..)<|ze<|zq<|zi fun r1 hr1 => ?_
 obtain ⟨_, er1, _, rfl⟩ := ZjJ (IntKind.i64.wrap (x0 + x1)) r1 hr1
 refine zc [] (iv r1) [] er1 ?_
 exact zr ((iv r1), []) ⟨_, rfl⟩
def ZgD (x0 x1 : Int) : Option Int :=
 if (decide (x0 < 0)) = true then
 ZaY
 else
 (if (decide (x1 < 0)) = true then
 ZaY
 else
 (Zd1 x0 x1))
theorem ZqV x0 x1 : Sim ZJ (ZgD x0 x1) (EE 60 [(iv x0), (iv x1)] []) := by
 unfold ZgD
 refine zf (ZHd ..)<|ze<|ze<|zq ?_
 refine za (decide (x0 < 0)) ?_ ?_
 ·exact zk Zhn
 ·refine zq ?_
  refine za (decide (x1 < 0)) ?_ ?_
  ·exact zk Zhn
  ·exact zk (Zna x0 x1)
theorem Zs6 x0 x1 {r} (h : ZgD x0 x1 = some r) : ZgF x0 x1 = some r :=
 Z1h (fun _ _ ha hb => ru_ Z1J ha hb) (ZqV x0 x1 r h)
def Z5r (x0 : List Z9) : Option Bool :=
 (Z6s x0).bind fun r1 =>
 some (decide (0 ≤ r1))
theorem Zdv (x0 : List Z9) ox0 : Sim ZP (Z5r x0) (EE 55 [(ZO ox0 (x0.map ZI)), (.clo 56 [] [])] []) := by
 unfold Z5r
 refine zf (ZH8 ..)<|ze<|ze<|zi fun r1 hr1 => ?_
 obtain ⟨_, er1, _, rfl⟩ := Zfk x0 .sh r1 hr1
 refine zc [] (iv r1) [] er1<|zq ?_
 exact zr ((bv (decide (0 ≤ r1))), []) ⟨_, rfl⟩
theorem Ze0 x0 {r} (h : Z5r x0 = some r) : Z5v x0 = some r :=
 Z1h (fun _ _ ha hb => ru_ Z2p (ha .ex) (hb .ex)) (fun ox0 => Zdv x0 ox0 r h)
def Z6q (x0 : List Z9) : Option Int :=
 Z4g x0 (x0.length : Int) 0
theorem ZeY (x0 : List Z9) ox0 : Sim ZJ (Z6q x0) (EE 73 [(ZO ox0 (x0.map ZI)), (.clo 56 [] [])] []) := by
 unfold Z6q
 refine zf (ZHB ..)<|ze<|ze<|zp (iv (x0.length : Int)) (et_ (Z3d (P := PP) (t := 29) (d := 31) (by kernel_rfl) ZI (shrO ox0) x0)) ?_
 exact zk (Z9i x0 (x0.length : Int) 0 ox0)
theorem Zfj x0 {r} (h : Z6q x0 = some r) : Z6s x0 = some r :=
 Z1h (fun _ _ ha hb => ru_ Z1J (ha .ex) (hb .ex)) (fun ox0 => ZeY x0 ox0 r h)
def Z5s (x0 : List Z9) (x7 x8 : Int) : Option Int :=
 Z4g x0 x7 (IntKind.i64.wrap (x8 + 1))
theorem ZdC (x0 : List Z9) x7 x8 ox0 : Sim ZJ (Z5s x0 x7 x8) (Zva 0 (ZO ox0 (x0.map ZI)) (.clo 56 [] []) (iv x7) (iv x8) []) := by
 unfold Z5s
 refine zf (ZBP ..)<|ze<|zq ?_
 exact zk (Z9i x0 x7 (IntKind.i64.wrap (x8 + 1)) ox0)
def Z4b (x0 : List Z9) (x7 x8 : Int) : Option Int :=
 (lget x0 x8).bind fun a1 =>
 (ZaM a1).bind fun r2 =>
 if r2 = true then
 (some x8)
 else
 (Z5s x0 x7 x8)
theorem ZdB (x0 : List Z9) x7 x8 ox0 : Sim ZJ (Z4b x0 x7 x8) (Zv9 0 (ZO ox0 (x0.map ZI)) (.clo 56 [] []) (iv x7) (iv x8) []) := by
 unfold Z4b
 refine zf (ZBO ..)<|ze<|ze<|zi fun a1 ha1 => zp (.cptr (ZH a1 .sh .sh)) (et_ (Z2D (o := (shrO ox0)) (k := .i64) (n := 7) (e := ZI) (cs := Z1W) Z2J (fun _ => rfl) (by decide) ha1))<|zq<|zi fun r2 hr2 => ?_
 obtain ⟨_, er2, _, rfl⟩ := ZlB a1 .sh .sh r2 hr2
 refine zv [] (bv r2) [] er2 ?_
 refine za r2 ?_ ?_
 ·refine ze ?_
  exact zr ((iv x8), []) ⟨_, rfl⟩
 ·exact zk (ZdC x0 x7 x8 ox0)
def Z7u : Option Int :=
 some (-1)
theorem ZdD : Sim ZJ Z7u (Zvb 0 []) := by
 unfold Z7u
 refine zf (ZBQ ..)<|ze ?_
 exact zr ((iv (-1)), []) ⟨_, rfl⟩
def Z3B (x0 : List Z9) (x7 x8 : Int) : Option Int :=
 if (decide (x8 < x7)) = true then
 (Z4b x0 x7 x8)
 else
 Z7u
theorem ZdA (x0 : List Z9) x7 x8 ox0 : Sim ZJ (Z3B x0 x7 x8) (ZmU 0 (ZO ox0 (x0.map ZI)) (.clo 56 [] []) (iv x7) (iv x8) []) := by
 unfold Z3B
 refine zf (ZBN ..)<|ze<|zq ?_
 refine za (decide (x8 < x7)) ?_ ?_
 ·exact zk (ZdB x0 x7 x8 ox0)
 ·exact zk ZdD
theorem Z6B x0 x7 x8 {r} (h : Z3B x0 x7 x8 = some r) : Z4g x0 x7 x8 = some r :=
 Z1h (fun _ _ ha hb => ru_ Z1J (ha .ex) (hb .ex)) (fun ox0 => ZdA x0 x7 x8 ox0 r h)
def ZaK (x0 : Z9) : Option Bool :=
 (Z4f x0).bind fun r1 =>
 some (!r1)
theorem ZkV x0 z23 z1q : Sim ZP (ZaK x0) (EE 56 [(pA_ (ZH x0 z23 z1q))] []) := by
 unfold ZaK
 refine zf (ZH9 ..)<|ze<|zx (.ptr 0 0) [(Zk x0 z23 z1q)]<|ze<|zq<|zi fun r1 hr1 => ?_
 obtain ⟨_, er1, _, rfl⟩ := Zhm x0 .sh .sh r1 hr1
 refine zc [] (bv r1) [(Zk x0 z23 z1q)] er1<|zq ?_
 exact zr ((bv (!r1)), [(Zk x0 z23 z1q)]) ⟨_, rfl⟩
theorem ZlA x0 {r} (h : ZaK x0 = some r) : ZaM x0 = some r :=
 Z1h (fun _ _ ha hb => ru_ Z2p (ha .ex .ex) (hb .ex .ex)) (fun z23 z1q => ZkV x0 z23 z1q r h)
def ZiR (x0 : Z9) : Option Int :=
 Z6r 0 x0.Kids (x0.Kids.length : Int) 0 x0
theorem Zp5 x0 z23 z1q : Sim ZJ (ZiR x0) (EE 11 [(pA_ (ZH x0 z23 z1q))] []) := by
 unfold ZiR
 refine zf (ZFX ..)<|ze<|zx (.ptr 0 0) [(Zk x0 z23 z1q)]<|ze<|ze<|zq<|zq<|zp (iv (x0.Kids.length : Int)) (et_ (Z3d (P := PP) (t := 29) (d := 31) (by kernel_rfl) ZI (shrO z1q) x0.Kids)) ?_
 exact zk (Zhl 0 x0.Kids (x0.Kids.length : Int) 0 x0 (shrO z1q) z23 z1q)
theorem Zfe x0 {r} (h : ZiR x0 = some r) : Z5W x0 = some r :=
 Z1h (fun _ _ ha hb => ru_ Z1J (ha .ex .ex) (hb .ex .ex)) (fun z23 z1q => Zp5 x0 z23 z1q r h)
def Zc4 (x3 : Int) (x8 : List Z9) (x9 x10 : Int) (b0 : Z9) : Option Int :=
 (lget x8 x10).bind fun a1 =>
 (Z5W a1).bind fun r2 =>
 Z6r (min (IntKind.i64.wrap (x3 + r2)) 1048576) x8 x9 (IntKind.i64.wrap (x10 + 1)) b0
theorem Zmo x3 (x8 : List Z9) x9 x10 b0 ox8 z1O z1v : Sim ZJ (Zc4 x3 x8 x9 x10 b0) (Zts 0 (.ptr 0 0) (iv x3) (ZO ox8 (x8.map ZI)) (iv x9) (iv x10) [(Zk b0 z1O z1v)]) := by
 unfold Zc4
 refine zf (ZA3 ..)<|ze<|zi fun a1 ha1 => zp (.cptr (ZH a1 .sh .sh)) (et_ (Z2D (o := ox8) (k := .i64) (n := 7) (e := ZI) (cs := Z1W) Z2J (fun _ => rfl) (by decide) ha1))<|zq<|zz (.ptr 1 0) [(Zk b0 z1O z1v), (Zk Z1A .nl .nl)]<|zt [(Zk b0 z1O z1v), (Zk a1 .sh .sh)]<|ze<|zq<|zi fun r2 hr2 => ?_
 obtain ⟨_, er2, _, rfl⟩ := ZjI a1 .sh .sh r2 hr2
 refine zc [] (iv r2) [(Zk b0 z1O z1v), (Zk a1 .sh .sh)] er2<|zq<|zp (iv (min (IntKind.i64.wrap (x3 + r2)) 1048576)) (ZcU _ _)<|ze<|zq ?_
 exact zk (Zhl (min (IntKind.i64.wrap (x3 + r2)) 1048576) x8 x9 (IntKind.i64.wrap (x10 + 1)) b0 ox8 z1O z1v)
def Z1u (x3 : Int) : Option Int :=
 some (min x3 1048576)
theorem Z1C x3 : Sim ZJ (Z1u x3) (Z49 0 (iv x3) []) := by
 unfold Z1u
 refine zf (Zy1 ..)<|ze<|zp (iv (min x3 1048576)) (ZcU _ _) ?_
 exact zr ((iv (min x3 1048576)), []) ⟨_, rfl⟩
def Z1M (x3 : Int) (b0 : Z9) : Option Int :=
 if (b0.Mode == 2) = true then
 (Z1u (IntKind.i64.wrap (x3 + 2)))
 else
 (Z1u x3)
theorem Z1V x3 b0 z1O z1v : Sim ZJ (Z1M x3 b0) (Z5A 0 (.ptr 0 0) (iv x3) [(Zk b0 z1O z1v)]) := by
 unfold Z1M
 refine zf (Zy0 ..)<|ze<|zq<|zq<|zq ?_
 refine za (b0.Mode == 2) ?_ ?_
 ·refine ze<|zq ?_
  exact zk (Z1C (IntKind.i64.wrap (x3 + 2)))
 ·exact zk (Z1C x3)
def Z5q (x3 : Int) (b0 : Z9) : Option Int :=
 if (b0.Kind == 1) = true then
 (if (b0.Kind == 1) = true then
 (some (1))
 else
 (if (b0.Kind == 3) = true then
 (Z1u ((IntKind.i64.wrap (x3 + (IntKind.i64.wrap (2 * (IntKind.i64.wrap ((b0.Kids.length : Int) - 1))))))))
 else
 (if (b0.Kind == 5) = true then
 (if (b0.Kind == 5) = true then
 (Z1u (IntKind.i64.wrap (x3 + 2)))
 else
 (if (b0.Kind == 4) = true then
 (if (decide (b0.Hi < 0)) = true then
 (Z1M (IntKind.i64.wrap ((IntKind.i64.wrap (b0.Lo * x3)) + (IntKind.i64.wrap (x3 + 4)))) b0)
 else
 (Z1M ((IntKind.i64.wrap ((IntKind.i64.wrap (b0.Lo * x3)) + (IntKind.i64.wrap ((IntKind.i64.wrap (b0.Hi - b0.Lo)) * (IntKind.i64.wrap (x3 + 1))))))) b0))
 else
 (Z1u x3)))
 else
 (if (b0.Kind == 7) = true then
 (if (b0.Kind == 7) = true then
 (Z1u (IntKind.i64.wrap (x3 + 2)))
 else
 (if (b0.Kind == 4) = true then
 (if (decide (b0.Hi < 0)) = true then
 (Z1M (IntKind.i64.wrap ((IntKind.i64.wrap (b0.Lo * x3)) + (IntKind.i64.wrap (x3 + 4)))) b0)
 else
 (Z1M ((IntKind.i64.wrap ((IntKind.i64.wrap (b0.Lo * x3)) + (IntKind.i64.wrap ((IntKind.i64.wrap (b0.Hi - b0.Lo)) * (IntKind.i64.wrap (x3 + 1))))))) b0))
 else
 (Z1u x3)))
 else
 (if (b0.Kind == 8) = true then
 (Z1u (IntKind.i64.wrap (x3 + 2)))
 else
 (if (b0.Kind == 4) = true then
 (if (decide (b0.Hi < 0)) = true then
 (Z1M (IntKind.i64.wrap ((IntKind.i64.wrap (b0.Lo * x3)) + (IntKind.i64.wrap (x3 + 4)))) b0)
 else
 (Z1M ((IntKind.i64.wrap ((IntKind.i64.wrap (b0.Lo * x3)) + (IntKind.i64.wrap ((IntKind.i64.wrap (b0.Hi - b0.Lo)) * (IntKind.i64.wrap (x3 + 1))))))) b0))
 else
 (Z1u x3)))))))
 else
 (if (b0.Kind == 6) = true then
 (if (b0.Kind == 6) = true then
 (some (1))
 else
 (if (b0.Kind == 3) = true then
 (Z1u ((IntKind.i64.wrap (x3 + (IntKind.i64.wrap (2 * (IntKind.i64.wrap ((b0.Kids.length : Int) - 1))))))))
 else
 (if (b0.Kind == 5) = true then
 (if (b0.Kind == 5) = true then
 (Z1u (IntKind.i64.wrap (x3 + 2)))
 else
 (if (b0.Kind == 4) = true then
 (if (decide (b0.Hi < 0)) = true then
 (Z1M (IntKind.i64.wrap ((IntKind.i64.wrap (b0.Lo * x3)) + (IntKind.i64.wrap (x3 + 4)))) b0)
 else
 (Z1M ((IntKind.i64.wrap ((IntKind.i64.wrap (b0.Lo * x3)) + (IntKind.i64.wrap ((IntKind.i64.wrap (b0.Hi - b0.Lo)) * (IntKind.i64.wrap (x3 + 1))))))) b0))
 else
 (Z1u x3)))
 else
 (if (b0.Kind == 7) = true then
 (if (b0.Kind == 7) = true then
 (Z1u (IntKind.i64.wrap (x3 + 2)))
 else
 (if (b0.Kind == 4) = true then
 (if (decide (b0.Hi < 0)) = true then
 (Z1M (IntKind.i64.wrap ((IntKind.i64.wrap (b0.Lo * x3)) + (IntKind.i64.wrap (x3 + 4)))) b0)
 else
 (Z1M ((IntKind.i64.wrap ((IntKind.i64.wrap (b0.Lo * x3)) + (IntKind.i64.wrap ((IntKind.i64.wrap (b0.Hi - b0.Lo)) * (IntKind.i64.wrap (x3 + 1))))))) b0))
 else
 (Z1u x3)))
 else
 (if (b0.Kind == 8) = true then
 (Z1u (IntKind.i64.wrap (x3 + 2)))
 else
 (if (b0.Kind == 4) = true then
 (if (decide (b0.Hi < 0)) = true then
 (Z1M (IntKind.i64.wrap ((IntKind.i64.wrap (b0.Lo * x3)) + (IntKind.i64.wrap (x3 + 4)))) b0)
 else
 (Z1M ((IntKind.i64.wrap ((IntKind.i64.wrap (b0.Lo * x3)) + (IntKind.i64.wrap ((IntKind.i64.wrap (b0.Hi - b0.Lo)) * (IntKind.i64.wrap (x3 + 1))))))) b0))
 else
 (Z1u x3)))))))
 else
 (if (b0.Kind == 9) = true then
 (some (1))
 else
 (if (b0.Kind == 3) = true then
 (Z1u ((IntKind.i64.wrap (x3 + (IntKind.i64.wrap (2 * (IntKind.i64.wrap ((b0.Kids.length : Int) - 1))))))))
 else
 (if (b0.Kind == 5) = true then
 (if (b0.Kind == 5) = true then
 (Z1u (IntKind.i64.wrap (x3 + 2)))
 else
 (if (b0.Kind == 4) = true then
 (if (decide (b0.Hi < 0)) = true then
 (Z1M (IntKind.i64.wrap ((IntKind.i64.wrap (b0.Lo * x3)) + (IntKind.i64.wrap (x3 + 4)))) b0)
 else
 (Z1M ((IntKind.i64.wrap ((IntKind.i64.wrap (b0.Lo * x3)) + (IntKind.i64.wrap ((IntKind.i64.wrap (b0.Hi - b0.Lo)) * (IntKind.i64.wrap (x3 + 1))))))) b0))
 else
 (Z1u x3)))
 else
 (if (b0.Kind == 7) = true then
 (if (b0.Kind == 7) = true then
 (Z1u (IntKind.i64.wrap (x3 + 2)))
 else
 (if (b0.Kind == 4) = true then
 (if (decide (b0.Hi < 0)) = true then
 (Z1M (IntKind.i64.wrap ((IntKind.i64.wrap (b0.Lo * x3)) + (IntKind.i64.wrap (x3 + 4)))) b0)
 else
 (Z1M ((IntKind.i64.wrap ((IntKind.i64.wrap (b0.Lo * x3)) + (IntKind.i64.wrap ((IntKind.i64.wrap (b0.Hi - b0.Lo)) * (IntKind.i64.wrap (x3 + 1))))))) b0))
 else
 (Z1u x3)))
 else
 (if (b0.Kind == 8) = true then
 (Z1u (IntKind.i64.wrap (x3 + 2)))
 else
 (if (b0.Kind == 4) = true then
 (if (decide (b0.Hi < 0)) = true then
 (Z1M (IntKind.i64.wrap ((IntKind.i64.wrap (b0.Lo * x3)) + (IntKind.i64.wrap (x3 + 4)))) b0)
 else
 (Z1M ((IntKind.i64.wrap ((IntKind.i64.wrap (b0.Lo * x3)) + (IntKind.i64.wrap ((IntKind.i64.wrap (b0.Hi - b0.Lo)) * (IntKind.i64.wrap (x3 + 1))))))) b0))
 else
 (Z1u x3))))))))
theorem Zmp x3 b0 z1O z1v : Sim ZJ (Z5q x3 b0) (Ztt 0 (.ptr 0 0) (iv x3) [(Zk b0 z1O z1v)]) := by
 unfold Z5q
 refine zf (ZA4 ..)<|ze<|zq<|zq<|ze<|zq ?_
 refine za (b0.Kind == 1) ?_ ?_
 ·refine za (b0.Kind == 1) ?_ ?_
  ·refine ze ?_
   exact zr ((iv 1), [(Zk b0 z1O z1v)]) ⟨_, rfl⟩
  ·refine ze<|zq ?_
   refine za (b0.Kind == 3) ?_ ?_
   ·refine ze<|zq<|zq<|zp (iv (b0.Kids.length : Int)) (et_ (Z3d (P := PP) (t := 29) (d := 31) (by kernel_rfl) ZI (shrO z1v) b0.Kids))<|zq<|zq<|zq ?_
    exact zk (Z1C ((IntKind.i64.wrap (x3 + (IntKind.i64.wrap (2 * (IntKind.i64.wrap ((b0.Kids.length : Int) - 1))))))))
   ·refine ze<|zq ?_
    refine za (b0.Kind == 5) ?_ ?_
    ·refine za (b0.Kind == 5) ?_ ?_
     ·refine ze<|zq ?_
      exact zk (Z1C (IntKind.i64.wrap (x3 + 2)))
     ·refine ze<|zq ?_
      refine za (b0.Kind == 4) ?_ ?_
      ·refine ze<|ze<|zq<|zq<|zq<|ze<|zq<|zq<|zq ?_
       refine za (decide (b0.Hi < 0)) ?_ ?_
       ·refine ze<|zq<|zq ?_
        exact zk (Z1V (IntKind.i64.wrap ((IntKind.i64.wrap (b0.Lo * x3)) + (IntKind.i64.wrap (x3 + 4)))) b0 z1O z1v)
       ·refine ze<|zq<|zq<|zq<|zq<|zq<|zq<|zq<|zq ?_
        exact zk (Z1V ((IntKind.i64.wrap ((IntKind.i64.wrap (b0.Lo * x3)) + (IntKind.i64.wrap ((IntKind.i64.wrap (b0.Hi - b0.Lo)) * (IntKind.i64.wrap (x3 + 1))))))) b0 z1O z1v)
      ·exact zk (Z1C x3)
    ·refine ze<|zq ?_
     refine za (b0.Kind == 7) ?_ ?_
     ·refine za (b0.Kind == 7) ?_ ?_
      ·refine ze<|zq ?_
       exact zk (Z1C (IntKind.i64.wrap (x3 + 2)))
      ·refine ze<|zq ?_
       refine za (b0.Kind == 4) ?_ ?_
       ·refine ze<|ze<|zq<|zq<|zq<|ze<|zq<|zq<|zq ?_
        refine za (decide (b0.Hi < 0)) ?_ ?_
        ·refine ze<|zq<|zq ?_
         exact zk (Z1V (IntKind.i64.wrap ((IntKind.i64.wrap (b0.Lo * x3)) + (IntKind.i64.wrap (x3 + 4)))) b0 z1O z1v)
        ·refine ze<|zq<|zq<|zq<|zq<|zq<|zq<|zq<|zq ?_
         exact zk (Z1V ((IntKind.i64.wrap ((IntKind.i64.wrap (b0.Lo * x3)) + (IntKind.i64.wrap ((IntKind.i64.wrap (b0.Hi - b0.Lo)) * (IntKind.i64.wrap (x3 + 1))))))) b0 z1O z1v)
       ·exact zk (Z1C x3)
     ·refine ze<|zq ?_
      refine za (b0.Kind == 8) ?_ ?_
      ·refine ze<|zq ?_
       exact zk (Z1C (IntKind.i64.wrap (x3 + 2)))
      ·refine ze<|zq ?_
       refine za (b0.Kind == 4) ?_ ?_
       ·refine ze<|ze<|zq<|zq<|zq<|ze<|zq<|zq<|zq ?_
        refine za (decide (b0.Hi < 0)) ?_ ?_
        ·refine ze<|zq<|zq ?_
         exact zk (Z1V (IntKind.i64.wrap ((IntKind.i64.wrap (b0.Lo * x3)) + (IntKind.i64.wrap (x3 + 4)))) b0 z1O z1v)
        ·refine ze<|zq<|zq<|zq<|zq<|zq<|zq<|zq<|zq ?_
         exact zk (Z1V ((IntKind.i64.wrap ((IntKind.i64.wrap (b0.Lo * x3)) + (IntKind.i64.wrap ((IntKind.i64.wrap (b0.Hi - b0.Lo)) * (IntKind.i64.wrap (x3 + 1))))))) b0 z1O z1v)
       ·exact zk (Z1C x3)
 ·refine ze<|zq ?_
  refine za (b0.Kind == 6) ?_ ?_
  ·refine za (b0.Kind == 6) ?_ ?_
   ·refine ze ?_
    exact zr ((iv 1), [(Zk b0 z1O z1v)]) ⟨_, rfl⟩
   ·refine ze<|zq ?_
    refine za (b0.Kind == 3) ?_ ?_
    ·refine ze<|zq<|zq<|zp (iv (b0.Kids.length : Int)) (et_ (Z3d (P := PP) (t := 29) (d := 31) (by kernel_rfl) ZI (shrO z1v) b0.Kids))<|zq<|zq<|zq ?_
     exact zk (Z1C ((IntKind.i64.wrap (x3 + (IntKind.i64.wrap (2 * (IntKind.i64.wrap ((b0.Kids.length : Int) - 1))))))))
    ·refine ze<|zq ?_
     refine za (b0.Kind == 5) ?_ ?_
     ·refine za (b0.Kind == 5) ?_ ?_
      ·refine ze<|zq ?_
       exact zk (Z1C (IntKind.i64.wrap (x3 + 2)))
      ·refine ze<|zq ?_
       refine za (b0.Kind == 4) ?_ ?_
       ·refine ze<|ze<|zq<|zq<|zq<|ze<|zq<|zq<|zq ?_
        refine za (decide (b0.Hi < 0)) ?_ ?_
        ·refine ze<|zq<|zq ?_
         exact zk (Z1V (IntKind.i64.wrap ((IntKind.i64.wrap (b0.Lo * x3)) + (IntKind.i64.wrap (x3 + 4)))) b0 z1O z1v)
        ·refine ze<|zq<|zq<|zq<|zq<|zq<|zq<|zq<|zq ?_
         exact zk (Z1V ((IntKind.i64.wrap ((IntKind.i64.wrap (b0.Lo * x3)) + (IntKind.i64.wrap ((IntKind.i64.wrap (b0.Hi - b0.Lo)) * (IntKind.i64.wrap (x3 + 1))))))) b0 z1O z1v)
       ·exact zk (Z1C x3)
     ·refine ze<|zq ?_
      refine za (b0.Kind == 7) ?_ ?_
      ·refine za (b0.Kind == 7) ?_ ?_
       ·refine ze<|zq ?_
        exact zk (Z1C (IntKind.i64.wrap (x3 + 2)))
       ·refine ze<|zq ?_
        refine za (b0.Kind == 4) ?_ ?_
        ·refine ze<|ze<|zq<|zq<|zq<|ze<|zq<|zq<|zq ?_
         refine za (decide (b0.Hi < 0)) ?_ ?_
         ·refine ze<|zq<|zq ?_
          exact zk (Z1V (IntKind.i64.wrap ((IntKind.i64.wrap (b0.Lo * x3)) + (IntKind.i64.wrap (x3 + 4)))) b0 z1O z1v)
         ·refine ze<|zq<|zq<|zq<|zq<|zq<|zq<|zq<|zq ?_
          exact zk (Z1V ((IntKind.i64.wrap ((IntKind.i64.wrap (b0.Lo * x3)) + (IntKind.i64.wrap ((IntKind.i64.wrap (b0.Hi - b0.Lo)) * (IntKind.i64.wrap (x3 + 1))))))) b0 z1O z1v)
        ·exact zk (Z1C x3)
      ·refine ze<|zq ?_
       refine za (b0.Kind == 8) ?_ ?_
       ·refine ze<|zq ?_
        exact zk (Z1C (IntKind.i64.wrap (x3 + 2)))
       ·refine ze<|zq ?_
        refine za (b0.Kind == 4) ?_ ?_
        ·refine ze<|ze<|zq<|zq<|zq<|ze<|zq<|zq<|zq ?_
         refine za (decide (b0.Hi < 0)) ?_ ?_
         ·refine ze<|zq<|zq ?_
          exact zk (Z1V (IntKind.i64.wrap ((IntKind.i64.wrap (b0.Lo * x3)) + (IntKind.i64.wrap (x3 + 4)))) b0 z1O z1v)
         ·refine ze<|zq<|zq<|zq<|zq<|zq<|zq<|zq<|zq ?_
          exact zk (Z1V ((IntKind.i64.wrap ((IntKind.i64.wrap (b0.Lo * x3)) + (IntKind.i64.wrap ((IntKind.i64.wrap (b0.Hi - b0.Lo)) * (IntKind.i64.wrap (x3 + 1))))))) b0 z1O z1v)
        ·exact zk (Z1C x3)
  ·refine ze<|zq ?_
   refine za (b0.Kind == 9) ?_ ?_
   ·refine ze ?_
    exact zr ((iv 1), [(Zk b0 z1O z1v)]) ⟨_, rfl⟩
   ·refine ze<|zq ?_
    refine za (b0.Kind == 3) ?_ ?_
    ·refine ze<|zq<|zq<|zp (iv (b0.Kids.length : Int)) (et_ (Z3d (P := PP) (t := 29) (d := 31) (by kernel_rfl) ZI (shrO z1v) b0.Kids))<|zq<|zq<|zq ?_
     exact zk (Z1C ((IntKind.i64.wrap (x3 + (IntKind.i64.wrap (2 * (IntKind.i64.wrap ((b0.Kids.length : Int) - 1))))))))
    ·refine ze<|zq ?_
     refine za (b0.Kind == 5) ?_ ?_
     ·refine za (b0.Kind == 5) ?_ ?_
      ·refine ze<|zq ?_
       exact zk (Z1C (IntKind.i64.wrap (x3 + 2)))
      ·refine ze<|zq ?_
       refine za (b0.Kind == 4) ?_ ?_
       ·refine ze<|ze<|zq<|zq<|zq<|ze<|zq<|zq<|zq ?_
        refine za (decide (b0.Hi < 0)) ?_ ?_
        ·refine ze<|zq<|zq ?_
         exact zk (Z1V (IntKind.i64.wrap ((IntKind.i64.wrap (b0.Lo * x3)) + (IntKind.i64.wrap (x3 + 4)))) b0 z1O z1v)
        ·refine ze<|zq<|zq<|zq<|zq<|zq<|zq<|zq<|zq ?_
         exact zk (Z1V ((IntKind.i64.wrap ((IntKind.i64.wrap (b0.Lo * x3)) + (IntKind.i64.wrap ((IntKind.i64.wrap (b0.Hi - b0.Lo)) * (IntKind.i64.wrap (x3 + 1))))))) b0 z1O z1v)
       ·exact zk (Z1C x3)
     ·refine ze<|zq ?_
      refine za (b0.Kind == 7) ?_ ?_
      ·refine za (b0.Kind == 7) ?_ ?_
       ·refine ze<|zq ?_
        exact zk (Z1C (IntKind.i64.wrap (x3 + 2)))
       ·refine ze<|zq ?_
        refine za (b0.Kind == 4) ?_ ?_
        ·refine ze<|ze<|zq<|zq<|zq<|ze<|zq<|zq<|zq ?_
         refine za (decide (b0.Hi < 0)) ?_ ?_
         ·refine ze<|zq<|zq ?_
          exact zk (Z1V (IntKind.i64.wrap ((IntKind.i64.wrap (b0.Lo * x3)) + (IntKind.i64.wrap (x3 + 4)))) b0 z1O z1v)
         ·refine ze<|zq<|zq<|zq<|zq<|zq<|zq<|zq<|zq ?_
          exact zk (Z1V ((IntKind.i64.wrap ((IntKind.i64.wrap (b0.Lo * x3)) + (IntKind.i64.wrap ((IntKind.i64.wrap (b0.Hi - b0.Lo)) * (IntKind.i64.wrap (x3 + 1))))))) b0 z1O z1v)
        ·exact zk (Z1C x3)
      ·refine ze<|zq ?_
       refine za (b0.Kind == 8) ?_ ?_
       ·refine ze<|zq ?_
        exact zk (Z1C (IntKind.i64.wrap (x3 + 2)))
       ·refine ze<|zq ?_
        refine za (b0.Kind == 4) ?_ ?_
        ·refine ze<|ze<|zq<|zq<|zq<|ze<|zq<|zq<|zq ?_
         refine za (decide (b0.Hi < 0)) ?_ ?_
         ·refine ze<|zq<|zq ?_
          exact zk (Z1V (IntKind.i64.wrap ((IntKind.i64.wrap (b0.Lo * x3)) + (IntKind.i64.wrap (x3 + 4)))) b0 z1O z1v)
         ·refine ze<|zq<|zq<|zq<|zq<|zq<|zq<|zq<|zq ?_
          exact zk (Z1V ((IntKind.i64.wrap ((IntKind.i64.wrap (b0.Lo * x3)) + (IntKind.i64.wrap ((IntKind.i64.wrap (b0.Hi - b0.Lo)) * (IntKind.i64.wrap (x3 + 1))))))) b0 z1O z1v)
        ·exact zk (Z1C x3)
def Zaf (x3 : Int) (x8 : List Z9) (x9 x10 : Int) (b0 : Z9) : Option Int :=
 if (decide (x10 < x9)) = true then
 (Zc4 x3 x8 x9 x10 b0)
 else
 (Z5q x3 b0)
theorem Zmn x3 (x8 : List Z9) x9 x10 b0 ox8 z1O z1v : Sim ZJ (Zaf x3 x8 x9 x10 b0) (Zmz 0 (.ptr 0 0) (iv x3) (ZO ox8 (x8.map ZI)) (iv x9) (iv x10) [(Zk b0 z1O z1v)]) := by
 unfold Zaf
 refine zf (ZA2 ..)<|ze<|zq ?_
 refine za (decide (x10 < x9)) ?_ ?_
 ·exact zk (Zmo x3 x8 x9 x10 b0 ox8 z1O z1v)
 ·exact zk (Zmp x3 b0 z1O z1v)
theorem Zhk x3 x8 x9 x10 b0 {r} (h : Zaf x3 x8 x9 x10 b0 = some r) : Z6r x3 x8 x9 x10 b0 = some r :=
 Z1h (fun _ _ ha hb => ru_ Z1J (ha .ex .ex .ex) (hb .ex .ex .ex)) (fun ox8 z1O z1v => Zmn x3 x8 x9 x10 b0 ox8 z1O z1v r h)
def Z8H (x1 : Zo) (zE : List Zo) : Option (Int × (List Zo)) :=
 (lapp zE ([x1] : List Zo)).bind fun a1 =>
 some ((IntKind.i64.wrap ((a1.length : Int) - 1)), a1)
theorem Zim x1 (zE : List Zo) zy zB zM : Sim (Z8A zy zB) (Z8H x1 zE) (EE 28 [(.ptr 0 0), (pA_ (Z1m x1 zM))] [[(.p (.ml 6 (zE.map ZC))), (bv zy), (iv zB)]]) := by
 unfold Z8H
 refine zf (ZGx ..)<|ze<|zx (.ptr 1 0) [[(.p (.ml 6 (zE.map ZC))), (bv zy), (iv zB)], (Z1k x1 zM)]<|ze<|zq<|zq<|zw (.p (.ml 6 (zE.map ZC))) [[(.p (.hd (List.length (zE.map ZC)))), (bv zy), (iv zB)], (Z1k x1 zM)]<|zq<|zq<|zi fun a1 ha1 => zp (.p (.ml 6 (a1.map ZC))) (Eq.trans (by kernel_rfl) <| ZEq (n := 6) (o' := .ex) (e := ZC) (ys := ([x1] : List Zo)) (fun _ => rfl) (by decide) ha1)<|zq<|zq<|zt [[(.p (.ml 6 (a1.map ZC))), (bv zy), (iv zB)], (Z1k x1 zM)]<|zg<|ze<|zq<|zq<|zq<|zp (iv (a1.length : Int)) (et_ (ZbX (P := PP) (t := 23) (d := 40) (by kernel_rfl) ZC a1))<|zq ?_
 exact zr ((iv (IntKind.i64.wrap ((a1.length : Int) - 1))), [[(.p (.ml 6 (a1.map ZC))), (bv zy), (iv zB)], (Z1k x1 zM)]) ⟨_, rfl⟩
theorem Zj8 x1 zE {r} (h : Z8H x1 zE = some r) : Z1j x1 zE = some r :=
 Z1h (fun _ _ ha hb => ru_ (Zjo _ _) (ha default default .ex) (hb default default .ex)) (fun zy zB zM => Zim x1 zE zy zB zM r h)
def Z3q (x4 : List Z8) (zE : List Zo) (zB : Int) : Option ((List Zo) × Int) :=
 (Z9k x4 ([] : List Z8)).bind fun r1 =>
 (Z1j (Zo.mk 1 0 0 0 0 r1.1) zE).bind fun r2 =>
 some (r2.2, zB)
theorem ZaE (x4 : List Z8) (zE : List Zo) zy zB ox4 : Sim (Z14 zy) (Z3q x4 zE zB) (Zq7 1 (.ptr 1 0) (ZO ox4 (x4.map Zp)) [[(.p (.ml 6 (zE.map ZC))), (bv zy), (iv zB)], [(.ptr 0 0)]]) := by
 unfold Z3q
 refine zf (ZAH ..)<|ze<|zi fun r1 hr1 => ?_
 obtain ⟨_, er1, _, rfl⟩ := ZhR x4 ([] : List Z8) .sh .sh r1 hr1
 refine zc [] (.p (.tup [(.lst .sh (r1.1.map Zp)), (.v (.int .i64 r1.2))])) [[(.p (.ml 6 (zE.map ZC))), (bv zy), (iv zB)], [(.ptr 0 0)]] er1<|zq<|zq<|ze<|zq<|zq<|zi fun r2 hr2 => ?_
 obtain ⟨_, er2, _, rfl⟩ := Z1r (Zo.mk 1 0 0 0 0 r1.1) zE zy zB .sh r2 hr2
 refine zc [0] (iv r2.1) [[(.p (.ml 6 (r2.2.map ZC))), (bv zy), (iv zB)], [(.ptr 0 0)]] er2 ?_
 exact zr ((.p (.tup [])), [[(.p (.ml 6 (r2.2.map ZC))), (bv zy), (iv zB)], [(.ptr 0 0)]]) ⟨_, rfl⟩
def Z3e (zE : List Zo) (zB za8 zcf zcg zch zci : Int) (z2r : List Z8) : Option ((List Zo) × Int) :=
 (Z1j (Zo.mk za8 zcf zcg zch zci z2r) zE).bind fun r1 =>
 some (r1.2, zB)
theorem Zak (zE : List Zo) zy zB b2 za8 zcf zcg zch zci z2r z18 zY z32 (zbz : ZL z32 = true) : Sim (Z14 zy) (Z3e zE zB za8 zcf zcg zch zci z2r) (ZnX 1 (.ptr 1 0) (.ptr 3 0) [[(.p (.ml 6 (zE.map ZC))), (bv zy), (iv zB)], [(.ptr 0 0)], (Zk b2 z18 zY), (Z1k (Zo.mk za8 zcf zcg zch zci z2r) z32)]) := by
 unfold Z3e
 refine zf (Zy6 ..)<|ze<|zq<|zq<|zi fun r1 hr1 => ?_
 obtain ⟨_, er1, _, rfl⟩ := Z1r (Zo.mk za8 zcf zcg zch zci z2r) zE zy zB .sh r1 hr1
 refine zc [0] (iv r1.1) [[(.p (.ml 6 (r1.2.map ZC))), (bv zy), (iv zB)], [(.ptr 0 0)], (Zk b2 z18 zY), (Z1k (Zo.mk za8 zcf zcg zch zci z2r) z32)] er1 ?_
 exact zr ((.p (.tup [])), [[(.p (.ml 6 (r1.2.map ZC))), (bv zy), (iv zB)], [(.ptr 0 0)], (Zk b2 z18 zY), (Z1k (Zo.mk za8 zcf zcg zch zci z2r) z32)]) ⟨_, rfl⟩
def Z3f (zE : List Zo) (zy : Bool) (zB : Int) (b2 : Z9) (za8 zcf zcg zch zci : Int) (z2r : List Z8) : Option ((List Zo) × Int) :=
 (Z7A (Zo.mk za8 zcf zcg zch zci z2r) zE zy zB b2).bind fun r1 =>
 some (r1.1, r1.2)
theorem Zal (zE : List Zo) zy zB b2 za8 zcf zcg zch zci z2r z18 zY z32 (zbz : ZL z32 = true) : Sim (Z14 zy) (Z3f zE zy zB b2 za8 zcf zcg zch zci z2r) (ZnY 1 (.ptr 1 0) (.ptr 2 0) (.ptr 3 0) [[(.p (.ml 6 (zE.map ZC))), (bv zy), (iv zB)], [(.ptr 0 0)], (Zk b2 z18 zY), (Z1k (Zo.mk za8 zcf zcg zch zci z2r) z32)]) := by
 unfold Z3f
 refine zf (Zy7 ..)<|ze<|zq<|zq<|zi fun r1 hr1 => ?_
 obtain ⟨_, er1, _, rfl⟩ := Zhj (Zo.mk za8 zcf zcg zch zci z2r) zE zy zB b2 .sh z18 zY r1 hr1
 refine zc [0, 1, 2] (.p (.tup [])) [[(.p (.ml 6 (r1.1.map ZC))), (bv zy), (iv r1.2)], [(.ptr 0 0)], (Zk b2 z18 zY), (Z1k (Zo.mk za8 zcf zcg zch zci z2r) z32)] er1 ?_
 exact zr ((.p (.tup [])), [[(.p (.ml 6 (r1.1.map ZC))), (bv zy), (iv r1.2)], [(.ptr 0 0)], (Zk b2 z18 zY), (Z1k (Zo.mk za8 zcf zcg zch zci z2r) z32)]) ⟨_, rfl⟩
def Z5c (x1 : Z9) (zE : List Zo) (zy : Bool) (zB : Int) : Option ((List Zo) × Int) :=
 if (x1.Kind == 1) = true then
 (if zy = true then
 ((Z6H x1.Set).bind fun r1 =>
 Z3q r1.1 zE zB)
 else
 (Z3q x1.Set zE zB))
 else
 (if (x1.Kind == 2) = true then
 (Z52 x1.Kids (x1.Kids.length : Int) 0 zE zy zB)
 else
 (if (x1.Kind == 3) = true then
 ((Z6Z x1.Kids zE zy zB).bind fun r2 =>
 some (r2.1, r2.2))
 else
 (if (x1.Kind == 4) = true then
 (if (x1.Mode == 2) = true then
 ((Z4H (Zo.mk 8 0 0 0 0 ([] : List Z8)) zE zy zB x1).bind fun r3 =>
 some (r3.1, r3.2))
 else
 ((Z4E x1 zE zy zB).bind fun r4 =>
 some (r4.1, r4.2)))
 else
 (if (x1.Kind == 5) = true then
 ((Z1j (Zo.mk 4 (IntKind.i64.wrap (2 * x1.Ref)) 0 0 0 ([] : List Z8)) zE).bind fun r5 =>
 (lget x1.Kids 0).bind fun a6 =>
 (Z1Q a6 r5.2 zy zB).bind fun r7 =>
 (Z1j ((Zo.mk 4 (IntKind.i64.wrap ((IntKind.i64.wrap (2 * x1.Ref)) + 1)) 0 0 0 ([] : List Z8))) r7.1).bind fun r8 =>
 some (r8.2, r7.2))
 else
 (if (x1.Kind == 6) = true then
 (if zy = true then
 (Z3e zE zB 5 x1.Ref 1 0 0 ([] : List Z8))
 else
 (Z3e zE zB 5 x1.Ref 0 0 0 ([] : List Z8)))
 else
 (if (x1.Kind == 7) = true then
 (if (decide (2 ≤ x1.Mode)) = true then
 ((lget x1.Kids 0).bind fun a9 =>
 (Z3g a9).bind fun r10 =>
 Z3f zE zy zB x1 7 x1.Mode 0 r10.1 r10.2 ([] : List Z8))
 else
 (Z3f zE zy zB x1 7 x1.Mode 0 0 0 ([] : List Z8)))
 else
 (if (x1.Kind == 8) = true then
 ((Z5V (Zo.mk 8 0 0 0 0 ([] : List Z8)) zE zy zB x1).bind fun r11 =>
 some (r11.1, r11.2))
 else
 (if (x1.Kind == 9) = true then
 ((Z1j (Zo.mk 6 x1.Ref 0 0 0 ([] : List Z8)) zE).bind fun r12 =>
 some (r12.2, zB))
 else
 (some (zE, zB))))))))))
theorem ZhF x1 (zE : List Zo) zy zB zM zU : Sim (Z14 zy) (Z5c x1 zE zy zB) (EE 29 [(.ptr 0 0), (pA_ (ZH x1 zM zU))] [[(.p (.ml 6 (zE.map ZC))), (bv zy), (iv zB)]]) := by
 unfold Z5c
 refine zf (ZGy ..)<|ze<|zx (.ptr 1 0) [[(.p (.ml 6 (zE.map ZC))), (bv zy), (iv zB)], [(.ptr 0 0)]]<|zx (.ptr 2 0) [[(.p (.ml 6 (zE.map ZC))), (bv zy), (iv zB)], [(.ptr 0 0)], (Zk x1 zM zU)]<|ze<|zq<|zq<|ze<|zq ?_
 refine za (x1.Kind == 1) ?_ ?_
 ·refine ze<|zq<|zq<|ze<|zq<|zq<|zq<|zq ?_
  refine za zy ?_ ?_
  ·refine ze<|zi fun r1 hr1 => ?_
   obtain ⟨_, er1, _, rfl⟩ := ZfO x1.Set .sh r1 hr1
   refine zc [] (.p (.tup [(.lst .sh (r1.1.map Zp)), (.v (.int .i64 r1.2))])) [[(.p (.ml 6 (zE.map ZC))), (bv zy), (iv zB)], [(.ptr 0 0)], (Zk x1 zM zU)] er1<|zq<|zq ?_
   exact zk (ZaE r1.1 zE zy zB .sh)
  ·exact zk (ZaE x1.Set zE zy zB (shrO (shrO zM)))
 ·refine ze<|zq ?_
  refine za (x1.Kind == 2) ?_ ?_
  ·refine ze<|zq<|zq<|zp (iv (x1.Kids.length : Int)) (et_ (Z3d (P := PP) (t := 29) (d := 31) (by kernel_rfl) ZI (shrO zU) x1.Kids)) ?_
   exact zk (ZaD x1.Kids (x1.Kids.length : Int) 0 zE zy zB (shrO zU))
  ·refine ze<|zq ?_
   refine za (x1.Kind == 3) ?_ ?_
   ·refine ze<|zq<|zq<|zq<|zi fun r2 hr2 => ?_
    obtain ⟨_, er2, _, rfl⟩ := Zj7 x1.Kids zE zy zB .sh r2 hr2
    refine zc [0] (.p (.tup [])) [[(.p (.ml 6 (r2.1.map ZC))), (bv zy), (iv r2.2)], [(.ptr 0 0)], (Zk x1 zM zU)] er2 ?_
    exact zr ((.p (.tup [])), [[(.p (.ml 6 (r2.1.map ZC))), (bv zy), (iv r2.2)], [(.ptr 0 0)], (Zk x1 zM zU)]) ⟨_, rfl⟩
   ·refine ze<|zq ?_
    refine za (x1.Kind == 4) ?_ ?_
    ·refine ze<|zq<|zq<|zq ?_
     refine za (x1.Mode == 2) ?_ ?_
     ·refine ze<|zq<|zq<|zi fun r3 hr3 => ?_
      obtain ⟨_, er3, _, rfl⟩ := Zhf (Zo.mk 8 0 0 0 0 ([] : List Z8)) zE zy zB x1 .sh zM zU r3 hr3
      refine zc [0, 1, 2] (.p (.tup [])) [[(.p (.ml 6 (r3.1.map ZC))), (bv zy), (iv r3.2)], [(.ptr 0 0)], (Zk x1 zM zU)] er3 ?_
      exact zr ((.p (.tup [])), [[(.p (.ml 6 (r3.1.map ZC))), (bv zy), (iv r3.2)], [(.ptr 0 0)], (Zk x1 zM zU)]) ⟨_, rfl⟩
     ·refine ze<|zq<|zq<|zi fun r4 hr4 => ?_
      obtain ⟨_, er4, _, rfl⟩ := Zbg x1 zE zy zB .sh .sh r4 hr4
      refine zc [0] (.p (.tup [])) [[(.p (.ml 6 (r4.1.map ZC))), (bv zy), (iv r4.2)], [(.ptr 0 0)], (Zk x1 zM zU)] er4 ?_
      exact zr ((.p (.tup [])), [[(.p (.ml 6 (r4.1.map ZC))), (bv zy), (iv r4.2)], [(.ptr 0 0)], (Zk x1 zM zU)]) ⟨_, rfl⟩
    ·refine ze<|zq ?_
     refine za (x1.Kind == 5) ?_ ?_
     ·refine ze<|zq<|zq<|zq<|zq<|zq<|zi fun r5 hr5 => ?_
      obtain ⟨_, er5, _, rfl⟩ := Z1r (Zo.mk 4 (IntKind.i64.wrap (2 * x1.Ref)) 0 0 0 ([] : List Z8)) zE zy zB .sh r5 hr5
      refine zc [0] (iv r5.1) [[(.p (.ml 6 (r5.2.map ZC))), (bv zy), (iv zB)], [(.ptr 0 0)], (Zk x1 zM zU)] er5<|ze<|zq<|zq<|zq<|zi fun a6 ha6 => zp (.cptr (ZH a6 .sh .sh)) (et_ (Z2D (o := (shrO zU)) (k := .i64) (n := 7) (e := ZI) (cs := Z1W) Z2J (fun _ => rfl) (by decide) ha6))<|zq<|zi fun r7 hr7 => ?_
      obtain ⟨_, er7, _, rfl⟩ := Z2L a6 r5.2 zy zB .sh .sh r7 hr7
      refine zc [0] (.p (.tup [])) [[(.p (.ml 6 (r7.1.map ZC))), (bv zy), (iv r7.2)], [(.ptr 0 0)], (Zk x1 zM zU)] er7<|ze<|zq<|zq<|zq<|zq<|zq<|zq<|zi fun r8 hr8 => ?_
      obtain ⟨_, er8, _, rfl⟩ := Z1r ((Zo.mk 4 (IntKind.i64.wrap ((IntKind.i64.wrap (2 * x1.Ref)) + 1)) 0 0 0 ([] : List Z8))) r7.1 zy r7.2 .sh r8 hr8
      refine zc [0] (iv r8.1) [[(.p (.ml 6 (r8.2.map ZC))), (bv zy), (iv r7.2)], [(.ptr 0 0)], (Zk x1 zM zU)] er8 ?_
      exact zr ((.p (.tup [])), [[(.p (.ml 6 (r8.2.map ZC))), (bv zy), (iv r7.2)], [(.ptr 0 0)], (Zk x1 zM zU)]) ⟨_, rfl⟩
     ·refine ze<|zq ?_
      refine za (x1.Kind == 6) ?_ ?_
      ·refine ze<|zq<|zq<|zq<|zz (.ptr 3 0) [[(.p (.ml 6 (zE.map ZC))), (bv zy), (iv zB)], [(.ptr 0 0)], (Zk x1 zM zU), (Z1k Zpy .nl)]<|zt [[(.p (.ml 6 (zE.map ZC))), (bv zy), (iv zB)], [(.ptr 0 0)], (Zk x1 zM zU), (Z1k (Zo.mk 5 x1.Ref 0 0 0 ([] : List Z8)) .nl)]<|ze<|zq<|zq<|zq<|zq ?_
       refine za zy ?_ ?_
       ·refine ze<|zq<|zt [[(.p (.ml 6 (zE.map ZC))), (bv zy), (iv zB)], [(.ptr 0 0)], (Zk x1 zM zU), (Z1k (Zo.mk 5 x1.Ref 1 0 0 ([] : List Z8)) .nl)] ?_
        exact zk (Zak zE zy zB x1 5 x1.Ref 1 0 0 ([] : List Z8) zM zU .nl rfl)
       ·exact zk (Zak zE zy zB x1 5 x1.Ref 0 0 0 ([] : List Z8) zM zU .nl rfl)
      ·refine ze<|zq ?_
       refine za (x1.Kind == 7) ?_ ?_
       ·refine ze<|zq<|zq<|zq<|zz (.ptr 3 0) [[(.p (.ml 6 (zE.map ZC))), (bv zy), (iv zB)], [(.ptr 0 0)], (Zk x1 zM zU), (Z1k Zpy .nl)]<|zt [[(.p (.ml 6 (zE.map ZC))), (bv zy), (iv zB)], [(.ptr 0 0)], (Zk x1 zM zU), (Z1k (Zo.mk 7 x1.Mode 0 0 0 ([] : List Z8)) .nl)]<|ze<|zq<|zq<|zq ?_
        refine za (decide (2 ≤ x1.Mode)) ?_ ?_
        ·refine ze<|zq<|zq<|zi fun a9 ha9 => zp (.cptr (ZH a9 .sh .sh)) (et_ (Z2D (o := (shrO zU)) (k := .i64) (n := 7) (e := ZI) (cs := Z1W) Z2J (fun _ => rfl) (by decide) ha9))<|zq<|zi fun r10 hr10 => ?_
         obtain ⟨_, er10, _, rfl⟩ := Z6J a9 .sh .sh r10 hr10
         refine zc [] (.p (.tup [(.v (.int .i64 r10.1)), (.v (.int .i64 r10.2))])) [[(.p (.ml 6 (zE.map ZC))), (bv zy), (iv zB)], [(.ptr 0 0)], (Zk x1 zM zU), (Z1k (Zo.mk 7 x1.Mode 0 0 0 ([] : List Z8)) .nl)] er10<|zq<|zq<|zq<|zt [[(.p (.ml 6 (zE.map ZC))), (bv zy), (iv zB)], [(.ptr 0 0)], (Zk x1 zM zU), (Z1k (Zo.mk 7 x1.Mode 0 r10.1 0 ([] : List Z8)) .nl)]<|zq<|zt [[(.p (.ml 6 (zE.map ZC))), (bv zy), (iv zB)], [(.ptr 0 0)], (Zk x1 zM zU), (Z1k (Zo.mk 7 x1.Mode 0 r10.1 r10.2 ([] : List Z8)) .nl)] ?_
         exact zk (Zal zE zy zB x1 7 x1.Mode 0 r10.1 r10.2 ([] : List Z8) zM zU .nl rfl)
        ·exact zk (Zal zE zy zB x1 7 x1.Mode 0 0 0 ([] : List Z8) zM zU .nl rfl)
       ·refine ze<|zq ?_
        refine za (x1.Kind == 8) ?_ ?_
        ·refine ze<|zq<|zq<|zi fun r11 hr11 => ?_
         obtain ⟨_, er11, _, rfl⟩ := Zhh (Zo.mk 8 0 0 0 0 ([] : List Z8)) zE zy zB x1 .sh zM zU r11 hr11
         refine zc [0, 1, 2] (.p (.tup [])) [[(.p (.ml 6 (r11.1.map ZC))), (bv zy), (iv r11.2)], [(.ptr 0 0)], (Zk x1 zM zU)] er11 ?_
         exact zr ((.p (.tup [])), [[(.p (.ml 6 (r11.1.map ZC))), (bv zy), (iv r11.2)], [(.ptr 0 0)], (Zk x1 zM zU)]) ⟨_, rfl⟩
        ·refine ze<|zq ?_
         refine za (x1.Kind == 9) ?_ ?_
         ·refine ze<|zq<|zq<|zq<|zq<|zi fun r12 hr12 => ?_
          obtain ⟨_, er12, _, rfl⟩ := Z1r (Zo.mk 6 x1.Ref 0 0 0 ([] : List Z8)) zE zy zB .sh r12 hr12
          refine zc [0] (iv r12.1) [[(.p (.ml 6 (r12.2.map ZC))), (bv zy), (iv zB)], [(.ptr 0 0)], (Zk x1 zM zU)] er12 ?_
          exact zr ((.p (.tup [])), [[(.p (.ml 6 (r12.2.map ZC))), (bv zy), (iv zB)], [(.ptr 0 0)], (Zk x1 zM zU)]) ⟨_, rfl⟩
         ·exact zr ((.p (.tup [])), [[(.p (.ml 6 (zE.map ZC))), (bv zy), (iv zB)], [(.ptr 0 0)], (Zk x1 zM zU)]) ⟨_, rfl⟩
theorem Zca x1 zE zy zB {r} (h : Z5c x1 zE zy zB = some r) : Z1Q x1 zE zy zB = some r :=
 Z1h (fun _ _ ha hb => ru_ (Z2X _) (ha .ex .ex) (hb .ex .ex)) (fun zM zU => ZhF x1 zE zy zB zM zU r h)
def Z6C (x36 : List Z9) (x37 x38 : Int) (zE : List Zo) (zy : Bool) (zB : Int) : Option ((List Zo) × Int) :=
 (lget x36 x38).bind fun a1 =>
 (Z1Q a1 zE zy zB).bind fun r2 =>
 Z52 x36 x37 (IntKind.i64.wrap (x38 + 1)) r2.1 zy r2.2
theorem Zfd (x36 : List Z9) x37 x38 (zE : List Zo) zy zB ox36 : Sim (Z14 zy) (Z6C x36 x37 x38 zE zy zB) (ZrK 1 (.ptr 1 0) (ZO ox36 (x36.map ZI)) (iv x37) (iv x38) [[(.p (.ml 6 (zE.map ZC))), (bv zy), (iv zB)], [(.ptr 0 0)]]) := by
 unfold Z6C
 refine zf (Zy5 ..)<|ze<|zi fun a1 ha1 => zp (.cptr (ZH a1 .sh .sh)) (et_ (Z2D (o := ox36) (k := .i64) (n := 7) (e := ZI) (cs := Z1W) Z2J (fun _ => rfl) (by decide) ha1))<|zq<|zz (.ptr 2 0) [[(.p (.ml 6 (zE.map ZC))), (bv zy), (iv zB)], [(.ptr 0 0)], (Zk Z1A .nl .nl)]<|zt [[(.p (.ml 6 (zE.map ZC))), (bv zy), (iv zB)], [(.ptr 0 0)], (Zk a1 .sh .sh)]<|ze<|zq<|zq<|zi fun r2 hr2 => ?_
 obtain ⟨_, er2, _, rfl⟩ := Z2L a1 zE zy zB .sh .sh r2 hr2
 refine zc [0] (.p (.tup [])) [[(.p (.ml 6 (r2.1.map ZC))), (bv zy), (iv r2.2)], [(.ptr 0 0)], (Zk a1 .sh .sh)] er2<|ze<|zq ?_
 exact zk (ZaD x36 x37 (IntKind.i64.wrap (x38 + 1)) r2.1 zy r2.2 ox36)
def Z50 (x36 : List Z9) (x37 x38 : Int) (zE : List Zo) (zy : Bool) (zB : Int) : Option ((List Zo) × Int) :=
 if (decide (x38 < x37)) = true then
 (Z6C x36 x37 x38 zE zy zB)
 else
 (some (zE, zB))
theorem Zfc (x36 : List Z9) x37 x38 (zE : List Zo) zy zB ox36 : Sim (Z14 zy) (Z50 x36 x37 x38 zE zy zB) (Zks 1 (.ptr 1 0) (ZO ox36 (x36.map ZI)) (iv x37) (iv x38) [[(.p (.ml 6 (zE.map ZC))), (bv zy), (iv zB)], [(.ptr 0 0)]]) := by
 unfold Z50
 refine zf (Zy4 ..)<|ze<|zq ?_
 refine za (decide (x38 < x37)) ?_ ?_
 ·exact zk (Zfd x36 x37 x38 zE zy zB ox36)
 ·exact zr ((.p (.tup [])), [[(.p (.ml 6 (zE.map ZC))), (bv zy), (iv zB)], [(.ptr 0 0)]]) ⟨_, rfl⟩
theorem ZaC x36 x37 x38 zE zy zB {r} (h : Z50 x36 x37 x38 zE zy zB = some r) : Z52 x36 x37 x38 zE zy zB = some r :=
 Z1h (fun _ _ ha hb => ru_ (Z2X _) (ha .ex) (hb .ex)) (fun ox36 => Zfc x36 x37 x38 zE zy zB ox36 r h)
def Z9H (x0 : List Z8) : Option ((List Z8) × Int) :=
 (Zbx x0).bind fun r1 =>
 (okA r1.1).bind fun a2 =>
 Z7W x0 r1.2 65
theorem Zjr (x0 : List Z8) ox0 : Sim Z2R (Z9H x0) (ZtJ 0 (ZO ox0 (x0.map Zp)) []) := by
 unfold Z9H
 refine zf (ZAi ..)<|ze<|zi fun r1 hr1 => ?_
 obtain ⟨_, er1, _, rfl⟩ := ZjE x0 ox0 r1 hr1
 refine zc [] (ZO r1.1 (r1.2.map Zp)) [] er1<|zi fun a2 ha2 => ze ?_
 exact zk (ZdQ x0 r1.2 65 (shrO ox0) r1.1 (ZI4 ha2))
def Zbm (x0 : List Z8) : Option ((List Z8) × Int) :=
 (Z5T x0).bind fun r1 =>
 if (!r1) = true then
 (some (([] : List Z8), 10))
 else
 (Z9H x0)
theorem Zlq (x0 : List Z8) ox0 : Sim Z2R (Zbm x0) (EE 14 [(ZO ox0 (x0.map Zp))] []) := by
 unfold Zbm
 refine zf (ZG8 ..)<|ze<|ze<|zi fun r1 hr1 => ?_
 obtain ⟨_, er1, _, rfl⟩ := Z8K x0 .sh r1 hr1
 refine zc [] (bv r1) [] er1<|zq ?_
 refine za (!r1) ?_ ?_
 ·refine ze ?_
  exact zr ((.p (.tup [(.lst .sh []), (.v (.int .i64 10))])), []) ⟨_, rfl⟩
 ·exact zk (Zjr x0 ox0)
theorem Zmg x0 {r} (h : Zbm x0 = some r) : Z6H x0 = some r :=
 Z1h (fun _ _ ha hb => ru_ ZaQ (ha .ex) (hb .ex)) (fun ox0 => Zlq x0 ox0 r h)
def Z5i (x0 x4 : List Z8) (x5 : Int) : Option ((List Z8) × Int) :=
 Z7W x0 x4 (IntKind.i32.wrap (x5 + 1))
theorem Zdn (x0 x4 : List Z8) x5 ox0 ox4 (hox4 : ZL ox4 = true) : Sim Z2R (Z5i x0 x4 x5) (ZpU 0 (ZO ox0 (x0.map Zp)) (ZO ox4 (x4.map Zp)) (.p (.v (.int .i32 x5))) []) := by
 unfold Z5i
 refine zf (ZAj ..)<|ze<|zq ?_
 exact zk (ZdQ x0 x4 (IntKind.i32.wrap (x5 + 1)) ox0 ox4 hox4)
def Z6v (x0 x4 : List Z8) (x5 : Int) : Option ((List Z8) × Int) :=
 (lapp x4 ([(Z8.mk (IntKind.i64.wrap x5) (IntKind.i64.wrap x5)), (Z8.mk (IntKind.i64.wrap (IntKind.i32.wrap (x5 + 32))) (IntKind.i64.wrap (IntKind.i32.wrap (x5 + 32))))] : List Z8)).bind fun a1 =>
 Z5i x0 a1 x5
theorem Zdo (x0 x4 : List Z8) x5 ox0 ox4 (hox4 : ZL ox4 = true) : Sim Z2R (Z6v x0 x4 x5) (ZpV 0 (ZO ox0 (x0.map Zp)) (ZO ox4 (x4.map Zp)) (.p (.v (.int .i32 x5))) []) := by
 unfold Z6v
 refine zf (ZAl ..)<|ze<|zq<|zq<|zq<|zq<|zq<|zq<|zq<|zq<|zq<|zi fun a1 ha1 => zp (ZO .un (a1.map Zp)) (Eq.trans (by kernel_rfl) <| ZeU (n := 2) (o := ox4) (o' := .ex) (e := Zp) (ys := ([(Z8.mk (IntKind.i64.wrap x5) (IntKind.i64.wrap x5)), (Z8.mk (IntKind.i64.wrap (IntKind.i32.wrap (x5 + 32))) (IntKind.i64.wrap (IntKind.i32.wrap (x5 + 32))))] : List Z8)) (fun _ => rfl) (by decide) hox4 ha1) ?_
 exact zk (Zdn x0 a1 x5 ox0 .un rfl)
def Z9I (x0 x4 : List Z8) (x5 : Int) : Option ((List Z8) × Int) :=
 (Z7v x0 (IntKind.i64.wrap x5)).bind fun r1 =>
 if r1 = true then
 (Z6v x0 x4 x5)
 else
 ((Z7v x0 (IntKind.i64.wrap (IntKind.i32.wrap (x5 + 32)))).bind fun r2 =>
 if r2 = true then
 (Z6v x0 x4 x5)
 else
 (Z5i x0 x4 x5))
theorem Zjs (x0 x4 : List Z8) x5 ox0 ox4 (hox4 : ZL ox4 = true) : Sim Z2R (Z9I x0 x4 x5) (ZtK 0 (ZO ox0 (x0.map Zp)) (ZO ox4 (x4.map Zp)) (.p (.v (.int .i32 x5))) []) := by
 unfold Z9I
 refine zf (ZAk ..)<|ze<|zq<|zi fun r1 hr1 => ?_
 obtain ⟨_, er1, _, rfl⟩ := Zco x0 (IntKind.i64.wrap x5) .sh r1 hr1
 refine zc [] (bv r1) [] er1 ?_
 refine za r1 ?_ ?_
 ·exact zk (Zdo x0 x4 x5 ox0 ox4 hox4)
 ·refine zq<|zq<|zi fun r2 hr2 => ?_
  obtain ⟨_, er2, _, rfl⟩ := Zco x0 (IntKind.i64.wrap (IntKind.i32.wrap (x5 + 32))) .sh r2 hr2
  refine zc [] (bv r2) [] er2 ?_
  refine za r2 ?_ ?_
  ·exact zk (Zdo x0 x4 x5 ox0 ox4 hox4)
  ·exact zk (Zdn x0 x4 x5 ox0 ox4 hox4)
def Z9J (x4 : List Z8) : Option ((List Z8) × Int) :=
 (ZaZ x4).bind fun r1 =>
 some (r1, 0)
theorem Zjt (x4 : List Z8) ox4 (hox4 : ZL ox4 = true) : Sim Z2R (Z9J x4) (ZtL 0 (ZO ox4 (x4.map Zp)) []) := by
 unfold Z9J
 refine zf (ZAm ..)<|ze<|zi fun r1 hr1 => ?_
 obtain ⟨_, er1, _, rfl⟩ := Zdu x4 .sh r1 hr1
 refine zc [] (ZO .sh (r1.map Zp)) [] er1 ?_
 exact zr ((.p (.tup [(.lst .sh (r1.map Zp)), (.v (.int .i64 0))])), []) ⟨_, rfl⟩
def Z7S (x0 x4 : List Z8) (x5 : Int) : Option ((List Z8) × Int) :=
 if (decide (x5 < 91)) = true then
 (Z9I x0 x4 x5)
 else
 (Z9J x4)
theorem Zjq (x0 x4 : List Z8) x5 ox0 ox4 (hox4 : ZL ox4 = true) : Sim Z2R (Z7S x0 x4 x5) (ZmC 0 (ZO ox0 (x0.map Zp)) (ZO ox4 (x4.map Zp)) (.p (.v (.int .i32 x5))) []) := by
 unfold Z7S
 refine zf (ZAh ..)<|ze<|zq ?_
 refine za (decide (x5 < 91)) ?_ ?_
 ·exact zk (Zjs x0 x4 x5 ox0 ox4 hox4)
 ·exact zk (Zjt x4 ox4 hox4)
theorem ZdP x0 x4 x5 {r} (h : Z7S x0 x4 x5 = some r) : Z7W x0 x4 x5 = some r :=
 Z1h (fun _ _ ha hb => ru_ ZaQ (ha .ex .ex rfl) (hb .ex .ex rfl)) (fun ox0 ox4 hox4 => Zjq x0 x4 x5 ox0 ox4 hox4 r h)
def Z8G (x1 : List Z9) (zE : List Zo) (zy : Bool) (zB : Int) : Option ((List Zo) × Int) :=
 (lsl x1 0 (IntKind.i64.wrap ((x1.length : Int) - 1))).bind fun a1 =>
 Z5U x1 ([] : List Int) (IntKind.i64.wrap ((x1.length : Int) - 1)) a1 (a1.length : Int) 0 zE zy zB
theorem Zij (x1 : List Z9) (zE : List Zo) zy zB ox1 : Sim (Z14 zy) (Z8G x1 zE zy zB) (EE 40 [(.ptr 0 0), (ZO ox1 (x1.map ZI))] [[(.p (.ml 6 (zE.map ZC))), (bv zy), (iv zB)]]) := by
 unfold Z8G
 refine zf (ZGL ..)<|ze<|ze<|zp (iv (x1.length : Int)) (et_ (Z3d (P := PP) (t := 29) (d := 31) (by kernel_rfl) ZI (shrO ox1) x1))<|zq<|ze<|zi fun a1 ha1 => zp (ZO (slO (shrO ox1)) (a1.map ZI)) (Eq.trans (by kernel_rfl) <| Zwu (n := 7) (o := (shrO ox1)) (lo := none) (hi := (some (iv (IntKind.i64.wrap ((x1.length : Int) - 1))))) (e := ZI) Zgn (by decide) (by kernel_rfl) (by kernel_rfl) ha1)<|zp (iv (a1.length : Int)) (et_ (Z3d (P := PP) (t := 29) (d := 31) (by kernel_rfl) ZI (slO (shrO ox1)) a1)) ?_
 exact zk (Zbf x1 ([] : List Int) (IntKind.i64.wrap ((x1.length : Int) - 1)) a1 (a1.length : Int) 0 zE zy zB ox1 .nl (slO (shrO ox1)) rfl)
theorem Zj6 x1 zE zy zB {r} (h : Z8G x1 zE zy zB = some r) : Z6Z x1 zE zy zB = some r :=
 Z1h (fun _ _ ha hb => ru_ (Z2X _) (ha .ex) (hb .ex)) (fun ox1 => Zij x1 zE zy zB ox1 r h)
def Z7m (x1 : List Z9) (x4 : List Int) (x5 : Int) (x16 : List Z9) (x17 x18 : Int) (zE : List Zo) (zy : Bool) (zB : Int) : Option ((List Zo) × Int) :=
 (lget x16 x18).bind fun a1 =>
 (Z1j (Zo.mk 3 0 0 0 0 ([] : List Z8)) zE).bind fun r2 =>
 (Z1Q a1 r2.2 zy zB).bind fun r3 =>
 (Z1j (Zo.mk 2 0 0 0 0 ([] : List Z8)) r3.1).bind fun r4 =>
 (lapp x4 ([r4.1] : List Int)).bind fun a5 =>
 (Z4T r2.1 (IntKind.i64.wrap (r2.1 + 1)) (r4.2.length : Int) false r4.2).bind fun r6 =>
 Z5U x1 a5 x5 x16 x17 (IntKind.i64.wrap (x18 + 1)) r6 zy r3.2
theorem Zgc (x1 : List Z9) (x4 : List Int) x5 (x16 : List Z9) x17 x18 (zE : List Zo) zy zB ox1 ox4 ox16 (hox4 : ZL ox4 = true) : Sim (Z14 zy) (Z7m x1 x4 x5 x16 x17 x18 zE zy zB) (Zul 1 (.ptr 0 0) (ZO ox1 (x1.map ZI)) (ZO ox4 (x4.map (eI .i64))) (iv x5) (ZO ox16 (x16.map ZI)) (iv x17) (iv x18) [[(.p (.ml 6 (zE.map ZC))), (bv zy), (iv zB)]]) := by
 unfold Z7m
 refine zf (ZAW ..)<|ze<|zi fun a1 ha1 => zp (.cptr (ZH a1 .sh .sh)) (et_ (Z2D (o := ox16) (k := .i64) (n := 7) (e := ZI) (cs := Z1W) Z2J (fun _ => rfl) (by decide) ha1))<|zq<|zz (.ptr 1 0) [[(.p (.ml 6 (zE.map ZC))), (bv zy), (iv zB)], (Zk Z1A .nl .nl)]<|zt [[(.p (.ml 6 (zE.map ZC))), (bv zy), (iv zB)], (Zk a1 .sh .sh)]<|ze<|zq<|zi fun r2 hr2 => ?_
 obtain ⟨_, er2, _, rfl⟩ := Z1r (Zo.mk 3 0 0 0 0 ([] : List Z8)) zE zy zB .sh r2 hr2
 refine zc [0] (iv r2.1) [[(.p (.ml 6 (r2.2.map ZC))), (bv zy), (iv zB)], (Zk a1 .sh .sh)] er2<|ze<|zq<|zi fun r3 hr3 => ?_
 obtain ⟨_, er3, _, rfl⟩ := Z2L a1 r2.2 zy zB .sh .sh r3 hr3
 refine zc [0] (.p (.tup [])) [[(.p (.ml 6 (r3.1.map ZC))), (bv zy), (iv r3.2)], (Zk a1 .sh .sh)] er3<|ze<|zq<|zi fun r4 hr4 => ?_
 obtain ⟨_, er4, _, rfl⟩ := Z1r (Zo.mk 2 0 0 0 0 ([] : List Z8)) r3.1 zy r3.2 .sh r4 hr4
 refine zc [0] (iv r4.1) [[(.p (.ml 6 (r4.2.map ZC))), (bv zy), (iv r3.2)], (Zk a1 .sh .sh)] er4<|zq<|zi fun a5 ha5 => zp (ZO .un (a5.map (eI .i64))) (Eq.trans (by kernel_rfl) <| ZeU (n := 1) (o := ox4) (o' := .ex) (e := (eI .i64)) (ys := ([r4.1] : List Int)) (fun _ => rfl) (by decide) hox4 ha5)<|ze<|zq<|zq<|zq<|zq<|zp (iv (r4.2.length : Int)) (et_ (ZbX (P := PP) (t := 23) (d := 40) (by kernel_rfl) ZC r4.2))<|zi fun r6 hr6 => ?_
 obtain ⟨_, er6, _, rfl⟩ := Z8R r2.1 (IntKind.i64.wrap (r2.1 + 1)) (r4.2.length : Int) false r4.2 zy r3.2 r6 hr6
 refine zc [0] (.p (.tup [])) [[(.p (.ml 6 (r6.map ZC))), (bv zy), (iv r3.2)], (Zk a1 .sh .sh)] er6<|ze<|zq ?_
 exact zk (Zbf x1 a5 x5 x16 x17 (IntKind.i64.wrap (x18 + 1)) r6 zy r3.2 ox1 .un ox16 rfl)
def Z5p (x1 : List Z9) (x4 : List Int) (x5 : Int) (zE : List Zo) (zy : Bool) (zB : Int) : Option ((List Zo) × Int) :=
 (lget x1 x5).bind fun a1 =>
 (Z1Q a1 zE zy zB).bind fun r2 =>
 Z5u x4 (x4.length : Int) 0 r2.1 r2.2
theorem ZfK (x1 : List Z9) (x4 : List Int) x5 (zE : List Zo) zy zB ox1 ox4 (hox4 : ZL ox4 = true) : Sim (Z14 zy) (Z5p x1 x4 x5 zE zy zB) (ZrL 1 (.ptr 0 0) (ZO ox1 (x1.map ZI)) (ZO ox4 (x4.map (eI .i64))) (iv x5) [[(.p (.ml 6 (zE.map ZC))), (bv zy), (iv zB)]]) := by
 unfold Z5p
 refine zf (Zy9 ..)<|ze<|zi fun a1 ha1 => zp (.cptr (ZH a1 .sh .sh)) (et_ (Z2D (o := (shrO ox1)) (k := .i64) (n := 7) (e := ZI) (cs := Z1W) Z2J (fun _ => rfl) (by decide) ha1))<|zq<|zi fun r2 hr2 => ?_
 obtain ⟨_, er2, _, rfl⟩ := Z2L a1 zE zy zB .sh .sh r2 hr2
 refine zc [0] (.p (.tup [])) [[(.p (.ml 6 (r2.1.map ZC))), (bv zy), (iv r2.2)]] er2<|ze<|zp (iv (x4.length : Int)) (et_ (Z3d (P := PP) (t := 96) (d := 3) (by kernel_rfl) (eI .i64) (shrO ox4) x4)) ?_
 exact zk (Zb8 x4 (x4.length : Int) 0 r2.1 zy r2.2 (shrO ox4))
def Z5R (x1 : List Z9) (x4 : List Int) (x5 : Int) (x16 : List Z9) (x17 x18 : Int) (zE : List Zo) (zy : Bool) (zB : Int) : Option ((List Zo) × Int) :=
 if (decide (x18 < x17)) = true then
 (Z7m x1 x4 x5 x16 x17 x18 zE zy zB)
 else
 (Z5p x1 x4 x5 zE zy zB)
theorem Zgb (x1 : List Z9) (x4 : List Int) x5 (x16 : List Z9) x17 x18 (zE : List Zo) zy zB ox1 ox4 ox16 (hox4 : ZL ox4 = true) : Sim (Z14 zy) (Z5R x1 x4 x5 x16 x17 x18 zE zy zB) (ZmM 1 (.ptr 0 0) (ZO ox1 (x1.map ZI)) (ZO ox4 (x4.map (eI .i64))) (iv x5) (ZO ox16 (x16.map ZI)) (iv x17) (iv x18) [[(.p (.ml 6 (zE.map ZC))), (bv zy), (iv zB)]]) := by
 unfold Z5R
 refine zf (ZAV ..)<|ze<|zq ?_
 refine za (decide (x18 < x17)) ?_ ?_
 ·exact zk (Zgc x1 x4 x5 x16 x17 x18 zE zy zB ox1 ox4 ox16 hox4)
 ·exact zk (ZfK x1 x4 x5 zE zy zB ox1 ox4 hox4)
theorem Zbe x1 x4 x5 x16 x17 x18 zE zy zB {r} (h : Z5R x1 x4 x5 x16 x17 x18 zE zy zB = some r) : Z5U x1 x4 x5 x16 x17 x18 zE zy zB = some r :=
 Z1h (fun _ _ ha hb => ru_ (Z2X _) (ha .ex .ex .ex rfl) (hb .ex .ex .ex rfl)) (fun ox1 ox4 ox16 hox4 => Zgb x1 x4 x5 x16 x17 x18 zE zy zB ox1 ox4 ox16 hox4 r h)
def Z77 (x51 : List Int) (x52 x53 : Int) (zE : List Zo) (zB : Int) : Option ((List Zo) × Int) :=
 (lget x51 x53).bind fun a1 =>
 (lget zE a1).bind fun a2 =>
 (lget zE a1).bind fun a3 =>
 Z5u x51 x52 (IntKind.i64.wrap (x53 + 1)) (lset zE a1 (Zo.mk a3.Op (zE.length : Int) a3.B a3.C a3.D a3.Set)) zB
theorem ZfL (x51 : List Int) x52 x53 (zE : List Zo) zy zB ox51 : Sim (Z14 zy) (Z77 x51 x52 x53 zE zB) (ZrM 1 (.ptr 0 0) (ZO ox51 (x51.map (eI .i64))) (iv x52) (iv x53) [[(.p (.ml 6 (zE.map ZC))), (bv zy), (iv zB)]]) := by
 unfold Z77
 refine zf (Zya ..)<|ze<|zi fun a1 ha1 => zp (.cptr [(.v (.int .i64 a1))]) (et_ (Z2D (o := ox51) (k := .i64) (n := 1) (e := (eI .i64)) (cs := (fun a => [(eI .i64) a])) (fun _ => rfl) (fun _ => rfl) (by decide) ha1))<|zq<|ze<|zq<|zq<|zq<|zq<|zq<|zq<|zp (iv (zE.length : Int)) (et_ (ZbX (P := PP) (t := 23) (d := 40) (by kernel_rfl) ZC zE))<|zi fun a2 ha2 => zp (.p (.jnk (.ep 0 0 6 (Int.toNat a1) 0))) (et_ (ZkY (e := ZC) (n := 6) (id := 0) (off := 0) (k := .i64) (by decide) ha2))<|zq<|zi fun a3 ha3 => zb [[(.p (.ml 6 ((lset zE a1 (Zo.mk a3.Op (zE.length : Int) a3.B a3.C a3.D a3.Set)).map ZC))), (bv zy), (iv zB)]] (Eq.trans (b := stEl 1 (.p (.jnk (.ep 0 0 6 (Int.toNat a1) 1))) (iv (zE.length : Int)) [[(.p (.ml 6 (zE.map ZC))), (bv zy), (iv zB)]]) (by kernel_rfl) (ZiN (e := ZC) (row := [(.p (.ml 6 (zE.map ZC))), (bv zy), (iv zB)]) (n := 6) (l := zE) (a' := (Zo.mk a3.Op (zE.length : Int) a3.B a3.C a3.D a3.Set)) (by kernel_rfl) ha3 (by kernel_rfl) (by kernel_rfl)))<|ze<|zq ?_
 exact zk (Zb8 x51 x52 (IntKind.i64.wrap (x53 + 1)) (lset zE a1 (Zo.mk a3.Op (zE.length : Int) a3.B a3.C a3.D a3.Set)) zy zB ox51)
def Z5o (x51 : List Int) (x52 x53 : Int) (zE : List Zo) (zB : Int) : Option ((List Zo) × Int) :=
 if (decide (x53 < x52)) = true then
 (Z77 x51 x52 x53 zE zB)
 else
 (some (zE, zB))
theorem ZfJ (x51 : List Int) x52 x53 (zE : List Zo) zy zB ox51 : Sim (Z14 zy) (Z5o x51 x52 x53 zE zB) (Zku 1 (.ptr 0 0) (ZO ox51 (x51.map (eI .i64))) (iv x52) (iv x53) [[(.p (.ml 6 (zE.map ZC))), (bv zy), (iv zB)]]) := by
 unfold Z5o
 refine zf (Zy8 ..)<|ze<|zq ?_
 refine za (decide (x53 < x52)) ?_ ?_
 ·exact zk (ZfL x51 x52 x53 zE zy zB ox51)
 ·exact zr ((.p (.tup [])), [[(.p (.ml 6 (zE.map ZC))), (bv zy), (iv zB)]]) ⟨_, rfl⟩
theorem Zb7 x51 x52 x53 zE zB {r} (h : Z5o x51 x52 x53 zE zB = some r) : Z5u x51 x52 x53 zE zB = some r :=
 Z1h (fun _ _ ha hb => ru_ (Z2X _) (ha default .ex) (hb default .ex)) (fun zy ox51 => ZfJ x51 x52 x53 zE zy zB ox51 r h)
def Z51 (x1 x2 x3 : Int) (zE : List Zo) : Option (List Zo) :=
 (lget zE x1).bind fun a1 =>
 (lget zE x1).bind fun a2 =>
 (lget zE x1).bind fun a3 =>
 (lget (lset zE x1 (Zo.mk a2.Op x2 a2.B a2.C a2.D a2.Set)) x1).bind fun a4 =>
 some (lset (lset zE x1 (Zo.mk a2.Op x2 a2.B a2.C a2.D a2.Set)) x1 (Zo.mk a4.Op a4.A x3 a4.C a4.D a4.Set))
theorem Zao x1 x2 x3 (zE : List Zo) zy zB : Sim (Z6j zy zB) (Z51 x1 x2 x3 zE) (Zqq 1 (.ptr 0 0) (iv x1) (iv x2) (iv x3) [[(.p (.ml 6 (zE.map ZC))), (bv zy), (iv zB)]]) := by
 unfold Z51
 refine zf (ZBn ..)<|ze<|zq<|zq<|zq<|zq<|zq<|zq<|zi fun a1 ha1 => zp (.p (.jnk (.ep 0 0 6 (Int.toNat x1) 0))) (et_ (ZkY (e := ZC) (n := 6) (id := 0) (off := 0) (k := .i64) (by decide) ha1))<|zq<|zi fun a2 ha2 => zb [[(.p (.ml 6 ((lset zE x1 (Zo.mk a2.Op x2 a2.B a2.C a2.D a2.Set)).map ZC))), (bv zy), (iv zB)]] (Eq.trans (b := stEl 1 (.p (.jnk (.ep 0 0 6 (Int.toNat x1) 1))) (iv x2) [[(.p (.ml 6 (zE.map ZC))), (bv zy), (iv zB)]]) (by kernel_rfl) (ZiN (e := ZC) (row := [(.p (.ml 6 (zE.map ZC))), (bv zy), (iv zB)]) (n := 6) (l := zE) (a' := (Zo.mk a2.Op x2 a2.B a2.C a2.D a2.Set)) (by kernel_rfl) ha2 (by kernel_rfl) (by kernel_rfl)))<|zi fun a3 ha3 => zp (.p (.jnk (.ep 0 0 6 (Int.toNat x1) 0))) (et_ (ZkY (e := ZC) (n := 6) (id := 0) (off := 0) (k := .i64) (by decide) ha3))<|zq<|zi fun a4 ha4 => zb [[(.p (.ml 6 ((lset (lset zE x1 (Zo.mk a2.Op x2 a2.B a2.C a2.D a2.Set)) x1 (Zo.mk a4.Op a4.A x3 a4.C a4.D a4.Set)).map ZC))), (bv zy), (iv zB)]] (Eq.trans (b := stEl 1 (.p (.jnk (.ep 0 0 6 (Int.toNat x1) 2))) (iv x3) [[(.p (.ml 6 ((lset zE x1 (Zo.mk a2.Op x2 a2.B a2.C a2.D a2.Set)).map ZC))), (bv zy), (iv zB)]]) (by kernel_rfl) (ZiN (e := ZC) (row := [(.p (.ml 6 ((lset zE x1 (Zo.mk a2.Op x2 a2.B a2.C a2.D a2.Set)).map ZC))), (bv zy), (iv zB)]) (n := 6) (l := (lset zE x1 (Zo.mk a2.Op x2 a2.B a2.C a2.D a2.Set))) (a' := (Zo.mk a4.Op a4.A x3 a4.C a4.D a4.Set)) (by kernel_rfl) ha4 (by kernel_rfl) (by kernel_rfl))) ?_
 exact zr ((.p (.tup [])), [[(.p (.ml 6 ((lset (lset zE x1 (Zo.mk a2.Op x2 a2.B a2.C a2.D a2.Set)) x1 (Zo.mk a4.Op a4.A x3 a4.C a4.D a4.Set)).map ZC))), (bv zy), (iv zB)]]) ⟨_, rfl⟩
def Z7N (x1 x2 x3 : Int) (x4 : Bool) (zE : List Zo) : Option (List Zo) :=
 if x4 = true then
 (Z51 x1 x3 x2 zE)
 else
 (Z51 x1 x2 x3 zE)
theorem Zhd x1 x2 x3 x4 (zE : List Zo) zy zB : Sim (Z6j zy zB) (Z7N x1 x2 x3 x4 zE) (EE 58 [(.ptr 0 0), (iv x1), (iv x2), (iv x3), (bv x4)] [[(.p (.ml 6 (zE.map ZC))), (bv zy), (iv zB)]]) := by
 unfold Z7N
 refine zf (ZHa ..)<|ze ?_
 refine za x4 ?_ ?_
 ·refine ze ?_
  exact zk (Zao x1 x3 x2 zE zy zB)
 ·exact zk (Zao x1 x2 x3 zE zy zB)
theorem ZhG x1 x2 x3 x4 zE {r} (h : Z7N x1 x2 x3 x4 zE = some r) : Z4T x1 x2 x3 x4 zE = some r :=
 Z1h (fun _ _ ha hb => ru_ (ZhU _ _) (ha default default) (hb default default)) (fun zy zB => Zhd x1 x2 x3 x4 zE zy zB r h)
def Z7r (x1 : Zo) (zE : List Zo) (zy : Bool) (zB : Int) (b2 : Z9) : Option ((List Zo) × Int) :=
 (Z1j x1 zE).bind fun r1 =>
 (Z7x b2 r1.2 zy zB).bind fun r2 =>
 (Z1j (Zo.mk 9 0 0 0 0 ([] : List Z8)) r2.1).bind fun r3 =>
 (lget r3.2 r1.1).bind fun a4 =>
 (lget r3.2 r1.1).bind fun a5 =>
 some ((lset r3.2 r1.1 (Zo.mk a5.Op a5.A (r3.2.length : Int) a5.C a5.D a5.Set)), r2.2)
theorem Zgh x1 (zE : List Zo) zy zB b2 zM z18 zY : Sim (Z3x zy b2 z18 zY) (Z7r x1 zE zy zB b2) (EE 41 [(.ptr 0 0), (pA_ (Z1m x1 zM)), (.clo 42 [] [(.ptr 1 0), (.ptr 2 0)])] [[(.p (.ml 6 (zE.map ZC))), (bv zy), (iv zB)], [(.ptr 0 0)], (Zk b2 z18 zY)]) := by
 unfold Z7r
 refine zf (Zum ..)<|ze<|zx (.ptr 3 0) [[(.p (.ml 6 (zE.map ZC))), (bv zy), (iv zB)], [(.ptr 0 0)], (Zk b2 z18 zY), (Z1k x1 zM)]<|ze<|zq<|zi fun r1 hr1 => ?_
 obtain ⟨_, er1, _, rfl⟩ := Z1r x1 zE zy zB .sh r1 hr1
 refine zc [0] (iv r1.1) [[(.p (.ml 6 (r1.2.map ZC))), (bv zy), (iv zB)], [(.ptr 0 0)], (Zk b2 z18 zY), (Z1k x1 zM)] er1<|ze<|zi fun r2 hr2 => ?_
 obtain ⟨_, er2, _, rfl⟩ := Zh7 b2 r1.2 zy zB z18 zY r2 hr2
 refine zv [1, 2, 0] (.p (.tup [])) [[(.p (.ml 6 (r2.1.map ZC))), (bv zy), (iv r2.2)], [(.ptr 0 0)], (Zk b2 z18 zY), (Z1k x1 zM)] er2<|ze<|zq<|zi fun r3 hr3 => ?_
 obtain ⟨_, er3, _, rfl⟩ := Z1r (Zo.mk 9 0 0 0 0 ([] : List Z8)) r2.1 zy r2.2 .sh r3 hr3
 refine zc [0] (iv r3.1) [[(.p (.ml 6 (r3.2.map ZC))), (bv zy), (iv r2.2)], [(.ptr 0 0)], (Zk b2 z18 zY), (Z1k x1 zM)] er3<|ze<|zq<|zq<|zq<|zq<|zq<|zq<|zp (iv (r3.2.length : Int)) (et_ (ZbX (P := PP) (t := 23) (d := 40) (by kernel_rfl) ZC r3.2))<|zi fun a4 ha4 => zp (.p (.jnk (.ep 0 0 6 (Int.toNat r1.1) 0))) (et_ (ZkY (e := ZC) (n := 6) (id := 0) (off := 0) (k := .i64) (by decide) ha4))<|zq<|zi fun a5 ha5 => zb [[(.p (.ml 6 ((lset r3.2 r1.1 (Zo.mk a5.Op a5.A (r3.2.length : Int) a5.C a5.D a5.Set)).map ZC))), (bv zy), (iv r2.2)], [(.ptr 0 0)], (Zk b2 z18 zY), (Z1k x1 zM)] (Eq.trans (b := stEl 1 (.p (.jnk (.ep 0 0 6 (Int.toNat r1.1) 2))) (iv (r3.2.length : Int)) [[(.p (.ml 6 (r3.2.map ZC))), (bv zy), (iv r2.2)], [(.ptr 0 0)], (Zk b2 z18 zY), (Z1k x1 zM)]) (by kernel_rfl) (ZiN (e := ZC) (row := [(.p (.ml 6 (r3.2.map ZC))), (bv zy), (iv r2.2)]) (n := 6) (l := r3.2) (a' := (Zo.mk a5.Op a5.A (r3.2.length : Int) a5.C a5.D a5.Set)) (by kernel_rfl) ha5 (by kernel_rfl) (by kernel_rfl))) ?_
 exact zr ((.p (.tup [])), [[(.p (.ml 6 ((lset r3.2 r1.1 (Zo.mk a5.Op a5.A (r3.2.length : Int) a5.C a5.D a5.Set)).map ZC))), (bv zy), (iv r2.2)], [(.ptr 0 0)], (Zk b2 z18 zY), (Z1k x1 zM)]) ⟨_, rfl⟩
theorem Zhe x1 zE zy zB b2 {r} (h : Z7r x1 zE zy zB b2 = some r) : Z4H x1 zE zy zB b2 = some r :=
 Z1h (fun _ _ ha hb => ru_ (Z8P _ _ _ _) (ha .ex .ex .ex) (hb .ex .ex .ex)) (fun zM z18 zY => Zgh x1 zE zy zB b2 zM z18 zY r h)
def Z7n (b1 : Z9) (z2Z : List Zo) (z1L : Bool) (z2e : Int) : Option ((List Zo) × Int) :=
 (Z4E b1 z2Z z1L z2e).bind fun r1 =>
 some (r1.1, r1.2)
theorem Zgd b1 (z2Z : List Zo) z1L z2e zG zD : Sim (Z3w b1 z1L zG zD) (Z7n b1 z2Z z1L z2e) (EE 42 [(.ptr 0 0), (.ptr 1 0)] [[(.ptr 2 0)], (Zk b1 zG zD), [(.p (.ml 6 (z2Z.map ZC))), (bv z1L), (iv z2e)]]) := by
 unfold Z7n
 refine zf (ZGP ..)<|ze<|zq<|zq<|zi fun r1 hr1 => ?_
 obtain ⟨_, er1, _, rfl⟩ := Zbg b1 z2Z z1L z2e .sh .sh r1 hr1
 refine zc [2] (.p (.tup [])) [[(.ptr 2 0)], (Zk b1 zG zD), [(.p (.ml 6 (r1.1.map ZC))), (bv z1L), (iv r1.2)]] er1 ?_
 exact zr ((.p (.tup [])), [[(.ptr 2 0)], (Zk b1 zG zD), [(.p (.ml 6 (r1.1.map ZC))), (bv z1L), (iv r1.2)]]) ⟨_, rfl⟩
theorem Zh6 b1 z2Z z1L z2e {r} (h : Z7n b1 z2Z z1L z2e = some r) : Z7x b1 z2Z z1L z2e = some r :=
 Z1h (fun _ _ ha hb => ru_ (Z8O _ _ _ _) (ha .ex .ex) (hb .ex .ex)) (fun zG zD => Zgd b1 z2Z z1L z2e zG zD r h)
def Z7q (x1 : Z9) (zE : List Zo) (zy : Bool) (zB : Int) : Option ((List Zo) × Int) :=
 Z4O (x1.Mode == 1) x1.Lo 0 zE zy zB x1
theorem Zgg x1 (zE : List Zo) zy zB zM zU : Sim (Z14 zy) (Z7q x1 zE zy zB) (EE 43 [(.ptr 0 0), (pA_ (ZH x1 zM zU))] [[(.p (.ml 6 (zE.map ZC))), (bv zy), (iv zB)]]) := by
 unfold Z7q
 refine zf (ZGQ ..)<|ze<|zx (.ptr 1 0) [[(.p (.ml 6 (zE.map ZC))), (bv zy), (iv zB)], (Zk x1 zM zU)]<|ze<|zq<|zq<|zq<|ze<|zq<|zq ?_
 exact zk (Zan (x1.Mode == 1) x1.Lo 0 zE zy zB x1 zM zU)
theorem Zhc x1 zE zy zB {r} (h : Z7q x1 zE zy zB = some r) : Z4E x1 zE zy zB = some r :=
 Z1h (fun _ _ ha hb => ru_ (Z2X _) (ha .ex .ex) (hb .ex .ex)) (fun zM zU => Zgg x1 zE zy zB zM zU r h)
def Z65 (x4 : Bool) (zE : List Zo) (zy : Bool) (zB : Int) (b1 : Z9) : Option ((List Zo) × Int) :=
 Z4F x4 ([] : List Int) (IntKind.i64.wrap (b1.Hi - b1.Lo)) 0 zE zy zB b1
theorem Zem x4 (zE : List Zo) zy zB b1 zG zD : Sim (Z14 zy) (Z65 x4 zE zy zB b1) (ZrN 1 (.ptr 0 0) (.ptr 1 0) (bv x4) [[(.p (.ml 6 (zE.map ZC))), (bv zy), (iv zB)], (Zk b1 zG zD)]) := by
 unfold Z65
 refine zf (Zyd ..)<|ze<|ze<|zq<|zq<|zq<|zq<|zq ?_
 exact zk (Z9R x4 ([] : List Int) (IntKind.i64.wrap (b1.Hi - b1.Lo)) 0 zE zy zB b1 .nl zG zD rfl)
def Z3z (x4 : Bool) (zE : List Zo) (zy : Bool) (zB : Int) (b1 : Z9) : Option ((List Zo) × Int) :=
 if (decide (b1.Hi < 0)) = true then
 ((lget b1.Kids 0).bind fun a1 =>
 (Z8i a1 x4 zE zy zB).bind fun r2 =>
 some (r2.1, r2.2))
 else
 (Z65 x4 zE zy zB b1)
theorem Z9U x4 (zE : List Zo) zy zB b1 zG zD : Sim (Z14 zy) (Z3z x4 zE zy zB b1) (Zqf 1 (.ptr 0 0) (.ptr 1 0) (bv x4) [[(.p (.ml 6 (zE.map ZC))), (bv zy), (iv zB)], (Zk b1 zG zD)]) := by
 unfold Z3z
 refine zf (ZB1 ..)<|ze<|zq<|zq<|zq ?_
 refine za (decide (b1.Hi < 0)) ?_ ?_
 ·refine ze<|zq<|zq<|zi fun a1 ha1 => zp (.cptr (ZH a1 .sh .sh)) (et_ (Z2D (o := (shrO zD)) (k := .i64) (n := 7) (e := ZI) (cs := Z1W) Z2J (fun _ => rfl) (by decide) ha1))<|zq<|zi fun r2 hr2 => ?_
  obtain ⟨_, er2, _, rfl⟩ := Zil a1 x4 zE zy zB .sh .sh r2 hr2
  refine zc [0] (.p (.tup [])) [[(.p (.ml 6 (r2.1.map ZC))), (bv zy), (iv r2.2)], (Zk b1 zG zD)] er2 ?_
  exact zr ((.p (.tup [])), [[(.p (.ml 6 (r2.1.map ZC))), (bv zy), (iv r2.2)], (Zk b1 zG zD)]) ⟨_, rfl⟩
 ·exact zk (Zem x4 zE zy zB b1 zG zD)
def Z6p (x4 : Bool) (x13 x14 : Int) (zE : List Zo) (zy : Bool) (zB : Int) (b1 : Z9) : Option ((List Zo) × Int) :=
 Z4O x4 x13 (IntKind.i64.wrap (x14 + 1)) zE zy zB b1
theorem ZeX x4 x13 x14 (zE : List Zo) zy zB b1 zG zD : Sim (Z14 zy) (Z6p x4 x13 x14 zE zy zB b1) (Zur 1 (.ptr 0 0) (.ptr 1 0) (bv x4) (iv x13) (iv x14) [[(.p (.ml 6 (zE.map ZC))), (bv zy), (iv zB)], (Zk b1 zG zD)]) := by
 unfold Z6p
 refine zf (ZB0 ..)<|ze<|zq ?_
 exact zk (Zan x4 x13 (IntKind.i64.wrap (x14 + 1)) zE zy zB b1 zG zD)
def Z6o (x4 : Bool) (x13 x14 : Int) (zE : List Zo) (zy : Bool) (zB : Int) (b1 : Z9) : Option ((List Zo) × Int) :=
 (lget b1.Kids 0).bind fun a1 =>
 (Z1Q a1 zE zy zB).bind fun r2 =>
 if ((r2.1.length : Int) == (zE.length : Int)) = true then
 (Z3z x4 r2.1 zy r2.2 b1)
 else
 (Z6p x4 x13 x14 r2.1 zy r2.2 b1)
theorem ZeW x4 x13 x14 (zE : List Zo) zy zB b1 zG zD : Sim (Z14 zy) (Z6o x4 x13 x14 zE zy zB b1) (Zuq 1 (.ptr 0 0) (.ptr 1 0) (bv x4) (iv x13) (iv x14) [[(.p (.ml 6 (zE.map ZC))), (bv zy), (iv zB)], (Zk b1 zG zD)]) := by
 unfold Z6o
 refine zf (ZAZ ..)<|ze<|zq<|zq<|zq<|zp (iv (zE.length : Int)) (et_ (ZbX (P := PP) (t := 23) (d := 40) (by kernel_rfl) ZC zE))<|ze<|zq<|zq<|zi fun a1 ha1 => zp (.cptr (ZH a1 .sh .sh)) (et_ (Z2D (o := (shrO zD)) (k := .i64) (n := 7) (e := ZI) (cs := Z1W) Z2J (fun _ => rfl) (by decide) ha1))<|zq<|zi fun r2 hr2 => ?_
 obtain ⟨_, er2, _, rfl⟩ := Z2L a1 zE zy zB .sh .sh r2 hr2
 refine zc [0] (.p (.tup [])) [[(.p (.ml 6 (r2.1.map ZC))), (bv zy), (iv r2.2)], (Zk b1 zG zD)] er2<|ze<|zq<|zq<|zq<|zp (iv (r2.1.length : Int)) (et_ (ZbX (P := PP) (t := 23) (d := 40) (by kernel_rfl) ZC r2.1))<|zq ?_
 refine za ((r2.1.length : Int) == (zE.length : Int)) ?_ ?_
 ·exact zk (Z9U x4 r2.1 zy r2.2 b1 zG zD)
 ·exact zk (ZeX x4 x13 x14 r2.1 zy r2.2 b1 zG zD)
def Z4N (x4 : Bool) (x13 x14 : Int) (zE : List Zo) (zy : Bool) (zB : Int) (b1 : Z9) : Option ((List Zo) × Int) :=
 if (decide (x14 < x13)) = true then
 (Z6o x4 x13 x14 zE zy zB b1)
 else
 (Z3z x4 zE zy zB b1)
theorem ZeV x4 x13 x14 (zE : List Zo) zy zB b1 zG zD : Sim (Z14 zy) (Z4N x4 x13 x14 zE zy zB b1) (ZmN 1 (.ptr 0 0) (.ptr 1 0) (bv x4) (iv x13) (iv x14) [[(.p (.ml 6 (zE.map ZC))), (bv zy), (iv zB)], (Zk b1 zG zD)]) := by
 unfold Z4N
 refine zf (ZAY ..)<|ze<|zq ?_
 refine za (decide (x14 < x13)) ?_ ?_
 ·exact zk (ZeW x4 x13 x14 zE zy zB b1 zG zD)
 ·exact zk (Z9U x4 zE zy zB b1 zG zD)
theorem Zam x4 x13 x14 zE zy zB b1 {r} (h : Z4N x4 x13 x14 zE zy zB b1 = some r) : Z4O x4 x13 x14 zE zy zB b1 = some r :=
 Z1h (fun _ _ ha hb => ru_ (Z2X _) (ha .ex .ex) (hb .ex .ex)) (fun zG zD => ZeV x4 x13 x14 zE zy zB b1 zG zD r h)
def Z66 (x4 : Bool) (x6 : List Int) (x49 x50 : Int) (zE : List Zo) (zy : Bool) (zB : Int) (b1 : Z9) : Option ((List Zo) × Int) :=
 (Z1j (Zo.mk 3 0 0 0 0 ([] : List Z8)) zE).bind fun r1 =>
 (lapp x6 ([r1.1] : List Int)).bind fun a2 =>
 (lget b1.Kids 0).bind fun a3 =>
 (Z1Q a3 r1.2 zy zB).bind fun r4 =>
 Z4F x4 a2 x49 (IntKind.i64.wrap (x50 + 1)) r4.1 zy r4.2 b1
theorem Zen x4 (x6 : List Int) x49 x50 (zE : List Zo) zy zB b1 ox6 zG zD (hox6 : ZL ox6 = true) : Sim (Z14 zy) (Z66 x4 x6 x49 x50 zE zy zB b1) (ZrO 1 (.ptr 0 0) (.ptr 1 0) (bv x4) (ZO ox6 (x6.map (eI .i64))) (iv x49) (iv x50) [[(.p (.ml 6 (zE.map ZC))), (bv zy), (iv zB)], (Zk b1 zG zD)]) := by
 unfold Z66
 refine zf (Zye ..)<|ze<|zq<|zi fun r1 hr1 => ?_
 obtain ⟨_, er1, _, rfl⟩ := Z1r (Zo.mk 3 0 0 0 0 ([] : List Z8)) zE zy zB .sh r1 hr1
 refine zc [0] (iv r1.1) [[(.p (.ml 6 (r1.2.map ZC))), (bv zy), (iv zB)], (Zk b1 zG zD)] er1<|zq<|zi fun a2 ha2 => zp (ZO .un (a2.map (eI .i64))) (Eq.trans (by kernel_rfl) <| ZeU (n := 1) (o := ox6) (o' := .ex) (e := (eI .i64)) (ys := ([r1.1] : List Int)) (fun _ => rfl) (by decide) hox6 ha2)<|ze<|zq<|zq<|zi fun a3 ha3 => zp (.cptr (ZH a3 .sh .sh)) (et_ (Z2D (o := (shrO zD)) (k := .i64) (n := 7) (e := ZI) (cs := Z1W) Z2J (fun _ => rfl) (by decide) ha3))<|zq<|zi fun r4 hr4 => ?_
 obtain ⟨_, er4, _, rfl⟩ := Z2L a3 r1.2 zy zB .sh .sh r4 hr4
 refine zc [0] (.p (.tup [])) [[(.p (.ml 6 (r4.1.map ZC))), (bv zy), (iv r4.2)], (Zk b1 zG zD)] er4<|ze<|zq ?_
 exact zk (Z9R x4 a2 x49 (IntKind.i64.wrap (x50 + 1)) r4.1 zy r4.2 b1 .un zG zD rfl)
def Z4A (x4 : Bool) (x6 : List Int) (zE : List Zo) (zB : Int) : Option ((List Zo) × Int) :=
 Z4G x4 x6 (x6.length : Int) 0 zE zB
theorem Zeo x4 (x6 : List Int) (zE : List Zo) zy zB ox6 (hox6 : ZL ox6 = true) : Sim (Z14 zy) (Z4A x4 x6 zE zB) (ZrP 1 (.ptr 0 0) (bv x4) (ZO ox6 (x6.map (eI .i64))) [[(.p (.ml 6 (zE.map ZC))), (bv zy), (iv zB)]]) := by
 unfold Z4A
 refine zf (Zyf ..)<|ze<|zp (iv (x6.length : Int)) (et_ (Z3d (P := PP) (t := 96) (d := 3) (by kernel_rfl) (eI .i64) (shrO ox6) x6)) ?_
 exact zk (Z9T x4 x6 (x6.length : Int) 0 zE zy zB (shrO ox6))
def Z4y (x4 : Bool) (x6 : List Int) (x49 x50 : Int) (zE : List Zo) (zy : Bool) (zB : Int) (b1 : Z9) : Option ((List Zo) × Int) :=
 if (decide (x50 < x49)) = true then
 (Z66 x4 x6 x49 x50 zE zy zB b1)
 else
 (Z4A x4 x6 zE zB)
theorem Zek x4 (x6 : List Int) x49 x50 (zE : List Zo) zy zB b1 ox6 zG zD (hox6 : ZL ox6 = true) : Sim (Z14 zy) (Z4y x4 x6 x49 x50 zE zy zB b1) (Zkv 1 (.ptr 0 0) (.ptr 1 0) (bv x4) (ZO ox6 (x6.map (eI .i64))) (iv x49) (iv x50) [[(.p (.ml 6 (zE.map ZC))), (bv zy), (iv zB)], (Zk b1 zG zD)]) := by
 unfold Z4y
 refine zf (Zyb ..)<|ze<|zq ?_
 refine za (decide (x50 < x49)) ?_ ?_
 ·exact zk (Zen x4 x6 x49 x50 zE zy zB b1 ox6 zG zD hox6)
 ·exact zk (Zeo x4 x6 zE zy zB ox6 hox6)
theorem Z9Q x4 x6 x49 x50 zE zy zB b1 {r} (h : Z4y x4 x6 x49 x50 zE zy zB b1 = some r) : Z4F x4 x6 x49 x50 zE zy zB b1 = some r :=
 Z1h (fun _ _ ha hb => ru_ (Z2X _) (ha .ex .ex .ex rfl) (hb .ex .ex .ex rfl)) (fun ox6 zG zD hox6 => Zek x4 x6 x49 x50 zE zy zB b1 ox6 zG zD hox6 r h)
def Z67 (x4 : Bool) (x65 : List Int) (x66 x67 : Int) (zE : List Zo) (zB : Int) : Option ((List Zo) × Int) :=
 (lget x65 x67).bind fun a1 =>
 (Z4T a1 (IntKind.i64.wrap (a1 + 1)) (zE.length : Int) x4 zE).bind fun r2 =>
 Z4G x4 x65 x66 (IntKind.i64.wrap (x67 + 1)) r2 zB
theorem Zep x4 (x65 : List Int) x66 x67 (zE : List Zo) zy zB ox65 : Sim (Z14 zy) (Z67 x4 x65 x66 x67 zE zB) (ZrQ 1 (.ptr 0 0) (bv x4) (ZO ox65 (x65.map (eI .i64))) (iv x66) (iv x67) [[(.p (.ml 6 (zE.map ZC))), (bv zy), (iv zB)]]) := by
 unfold Z67
 refine zf (Zyg ..)<|ze<|zi fun a1 ha1 => zp (.cptr [(.v (.int .i64 a1))]) (et_ (Z2D (o := ox65) (k := .i64) (n := 1) (e := (eI .i64)) (cs := (fun a => [(eI .i64) a])) (fun _ => rfl) (fun _ => rfl) (by decide) ha1))<|zq<|ze<|zq<|zq<|zq<|zq<|zp (iv (zE.length : Int)) (et_ (ZbX (P := PP) (t := 23) (d := 40) (by kernel_rfl) ZC zE))<|zi fun r2 hr2 => ?_
 obtain ⟨_, er2, _, rfl⟩ := Z8R a1 (IntKind.i64.wrap (a1 + 1)) (zE.length : Int) x4 zE zy zB r2 hr2
 refine zc [0] (.p (.tup [])) [[(.p (.ml 6 (r2.map ZC))), (bv zy), (iv zB)]] er2<|ze<|zq ?_
 exact zk (Z9T x4 x65 x66 (IntKind.i64.wrap (x67 + 1)) r2 zy zB ox65)
def Z4z (x4 : Bool) (x65 : List Int) (x66 x67 : Int) (zE : List Zo) (zB : Int) : Option ((List Zo) × Int) :=
 if (decide (x67 < x66)) = true then
 (Z67 x4 x65 x66 x67 zE zB)
 else
 (some (zE, zB))
theorem Zel x4 (x65 : List Int) x66 x67 (zE : List Zo) zy zB ox65 : Sim (Z14 zy) (Z4z x4 x65 x66 x67 zE zB) (Zkw 1 (.ptr 0 0) (bv x4) (ZO ox65 (x65.map (eI .i64))) (iv x66) (iv x67) [[(.p (.ml 6 (zE.map ZC))), (bv zy), (iv zB)]]) := by
 unfold Z4z
 refine zf (Zyc ..)<|ze<|zq ?_
 refine za (decide (x67 < x66)) ?_ ?_
 ·exact zk (Zep x4 x65 x66 x67 zE zy zB ox65)
 ·exact zr ((.p (.tup [])), [[(.p (.ml 6 (zE.map ZC))), (bv zy), (iv zB)]]) ⟨_, rfl⟩
theorem Z9S x4 x65 x66 x67 zE zB {r} (h : Z4z x4 x65 x66 x67 zE zB = some r) : Z4G x4 x65 x66 x67 zE zB = some r :=
 Z1h (fun _ _ ha hb => ru_ (Z2X _) (ha default .ex) (hb default .ex)) (fun zy ox65 => Zel x4 x65 x66 x67 zE zy zB ox65 r h)
def Z8f (x1 : Z9) (x2 : Bool) (zE : List Zo) (zy : Bool) (zB : Int) : Option ((List Zo) × Int) :=
 (Z1j (Zo.mk 3 0 0 0 0 ([] : List Z8)) zE).bind fun r1 =>
 (Z1j (Zo.mk 10 zB 0 0 0 ([] : List Z8)) r1.2).bind fun r2 =>
 (Z1Q x1 r2.2 zy (IntKind.i64.wrap (zB + 1))).bind fun r3 =>
 (Z1j (Zo.mk 11 zB 0 0 0 ([] : List Z8)) r3.1).bind fun r4 =>
 (Z1j (Zo.mk 2 r1.1 0 0 0 ([] : List Z8)) r4.2).bind fun r5 =>
 (Z4T r1.1 (IntKind.i64.wrap (r1.1 + 1)) (r5.2.length : Int) x2 r5.2).bind fun r6 =>
 some (r6, r3.2)
theorem ZhE x1 x2 (zE : List Zo) zy zB zM zU : Sim (Z14 zy) (Z8f x1 x2 zE zy zB) (EE 59 [(.ptr 0 0), (pA_ (ZH x1 zM zU)), (bv x2)] [[(.p (.ml 6 (zE.map ZC))), (bv zy), (iv zB)]]) := by
 unfold Z8f
 refine zf (ZHc ..)<|ze<|zx (.ptr 1 0) [[(.p (.ml 6 (zE.map ZC))), (bv zy), (iv zB)], (Zk x1 zM zU)]<|ze<|zq<|zi fun r1 hr1 => ?_
 obtain ⟨_, er1, _, rfl⟩ := Z1r (Zo.mk 3 0 0 0 0 ([] : List Z8)) zE zy zB .sh r1 hr1
 refine zc [0] (iv r1.1) [[(.p (.ml 6 (r1.2.map ZC))), (bv zy), (iv zB)], (Zk x1 zM zU)] er1<|ze<|zq<|zq<|zq<|ze<|zq<|zq<|zq<|zq<|zq<|zq<|zt [[(.p (.ml 6 (r1.2.map ZC))), (bv zy), (iv (IntKind.i64.wrap (zB + 1)))], (Zk x1 zM zU)]<|ze<|zq<|zi fun r2 hr2 => ?_
 obtain ⟨_, er2, _, rfl⟩ := Z1r (Zo.mk 10 zB 0 0 0 ([] : List Z8)) r1.2 zy (IntKind.i64.wrap (zB + 1)) .sh r2 hr2
 refine zc [0] (iv r2.1) [[(.p (.ml 6 (r2.2.map ZC))), (bv zy), (iv (IntKind.i64.wrap (zB + 1)))], (Zk x1 zM zU)] er2<|ze<|zq<|zi fun r3 hr3 => ?_
 obtain ⟨_, er3, _, rfl⟩ := Z2L x1 r2.2 zy (IntKind.i64.wrap (zB + 1)) .sh .sh r3 hr3
 refine zc [0] (.p (.tup [])) [[(.p (.ml 6 (r3.1.map ZC))), (bv zy), (iv r3.2)], (Zk x1 zM zU)] er3<|ze<|zq<|zi fun r4 hr4 => ?_
 obtain ⟨_, er4, _, rfl⟩ := Z1r (Zo.mk 11 zB 0 0 0 ([] : List Z8)) r3.1 zy r3.2 .sh r4 hr4
 refine zc [0] (iv r4.1) [[(.p (.ml 6 (r4.2.map ZC))), (bv zy), (iv r3.2)], (Zk x1 zM zU)] er4<|ze<|zq<|zi fun r5 hr5 => ?_
 obtain ⟨_, er5, _, rfl⟩ := Z1r (Zo.mk 2 r1.1 0 0 0 ([] : List Z8)) r4.2 zy r3.2 .sh r5 hr5
 refine zc [0] (iv r5.1) [[(.p (.ml 6 (r5.2.map ZC))), (bv zy), (iv r3.2)], (Zk x1 zM zU)] er5<|ze<|zq<|zq<|zq<|zq<|zp (iv (r5.2.length : Int)) (et_ (ZbX (P := PP) (t := 23) (d := 40) (by kernel_rfl) ZC r5.2))<|zi fun r6 hr6 => ?_
 obtain ⟨_, er6, _, rfl⟩ := Z8R r1.1 (IntKind.i64.wrap (r1.1 + 1)) (r5.2.length : Int) x2 r5.2 zy r3.2 r6 hr6
 refine zc [0] (.p (.tup [])) [[(.p (.ml 6 (r6.map ZC))), (bv zy), (iv r3.2)], (Zk x1 zM zU)] er6 ?_
 exact zr ((.p (.tup [])), [[(.p (.ml 6 (r6.map ZC))), (bv zy), (iv r3.2)], (Zk x1 zM zU)]) ⟨_, rfl⟩
theorem Zik x1 x2 zE zy zB {r} (h : Z8f x1 x2 zE zy zB = some r) : Z8i x1 x2 zE zy zB = some r :=
 Z1h (fun _ _ ha hb => ru_ (Z2X _) (ha .ex .ex) (hb .ex .ex)) (fun zM zU => ZhE x1 x2 zE zy zB zM zU r h)
def Z7s (x1 : Zo) (zE : List Zo) (zy : Bool) (zB : Int) (b2 : Z9) : Option ((List Zo) × Int) :=
 (Z1j x1 zE).bind fun r1 =>
 (Z7z b2 r1.2 zy zB).bind fun r2 =>
 (Z1j (Zo.mk 9 0 0 0 0 ([] : List Z8)) r2.1).bind fun r3 =>
 (lget r3.2 r1.1).bind fun a4 =>
 (lget r3.2 r1.1).bind fun a5 =>
 some ((lset r3.2 r1.1 (Zo.mk a5.Op a5.A (r3.2.length : Int) a5.C a5.D a5.Set)), r2.2)
theorem Zgi x1 (zE : List Zo) zy zB b2 zM z18 zY : Sim (Z3x zy b2 z18 zY) (Z7s x1 zE zy zB b2) (EE 41 [(.ptr 0 0), (pA_ (Z1m x1 zM)), (.clo 46 [] [(.ptr 1 0), (.ptr 2 0)])] [[(.p (.ml 6 (zE.map ZC))), (bv zy), (iv zB)], [(.ptr 0 0)], (Zk b2 z18 zY)]) := by
 unfold Z7s
 refine zf (Zum ..)<|ze<|zx (.ptr 3 0) [[(.p (.ml 6 (zE.map ZC))), (bv zy), (iv zB)], [(.ptr 0 0)], (Zk b2 z18 zY), (Z1k x1 zM)]<|ze<|zq<|zi fun r1 hr1 => ?_
 obtain ⟨_, er1, _, rfl⟩ := Z1r x1 zE zy zB .sh r1 hr1
 refine zc [0] (iv r1.1) [[(.p (.ml 6 (r1.2.map ZC))), (bv zy), (iv zB)], [(.ptr 0 0)], (Zk b2 z18 zY), (Z1k x1 zM)] er1<|ze<|zi fun r2 hr2 => ?_
 obtain ⟨_, er2, _, rfl⟩ := Zhb b2 r1.2 zy zB z18 zY r2 hr2
 refine zv [1, 2, 0] (.p (.tup [])) [[(.p (.ml 6 (r2.1.map ZC))), (bv zy), (iv r2.2)], [(.ptr 0 0)], (Zk b2 z18 zY), (Z1k x1 zM)] er2<|ze<|zq<|zi fun r3 hr3 => ?_
 obtain ⟨_, er3, _, rfl⟩ := Z1r (Zo.mk 9 0 0 0 0 ([] : List Z8)) r2.1 zy r2.2 .sh r3 hr3
 refine zc [0] (iv r3.1) [[(.p (.ml 6 (r3.2.map ZC))), (bv zy), (iv r2.2)], [(.ptr 0 0)], (Zk b2 z18 zY), (Z1k x1 zM)] er3<|ze<|zq<|zq<|zq<|zq<|zq<|zq<|zp (iv (r3.2.length : Int)) (et_ (ZbX (P := PP) (t := 23) (d := 40) (by kernel_rfl) ZC r3.2))<|zi fun a4 ha4 => zp (.p (.jnk (.ep 0 0 6 (Int.toNat r1.1) 0))) (et_ (ZkY (e := ZC) (n := 6) (id := 0) (off := 0) (k := .i64) (by decide) ha4))<|zq<|zi fun a5 ha5 => zb [[(.p (.ml 6 ((lset r3.2 r1.1 (Zo.mk a5.Op a5.A (r3.2.length : Int) a5.C a5.D a5.Set)).map ZC))), (bv zy), (iv r2.2)], [(.ptr 0 0)], (Zk b2 z18 zY), (Z1k x1 zM)] (Eq.trans (b := stEl 1 (.p (.jnk (.ep 0 0 6 (Int.toNat r1.1) 2))) (iv (r3.2.length : Int)) [[(.p (.ml 6 (r3.2.map ZC))), (bv zy), (iv r2.2)], [(.ptr 0 0)], (Zk b2 z18 zY), (Z1k x1 zM)]) (by kernel_rfl) (ZiN (e := ZC) (row := [(.p (.ml 6 (r3.2.map ZC))), (bv zy), (iv r2.2)]) (n := 6) (l := r3.2) (a' := (Zo.mk a5.Op a5.A (r3.2.length : Int) a5.C a5.D a5.Set)) (by kernel_rfl) ha5 (by kernel_rfl) (by kernel_rfl))) ?_
 exact zr ((.p (.tup [])), [[(.p (.ml 6 ((lset r3.2 r1.1 (Zo.mk a5.Op a5.A (r3.2.length : Int) a5.C a5.D a5.Set)).map ZC))), (bv zy), (iv r2.2)], [(.ptr 0 0)], (Zk b2 z18 zY), (Z1k x1 zM)]) ⟨_, rfl⟩
theorem Zhg x1 zE zy zB b2 {r} (h : Z7s x1 zE zy zB b2 = some r) : Z5V x1 zE zy zB b2 = some r :=
 Z1h (fun _ _ ha hb => ru_ (Z8P _ _ _ _) (ha .ex .ex .ex) (hb .ex .ex .ex)) (fun zM z18 zY => Zgi x1 zE zy zB b2 zM z18 zY r h)
def Z7p (b1 : Z9) (z2Z : List Zo) (z1L : Bool) (z2e : Int) : Option ((List Zo) × Int) :=
 (lget b1.Kids 0).bind fun a1 =>
 (Z1Q a1 z2Z z1L z2e).bind fun r2 =>
 some (r2.1, r2.2)
theorem Zgf b1 (z2Z : List Zo) z1L z2e zG zD : Sim (Z3w b1 z1L zG zD) (Z7p b1 z2Z z1L z2e) (EE 46 [(.ptr 0 0), (.ptr 1 0)] [[(.ptr 2 0)], (Zk b1 zG zD), [(.p (.ml 6 (z2Z.map ZC))), (bv z1L), (iv z2e)]]) := by
 unfold Z7p
 refine zf (ZH0 ..)<|ze<|zq<|zq<|zq<|zi fun a1 ha1 => zp (.cptr (ZH a1 .sh .sh)) (et_ (Z2D (o := (shrO zD)) (k := .i64) (n := 7) (e := ZI) (cs := Z1W) Z2J (fun _ => rfl) (by decide) ha1))<|zq<|zi fun r2 hr2 => ?_
 obtain ⟨_, er2, _, rfl⟩ := Z2L a1 z2Z z1L z2e .sh .sh r2 hr2
 refine zc [2] (.p (.tup [])) [[(.ptr 2 0)], (Zk b1 zG zD), [(.p (.ml 6 (r2.1.map ZC))), (bv z1L), (iv r2.2)]] er2 ?_
 exact zr ((.p (.tup [])), [[(.ptr 2 0)], (Zk b1 zG zD), [(.p (.ml 6 (r2.1.map ZC))), (bv z1L), (iv r2.2)]]) ⟨_, rfl⟩
theorem Zha b1 z2Z z1L z2e {r} (h : Z7p b1 z2Z z1L z2e = some r) : Z7z b1 z2Z z1L z2e = some r :=
 Z1h (fun _ _ ha hb => ru_ (Z8O _ _ _ _) (ha .ex .ex) (hb .ex .ex)) (fun zG zD => Zgf b1 z2Z z1L z2e zG zD r h)
def Z7t (x1 : Zo) (zE : List Zo) (zy : Bool) (zB : Int) (b2 : Z9) : Option ((List Zo) × Int) :=
 (Z1j x1 zE).bind fun r1 =>
 (Z7y b2 r1.2 zy zB).bind fun r2 =>
 (Z1j (Zo.mk 9 0 0 0 0 ([] : List Z8)) r2.1).bind fun r3 =>
 (lget r3.2 r1.1).bind fun a4 =>
 (lget r3.2 r1.1).bind fun a5 =>
 some ((lset r3.2 r1.1 (Zo.mk a5.Op a5.A (r3.2.length : Int) a5.C a5.D a5.Set)), r2.2)
theorem Zgj x1 (zE : List Zo) zy zB b2 zM z18 zY : Sim (Z3x zy b2 z18 zY) (Z7t x1 zE zy zB b2) (EE 41 [(.ptr 0 0), (pA_ (Z1m x1 zM)), (.clo 45 [] [(.ptr 1 0), (.ptr 2 0)])] [[(.p (.ml 6 (zE.map ZC))), (bv zy), (iv zB)], [(.ptr 0 0)], (Zk b2 z18 zY)]) := by
 unfold Z7t
 refine zf (Zum ..)<|ze<|zx (.ptr 3 0) [[(.p (.ml 6 (zE.map ZC))), (bv zy), (iv zB)], [(.ptr 0 0)], (Zk b2 z18 zY), (Z1k x1 zM)]<|ze<|zq<|zi fun r1 hr1 => ?_
 obtain ⟨_, er1, _, rfl⟩ := Z1r x1 zE zy zB .sh r1 hr1
 refine zc [0] (iv r1.1) [[(.p (.ml 6 (r1.2.map ZC))), (bv zy), (iv zB)], [(.ptr 0 0)], (Zk b2 z18 zY), (Z1k x1 zM)] er1<|ze<|zi fun r2 hr2 => ?_
 obtain ⟨_, er2, _, rfl⟩ := Zh9 b2 r1.2 zy zB z18 zY r2 hr2
 refine zv [1, 2, 0] (.p (.tup [])) [[(.p (.ml 6 (r2.1.map ZC))), (bv zy), (iv r2.2)], [(.ptr 0 0)], (Zk b2 z18 zY), (Z1k x1 zM)] er2<|ze<|zq<|zi fun r3 hr3 => ?_
 obtain ⟨_, er3, _, rfl⟩ := Z1r (Zo.mk 9 0 0 0 0 ([] : List Z8)) r2.1 zy r2.2 .sh r3 hr3
 refine zc [0] (iv r3.1) [[(.p (.ml 6 (r3.2.map ZC))), (bv zy), (iv r2.2)], [(.ptr 0 0)], (Zk b2 z18 zY), (Z1k x1 zM)] er3<|ze<|zq<|zq<|zq<|zq<|zq<|zq<|zp (iv (r3.2.length : Int)) (et_ (ZbX (P := PP) (t := 23) (d := 40) (by kernel_rfl) ZC r3.2))<|zi fun a4 ha4 => zp (.p (.jnk (.ep 0 0 6 (Int.toNat r1.1) 0))) (et_ (ZkY (e := ZC) (n := 6) (id := 0) (off := 0) (k := .i64) (by decide) ha4))<|zq<|zi fun a5 ha5 => zb [[(.p (.ml 6 ((lset r3.2 r1.1 (Zo.mk a5.Op a5.A (r3.2.length : Int) a5.C a5.D a5.Set)).map ZC))), (bv zy), (iv r2.2)], [(.ptr 0 0)], (Zk b2 z18 zY), (Z1k x1 zM)] (Eq.trans (b := stEl 1 (.p (.jnk (.ep 0 0 6 (Int.toNat r1.1) 2))) (iv (r3.2.length : Int)) [[(.p (.ml 6 (r3.2.map ZC))), (bv zy), (iv r2.2)], [(.ptr 0 0)], (Zk b2 z18 zY), (Z1k x1 zM)]) (by kernel_rfl) (ZiN (e := ZC) (row := [(.p (.ml 6 (r3.2.map ZC))), (bv zy), (iv r2.2)]) (n := 6) (l := r3.2) (a' := (Zo.mk a5.Op a5.A (r3.2.length : Int) a5.C a5.D a5.Set)) (by kernel_rfl) ha5 (by kernel_rfl) (by kernel_rfl))) ?_
 exact zr ((.p (.tup [])), [[(.p (.ml 6 ((lset r3.2 r1.1 (Zo.mk a5.Op a5.A (r3.2.length : Int) a5.C a5.D a5.Set)).map ZC))), (bv zy), (iv r2.2)], [(.ptr 0 0)], (Zk b2 z18 zY), (Z1k x1 zM)]) ⟨_, rfl⟩
theorem Zhi x1 zE zy zB b2 {r} (h : Z7t x1 zE zy zB b2 = some r) : Z7A x1 zE zy zB b2 = some r :=
 Z1h (fun _ _ ha hb => ru_ (Z8P _ _ _ _) (ha .ex .ex .ex) (hb .ex .ex .ex)) (fun zM z18 zY => Zgj x1 zE zy zB b2 zM z18 zY r h)
def Z7o (b1 : Z9) (z2Z : List Zo) (z1L : Bool) (z2e : Int) : Option ((List Zo) × Int) :=
 (lget b1.Kids 0).bind fun a1 =>
 (Z1Q a1 z2Z z1L z2e).bind fun r2 =>
 some (r2.1, r2.2)
theorem Zge b1 (z2Z : List Zo) z1L z2e zG zD : Sim (Z3w b1 z1L zG zD) (Z7o b1 z2Z z1L z2e) (EE 45 [(.ptr 0 0), (.ptr 1 0)] [[(.ptr 2 0)], (Zk b1 zG zD), [(.p (.ml 6 (z2Z.map ZC))), (bv z1L), (iv z2e)]]) := by
 unfold Z7o
 refine zf (ZGZ ..)<|ze<|zq<|zq<|zq<|zi fun a1 ha1 => zp (.cptr (ZH a1 .sh .sh)) (et_ (Z2D (o := (shrO zD)) (k := .i64) (n := 7) (e := ZI) (cs := Z1W) Z2J (fun _ => rfl) (by decide) ha1))<|zq<|zi fun r2 hr2 => ?_
 obtain ⟨_, er2, _, rfl⟩ := Z2L a1 z2Z z1L z2e .sh .sh r2 hr2
 refine zc [2] (.p (.tup [])) [[(.ptr 2 0)], (Zk b1 zG zD), [(.p (.ml 6 (r2.1.map ZC))), (bv z1L), (iv r2.2)]] er2 ?_
 exact zr ((.p (.tup [])), [[(.ptr 2 0)], (Zk b1 zG zD), [(.p (.ml 6 (r2.1.map ZC))), (bv z1L), (iv r2.2)]]) ⟨_, rfl⟩
theorem Zh8 b1 z2Z z1L z2e {r} (h : Z7o b1 z2Z z1L z2e = some r) : Z7y b1 z2Z z1L z2e = some r :=
 Z1h (fun _ _ ha hb => ru_ (Z8O _ _ _ _) (ha .ex .ex) (hb .ex .ex)) (fun zG zD => Zge b1 z2Z z1L z2e zG zD r h)
def Zf4 (x0 : List Zo) : Option Int :=
 Zaj 0 x0 (x0.length : Int) 0
theorem Zp2 (x0 : List Zo) ox0 : Sim ZJ (Zf4 x0) (EE 13 [(ZO ox0 (x0.map ZC))] []) := by
 unfold Zf4
 refine zf (ZG6 ..)<|ze<|ze<|ze<|zp (iv (x0.length : Int)) (et_ (Z3d (P := PP) (t := 23) (d := 40) (by kernel_rfl) ZC (shrO ox0) x0)) ?_
 exact zk (Zh5 0 x0 (x0.length : Int) 0 (shrO ox0))
theorem ZqS x0 {r} (h : Zf4 x0 = some r) : Zfb x0 = some r :=
 Z1h (fun _ _ ha hb => ru_ Z1J (ha .ex) (hb .ex)) (fun ox0 => Zp2 x0 ox0 r h)
def Zae (x3 : Int) (x6 : List Zo) (x7 x8 : Int) : Option Int :=
 Zaj x3 x6 x7 (IntKind.i64.wrap (x8 + 1))
theorem ZfQ x3 (x6 : List Zo) x7 x8 ox6 : Sim ZJ (Zae x3 x6 x7 x8) (ZpQ 0 (iv x3) (ZO ox6 (x6.map ZC)) (iv x7) (iv x8) []) := by
 unfold Zae
 refine zf (ZAe ..)<|ze<|zq ?_
 exact zk (Zh5 x3 x6 x7 (IntKind.i64.wrap (x8 + 1)) ox6)
def Zc2 (x3 : Int) (x6 : List Zo) (x7 x8 : Int) : Option Int :=
 (lget x6 x8).bind fun a1 =>
 if (a1.Op == 10) = true then
 (Zae (IntKind.i64.wrap (x3 + 1)) x6 x7 x8)
 else
 (Zae x3 x6 x7 x8)
theorem Zml x3 (x6 : List Zo) x7 x8 ox6 : Sim ZJ (Zc2 x3 x6 x7 x8) (ZtF 0 (iv x3) (ZO ox6 (x6.map ZC)) (iv x7) (iv x8) []) := by
 unfold Zc2
 refine zf (ZAd ..)<|ze<|zi fun a1 ha1 => zp (.cptr (Z1m a1 .sh)) (et_ (Z2D (o := ox6) (k := .i64) (n := 6) (e := ZC) (cs := Z4B) (fun _ => rfl) (fun _ => rfl) (by decide) ha1))<|zq<|zz (.ptr 0 0) [(Z1k Zpy .nl)]<|zt [(Z1k a1 .sh)]<|ze<|zq<|zq<|zq ?_
 refine za (a1.Op == 10) ?_ ?_
 ·refine ze<|zq ?_
  exact zk (ZfQ (IntKind.i64.wrap (x3 + 1)) x6 x7 x8 ox6)
 ·exact zk (ZfQ x3 x6 x7 x8 ox6)
def Zc3 (x3 : Int) : Option Int :=
 some x3
theorem Zmm x3 : Sim ZJ (Zc3 x3) (ZtG 0 (iv x3) []) := by
 unfold Zc3
 refine zf (ZAf ..)<|ze ?_
 exact zr ((iv x3), []) ⟨_, rfl⟩
def Zad (x3 : Int) (x6 : List Zo) (x7 x8 : Int) : Option Int :=
 if (decide (x8 < x7)) = true then
 (Zc2 x3 x6 x7 x8)
 else
 (Zc3 x3)
theorem Zmk x3 (x6 : List Zo) x7 x8 ox6 : Sim ZJ (Zad x3 x6 x7 x8) (ZmB 0 (iv x3) (ZO ox6 (x6.map ZC)) (iv x7) (iv x8) []) := by
 unfold Zad
 refine zf (ZAc ..)<|ze<|zq ?_
 refine za (decide (x8 < x7)) ?_ ?_
 ·exact zk (Zml x3 x6 x7 x8 ox6)
 ·exact zk (Zmm x3)
theorem Zh4 x3 x6 x7 x8 {r} (h : Zad x3 x6 x7 x8 = some r) : Zaj x3 x6 x7 x8 = some r :=
 Z1h (fun _ _ ha hb => ru_ Z1J (ha .ex) (hb .ex)) (fun ox6 => Zmk x3 x6 x7 x8 ox6 r h)
def Z73 (x0 x1 : List Z8) : Option Bool :=
 Z5t x1 x0 (x0.length : Int) 0
theorem ZfD (x0 x1 : List Z8) ox0 ox1 : Sim ZP (Z73 x0 x1) (ZtP 0 (ZO ox0 (x0.map Zp)) (ZO ox1 (x1.map Zp)) []) := by
 unfold Z73
 refine zf (ZAp ..)<|ze<|zp (iv (x0.length : Int)) (et_ (Z3d (P := PP) (t := 28) (d := 47) (by kernel_rfl) Zp (shrO ox0) x0)) ?_
 exact zk (Zb1 x1 x0 (x0.length : Int) 0 ox1 (shrO ox0))
def Z8a (x0 x1 : List Z8) : Option Bool :=
 if ((x0.length : Int) != (x1.length : Int)) = true then
 (some false)
 else
 (Z73 x0 x1)
theorem ZhA (x0 x1 : List Z8) ox0 ox1 : Sim ZP (Z8a x0 x1) (EE 15 [(ZO ox0 (x0.map Zp)), (ZO ox1 (x1.map Zp))] []) := by
 unfold Z8a
 refine zf (ZGc ..)<|ze<|ze<|zp (iv (x0.length : Int)) (et_ (Z3d (P := PP) (t := 28) (d := 47) (by kernel_rfl) Zp (shrO ox0) x0))<|zp (iv (x1.length : Int)) (et_ (Z3d (P := PP) (t := 28) (d := 47) (by kernel_rfl) Zp (shrO ox1) x1))<|zq ?_
 refine za ((x0.length : Int) != (x1.length : Int)) ?_ ?_
 ·refine ze ?_
  exact zr ((bv false), []) ⟨_, rfl⟩
 ·exact zk (ZfD x0 x1 ox0 ox1)
theorem Zi6 x0 x1 {r} (h : Z8a x0 x1 = some r) : Z8h x0 x1 = some r :=
 Z1h (fun _ _ ha hb => ru_ Z2p (ha .ex .ex) (hb .ex .ex)) (fun ox0 ox1 => ZhA x0 x1 ox0 ox1 r h)
def Z75 (x1 x12 : List Z8) (x13 x14 : Int) : Option Bool :=
 Z5t x1 x12 x13 (IntKind.i64.wrap (x14 + 1))
theorem ZfF (x1 x12 : List Z8) x13 x14 ox1 ox12 : Sim ZP (Z75 x1 x12 x13 x14) (ZtR 0 (ZO ox1 (x1.map Zp)) (ZO ox12 (x12.map Zp)) (iv x13) (iv x14) []) := by
 unfold Z75
 refine zf (ZAr ..)<|ze<|zq ?_
 exact zk (Zb1 x1 x12 x13 (IntKind.i64.wrap (x14 + 1)) ox1 ox12)
def Z74 (x1 x12 : List Z8) (x13 x14 : Int) : Option Bool :=
 (lget x12 x14).bind fun a1 =>
 (lget x1 x14).bind fun a2 =>
 if (!((a1.Lo == a2.Lo) && ((a1.Hi == a2.Hi) && true))) = true then
 (some false)
 else
 (Z75 x1 x12 x13 x14)
theorem ZfE (x1 x12 : List Z8) x13 x14 ox1 ox12 : Sim ZP (Z74 x1 x12 x13 x14) (ZtQ 0 (ZO ox1 (x1.map Zp)) (ZO ox12 (x12.map Zp)) (iv x13) (iv x14) []) := by
 unfold Z74
 refine zf (ZAq ..)<|ze<|zi fun a1 ha1 => zp (.cptr (ZN a1)) (et_ (Z2D (o := ox12) (k := .i64) (n := 2) (e := Zp) (cs := Z6a) (fun _ => rfl) (fun _ => rfl) (by decide) ha1))<|zq<|zz (.ptr 0 0) [(Z2h Zzx)]<|zt [(Z2h a1)]<|ze<|zq<|zi fun a2 ha2 => zp (.cptr (ZN a2)) (et_ (Z2D (o := (shrO ox1)) (k := .i64) (n := 2) (e := Zp) (cs := Z6a) (fun _ => rfl) (fun _ => rfl) (by decide) ha2))<|zq<|zp (bv (!((a1.Lo == a2.Lo) && ((a1.Hi == a2.Hi) && true)))) (Eq.trans (b := xbin PP .neq 47 (pA_ (ZN a1)) (pA_ (ZN a2))) (by kernel_rfl) (ZFL (by kernel_rfl) (by kernel_rfl) (by kernel_rfl) (by kernel_rfl) (by kernel_rfl))) ?_
 refine za (!((a1.Lo == a2.Lo) && ((a1.Hi == a2.Hi) && true))) ?_ ?_
 ·refine ze ?_
  exact zr ((bv false), [(Z2h a1)]) ⟨_, rfl⟩
 ·exact zk (ZfF x1 x12 x13 x14 ox1 ox12)
def Z97 : Option Bool :=
 some true
theorem ZfG : Sim ZP Z97 (ZtS 0 []) := by
 unfold Z97
 refine zf (ZAs ..)<|ze ?_
 exact zr ((bv true), []) ⟨_, rfl⟩
def Z5l (x1 x12 : List Z8) (x13 x14 : Int) : Option Bool :=
 if (decide (x14 < x13)) = true then
 (Z74 x1 x12 x13 x14)
 else
 Z97
theorem ZfC (x1 x12 : List Z8) x13 x14 ox1 ox12 : Sim ZP (Z5l x1 x12 x13 x14) (ZmD 0 (ZO ox1 (x1.map Zp)) (ZO ox12 (x12.map Zp)) (iv x13) (iv x14) []) := by
 unfold Z5l
 refine zf (ZAo ..)<|ze<|zq ?_
 refine za (decide (x14 < x13)) ?_ ?_
 ·exact zk (ZfE x1 x12 x13 x14 ox1 ox12)
 ·exact zk ZfG
theorem Zb0 x1 x12 x13 x14 {r} (h : Z5l x1 x12 x13 x14 = some r) : Z5t x1 x12 x13 x14 = some r :=
 Z1h (fun _ _ ha hb => ru_ Z2p (ha .ex .ex) (hb .ex .ex)) (fun ox1 ox12 => ZfC x1 x12 x13 x14 ox1 ox12 r h)
end Go.Proofs.YtocikhhkicahoaaDoor.N2
end
