/- The upper function: an evaluator to which the lower one and Order are given. No condition. -/
import Derived.Test.YtbmmhbpalkepeaaEqs
import Derived.Test.YtbmmhbpalkepeaaOrd
import Derived.Test.YtbmmhbpalkepeaaEvA
import Derived.Test.YtbmmhbpalkepeaaProg
import Derived.KernelRfl
import Derived.Test.YtbmmhbpalkepeaaTypA

set_option linter.unusedSimpArgs false
set_option linter.unusedVariables false
set_option linter.defProp false
section
namespace Go.Proofs.Ytbmmhbpalkepeaa.N3
open Go Go.Abs
noncomputable def xLow (f : FuncId) : List AV → List Row → Option Res := N2.EE f
def Z3D : List PV → Option (List (Int × Int))
 | [] => some []
 | e :: r => match Z16 e, Z3D r with
  | [.v (.int .i64 _), .v (.int .i64 p), .v (.int .i64 _), .v (.int .i64 s), .v (.string _)], some l => some ((p, s) :: l)
  | _, _ => none
noncomputable def Z5B (args : List AV) (B : List Row) : Option Res :=
 match args with
 | [.p (.agg [.v (.int .i64 a0), .v (.int .i64 a1), .v (.int .i64 a2), .v (.int .i64 a3), .lst o rs]), .p (.v (.int .i64 sc))] =>
  match N2.EE 16 [.p (.agg [.v (.int .i64 a0), .v (.int .i64 a1), .v (.int .i64 a2), .v (.int .i64 a3), .lst o rs])] [] with
  | some (.p (.v (.bool ok)), _) =>
   match Z3D rs with
   | some R => if ok = true → R.length < 20 then some (.p (.lst .sh ((if ok then Ord.ordO R sc else []).map fun n => .v (.int .i64 n))), B) else none
   | none => none
  | _ => none
 | _ => none
def Zf8 : FuncId → Nat → Option (List Nat) := fun f r =>
 if f = 9 then (if r = 12 then some [6, 34, 35, 36] else if r = 16 then some [6, 34, 35, 36] else if r = 13 then some [6, 34, 35, 36] else if r = 17 then some [] else if r = 11 then some [5, 6] else if r = 8 then some [1, 2, 5] else if r = 5 then some [1, 2] else if r = 3 then some [1, 2] else none) else
 none
def ownT : FuncId → List Nat := fun f =>
 []
def rawT : FuncId → Bool := fun f => false
def Zff : FuncId → List Nat := fun f => []
def HH : Hints := ⟨Zf8, ownT, rawT, Zff⟩
noncomputable def XX : FuncId → Option (List AV → List Row → Option Res) := fun f => if f = 10 then some (xLow 10) else if f = 11 then some (xLow 11) else if f = 14 then some (xLow 14) else if f = 19 then some (xLow 19) else if f = 23 then some Z5B else if f = 24 then some (xLow 24) else none
noncomputable abbrev PP : Program := Try.prog
noncomputable abbrev EE : GF := E PP XX HH
noncomputable abbrev LL : LF := L PP XX HH
end Go.Proofs.Ytbmmhbpalkepeaa.N3
end
section
namespace Go.Proofs.Ytbmmhbpalkepeaa.N3
open Go Go.Abs
set_option maxRecDepth 100000
noncomputable def Z3w : Code := Z3c Try.f9
def ZR (r0 : AV) (B : List Row) : Option Res :=
 ob (ob (some r0) fun v => ob (some []) fun vs => some (v :: vs)) fun vs => some ((nrmA (match vs with | [v] => v | vs => Z2P (vs.map shr))), B)
noncomputable def Z2G (m0 : Nat) : Kont := kret PP HH 9 Try.f9.results
noncomputable def Zew (m0 : Nat) : Kont := kseq HH 9 m0 (l2 (l2 (l2 (l2 (l2 (l2 (l2 (l2 Z3w)))))))) (exec PP HH 9 m0 EE LL (l2 (l2 (l2 (l2 (l2 (l2 (l2 (l2 Z3w)))))))) (Z2G m0)) (Z2G m0)
noncomputable def Z5L (m0 : Nat) : Kont := kblk 0 (Zew m0)
noncomputable def Z97 (m0 : Nat) : Kont := kloop HH 9 m0 (l1 (l1 (l2 (l1 (l2 (l2 (l2 (l2 (l2 (l2 (l2 Z3w))))))))))) (LL 9 m0 (l1 (l1 (l2 (l1 (l2 (l2 (l2 (l2 (l2 (l2 (l2 Z3w))))))))))) (Z5L m0)) (Z5L m0)
noncomputable def Z7y (m0 : Nat) (x1 x2 : AV) (B : List Row) : Option Res := exec PP HH 9 m0 EE LL (l2 (l2 Z3w)) (Z2G m0) [(1, x1), (2, x2)] B
noncomputable def Z7z (m0 : Nat) (x1 x2 : AV) (B : List Row) : Option Res := exec PP HH 9 m0 EE LL (l2 (l2 (l2 Z3w))) (Z2G m0) [(1, x1), (2, x2)] B
noncomputable def Z7A (m0 : Nat) (x1 x2 x5 : AV) (B : List Row) : Option Res := exec PP HH 9 m0 EE LL (l2 (l2 (l2 (l2 (l2 Z3w))))) (Z2G m0) [(1, x1), (2, x2), (5, x5)] B
noncomputable def Z5i (m0 : Nat) (x5 x6 : AV) (B : List Row) : Option Res := exec PP HH 9 m0 EE LL (l2 (l2 (l2 (l2 (l2 (l2 (l2 Z3w))))))) (Z2G m0) [(5, x5), (6, x6)] B
noncomputable def Z3e (m0 : Nat) (x6 x34 x35 x36 : AV) (B : List Row) : Option Res := lp (LL 9 m0 (l1 (l1 (l2 (l1 (l2 (l2 (l2 (l2 (l2 (l2 (l2 Z3w))))))))))) (Z5L m0) [(6, x6), (34, x34), (35, x35), (36, x36)] B)
noncomputable def Z5j (m0 : Nat) (x6 x34 x35 x36 : AV) (B : List Row) : Option Res := exec PP HH 9 m0 EE LL (l2 (l2 (l1 (l1 (l2 (l1 (l2 (l2 (l2 (l2 (l2 (l2 (l2 Z3w))))))))))))) (Z97 m0) [(6, x6), (34, x34), (35, x35), (36, x36)] B
noncomputable def Z5l (m0 : Nat) (B : List Row) : Option Res := exec PP HH 9 m0 EE LL (l2 (l2 (l2 (l2 (l2 (l2 (l2 (l2 Z3w)))))))) (Z2G m0) [] B
noncomputable def Z5k (m0 : Nat) (x6 x34 x35 x36 : AV) (B : List Row) : Option Res := exec PP HH 9 m0 EE LL (l2 (l2 (l2 (l1 (l1 (l2 (l1 (l2 (l2 (l2 (l2 (l2 (l2 (l2 Z3w)))))))))))))) (Z97 m0) [(6, x6), (34, x34), (35, x35), (36, x36)] B
theorem ZbT (m0 : Nat) (x1 x2 : AV) (B : List Row) : Z7y m0 x1 x2 B =
 mk (ob (ldN true 5 x2 B) fun a7 =>
 ob (Z2u PP 27 []) fun a8 =>
 callS false EE 11 [a7, a8] B fun a9 B10 =>
 ob (xun PP .not a9) fun a11 =>
 asB a11 fun t12 => br t12 (mk (ZR (bv true) B10))
 (Z7z m0 x1 x2 (gcB m0 [x1, x2] B10))) := by kernel_rfl
theorem ZbU (m0 : Nat) (x1 x2 : AV) (B : List Row) : Z7z m0 x1 x2 B =
 mk (ob (ldN true 5 x2 B) fun a13 =>
 callS false EE 23 [a13, (shr x1)] B fun a14 B15 =>
 mk (ob (ldN true 5 x2 B15) fun a16 =>
 callS false EE 14 [a16] B15 fun a17 B18 =>
 callS false EE 19 [a17] B18 fun a19 B20 =>
 ob (xun PP .not a19) fun a21 =>
 asB a21 fun t22 => br t22 (mk (ob (xlen PP 25 (shr (shr a14))) fun a23 =>
 ob (xbin PP .eql 3 a23 (iv 0)) fun a24 =>
 ZR (shr a24) B20))
 (Z7A m0 x1 x2 (shr a14) (gcB m0 [x1, x2, (shr a14)] B20)))) := by kernel_rfl
theorem ZbV (m0 : Nat) (x1 x2 x5 : AV) (B : List Row) : Z7A m0 x1 x2 x5 B =
 mk (ob (ldN true 5 x2 B) fun a25 =>
 callS false EE 14 [a25] B fun a26 B27 =>
 callS false EE 24 [a26, (shr x1)] B27 fun a28 B29 =>
 mk (ob (xlen PP 25 (shr x5)) fun a30 =>
 ob (xlen PP 25 (shr (shr a28))) fun a31 =>
 ob (xbin PP .neq 3 a30 a31) fun a32 =>
 asB a32 fun t33 => br t33 (mk (ZR (bv false) B29))
 (Z5i m0 x5 (shr a28) (gcB m0 [x5, (shr a28)] B29)))) := by kernel_rfl
theorem Zao (m0 : Nat) (x5 x6 : AV) (B : List Row) : Z5i m0 x5 x6 B =
 mk (ob (xlen PP 25 (shr x5)) fun a34 =>
 Z3e m0 x6 (shr x5) a34 (iv 0) (gcB m0 [x6, (shr x5), a34, (iv 0)] B)) := by kernel_rfl
theorem Zan (m0 : Nat) (x6 x34 x35 x36 : AV) (B : List Row) : Z3e m0 x6 x34 x35 x36 B =
 mk (ob (xbin PP .lss 3 x36 x35) fun a35 =>
 asB a35 fun t36 => br t36 (Z5j m0 x6 x34 x35 x36 (gcB m0 [x6, x34, x35, x36] B))
 (Z5l m0  (gcB m0 [] B))) := (L_eq PP XX HH _ _ _ _ _ _).trans (by kernel_rfl)
theorem Zap (m0 : Nat) (x6 x34 x35 x36 : AV) (B : List Row) : Z5j m0 x6 x34 x35 x36 B =
 mk (ob (xidx 1 x34 x36) fun a37 =>
 ob (ldN false 1 a37 B) fun a38 =>
 mk (ob (xidx 1 (shr x6) (shr (shr (shr x36)))) fun a39 =>
 ob (ldN false 1 a39 B) fun a40 =>
 ob (xbin PP .neq 3 (shr (shr a38)) a40) fun a41 =>
 asB a41 fun t42 => br t42 (mk (ZR (bv false) B))
 (Z5k m0 x6 x34 x35 x36 (gcB m0 [x6, x34, x35, x36] B)))) := by kernel_rfl
theorem Zar (m0 : Nat) (B : List Row) : Z5l m0  B =
 mk (ZR (bv true) B) := by kernel_rfl
theorem Zaq (m0 : Nat) (x6 x34 x35 x36 : AV) (B : List Row) : Z5k m0 x6 x34 x35 x36 B =
 mk (ob (xbin PP .add 3 x36 (iv 1)) fun a43 =>
 Z3e m0 x6 x34 x35 (shr a43) (gcB m0 [x6, x34, x35, (shr a43)] B)) := by kernel_rfl
theorem ZiZ (x0 x1 : AV) (B : List Row) : EE 9 [x0, x1] B =
 (let m0 := B.length
 mk (bx x0 B fun a1 B2 =>
 mk (callS false EE 10 [] B2 fun a3 B4 =>
 ob (xun PP .not a3) fun a5 =>
 asB a5 fun t6 => br t6 (mk (ZR (bv false) B4))
 (Z7y m0 x1 a1 (gcB m0 [x1, a1] B4))))) := (E_eq PP XX HH _ _ _).trans (by kernel_rfl)
end Go.Proofs.Ytbmmhbpalkepeaa.N3
end
section
namespace Go.Proofs.Ytbmmhbpalkepeaa.N3
open N2
open Go Go.Abs
set_option maxRecDepth 100000
abbrev Q23  : ((List Int)) → Res → Prop := fun r q => ∃ (ex : List Row), q = ((.p (.lst .sh (r.map (eI .i64)))), ex)
theorem Zmg  : ∀ a b q, Q23  a q → Q23  b q → a = b := by
 rintro a b q ⟨_, e1⟩ ⟨_, e2⟩
 have e := e1.symm.trans e2
 exact Z2I Z2j (congrArg (fun q : Res => pL (pA q.1)) e)
abbrev Q9  : (Bool) → Res → Prop := fun r q => ∃ (ex : List Row), q = ((bv r), ex)
theorem Q9_u  : ∀ a b q, Q9  a q → Q9  b q → a = b := by
 rintro a b q ⟨_, e1⟩ ⟨_, e2⟩
 have e := e1.symm.trans e2
 exact congrArg (fun q : Res => pB (pA q.1)) e
noncomputable def g9 (x0 : Z8) (x1 : Int) : Option (Bool) := pick fun r => ∀ (ox0_Rules : Own), RRun (Q9) (EE 9 [(.p (.agg (ZL x0 ox0_Rules))), (iv x1)] []) r
theorem g9_to (x0 : Z8) (x1 : Int) (ox0_Rules : Own) : Sim (Q9) (g9 x0 x1) (EE 9 [(.p (.agg (ZL x0 ox0_Rules))), (iv x1)] []) := fun _ h => ZX h ox0_Rules
noncomputable def g10  : Option (Bool) := pick fun r => RRun (Q27) (EE 10 [] []) r
theorem Zgr  : Sim (Q27) (g10) (EE 10 [] []) := fun _ h => ZX h
noncomputable def g11 (x0 : Z8) (x1 : ZC) : Option (Bool) := pick fun r => ∀ (ox0_Rules : Own) (ox1_Put : Own) (ox1_Drop : Own), RRun (Q27) (EE 11 [(.p (.agg (ZL x0 ox0_Rules))), (.p (.agg (Z1s x1 ox1_Put ox1_Drop)))] []) r
theorem Zgs (x0 : Z8) (x1 : ZC) (ox0_Rules : Own) (ox1_Put : Own) (ox1_Drop : Own) : Sim (Q27) (g11 x0 x1) (EE 11 [(.p (.agg (ZL x0 ox0_Rules))), (.p (.agg (Z1s x1 ox1_Put ox1_Drop)))] []) := fun _ h => ZX h ox0_Rules ox1_Put ox1_Drop
noncomputable def g23 (x0 : Z8) (x1 : Int) : Option ((List Int)) := pick fun r => ∀ (ox0_Rules : Own), RRun (Q23) (EE 23 [(.p (.agg (ZL x0 ox0_Rules))), (iv x1)] []) r
theorem Zls (x0 : Z8) (x1 : Int) (ox0_Rules : Own) : Sim (Q23) (g23 x0 x1) (EE 23 [(.p (.agg (ZL x0 ox0_Rules))), (iv x1)] []) := fun _ h => ZX h ox0_Rules
noncomputable def g14 (x0 : Z8) : Option (Zk) := pick fun r => ∀ (ox0_Rules : Own), RRun (Q14) (EE 14 [(.p (.agg (ZL x0 ox0_Rules)))] []) r
theorem ZbZ (x0 : Z8) (ox0_Rules : Own) : Sim (Q14) (g14 x0) (EE 14 [(.p (.agg (ZL x0 ox0_Rules)))] []) := fun _ h => ZX h ox0_Rules
noncomputable def g19 (x0 : Zk) : Option (Bool) := pick fun r => ∀ (ox0_Rules : Own), RRun (Q27) (EE 19 [(.p (.agg (ZS x0 ox0_Rules)))] []) r
theorem Zgu (x0 : Zk) (ox0_Rules : Own) : Sim (Q27) (g19 x0) (EE 19 [(.p (.agg (ZS x0 ox0_Rules)))] []) := fun _ h => ZX h ox0_Rules
noncomputable def g24 (x0 : Zk) (x1 : Int) : Option ((List Int)) := pick fun r => ∀ (ox0_Rules : Own), RRun (Q15) (EE 24 [(.p (.agg (ZS x0 ox0_Rules))), (iv x1)] []) r
theorem Zgy (x0 : Zk) (x1 : Int) (ox0_Rules : Own) : Sim (Q15) (g24 x0 x1) (EE 24 [(.p (.agg (ZS x0 ox0_Rules))), (iv x1)] []) := fun _ h => ZX h ox0_Rules
noncomputable def Z6R (x6 : List Int) (x34 : List Int) (x35 : Int) (x36 : Int) : Option (Bool) := pick fun r => ∀ (ox6 : Own) (ox34 : Own), RRun (Q9) (Z3e 0 (.p (.lst ox6 (x6.map (eI .i64)))) (.p (.lst ox34 (x34.map (eI .i64)))) (iv x35) (iv x36) []) r
theorem ZaI (x6 : List Int) (x34 : List Int) (x35 : Int) (x36 : Int) (ox6 : Own) (ox34 : Own) : Sim (Q9) (Z6R x6 x34 x35 x36) (Z3e 0 (.p (.lst ox6 (x6.map (eI .i64)))) (.p (.lst ox34 (x34.map (eI .i64)))) (iv x35) (iv x36) []) := fun _ h => ZX h ox6 ox34
noncomputable def Z8C (x5 : List Int) (x6 : List Int) : Option (Bool) :=
 Z6R x6 x5 ((x5.length : Int)) 0
theorem Zf1 (x5 : List Int) (x6 : List Int) (ox5 : Own) (ox6 : Own) : Sim (Q9) (Z8C x5 x6) (Z5i 0 (.p (.lst ox5 (x5.map (eI .i64)))) (.p (.lst ox6 (x6.map (eI .i64)))) []) := by
 unfold Z8C
 refine zf (Zao ..) ?_
 refine ze ?_
 refine zo (iv (x5.length : Int)) ?_ (Eq.trans (by kernel_rfl) (Z1E (P := PP) (t := 25) (d := 3) (by kernel_rfl) (eI .i64) (shrO ox5) x5))
 exact zk (ZaI (x6) (x5) ((x5.length : Int)) (0) ox6 (shrO ox5))
noncomputable def Zb1 (x1 : Int) (x5 : List Int) (b0 : Z8) : Option (Bool) :=
 (g14 b0).bind fun r1 =>
 (g24 r1 x1).bind fun r2 =>
 if (((x5.length : Int) != (r2.length : Int))) = true then
 (some (false))
 else
 (Z8C x5 r2)
theorem ZgP (x1 : Int) (x5 : List Int) (b0 : Z8) (ox5 : Own) (ob0_Rules : Own) : Sim (Q9) (Zb1 x1 x5 b0) (Z7A 0 (iv x1) (.ptr 0 0) (.p (.lst ox5 (x5.map (eI .i64)))) [(Z3 b0 ob0_Rules)]) := by
 unfold Zb1
 refine zf (ZbV ..) ?_
 refine ze ?_
 refine zo (.p (.agg (ZL b0 (shrO ob0_Rules)))) ?_
 refine zi fun r1 hr1 => ?_
 obtain ⟨qr1, er1, exr1, rfl⟩ := ZbZ (b0) .sh r1 hr1
 refine zc [] (.p (.agg (ZS r1 .sh))) [(Z3 b0 ob0_Rules)] er1 ?_
 refine zi fun r2 hr2 => ?_
 obtain ⟨qr2, er2, exr2, rfl⟩ := Zgy (r1) (x1) .sh r2 hr2
 refine zc [] (.p (.lst .sh (r2.map (eI .i64)))) [(Z3 b0 ob0_Rules)] er2 ?_
 refine ze ?_
 refine zo (iv (x5.length : Int)) ?_ (Eq.trans (by kernel_rfl) (Z1E (P := PP) (t := 25) (d := 3) (by kernel_rfl) (eI .i64) (shrO ox5) x5))
 refine zo (iv (r2.length : Int)) ?_ (Eq.trans (by kernel_rfl) (Z1E (P := PP) (t := 25) (d := 3) (by kernel_rfl) (eI .i64) .sh r2))
 refine zo (bv ((x5.length : Int) != (r2.length : Int))) ?_
 refine za (((x5.length : Int) != (r2.length : Int))) ?_ ?_
 ·refine ze ?_
  exact zr ((bv false), [(Z3 b0 ob0_Rules)]) ⟨_, rfl⟩
 ·exact zk (Zf1 (x5) (r2) ox5 .sh)
noncomputable def Zb0 (x1 : Int) (b0 : Z8) : Option (Bool) :=
 (g23 b0 x1).bind fun r1 =>
 (g14 b0).bind fun r2 =>
 (g19 r2).bind fun r3 =>
 if ((!r3)) = true then
 (some (((r1.length : Int) == 0)))
 else
 (Zb1 x1 r1 b0)
theorem ZgO (x1 : Int) (b0 : Z8) (ob0_Rules : Own) : Sim (Q9) (Zb0 x1 b0) (Z7z 0 (iv x1) (.ptr 0 0) [(Z3 b0 ob0_Rules)]) := by
 unfold Zb0
 refine zf (ZbU ..) ?_
 refine ze ?_
 refine zo (.p (.agg (ZL b0 (shrO ob0_Rules)))) ?_
 refine zi fun r1 hr1 => ?_
 obtain ⟨qr1, er1, exr1, rfl⟩ := Zls (b0) (x1) .sh r1 hr1
 refine zc [] (.p (.lst .sh (r1.map (eI .i64)))) [(Z3 b0 ob0_Rules)] er1 ?_
 refine ze ?_
 refine zo (.p (.agg (ZL b0 (shrO ob0_Rules)))) ?_
 refine zi fun r2 hr2 => ?_
 obtain ⟨qr2, er2, exr2, rfl⟩ := ZbZ (b0) .sh r2 hr2
 refine zc [] (.p (.agg (ZS r2 .sh))) [(Z3 b0 ob0_Rules)] er2 ?_
 refine zi fun r3 hr3 => ?_
 obtain ⟨qr3, er3, exr3, rfl⟩ := Zgu (r2) .sh r3 hr3
 refine zc [] (bv r3) [(Z3 b0 ob0_Rules)] er3 ?_
 refine zo (bv (!r3)) ?_
 refine za ((!r3)) ?_ ?_
 ·refine ze ?_
  refine zo (iv (r1.length : Int)) ?_ (Eq.trans (by kernel_rfl) (Z1E (P := PP) (t := 25) (d := 3) (by kernel_rfl) (eI .i64) .sh r1))
  refine zo (bv ((r1.length : Int) == 0)) ?_
  exact zr ((bv ((r1.length : Int) == 0)), [(Z3 b0 ob0_Rules)]) ⟨_, rfl⟩
 ·exact zk (ZgP (x1) (r1) (b0) .sh ob0_Rules)
noncomputable def ZaZ (x1 : Int) (b0 : Z8) : Option (Bool) :=
 (g11 b0 ((ZC.mk 0 0 0 0 ([] : List Z2) ([] : List Int)))).bind fun r1 =>
 if ((!r1)) = true then
 (some (true))
 else
 (Zb0 x1 b0)
theorem ZgN (x1 : Int) (b0 : Z8) (ob0_Rules : Own) : Sim (Q9) (ZaZ x1 b0) (Z7y 0 (iv x1) (.ptr 0 0) [(Z3 b0 ob0_Rules)]) := by
 unfold ZaZ
 refine zf (ZbT ..) ?_
 refine ze ?_
 refine zo (.p (.agg (ZL b0 (shrO ob0_Rules)))) ?_
 refine zo (.p (.agg (Z1s (ZC.mk 0 0 0 0 ([] : List Z2) ([] : List Int)) .nl .nl))) ?_
 refine zi fun r1 hr1 => ?_
 obtain ⟨qr1, er1, exr1, rfl⟩ := Zgs (b0) ((ZC.mk 0 0 0 0 ([] : List Z2) ([] : List Int))) .sh .sh .sh r1 hr1
 refine zc [] (bv r1) [(Z3 b0 ob0_Rules)] er1 ?_
 refine zo (bv (!r1)) ?_
 refine za ((!r1)) ?_ ?_
 ·refine ze ?_
  exact zr ((bv true), [(Z3 b0 ob0_Rules)]) ⟨_, rfl⟩
 ·exact zk (ZgO (x1) (b0) ob0_Rules)
noncomputable def b9 (x0 : Z8) (x1 : Int) : Option (Bool) :=
 (g10).bind fun r1 =>
 if ((!r1)) = true then
 (some (false))
 else
 (ZaZ x1 x0)
theorem ZlY (x0 : Z8) (x1 : Int) (ox0_Rules : Own) : Sim (Q9) (b9 x0 x1) (EE 9 [(.p (.agg (ZL x0 ox0_Rules))), (iv x1)] []) := by
 unfold b9
 refine zf (ZiZ ..) ?_
 refine ze ?_
 refine zx (.ptr 0 0) [(Z3 x0 ox0_Rules)] ?_
 refine ze ?_
 refine zi fun r1 hr1 => ?_
 obtain ⟨qr1, er1, exr1, rfl⟩ := Zgr  r1 hr1
 refine zc [] (bv r1) [(Z3 x0 ox0_Rules)] er1 ?_
 refine zo (bv (!r1)) ?_
 refine za ((!r1)) ?_ ?_
 ·refine ze ?_
  exact zr ((bv false), [(Z3 x0 ox0_Rules)]) ⟨_, rfl⟩
 ·exact zk (ZgN (x1) (x0) ox0_Rules)
theorem Zmu (x0 : Z8) (x1 : Int) {r} (h : b9 x0 x1 = some r) : g9 x0 x1 = some r :=
 Z13 (fun _ _ ha hb => RRun.uniq (Q9_u) (ha .ex) (hb .ex)) (fun ox0_Rules => ZlY x0 x1 ox0_Rules r h)
noncomputable def Z8E (x6 : List Int) (x34 : List Int) (x35 : Int) (x36 : Int) : Option (Bool) :=
 Z6R x6 x34 x35 ((IntKind.i64.wrap (x36 + 1)))
theorem Zf3 (x6 : List Int) (x34 : List Int) (x35 : Int) (x36 : Int) (ox6 : Own) (ox34 : Own) : Sim (Q9) (Z8E x6 x34 x35 x36) (Z5k 0 (.p (.lst ox6 (x6.map (eI .i64)))) (.p (.lst ox34 (x34.map (eI .i64)))) (iv x35) (iv x36) []) := by
 unfold Z8E
 refine zf (Zaq ..) ?_
 refine ze ?_
 refine zo (iv (IntKind.i64.wrap (x36 + 1))) ?_
 exact zk (ZaI (x6) (x34) (x35) ((IntKind.i64.wrap (x36 + 1))) ox6 ox34)
noncomputable def Z8D (x6 : List Int) (x34 : List Int) (x35 : Int) (x36 : Int) : Option (Bool) :=
 (lget x34 x36).bind fun a1 =>
 (lget x6 x36).bind fun a2 =>
 if ((a1 != a2)) = true then
 (some (false))
 else
 (Z8E x6 x34 x35 x36)
theorem Zf2 (x6 : List Int) (x34 : List Int) (x35 : Int) (x36 : Int) (ox6 : Own) (ox34 : Own) : Sim (Q9) (Z8D x6 x34 x35 x36) (Z5j 0 (.p (.lst ox6 (x6.map (eI .i64)))) (.p (.lst ox34 (x34.map (eI .i64)))) (iv x35) (iv x36) []) := by
 unfold Z8D
 refine zf (Zap ..) ?_
 refine ze ?_
 refine zi fun a1 ha1 => ?_
 refine zo (.cptr [(.v (.int .i64 a1))]) ?_ (Eq.trans (by kernel_rfl) (Z1T (o := ox34) (k := .i64) (n := 1) (e := (eI .i64)) (cs := (fun a => [(eI .i64) a])) (fun _ => rfl) (fun _ => rfl) (by decide) ha1))
 refine zo (iv a1) ?_
 refine ze ?_
 refine zi fun a2 ha2 => ?_
 refine zo (.cptr [(.v (.int .i64 a2))]) ?_ (Eq.trans (by kernel_rfl) (Z1T (o := (shrO ox6)) (k := .i64) (n := 1) (e := (eI .i64)) (cs := (fun a => [(eI .i64) a])) (fun _ => rfl) (fun _ => rfl) (by decide) ha2))
 refine zo (iv a2) ?_
 refine zo (bv (a1 != a2)) ?_
 refine za ((a1 != a2)) ?_ ?_
 ·refine ze ?_
  exact zr ((bv false), []) ⟨_, rfl⟩
 ·exact zk (Zf3 (x6) (x34) (x35) (x36) ox6 ox34)
noncomputable def Z8F  : Option (Bool) :=
 some (true)
theorem Zf4  : Sim (Q9) (Z8F) (Z5l 0  []) := by
 unfold Z8F
 refine zf (Zar ..) ?_
 refine ze ?_
 exact zr ((bv true), []) ⟨_, rfl⟩
noncomputable def Z6v (x6 : List Int) (x34 : List Int) (x35 : Int) (x36 : Int) : Option (Bool) :=
 if ((decide (x36 < x35))) = true then
 (Z8D x6 x34 x35 x36)
 else
 (Z8F)
theorem Zf0 (x6 : List Int) (x34 : List Int) (x35 : Int) (x36 : Int) (ox6 : Own) (ox34 : Own) : Sim (Q9) (Z6v x6 x34 x35 x36) (Z3e 0 (.p (.lst ox6 (x6.map (eI .i64)))) (.p (.lst ox34 (x34.map (eI .i64)))) (iv x35) (iv x36) []) := by
 unfold Z6v
 refine zf (Zan ..) ?_
 refine ze ?_
 refine zo (bv (decide (x36 < x35))) ?_
 refine za ((decide (x36 < x35))) ?_ ?_
 ·exact zk (Zf2 (x6) (x34) (x35) (x36) ox6 ox34)
 ·exact zk (Zf4 )
theorem ZaH (x6 : List Int) (x34 : List Int) (x35 : Int) (x36 : Int) {r} (h : Z6v x6 x34 x35 x36 = some r) : Z6R x6 x34 x35 x36 = some r :=
 Z13 (fun _ _ ha hb => RRun.uniq (Q9_u) (ha .ex .ex) (hb .ex .ex)) (fun ox6 ox34 => Zf0 x6 x34 x35 x36 ox6 ox34 r h)
end Go.Proofs.Ytbmmhbpalkepeaa.N3
end
