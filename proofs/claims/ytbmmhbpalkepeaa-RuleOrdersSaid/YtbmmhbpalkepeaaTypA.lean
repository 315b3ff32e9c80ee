/- The functions, read typed: their types, and what they stand for. No condition. -/
import Derived.Test.YtbmmhbpalkepeaaSim
import Derived.Test.YtbmmhbpalkepeaaEqs

set_option linter.unusedSimpArgs false
set_option linter.unusedVariables false
set_option linter.defProp false
noncomputable section
namespace Go.Proofs.Ytbmmhbpalkepeaa.N2
open Go Go.Abs
set_option maxRecDepth 100000
theorem gj_ (n : Nat) {l k : List PV} (h : l = k) : l.getD n .junk = k.getD n .junk := congrArg (fun l => l.getD n .junk) h
structure Z2 where
 ID : Int
 Priority : Int
 Action : Int
 Scope : Int
 Pattern : ByteArray
 deriving Inhabited
def Z1q (a : Z2) : List PV := [(eI .i64) a.ID, (eI .i64) a.Priority, (eI .i64) a.Action, (eI .i64) a.Scope, eS a.Pattern]
def Z4 (a : Z2) : PV := .agg (Z1q a)
def ZQ (a : Z2) : List PV := [(eI .i64) a.ID, (eI .i64) a.Priority, (eI .i64) a.Action, (eI .i64) a.Scope, eS a.Pattern]
def ZN (a : Z2) : Row := [.p ((eI .i64) a.ID), .p ((eI .i64) a.Priority), .p ((eI .i64) a.Action), .p ((eI .i64) a.Scope), .p (eS a.Pattern)]
theorem Z7Z {a b : Z2} (h : Z1q a = Z1q b) : a = b := by
 have h0 : a.ID = b.ID := Z2j _ _ (gj_ 0 h)
 have h1 : a.Priority = b.Priority := Z2j _ _ (gj_ 1 h)
 have h2 : a.Action = b.Action := Z2j _ _ (gj_ 2 h)
 have h3 : a.Scope = b.Scope := Z2j _ _ (gj_ 3 h)
 have h4 : a.Pattern = b.Pattern := ZkB _ _ (gj_ 4 h)
 cases a; cases b
 cases h0
 cases h1
 cases h2
 cases h3
 cases h4
 rfl
theorem Z4v (a b : Z2) (h : Z4 a = Z4 b) : a = b := Z7Z (congrArg pC h)
structure Z8 where
 Default : Int
 Closed : Int
 Fuel : Int
 Stack : Int
 Rules : (List Z2)
 deriving Inhabited
def Z4O (a : Z8) : List PV := [(eI .i64) a.Default, (eI .i64) a.Closed, (eI .i64) a.Fuel, (eI .i64) a.Stack, (eL Z4) a.Rules]
def ZL (a : Z8) (o0 : Own) : List PV := [(eI .i64) a.Default, (eI .i64) a.Closed, (eI .i64) a.Fuel, (eI .i64) a.Stack, .lst o0 (a.Rules.map Z4)]
def Z3 (a : Z8) (o0 : Own) : Row := [.p ((eI .i64) a.Default), .p ((eI .i64) a.Closed), .p ((eI .i64) a.Fuel), .p ((eI .i64) a.Stack), .p (.lst o0 (a.Rules.map Z4))]
theorem Z4E {a b : Z8} (h : Z4O a = Z4O b) : a = b := by
 have h0 : a.Default = b.Default := Z2j _ _ (gj_ 0 h)
 have h1 : a.Closed = b.Closed := Z2j _ _ (gj_ 1 h)
 have h2 : a.Fuel = b.Fuel := Z2j _ _ (gj_ 2 h)
 have h3 : a.Stack = b.Stack := Z2j _ _ (gj_ 3 h)
 have h4 : a.Rules = b.Rules := (ZfO Z4v) _ _ (gj_ 4 h)
 cases a; cases b
 cases h0
 cases h1
 cases h2
 cases h3
 cases h4
 rfl
structure ZC where
 Default : Int
 Closed : Int
 Fuel : Int
 Stack : Int
 Put : (List Z2)
 Drop : (List Int)
 deriving Inhabited
def Z1s (a : ZC) (o0 o1 : Own) : List PV := [(eI .i64) a.Default, (eI .i64) a.Closed, (eI .i64) a.Fuel, (eI .i64) a.Stack, .lst o0 (a.Put.map Z4), .lst o1 (a.Drop.map (eI .i64))]
def Zl (a : ZC) (o0 o1 : Own) : Row := [.p ((eI .i64) a.Default), .p ((eI .i64) a.Closed), .p ((eI .i64) a.Fuel), .p ((eI .i64) a.Stack), .p (.lst o0 (a.Put.map Z4)), .p (.lst o1 (a.Drop.map (eI .i64)))]
structure Zk where
 Default : Int
 Closed : Int
 Fuel : Int
 Stack : Int
 Rules : (List Z2)
 deriving Inhabited
def Z3u (a : Zk) : List PV := [(eI .i64) a.Default, (eI .i64) a.Closed, (eI .i64) a.Fuel, (eI .i64) a.Stack, (eL Z4) a.Rules]
def ZS (a : Zk) (o0 : Own) : List PV := [(eI .i64) a.Default, (eI .i64) a.Closed, (eI .i64) a.Fuel, (eI .i64) a.Stack, .lst o0 (a.Rules.map Z4)]
def ZD (a : Zk) (o0 : Own) : Row := [.p ((eI .i64) a.Default), .p ((eI .i64) a.Closed), .p ((eI .i64) a.Fuel), .p ((eI .i64) a.Stack), .p (.lst o0 (a.Rules.map Z4))]
theorem Z4u {a b : Zk} (h : Z3u a = Z3u b) : a = b := by
 have h0 : a.Default = b.Default := Z2j _ _ (gj_ 0 h)
 have h1 : a.Closed = b.Closed := Z2j _ _ (gj_ 1 h)
 have h2 : a.Fuel = b.Fuel := Z2j _ _ (gj_ 2 h)
 have h3 : a.Stack = b.Stack := Z2j _ _ (gj_ 3 h)
 have h4 : a.Rules = b.Rules := (ZfO Z4v) _ _ (gj_ 4 h)
 cases a; cases b
 cases h0
 cases h1
 cases h2
 cases h3
 cases h4
 rfl
structure S38 where
 c0 : Int
 c1 : Int
 deriving Inhabited
structure S39 where
 c0 : S38
 c1 : S38
 c2 : S38
 c3 : S38
 deriving Inhabited
def Zmv (a : S39) : List PV := [(eI .i64) a.c0.c0, (eI .i64) a.c0.c1, (eI .i64) a.c1.c0, (eI .i64) a.c1.c1, (eI .i64) a.c2.c0, (eI .i64) a.c2.c1, (eI .i64) a.c3.c0, (eI .i64) a.c3.c1]
structure Ze3 where
 Default : Int
 Closed : Int
 Fuel : Int
 Stack : Int
 Put : (List Z2)
 Drop : (List Int)
 deriving Inhabited
theorem et_ {α : Type} {a b c : α} (h : b = c) (g : a = b := by kernel_rfl) : a = c := g.trans h
theorem ru_ {R : Type} {Q : R → Res → Prop} {e : Option Res} {a b : R} (u : ∀ a b q, Q a q → Q b q → a = b) (h : RRun Q e a) (g : RRun Q e b) : a = b := RRun.uniq u h g
abbrev Z1S := Z8.mk 0 0 0 0 ([] : List Z2)
abbrev ZcN := Zk.mk 0 0 0 0 ([] : List Z2)
abbrev ZW a0 a1 a2 a3 a4 o0 := Z3 (Z8.mk a0 a1 a2 a3 a4) o0
abbrev Z3I a0 a1 a2 a3 a4 o0 := ZD (Zk.mk a0 a1 a2 a3 a4) o0
abbrev Zcb a0 a1 a2 a3 a4 := ZN (Z2.mk a0 a1 a2 a3 a4)
abbrev pL_ (o : Own) (l : List PV) : AV := .p (.lst o l)
abbrev pA_ (l : List PV) : AV := .p (.agg l)
abbrev rM_ {α : Type} (e : α → PV) (l : List (Int × α)) : Row := [.md (l.map (encM e))]
abbrev Q25 : Z8 → Res → Prop := fun r q => ∃ (ex : List Row), q = ((pA_ (ZL r .sh)), ex)
theorem Zmh : ∀ a b q, Q25 a q → Q25 b q → a = b := by
 rintro a b q ⟨_, e1⟩ ⟨_, e2⟩
 have e := e1.symm.trans e2
 exact Z4E (congrArg (fun q : Res => pC (pA q.1)) e)
abbrev Q27 : Bool → Res → Prop := fun r q => ∃ (ex : List Row), q = ((bv r), ex)
theorem Z3h : ∀ a b q, Q27 a q → Q27 b q → a = b := by
 rintro a b q ⟨_, e1⟩ ⟨_, e2⟩
 have e := e1.symm.trans e2
 exact congrArg (fun q : Res => pB (pA q.1)) e
abbrev Q26 (zJ zP zM : Int) (zK : List Z2) (z1 : Own) : Int → Res → Prop := fun r q => ∃ (ex : List Row), q = ((.p (.tup [])), [(ZW r zJ zP zM zK z1)] ++ ex)
theorem Zmi (zJ zP zM : Int) (zK : List Z2) (z1 : Own) : ∀ a b q, Q26 zJ zP zM zK z1 a q → Q26 zJ zP zM zK z1 b q → a = b := by
 rintro a b q ⟨_, e1⟩ ⟨_, e2⟩
 have e := e1.symm.trans e2
 exact congrArg (fun q : Res => pI (pA (cellAt q 0 0))) e
abbrev ZaR (zG zP zM : Int) (zK : List Z2) (z1 : Own) : Int → Res → Prop := fun r q => ∃ (ex : List Row), q = ((.p (.tup [])), [(ZW zG r zP zM zK z1)] ++ ex)
theorem Zjh (zG zP zM : Int) (zK : List Z2) (z1 : Own) : ∀ a b q, ZaR zG zP zM zK z1 a q → ZaR zG zP zM zK z1 b q → a = b := by
 rintro a b q ⟨_, e1⟩ ⟨_, e2⟩
 have e := e1.symm.trans e2
 exact congrArg (fun q : Res => pI (pA (cellAt q 0 1))) e
abbrev ZaS (zG zJ zM : Int) (zK : List Z2) (z1 : Own) : Int → Res → Prop := fun r q => ∃ (ex : List Row), q = ((.p (.tup [])), [(ZW zG zJ r zM zK z1)] ++ ex)
theorem Zji (zG zJ zM : Int) (zK : List Z2) (z1 : Own) : ∀ a b q, ZaS zG zJ zM zK z1 a q → ZaS zG zJ zM zK z1 b q → a = b := by
 rintro a b q ⟨_, e1⟩ ⟨_, e2⟩
 have e := e1.symm.trans e2
 exact congrArg (fun q : Res => pI (pA (cellAt q 0 2))) e
abbrev ZaT (zG zJ zP : Int) (zK : List Z2) (z1 : Own) : Int → Res → Prop := fun r q => ∃ (ex : List Row), q = ((.p (.tup [])), [(ZW zG zJ zP r zK z1)] ++ ex)
theorem Zjj (zG zJ zP : Int) (zK : List Z2) (z1 : Own) : ∀ a b q, ZaT zG zJ zP zK z1 a q → ZaT zG zJ zP zK z1 b q → a = b := by
 rintro a b q ⟨_, e1⟩ ⟨_, e2⟩
 have e := e1.symm.trans e2
 exact congrArg (fun q : Res => pI (pA (cellAt q 0 3))) e
abbrev Q43 : Bool → Res → Prop := fun r q => ∃ (ex : List Row), q = ((bv r), [[(.clo 21 [] [])]] ++ ex)
theorem Zir : ∀ a b q, Q43 a q → Q43 b q → a = b := by
 rintro a b q ⟨_, e1⟩ ⟨_, e2⟩
 have e := e1.symm.trans e2
 exact congrArg (fun q : Res => pB (pA q.1)) e
abbrev Q52 : Int → Res → Prop := fun r q => ∃ (ex : List Row), q = ((iv r), [[(.clo 21 [] [])]] ++ ex)
theorem Ziu : ∀ a b q, Q52 a q → Q52 b q → a = b := by
 rintro a b q ⟨_, e1⟩ ⟨_, e2⟩
 have e := e1.symm.trans e2
 exact congrArg (fun q : Res => pI (pA q.1)) e
abbrev Q44 : (Bool × (List (Int × Bool))) → Res → Prop := fun r q => ∃ (ex : List Row), q = ((bv r.1), [[(.mp 1)], (rM_ eB r.2)] ++ ex)
theorem Zis : ∀ a b q, Q44 a q → Q44 b q → a = b := by
 rintro a b q ⟨_, e1⟩ ⟨_, e2⟩
 have e := e1.symm.trans e2
 exact Prod.ext (congrArg (fun q : Res => pB (pA q.1)) e) (Z2I (Z5K Z8H) (congrArg (fun q : Res => pM (cellAt q 1 0)) e))
abbrev Q45 : (Bool × (List (Int × Bool))) → Res → Prop := fun r q => ∃ (ex : List Row), q = ((bv r.1), [[(.clo 44 [] [(.ptr 1 0)])], [(.mp 2)], (rM_ eB r.2)] ++ ex)
theorem Zit : ∀ a b q, Q45 a q → Q45 b q → a = b := by
 rintro a b q ⟨_, e1⟩ ⟨_, e2⟩
 have e := e1.symm.trans e2
 exact Prod.ext (congrArg (fun q : Res => pB (pA q.1)) e) (Z2I (Z5K Z8H) (congrArg (fun q : Res => pM (cellAt q 2 0)) e))
abbrev Z4k : (Int × (List (Int × Bool))) → Res → Prop := fun r q => ∃ (ex : List Row), q = ((iv r.1), [[(.clo 44 [] [(.ptr 1 0)])], [(.mp 2)], (rM_ eB r.2)] ++ ex)
theorem Zdx : ∀ a b q, Z4k a q → Z4k b q → a = b := by
 rintro a b q ⟨_, e1⟩ ⟨_, e2⟩
 have e := e1.symm.trans e2
 exact Prod.ext (congrArg (fun q : Res => pI (pA q.1)) e) (Z2I (Z5K Z8H) (congrArg (fun q : Res => pM (cellAt q 2 0)) e))
abbrev Q53 : (Int × (List (Int × Bool))) → Res → Prop := fun r q => ∃ (ex : List Row), q = ((iv r.1), [[(.mp 1)], (rM_ eB r.2)] ++ ex)
theorem Ziv : ∀ a b q, Q53 a q → Q53 b q → a = b := by
 rintro a b q ⟨_, e1⟩ ⟨_, e2⟩
 have e := e1.symm.trans e2
 exact Prod.ext (congrArg (fun q : Res => pI (pA q.1)) e) (Z2I (Z5K Z8H) (congrArg (fun q : Res => pM (cellAt q 1 0)) e))
abbrev Q31 (z37 : List (Int × Z2)) : Unit → Res → Prop := fun r q => ∃ (ex : List Row), q = ((.clo 49 [] [(.ptr 1 0)]), [(rM_ Z4 z37), [(.mp 0)]]) ∧ ex = []
theorem Zmk (z37 : List (Int × Z2)) : ∀ a b q, Q31 z37 a q → Q31 z37 b q → a = b := by
 rintro a b q ⟨_, e1, _⟩ ⟨_, e2, _⟩
 have e := e1.symm.trans e2
 exact rfl
abbrev Q30 (zU : List (Int × Z2)) : (List Int) → Res → Prop := fun r q => ∃ (ex : List Row), q = ((pL_ .sh (r.map (eI .i64))), [[(.mp 1)], (rM_ Z4 zU)] ++ ex)
theorem Zmj (zU : List (Int × Z2)) : ∀ a b q, Q30 zU a q → Q30 zU b q → a = b := by
 rintro a b q ⟨_, e1⟩ ⟨_, e2⟩
 have e := e1.symm.trans e2
 exact Z2I Z2j (congrArg (fun q : Res => pL (pA q.1)) e)
abbrev Q12 : (Z8 × Int) → Res → Prop := fun r q => ∃ (ex : List Row), q = ((.p (.tup [(.agg (ZL r.1 .sh)), (.v (.int .i64 r.2))])), ex)
theorem Z8k : ∀ a b q, Q12 a q → Q12 b q → a = b := by
 rintro a b q ⟨_, e1⟩ ⟨_, e2⟩
 have e := e1.symm.trans e2
 exact Prod.ext (Z4E (congrArg (fun q : Res => pC ((pT (pA q.1)).getD 0 .junk)) e)) (congrArg (fun q : Res => pI ((pT (pA q.1)).getD 1 .junk)) e)
abbrev Q14 : Zk → Res → Prop := fun r q => ∃ (ex : List Row), q = ((pA_ (ZS r .sh)), ex)
theorem Zin : ∀ a b q, Q14 a q → Q14 b q → a = b := by
 rintro a b q ⟨_, e1⟩ ⟨_, e2⟩
 have e := e1.symm.trans e2
 exact Z4u (congrArg (fun q : Res => pC (pA q.1)) e)
abbrev Q15 : (List Int) → Res → Prop := fun r q => ∃ (ex : List Row), q = ((pL_ .sh (r.map (eI .i64))), ex)
theorem Ze2 : ∀ a b q, Q15 a q → Q15 b q → a = b := by
 rintro a b q ⟨_, e1⟩ ⟨_, e2⟩
 have e := e1.symm.trans e2
 exact Z2I Z2j (congrArg (fun q : Res => pL (pA q.1)) e)
def g3 (x0 : Z8) (x1 x2 : ZC) : Option Bool := pick fun r => ∀ (zd z1f z1a zkl zi9 : Own), RRun Q27 (EE 3 [(pA_ (ZL x0 zd)), (pA_ (Z1s x1 z1f z1a)), (pA_ (Z1s x2 zkl zi9))] []) r
def g10 : Option Bool := pick fun r => RRun Q27 (EE 10 [] []) r
def Zgr r (h : g10 = some r) := ZX h
def g25 : Option Z8 := pick fun r => RRun Q25 (EE 25 [] []) r
def Zlv r (h : g25 = some r) := ZX h
def g12 (x0 : Z8) (x1 : ZC) : Option (Z8 × Int) := pick fun r => ∀ (zd z1f z1a : Own), RRun Q12 (EE 12 [(pA_ (ZL x0 zd)), (pA_ (Z1s x1 z1f z1a))] []) r
def Zln x0 x1 zd z1f z1a r (h : g12 x0 x1 = some r) := ZX h zd z1f z1a
def g16 (x0 : Z8) : Option Bool := pick fun r => ∀ (zd : Own), RRun Q27 (EE 16 [(pA_ (ZL x0 zd))] []) r
def Zgt x0 zd r (h : g16 x0 = some r) := ZX h zd
def g27 (x0 : Z8) : Option Bool := pick fun r => ∀ (zd : Own), RRun Q27 (EE 27 [(pA_ (ZL x0 zd))] []) r
def ZgG x0 zd r (h : g27 x0 = some r) := ZX h zd
def Z6I (x3 : Int) (x16 : List Z2) (x17 x18 : Int) : Option Bool := pick fun r => ∀ (ox16 : Own), RRun Q27 (Z6z 0 (iv x3) (pL_ ox16 (x16.map Z4)) (iv x17) (iv x18) []) r
def Zay x3 x16 x17 x18 ox16 r (h : Z6I x3 x16 x17 x18 = some r) := ZX h ox16
def g21 (x0 : Z2) : Option Bool := pick fun r => RRun Q27 (EE 21 [(pA_ (ZQ x0))] []) r
def Zgw x0 r (h : g21 x0 = some r) := ZX h
def g26 (x1 zG : Int) : Option Int := pick fun r => ∀ (zJ zP zM : Int) (zK : List Z2) (z1 : Own), RRun (Q26 zJ zP zM zK z1) (EE 26 [(.ptr 0 0), (iv x1)] [(ZW zG zJ zP zM zK z1)]) r
def Zlx x1 zG zJ zP zM zK z1 r (h : g26 x1 zG = some r) := ZX h zJ zP zM zK z1
def Zb4 (x1 zJ : Int) : Option Int := pick fun r => ∀ (zG zP zM : Int) (zK : List Z2) (z1 : Own), RRun (ZaR zG zP zM zK z1) (EE 26 [(.ptr 0 1), (iv x1)] [(ZW zG zJ zP zM zK z1)]) r
def ZhC x1 zG zJ zP zM zK z1 r (h : Zb4 x1 zJ = some r) := ZX h zG zP zM zK z1
def Zb5 (x1 zP : Int) : Option Int := pick fun r => ∀ (zG zJ zM : Int) (zK : List Z2) (z1 : Own), RRun (ZaS zG zJ zM zK z1) (EE 26 [(.ptr 0 2), (iv x1)] [(ZW zG zJ zP zM zK z1)]) r
def ZhE x1 zG zJ zP zM zK z1 r (h : Zb5 x1 zP = some r) := ZX h zG zJ zM zK z1
def Zb6 (x1 zM : Int) : Option Int := pick fun r => ∀ (zG zJ zP : Int) (zK : List Z2) (z1 : Own), RRun (ZaT zG zJ zP zK z1) (EE 26 [(.ptr 0 3), (iv x1)] [(ZW zG zJ zP zM zK z1)]) r
def ZhG x1 zG zJ zP zM zK z1 r (h : Zb6 x1 zM = some r) := ZX h zG zJ zP zK z1
def g28 (x0 : List Z2) : Option Bool := pick fun r => ∀ (ox0 : Own), RRun Q27 (EE 28 [(pL_ ox0 (x0.map Z4)), (.clo 21 [] [])] []) r
def ZlA x0 ox0 r (h : g28 x0 = some r) := ZX h ox0
def g42 (x0 : List Z2) : Option Bool := pick fun r => ∀ (ox0 : Own), RRun Q43 (EE 42 [(pL_ ox0 (x0.map Z4)), (.clo 43 [] [(.ptr 0 0)])] [[(.clo 21 [] [])]]) r
def ZlN x0 ox0 r (h : g42 x0 = some r) := ZX h ox0
def g52 (x0 : List Z2) : Option Int := pick fun r => ∀ (ox0 : Own), RRun Q52 (EE 52 [(pL_ ox0 (x0.map Z4)), (.clo 43 [] [(.ptr 0 0)])] [[(.clo 21 [] [])]]) r
def ZlV x0 ox0 r (h : g52 x0 = some r) := ZX h ox0
def Z6N (x0 : List Z2) (x7 x8 : Int) : Option Int := pick fun r => ∀ (ox0 : Own), RRun Q52 (Z4x 1 (pL_ ox0 (x0.map Z4)) (.clo 43 [] [(.ptr 0 0)]) (iv x7) (iv x8) [[(.clo 21 [] [])]]) r
def ZaF x0 x7 x8 ox0 r (h : Z6N x0 x7 x8 = some r) := ZX h ox0
def g43 (x0 : Z2) : Option Bool := pick fun r => RRun Q43 (EE 43 [(pA_ (ZQ x0)), (.ptr 0 0)] [[(.clo 21 [] [])]]) r
def ZlO x0 r (h : g43 x0 = some r) := ZX h
def g29 (x0 : ZC) : Option Bool := pick fun r => ∀ (z1P z1F : Own), RRun Q27 (EE 29 [(pA_ (Z1s x0 z1P z1F))] []) r
def ZlC x0 z1P z1F r (h : g29 x0 = some r) := ZX h z1P z1F
def Zb7 (x0 : List Z2) (z14 : List (Int × Bool)) : Option (Bool × (List (Int × Bool))) := pick fun r => ∀ (ox0 : Own), RRun Q45 (EE 42 [(pL_ ox0 (x0.map Z4)), (.clo 45 [] [(.ptr 0 0)])] [[(.clo 44 [] [(.ptr 1 0)])], [(.mp 2)], (rM_ eB z14)]) r
def ZhI x0 z14 ox0 r (h : Zb7 x0 z14 = some r) := ZX h ox0
def Zb8 (x0 : List Z2) (z14 : List (Int × Bool)) : Option (Int × (List (Int × Bool))) := pick fun r => ∀ (ox0 : Own), RRun Z4k (EE 52 [(pL_ ox0 (x0.map Z4)), (.clo 45 [] [(.ptr 0 0)])] [[(.clo 44 [] [(.ptr 1 0)])], [(.mp 2)], (rM_ eB z14)]) r
def ZhL x0 z14 ox0 r (h : Zb8 x0 z14 = some r) := ZX h ox0
def Z4y (x0 : List Z2) (x7 x8 : Int) (z14 : List (Int × Bool)) : Option (Int × (List (Int × Bool))) := pick fun r => ∀ (ox0 : Own), RRun Z4k (Z4x 3 (pL_ ox0 (x0.map Z4)) (.clo 45 [] [(.ptr 0 0)]) (iv x7) (iv x8) [[(.clo 44 [] [(.ptr 1 0)])], [(.mp 2)], (rM_ eB z14)]) r
def Z7P x0 x7 x8 z14 ox0 r (h : Z4y x0 x7 x8 z14 = some r) := ZX h ox0
def g45 (x0 : Z2) (z14 : List (Int × Bool)) : Option (Bool × (List (Int × Bool))) := pick fun r => RRun Q45 (EE 45 [(pA_ (ZQ x0)), (.ptr 0 0)] [[(.clo 44 [] [(.ptr 1 0)])], [(.mp 2)], (rM_ eB z14)]) r
def ZlR x0 z14 r (h : g45 x0 z14 = some r) := ZX h
def g44 (x0 : Int) (zU : List (Int × Bool)) : Option (Bool × (List (Int × Bool))) := pick fun r => RRun Q44 (EE 44 [(iv x0), (.ptr 0 0)] [[(.mp 1)], (rM_ eB zU)]) r
def ZgL x0 zU r (h : g44 x0 zU = some r) := ZX h
def g46 (x0 : List Int) (zU : List (Int × Bool)) : Option (Bool × (List (Int × Bool))) := pick fun r => ∀ (ox0 : Own), RRun Q44 (EE 46 [(pL_ ox0 (x0.map (eI .i64))), (.clo 44 [] [(.ptr 0 0)])] [[(.mp 1)], (rM_ eB zU)]) r
def ZlT x0 zU ox0 r (h : g46 x0 zU = some r) := ZX h ox0
def g53 (x0 : List Int) (zU : List (Int × Bool)) : Option (Int × (List (Int × Bool))) := pick fun r => ∀ (ox0 : Own), RRun Q53 (EE 53 [(pL_ ox0 (x0.map (eI .i64))), (.clo 44 [] [(.ptr 0 0)])] [[(.mp 1)], (rM_ eB zU)]) r
def ZlX x0 zU ox0 r (h : g53 x0 zU = some r) := ZX h ox0
def Z6P (x0 : List Int) (x7 x8 : Int) (zU : List (Int × Bool)) : Option (Int × (List (Int × Bool))) := pick fun r => ∀ (ox0 : Own), RRun Q53 (Z6F 2 (pL_ ox0 (x0.map (eI .i64))) (.clo 44 [] [(.ptr 0 0)]) (iv x7) (iv x8) [[(.mp 1)], (rM_ eB zU)]) r
def ZaG x0 x7 x8 zU ox0 r (h : Z6P x0 x7 x8 zU = some r) := ZX h ox0
def Z5m (x54 : List Z2) (x55 x56 : Int) (b1 : ZC) (z6 z7 zj zh : Int) (zF : List (Int × Z2)) : Option (Z8 × Int) := pick fun r => ∀ (b0 b2 : Z8) (zy : List Z2) (ox54 z1 zB zn zb zu : Own) (zE : Z1d zb = true), RRun Q12 (Z5a 0 (.ptr 1 0) (.ptr 2 0) (.ptr 3 0) (.mp 4) (pL_ ox54 (x54.map Z4)) (iv x55) (iv x56) [(Z3 b0 z1), (Zl b1 zB zn), (Z3 b2 zb), (ZW z6 z7 zj zh zy zu), (rM_ Z4 zF)]) r
def Z9a x54 x55 x56 b0 b1 b2 z6 z7 zj zh zy zF ox54 z1 zB zn zb zu zE r (h : Z5m x54 x55 x56 b1 z6 z7 zj zh zF = some r) := ZX h b0 b2 zy ox54 z1 zB zn zb zu zE
def Z5n (x66 : List Int) (x67 x68 : Int) (b1 : ZC) (z6 z7 zj zh : Int) (zF : List (Int × Z2)) : Option (Z8 × Int) := pick fun r => ∀ (b0 b2 : Z8) (zy : List Z2) (ox66 z1 zB zn zb zu : Own) (zE : Z1d zb = true), RRun Q12 (Z5b 0 (.ptr 1 0) (.ptr 2 0) (.ptr 3 0) (.mp 4) (pL_ ox66 (x66.map (eI .i64))) (iv x67) (iv x68) [(Z3 b0 z1), (Zl b1 zB zn), (Z3 b2 zb), (ZW z6 z7 zj zh zy zu), (rM_ Z4 zF)]) r
def Z9c x66 x67 x68 b0 b1 b2 z6 z7 zj zh zy zF ox66 z1 zB zn zb zu zE r (h : Z5n x66 x67 x68 b1 z6 z7 zj zh zF = some r) := ZX h b0 b2 zy ox66 z1 zB zn zb zu zE
def Z5o (x85 : List Z2) (x86 x87 z6 z7 zj zh : Int) (zF : List (Int × Z2)) : Option (Z8 × Int) := pick fun r => ∀ (b0 : Z8) (b1 : ZC) (b2 : Z8) (zy : List Z2) (ox85 z1 zB zn zb zu : Own) (zE : Z1d zb = true), RRun Q12 (Z5c 0 (.ptr 2 0) (.ptr 3 0) (.mp 4) (pL_ ox85 (x85.map Z4)) (iv x86) (iv x87) [(Z3 b0 z1), (Zl b1 zB zn), (Z3 b2 zb), (ZW z6 z7 zj zh zy zu), (rM_ Z4 zF)]) r
def Z9e x85 x86 x87 b0 b1 b2 z6 z7 zj zh zy zF ox85 z1 zB zn zb zu zE r (h : Z5o x85 x86 x87 z6 z7 zj zh zF = some r) := ZX h b0 b1 b2 zy ox85 z1 zB zn zb zu zE
def g31 : Option Unit := pick fun r => ∀ (z37 : List (Int × Z2)), RRun (Q31 z37) (EE 31 [(.mp 0)] [(rM_ Z4 z37)]) r
def ZlG z37 r (h : g31 = some r) := ZX h z37
def g30 (zU : List (Int × Z2)) : Option (List Int) := pick fun r => RRun (Q30 zU) (EE 30 [(.clo 49 [] [(.ptr 0 0)])] [[(.mp 1)], (rM_ Z4 zU)]) r
def ZlE zU r (h : g30 zU = some r) := ZX h
def Z5p (x103 : List Int) (x104 x105 z6 z7 zj zh : Int) (zy : List Z2) (zF : List (Int × Z2)) : Option (Z8 × Int) := pick fun r => ∀ (b0 : Z8) (b1 : ZC) (b2 : Z8) (ox103 z1 zB zn zb zu : Own) (zE : Z1d zb = true) (z2a : Z1d zu = true), RRun Q12 (Z5d 0 (.ptr 2 0) (.ptr 3 0) (.mp 4) (pL_ ox103 (x103.map (eI .i64))) (iv x104) (iv x105) [(Z3 b0 z1), (Zl b1 zB zn), (Z3 b2 zb), (ZW z6 z7 zj zh zy zu), (rM_ Z4 zF)]) r
def Z9g x103 x104 x105 b0 b1 b2 z6 z7 zj zh zy zF ox103 z1 zB zn zb zu zE z2a r (h : Z5p x103 x104 x105 z6 z7 zj zh zy zF = some r) := ZX h b0 b1 b2 ox103 z1 zB zn zb zu zE z2a
def g11 (x0 : Z8) (x1 : ZC) : Option Bool := pick fun r => ∀ (zd z1f z1a : Own), RRun Q27 (EE 11 [(pA_ (ZL x0 zd)), (pA_ (Z1s x1 z1f z1a))] []) r
def Zgs x0 x1 zd z1f z1a r (h : g11 x0 x1 = some r) := ZX h zd z1f z1a
def g14 (x0 : Z8) : Option Zk := pick fun r => ∀ (zd : Own), RRun Q14 (EE 14 [(pA_ (ZL x0 zd))] []) r
def ZbZ x0 zd r (h : g14 x0 = some r) := ZX h zd
def Z6H (x16 : List Z2) (x17 x18 zV zZ z1c z15 : Int) (z17 : List Z2) : Option Zk := pick fun r => ∀ (b0 : Z8) (b1 : Zk) (ox16 z1 z1p zb : Own) (z29 : Z1d z1p = true) (zE : Z1d zb = true), RRun Q14 (Z6y 0 (.ptr 1 0) (.ptr 2 0) (pL_ ox16 (x16.map Z4)) (iv x17) (iv x18) [(Z3 b0 z1), (ZD b1 z1p), (Z3I zV zZ z1c z15 z17 zb)]) r
def Zaw x16 x17 x18 b0 b1 zV zZ z1c z15 z17 ox16 z1 z1p zb z29 zE r (h : Z6H x16 x17 x18 zV zZ z1c z15 z17 = some r) := ZX h b0 b1 ox16 z1 z1p zb z29 zE
def g13 (x0 x1 : Zk) : Option Bool := pick fun r => ∀ (zd zhh : Own), RRun Q27 (EE 13 [(pA_ (ZS x0 zd)), (pA_ (ZS x1 zhh))] []) r
def ZlL (x85 : S39) (x86 : Int) (b0 : Z8) (b1 b2 : ZC) (b3 : Z8) : Option Bool := pick fun r => ∀ (z1 zB zn zk8 zhW zu : Own), RRun Q27 (Zlc 0 (.ptr 0 0) (.ptr 1 0) (.ptr 2 0) (.ptr 3 0) (pA_ (Zmv x85)) (iv x86) [(Z3 b0 z1), (Zl b1 zB zn), (Zl b2 zk8 zhW), (Z3 b3 zu)]) r
def g19 (x0 : Zk) : Option Bool := pick fun r => ∀ (zd : Own), RRun Q27 (EE 19 [(pA_ (ZS x0 zd))] []) r
def Zgu x0 zd r (h : g19 x0 = some r) := ZX h zd
def g33 (x0 : Zk) : Option Bool := pick fun r => ∀ (zd : Own), RRun Q27 (EE 33 [(pA_ (ZS x0 zd))] []) r
def ZlI x0 zd r (h : g33 x0 = some r) := ZX h zd
def Z6J (x3 : Int) (b0 : Zk) : Option Bool := pick fun r => ∀ (z1 : Own), RRun Q27 (Z6B 0 (.ptr 0 0) (iv x3) [(ZD b0 z1)]) r
def ZaA x3 b0 z1 r (h : Z6J x3 b0 = some r) := ZX h z1
def g34 (x0 : Z2) : Option Bool := pick fun r => RRun Q27 (EE 34 [(pA_ (ZQ x0))] []) r
def ZlK x0 r (h : g34 x0 = some r) := ZX h
def g24 (x0 : Zk) (x1 : Int) : Option (List Int) := pick fun r => ∀ (zd : Own), RRun Q15 (EE 24 [(pA_ (ZS x0 zd)), (iv x1)] []) r
def Zgy x0 x1 zd r (h : g24 x0 x1 = some r) := ZX h zd
def Z6K (x1 : Int) (x5 : List Int) (x6 : Int) (b0 : Zk) : Option (List Int) := pick fun r => ∀ (ox5 z1 : Own) (hox5 : Z1d ox5 = true), RRun Q15 (Z6C 0 (iv x1) (.ptr 0 0) (pL_ ox5 (x5.map (eI .i64))) (iv x6) [(ZD b0 z1)]) r
def ZaC x1 x5 x6 b0 ox5 z1 hox5 r (h : Z6K x1 x5 x6 b0 = some r) := ZX h ox5 z1 hox5
def Z6M (x1 : Int) (x5 : List Int) (x6 x7 : Int) (b0 : Zk) : Option (List Int) := pick fun r => ∀ (ox5 z1 : Own) (hox5 : Z1d ox5 = true), RRun Q15 (Z6D 0 (iv x1) (.ptr 0 0) (pL_ ox5 (x5.map (eI .i64))) (iv x6) (iv x7) [(ZD b0 z1)]) r
def ZaE x1 x5 x6 x7 b0 ox5 z1 hox5 r (h : Z6M x1 x5 x6 x7 b0 = some r) := ZX h ox5 z1 hox5
end Go.Proofs.Ytbmmhbpalkepeaa.N2
end
