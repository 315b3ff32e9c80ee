/- The functions, read typed: their types, and what they stand for. No condition. -/
import Derived.Test.YtiigbcahdaoedaaGreatDoorSim
import Derived.Test.YtiigbcahdaoedaaGreatDoorEqs

set_option linter.unusedSimpArgs false
set_option linter.unusedVariables false
set_option linter.defProp false
noncomputable section
namespace Go.Proofs.YtiigbcahdaoedaaGreatDoor.N2
open Go Go.Abs
set_option maxRecDepth 100000
theorem gj_ (n : Nat) {l k : List PV} (h : l = k) : l.getD n .junk = k.getD n .junk := congrArg (fun l => l.getD n .junk) h
structure Z4 where
 ID : Int
 Priority : Int
 Action : Int
 Scope : Int
 Pattern : ByteArray
 deriving Inhabited
def Z1o (a : Z4) : List PV := [(eI .i64) a.ID, (eI .i64) a.Priority, (eI .i64) a.Action, (eI .i64) a.Scope, eS a.Pattern]
def Z2 (a : Z4) : PV := .agg (Z1o a)
def ZJ (a : Z4) : List PV := [(eI .i64) a.ID, (eI .i64) a.Priority, (eI .i64) a.Action, (eI .i64) a.Scope, eS a.Pattern]
def ZG (a : Z4) : Row := [.p ((eI .i64) a.ID), .p ((eI .i64) a.Priority), .p ((eI .i64) a.Action), .p ((eI .i64) a.Scope), .p (eS a.Pattern)]
theorem ZcX {a b : Z4} (h : Z1o a = Z1o b) : a = b := by
 have h0 : a.ID = b.ID := Z1w _ _ (gj_ 0 h)
 have h1 : a.Priority = b.Priority := Z1w _ _ (gj_ 1 h)
 have h2 : a.Action = b.Action := Z1w _ _ (gj_ 2 h)
 have h3 : a.Scope = b.Scope := Z1w _ _ (gj_ 3 h)
 have h4 : a.Pattern = b.Pattern := Zvd _ _ (gj_ 4 h)
 cases a; cases b
 cases h0
 cases h1
 cases h2
 cases h3
 cases h4
 rfl
theorem Z4a (a b : Z4) (h : Z2 a = Z2 b) : a = b := ZcX (congrArg pC h)
structure Z26 where
 Default : Int
 Closed : Int
 Fuel : Int
 Stack : Int
 Put : (List Z4)
 Drop : (List Int)
 deriving Inhabited
def Zcs (a : Z26) : List PV := [(eI .i64) a.Default, (eI .i64) a.Closed, (eI .i64) a.Fuel, (eI .i64) a.Stack, (eL Z2) a.Put, (eL (eI .i64)) a.Drop]
def Z6s (a : Z26) (o0 o1 : Own) : List PV := [(eI .i64) a.Default, (eI .i64) a.Closed, (eI .i64) a.Fuel, (eI .i64) a.Stack, .lst o0 (a.Put.map Z2), .lst o1 (a.Drop.map (eI .i64))]
def Zo (a : Z26) (o0 o1 : Own) : Row := [.p ((eI .i64) a.Default), .p ((eI .i64) a.Closed), .p ((eI .i64) a.Fuel), .p ((eI .i64) a.Stack), .p (.lst o0 (a.Put.map Z2)), .p (.lst o1 (a.Drop.map (eI .i64)))]
theorem ZhW {a b : Z26} (h : Zcs a = Zcs b) : a = b := by
 have h0 : a.Default = b.Default := Z1w _ _ (gj_ 0 h)
 have h1 : a.Closed = b.Closed := Z1w _ _ (gj_ 1 h)
 have h2 : a.Fuel = b.Fuel := Z1w _ _ (gj_ 2 h)
 have h3 : a.Stack = b.Stack := Z1w _ _ (gj_ 3 h)
 have h4 : a.Put = b.Put := (ZbT Z4a) _ _ (gj_ 4 h)
 have h5 : a.Drop = b.Drop := (ZbT Z1w) _ _ (gj_ 5 h)
 cases a; cases b
 cases h0
 cases h1
 cases h2
 cases h3
 cases h4
 cases h5
 rfl
structure Z8 where
 View : Int
 Client : Int
 Request : Int
 Delta : Z26
 deriving Inhabited
def Z3m (a : Z8) : List PV := [(eI .i64) a.View, (eI .i64) a.Client, (eI .i64) a.Request, (eI .i64) a.Delta.Default, (eI .i64) a.Delta.Closed, (eI .i64) a.Delta.Fuel, (eI .i64) a.Delta.Stack, (eL Z2) a.Delta.Put, (eL (eI .i64)) a.Delta.Drop]
def Za (a : Z8) : PV := .agg (Z3m a)
def Z17 (a : Z8) (o0 o1 : Own) : List PV := [(eI .i64) a.View, (eI .i64) a.Client, (eI .i64) a.Request, (eI .i64) a.Delta.Default, (eI .i64) a.Delta.Closed, (eI .i64) a.Delta.Fuel, (eI .i64) a.Delta.Stack, .lst o0 (a.Delta.Put.map Z2), .lst o1 (a.Delta.Drop.map (eI .i64))]
def Zk (a : Z8) (o0 o1 : Own) : Row := [.p ((eI .i64) a.View), .p ((eI .i64) a.Client), .p ((eI .i64) a.Request), .p ((eI .i64) a.Delta.Default), .p ((eI .i64) a.Delta.Closed), .p ((eI .i64) a.Delta.Fuel), .p ((eI .i64) a.Delta.Stack), .p (.lst o0 (a.Delta.Put.map Z2)), .p (.lst o1 (a.Delta.Drop.map (eI .i64)))]
theorem ZhV {a b : Z8} (h : Z3m a = Z3m b) : a = b := by
 have h0 : a.View = b.View := Z1w _ _ (gj_ 0 h)
 have h1 : a.Client = b.Client := Z1w _ _ (gj_ 1 h)
 have h2 : a.Request = b.Request := Z1w _ _ (gj_ 2 h)
 have h3 : a.Delta = b.Delta := ZhW (congrArg (fun l => (l.drop 3).take 6) h)
 cases a; cases b
 cases h0
 cases h1
 cases h2
 cases h3
 rfl
theorem Z95 (a b : Z8) (h : Za a = Za b) : a = b := ZhV (congrArg pC h)
structure Z0 where
 View : Int
 Normal : Int
 Commit : Int
 Active : Int
 Log : (List Z8)
 deriving Inhabited
def Z20 (a : Z0) : List PV := [(eI .i64) a.View, (eI .i64) a.Normal, (eI .i64) a.Commit, (eI .i64) a.Active, (eL Za) a.Log]
def Z3 (a : Z0) : PV := .agg (Z20 a)
def Zv (a : Z0) (o0 : Own) : List PV := [(eI .i64) a.View, (eI .i64) a.Normal, (eI .i64) a.Commit, (eI .i64) a.Active, .lst o0 (a.Log.map Za)]
def Ze (a : Z0) (o0 : Own) : Row := [.p ((eI .i64) a.View), .p ((eI .i64) a.Normal), .p ((eI .i64) a.Commit), .p ((eI .i64) a.Active), .p (.lst o0 (a.Log.map Za))]
theorem Zgc {a b : Z0} (h : Z20 a = Z20 b) : a = b := by
 have h0 : a.View = b.View := Z1w _ _ (gj_ 0 h)
 have h1 : a.Normal = b.Normal := Z1w _ _ (gj_ 1 h)
 have h2 : a.Commit = b.Commit := Z1w _ _ (gj_ 2 h)
 have h3 : a.Active = b.Active := Z1w _ _ (gj_ 3 h)
 have h4 : a.Log = b.Log := (ZbT Z95) _ _ (gj_ 4 h)
 cases a; cases b
 cases h0
 cases h1
 cases h2
 cases h3
 cases h4
 rfl
theorem Zge (a b : Z0) (h : Z3 a = Z3 b) : a = b := Zgc (congrArg pC h)
structure Zp where
 Default : Int
 Closed : Int
 Fuel : Int
 Stack : Int
 Rules : (List Z4)
 deriving Inhabited
def ZbJ (a : Zp) : List PV := [(eI .i64) a.Default, (eI .i64) a.Closed, (eI .i64) a.Fuel, (eI .i64) a.Stack, (eL Z2) a.Rules]
def Zz (a : Zp) : PV := .agg (ZbJ a)
def Z2z (a : Zp) (o0 : Own) : List PV := [(eI .i64) a.Default, (eI .i64) a.Closed, (eI .i64) a.Fuel, (eI .i64) a.Stack, .lst o0 (a.Rules.map Z2)]
def Z1t (a : Zp) (o0 : Own) : Row := [.p ((eI .i64) a.Default), .p ((eI .i64) a.Closed), .p ((eI .i64) a.Fuel), .p ((eI .i64) a.Stack), .p (.lst o0 (a.Rules.map Z2))]
theorem Zao {a b : Zp} (h : ZbJ a = ZbJ b) : a = b := by
 have h0 : a.Default = b.Default := Z1w _ _ (gj_ 0 h)
 have h1 : a.Closed = b.Closed := Z1w _ _ (gj_ 1 h)
 have h2 : a.Fuel = b.Fuel := Z1w _ _ (gj_ 2 h)
 have h3 : a.Stack = b.Stack := Z1w _ _ (gj_ 3 h)
 have h4 : a.Rules = b.Rules := (ZbT Z4a) _ _ (gj_ 4 h)
 cases a; cases b
 cases h0
 cases h1
 cases h2
 cases h3
 cases h4
 rfl
theorem Zap (a b : Zp) (h : Zz a = Zz b) : a = b := Zao (congrArg pC h)
structure Z9H where
 Code : Int
 Rule : Int
 At : Int
 deriving Inhabited
def ZbS (a : Z9H) : List PV := [(eI .i64) a.Code, (eI .i64) a.Rule, (eI .i64) a.At]
theorem Zee {a b : Z9H} (h : ZbS a = ZbS b) : a = b := by
 have h0 : a.Code = b.Code := Z1w _ _ (gj_ 0 h)
 have h1 : a.Rule = b.Rule := Z1w _ _ (gj_ 1 h)
 have h2 : a.At = b.At := Z1w _ _ (gj_ 2 h)
 cases a; cases b
 cases h0
 cases h1
 cases h2
 rfl
structure Z4H where
 Version : Int
 Verdict : Z9H
 deriving Inhabited
def ZbR (a : Z4H) : List PV := [(eI .i64) a.Version, (eI .i64) a.Verdict.Code, (eI .i64) a.Verdict.Rule, (eI .i64) a.Verdict.At]
def Zcf (a : Z4H) : List PV := [(eI .i64) a.Version, (eI .i64) a.Verdict.Code, (eI .i64) a.Verdict.Rule, (eI .i64) a.Verdict.At]
theorem Zed {a b : Z4H} (h : ZbR a = ZbR b) : a = b := by
 have h0 : a.Version = b.Version := Z1w _ _ (gj_ 0 h)
 have h1 : a.Verdict = b.Verdict := Zee (congrArg (fun l => (l.drop 1).take 3) h)
 cases a; cases b
 cases h0
 cases h1
 rfl
structure ZT where
 request : Int
 Outcome : Z4H
 deriving Inhabited
def Zan (a : ZT) : List PV := [(eI .i64) a.request, (eI .i64) a.Outcome.Version, (eI .i64) a.Outcome.Verdict.Code, (eI .i64) a.Outcome.Verdict.Rule, (eI .i64) a.Outcome.Verdict.At]
def ZF (a : ZT) : PV := .agg (Zan a)
theorem Zgb {a b : ZT} (h : Zan a = Zan b) : a = b := by
 have h0 : a.request = b.request := Z1w _ _ (gj_ 0 h)
 have h1 : a.Outcome = b.Outcome := Zed (congrArg (fun l => (l.drop 1).take 4) h)
 cases a; cases b
 cases h0
 cases h1
 rfl
theorem Zgd (a b : ZT) (h : ZF a = ZF b) : a = b := Zgb (congrArg pC h)
structure Z5 where
 Default : Int
 Closed : Int
 Fuel : Int
 Stack : Int
 Put : (List Z4)
 Drop : (List Int)
 deriving Inhabited
def Z9j (a : Z5) : List PV := [(eI .i64) a.Default, (eI .i64) a.Closed, (eI .i64) a.Fuel, (eI .i64) a.Stack, (eL Z2) a.Put, (eL (eI .i64)) a.Drop]
def Z1m (a : Z5) (o0 o1 : Own) : List PV := [(eI .i64) a.Default, (eI .i64) a.Closed, (eI .i64) a.Fuel, (eI .i64) a.Stack, .lst o0 (a.Put.map Z2), .lst o1 (a.Drop.map (eI .i64))]
def Zc (a : Z5) (o0 o1 : Own) : Row := [.p ((eI .i64) a.Default), .p ((eI .i64) a.Closed), .p ((eI .i64) a.Fuel), .p ((eI .i64) a.Stack), .p (.lst o0 (a.Put.map Z2)), .p (.lst o1 (a.Drop.map (eI .i64)))]
theorem Z7L {a b : Z5} (h : Z9j a = Z9j b) : a = b := by
 have h0 : a.Default = b.Default := Z1w _ _ (gj_ 0 h)
 have h1 : a.Closed = b.Closed := Z1w _ _ (gj_ 1 h)
 have h2 : a.Fuel = b.Fuel := Z1w _ _ (gj_ 2 h)
 have h3 : a.Stack = b.Stack := Z1w _ _ (gj_ 3 h)
 have h4 : a.Put = b.Put := (ZbT Z4a) _ _ (gj_ 4 h)
 have h5 : a.Drop = b.Drop := (ZbT Z1w) _ _ (gj_ 5 h)
 cases a; cases b
 cases h0
 cases h1
 cases h2
 cases h3
 cases h4
 cases h5
 rfl
structure Zb where
 View : Int
 Client : Int
 Request : Int
 Delta : Z5
 deriving Inhabited
def Z1l (a : Zb) : List PV := [(eI .i64) a.View, (eI .i64) a.Client, (eI .i64) a.Request, (eI .i64) a.Delta.Default, (eI .i64) a.Delta.Closed, (eI .i64) a.Delta.Fuel, (eI .i64) a.Delta.Stack, (eL Z2) a.Delta.Put, (eL (eI .i64)) a.Delta.Drop]
def Zg (a : Zb) : PV := .agg (Z1l a)
def Z1e (a : Zb) (o0 o1 : Own) : List PV := [(eI .i64) a.View, (eI .i64) a.Client, (eI .i64) a.Request, (eI .i64) a.Delta.Default, (eI .i64) a.Delta.Closed, (eI .i64) a.Delta.Fuel, (eI .i64) a.Delta.Stack, .lst o0 (a.Delta.Put.map Z2), .lst o1 (a.Delta.Drop.map (eI .i64))]
def ZL (a : Zb) (o0 o1 : Own) : Row := [.p ((eI .i64) a.View), .p ((eI .i64) a.Client), .p ((eI .i64) a.Request), .p ((eI .i64) a.Delta.Default), .p ((eI .i64) a.Delta.Closed), .p ((eI .i64) a.Delta.Fuel), .p ((eI .i64) a.Delta.Stack), .p (.lst o0 (a.Delta.Put.map Z2)), .p (.lst o1 (a.Delta.Drop.map (eI .i64)))]
theorem Zcr {a b : Zb} (h : Z1l a = Z1l b) : a = b := by
 have h0 : a.View = b.View := Z1w _ _ (gj_ 0 h)
 have h1 : a.Client = b.Client := Z1w _ _ (gj_ 1 h)
 have h2 : a.Request = b.Request := Z1w _ _ (gj_ 2 h)
 have h3 : a.Delta = b.Delta := Z7L (congrArg (fun l => (l.drop 3).take 6) h)
 cases a; cases b
 cases h0
 cases h1
 cases h2
 cases h3
 rfl
theorem Z7O (a b : Zb) (h : Zg a = Zg b) : a = b := Zcr (congrArg pC h)
structure Z1 where
 View : Int
 Normal : Int
 Commit : Int
 Active : Int
 Log : (List Zb)
 deriving Inhabited
def Z2m (a : Z1) : List PV := [(eI .i64) a.View, (eI .i64) a.Normal, (eI .i64) a.Commit, (eI .i64) a.Active, (eL Zg) a.Log]
def Zf (a : Z1) : PV := .agg (Z2m a)
def ZO (a : Z1) (o0 : Own) : List PV := [(eI .i64) a.View, (eI .i64) a.Normal, (eI .i64) a.Commit, (eI .i64) a.Active, .lst o0 (a.Log.map Zg)]
def ZI (a : Z1) (o0 : Own) : Row := [.p ((eI .i64) a.View), .p ((eI .i64) a.Normal), .p ((eI .i64) a.Commit), .p ((eI .i64) a.Active), .p (.lst o0 (a.Log.map Zg))]
theorem Z7M {a b : Z1} (h : Z2m a = Z2m b) : a = b := by
 have h0 : a.View = b.View := Z1w _ _ (gj_ 0 h)
 have h1 : a.Normal = b.Normal := Z1w _ _ (gj_ 1 h)
 have h2 : a.Commit = b.Commit := Z1w _ _ (gj_ 2 h)
 have h3 : a.Active = b.Active := Z1w _ _ (gj_ 3 h)
 have h4 : a.Log = b.Log := (ZbT Z7O) _ _ (gj_ 4 h)
 cases a; cases b
 cases h0
 cases h1
 cases h2
 cases h3
 cases h4
 rfl
theorem Z7P (a b : Z1) (h : Zf a = Zf b) : a = b := Z7M (congrArg pC h)
structure Z5a where
 Kind : Int
 A : Int
 B : Int
 Log : (List Z8)
 deriving Inhabited
def Zbn (a : Z5a) : List PV := [(eI .i64) a.Kind, (eI .i64) a.A, (eI .i64) a.B, (eL Za) a.Log]
def Z8H (a : Z5a) : PV := .agg (Zbn a)
theorem Zgs {a b : Z5a} (h : Zbn a = Zbn b) : a = b := by
 have h0 : a.Kind = b.Kind := Z1w _ _ (gj_ 0 h)
 have h1 : a.A = b.A := Z1w _ _ (gj_ 1 h)
 have h2 : a.B = b.B := Z1w _ _ (gj_ 2 h)
 have h3 : a.Log = b.Log := (ZbT Z95) _ _ (gj_ 3 h)
 cases a; cases b
 cases h0
 cases h1
 cases h2
 cases h3
 rfl
theorem ZbU (a b : Z5a) (h : Z8H a = Z8H b) : a = b := Zgs (congrArg pC h)
theorem et_ {α : Type} {a b c : α} (h : b = c) (g : a = b := by kernel_rfl) : a = c := g.trans h
theorem ru_ {R : Type} {Q : R → Res → Prop} {e : Option Res} {a b : R} (u : ∀ a b q, Q a q → Q b q → a = b) (h : RRun Q e a) (g : RRun Q e b) : a = b := RRun.uniq u h g
abbrev ZeE := Z0.mk 0 0 0 0 ([] : List Z8)
abbrev Zob := Z26.mk 0 0 0 0 ([] : List Z4) ([] : List Int)
abbrev Zoc := Z8.mk 0 0 0 (Z26.mk 0 0 0 0 ([] : List Z4) ([] : List Int))
abbrev ZdM := Zp.mk 0 0 0 0 ([] : List Z4)
abbrev Zod := Z1.mk 0 0 0 0 ([] : List Zb)
abbrev Zl2 := Z5.mk 0 0 0 0 ([] : List Z4) ([] : List Int)
abbrev Zbz a0 a1 a2 a3 a4 a5 o0 o1 := Zc (Z5.mk a0 a1 a2 a3 a4 a5) o0 o1
abbrev Zh (o : Own) (l : List PV) : AV := .p (.lst o l)
abbrev pA_ (l : List PV) : AV := .p (.agg l)
abbrev rM_ {α : Type} (e : α → PV) (l : List (Int × α)) : Row := [.md (l.map (encM e))]
abbrev Z6 : Bool → Res → Prop := fun r q => ∃ (ex : List Row), q = ((bv r), ex)
theorem ZE : ∀ a b q, Z6 a q → Z6 b q → a = b := by
 rintro a b q ⟨_, e1⟩ ⟨_, e2⟩
 have e := e1.symm.trans e2
 exact congrArg (fun q : Res => pB (pA q.1)) e
abbrev Zd : Int → Res → Prop := fun r q => ∃ (ex : List Row), q = ((iv r), ex)
theorem Z11 : ∀ a b q, Zd a q → Zd b q → a = b := by
 rintro a b q ⟨_, e1⟩ ⟨_, e2⟩
 have e := e1.symm.trans e2
 exact congrArg (fun q : Res => pI (pA q.1)) e
abbrev Z2D : (List Z0) → Res → Prop := fun r q => ∃ (ex : List Row), q = ((Zh .sh (r.map Z3)), ex)
theorem ZdZ : ∀ a b q, Z2D a q → Z2D b q → a = b := by
 rintro a b q ⟨_, e1⟩ ⟨_, e2⟩
 have e := e1.symm.trans e2
 exact Z4o Zge (congrArg (fun q : Res => pL (pA q.1)) e)
abbrev Zah : (List Z8) → Res → Prop := fun r q => ∃ (ex : List Row), q = ((Zh .sh (r.map Za)), ex)
theorem Zkk : ∀ a b q, Zah a q → Zah b q → a = b := by
 rintro a b q ⟨_, e1⟩ ⟨_, e2⟩
 have e := e1.symm.trans e2
 exact Z4o Z95 (congrArg (fun q : Res => pL (pA q.1)) e)
abbrev ZR : (Int × Int × Bool) → Res → Prop := fun r q => ∃ (ex : List Row), q = ((.p (.tup [(.v (.int .i64 r.1)), (.v (.int .i64 r.2.1)), (.v (.bool r.2.2))])), ex)
theorem Z3B : ∀ a b q, ZR a q → ZR b q → a = b := by
 rintro a b q ⟨_, e1⟩ ⟨_, e2⟩
 have e := e1.symm.trans e2
 exact Z8x (congrArg (fun q : Res => pI ((pT (pA q.1)).getD 0 .junk)) e) (Z8x (congrArg (fun q : Res => pI ((pT (pA q.1)).getD 1 .junk)) e) (congrArg (fun q : Res => pB ((pT (pA q.1)).getD 2 .junk)) e))
abbrev Zai : Zp → Res → Prop := fun r q => ∃ (ex : List Row), q = ((pA_ (Z2z r .sh)), ex)
theorem Zkl : ∀ a b q, Zai a q → Zai b q → a = b := by
 rintro a b q ⟨_, e1⟩ ⟨_, e2⟩
 have e := e1.symm.trans e2
 exact Zao (congrArg (fun q : Res => pC (pA q.1)) e)
abbrev Z9w : ((List (Int × ZT)) × (List Zp) × Int) → Res → Prop := fun r q => ∃ (n1_0 : Own) (ex : List Row), Z1i n1_0 = true ∧ q = ((.ptr 1 0), [(rM_ ZF r.1), [(Zh n1_0 (r.2.1.map Zz)), (.mp 0), (iv r.2.2)]]) ∧ ex = []
theorem ZiX : ∀ a b q, Z9w a q → Z9w b q → a = b := by
 rintro a b q ⟨_, _, _, e1, _⟩ ⟨_, _, _, e2, _⟩
 have e := e1.symm.trans e2
 exact Z8x (Z4o (Ztw Zgd) (congrArg (fun q : Res => pM (cellAt q 0 0)) e)) (Z8x (Z4o Zap (congrArg (fun q : Res => pL (pA (cellAt q 1 0))) e)) (congrArg (fun q : Res => pI (pA (cellAt q 1 2))) e))
abbrev ZcV (z1d : List Zp) (z1G : Int) (zW : List (Int × ZT)) (z15 : Own) : (Z4H × Int) → Res → Prop := fun r q => ∃ (ex : List Row), q = ((.p (.tup [(.agg (Zcf r.1)), (.v (.int .i64 r.2))])), [[(Zh z15 (z1d.map Zz)), (.mp 1), (iv z1G)], (rM_ ZF zW)] ++ ex)
abbrev Z36 (z1d : List Zp) (z1G : Int) (zW : List (Int × ZT)) (z15 : Own) : Int → Res → Prop := fun r q => ∃ (ex : List Row), q = ((iv r), [[(Zh z15 (z1d.map Zz)), (.mp 1), (iv z1G)], (rM_ ZF zW)] ++ ex)
theorem Za7 (z1d : List Zp) (z1G : Int) (zW : List (Int × ZT)) (z15 : Own) : ∀ a b q, Z36 z1d z1G zW z15 a q → Z36 z1d z1G zW z15 b q → a = b := by
 rintro a b q ⟨_, e1⟩ ⟨_, e2⟩
 have e := e1.symm.trans e2
 exact congrArg (fun q : Res => pI (pA q.1)) e
abbrev Z80 : (List Z4) → Res → Prop := fun r q => ∃ (ex : List Row), q = ((Zh .sh (r.map Z2)), ex)
theorem ZeF : ∀ a b q, Z80 a q → Z80 b q → a = b := by
 rintro a b q ⟨_, e1⟩ ⟨_, e2⟩
 have e := e1.symm.trans e2
 exact Z4o Z4a (congrArg (fun q : Res => pL (pA q.1)) e)
abbrev Z2o (z1d : List Zp) (z1G : Int) (zW : List (Int × ZT)) (z15 : Own) : (Zp × Bool) → Res → Prop := fun r q => ∃ (ex : List Row), q = ((.p (.tup [(.agg (Z2z r.1 .sh)), (.v (.bool r.2))])), [[(Zh z15 (z1d.map Zz)), (.mp 1), (iv z1G)], (rM_ ZF zW)] ++ ex)
theorem ZbQ (z1d : List Zp) (z1G : Int) (zW : List (Int × ZT)) (z15 : Own) : ∀ a b q, Z2o z1d z1G zW z15 a q → Z2o z1d z1G zW z15 b q → a = b := by
 rintro a b q ⟨_, e1⟩ ⟨_, e2⟩
 have e := e1.symm.trans e2
 exact Z8x (Zao (congrArg (fun q : Res => pC ((pT (pA q.1)).getD 0 .junk)) e)) (congrArg (fun q : Res => pB ((pT (pA q.1)).getD 1 .junk)) e)
abbrev Z1M : (List Zp) → Res → Prop := fun r q => ∃ (ex : List Row), q = ((Zh .sh (r.map Zz)), ex)
theorem Z8z : ∀ a b q, Z1M a q → Z1M b q → a = b := by
 rintro a b q ⟨_, e1⟩ ⟨_, e2⟩
 have e := e1.symm.trans e2
 exact Z4o Zap (congrArg (fun q : Res => pL (pA q.1)) e)
abbrev Z2g : Z5 → Res → Prop := fun r q => ∃ (ex : List Row), q = ((pA_ (Z1m r .sh .sh)), ex)
theorem Z9i : ∀ a b q, Z2g a q → Z2g b q → a = b := by
 rintro a b q ⟨_, e1⟩ ⟨_, e2⟩
 have e := e1.symm.trans e2
 exact Z7L (congrArg (fun q : Res => pC (pA q.1)) e)
abbrev Z1W : (List Zb) → Res → Prop := fun r q => ∃ (ex : List Row), q = ((Zh .sh (r.map Zg)), ex)
theorem Z8j : ∀ a b q, Z1W a q → Z1W b q → a = b := by
 rintro a b q ⟨_, e1⟩ ⟨_, e2⟩
 have e := e1.symm.trans e2
 exact Z4o Z7O (congrArg (fun q : Res => pL (pA q.1)) e)
abbrev Z5z : Z1 → Res → Prop := fun r q => ∃ (ex : List Row), q = ((pA_ (ZO r .sh)), ex)
theorem Zec : ∀ a b q, Z5z a q → Z5z b q → a = b := by
 rintro a b q ⟨_, e1⟩ ⟨_, e2⟩
 have e := e1.symm.trans e2
 exact Z7M (congrArg (fun q : Res => pC (pA q.1)) e)
abbrev Z1n : (List Z1) → Res → Prop := fun r q => ∃ (ex : List Row), q = ((Zh .sh (r.map Zf)), ex)
theorem Z6v : ∀ a b q, Z1n a q → Z1n b q → a = b := by
 rintro a b q ⟨_, e1⟩ ⟨_, e2⟩
 have e := e1.symm.trans e2
 exact Z4o Z7P (congrArg (fun q : Res => pL (pA q.1)) e)
abbrev Z3Z : (Int × Bool) → Res → Prop := fun r q => ∃ (ex : List Row), q = ((.p (.tup [(.v (.int .i64 r.1)), (.v (.bool r.2))])), ex)
theorem Zio : ∀ a b q, Z3Z a q → Z3Z b q → a = b := by
 rintro a b q ⟨_, e1⟩ ⟨_, e2⟩
 have e := e1.symm.trans e2
 exact Z8x (congrArg (fun q : Res => pI ((pT (pA q.1)).getD 0 .junk)) e) (congrArg (fun q : Res => pB ((pT (pA q.1)).getD 1 .junk)) e)
abbrev Z3d : ((List Z5a) × Int) → Res → Prop := fun r q => ∃ (ex : List Row), q = ((.p (.tup [(.lst .sh (r.1.map Z8H)), (.v (.int .i64 r.2))])), ex)
theorem Zgp : ∀ a b q, Z3d a q → Z3d b q → a = b := by
 rintro a b q ⟨_, e1⟩ ⟨_, e2⟩
 have e := e1.symm.trans e2
 exact Z8x (Z4o ZbU (congrArg (fun q : Res => pL ((pT (pA q.1)).getD 0 .junk)) e)) (congrArg (fun q : Res => pI ((pT (pA q.1)).getD 1 .junk)) e)
def Z2f (x0 : List Z0) : Option (Int × Int × Bool) := pick fun r => ∀ (ox0 : Own), RRun ZR (EE 12 [(Zh ox0 (x0.map Z3))] []) r
def Z9N x0 ox0 r (h : Z2f x0 = some r) := ZC h ox0
def Z6q (x0 : List Z0) : Option (List Z0) := pick fun r => ∀ (ox0 : Own), RRun Z2D (EE 28 [(Zh ox0 (x0.map Z3))] []) r
def Z7J x0 ox0 r (h : Z6q x0 = some r) := ZC h ox0
def Z67 (x3 x6 : List Z0) (x7 x8 : Int) : Option (List Z0) := pick fun r => ∀ (ox3 ox6 : Own) (hox3 : Z1i ox3 = true), RRun Z2D (ZgM 0 (Zh ox3 (x3.map Z3)) (Zh ox6 (x6.map Z3)) (iv x7) (iv x8) []) r
def Zbc x3 x6 x7 x8 ox3 ox6 hox3 r (h : Z67 x3 x6 x7 x8 = some r) := ZC h ox3 ox6 hox3
def Z3r (x0 : Z0) : Option Bool := pick fun r => ∀ (zl : Own), RRun Z6 (EE 23 [(pA_ (Zv x0 zl))] []) r
def Z90 x0 zl r (h : Z3r x0 = some r) := ZC h zl
def Z2Q (x0 : List Z8) : Option Bool := pick fun r => ∀ (ox0 : Own), RRun Z6 (EE 42 [(Zh ox0 (x0.map Za)), (.clo 43 [] [])] []) r
def Z99 x0 ox0 r (h : Z2Q x0 = some r) := ZC h ox0
def Z3u (x0 : List Z8) : Option Int := pick fun r => ∀ (ox0 : Own), RRun Zd (EE 59 [(Zh ox0 (x0.map Za)), (.clo 43 [] [])] []) r
def Zaf x0 ox0 r (h : Z3u x0 = some r) := ZC h ox0
def Z2a (x0 : List Z8) (x7 x8 : Int) : Option Int := pick fun r => ∀ (ox0 : Own), RRun Zd (Zh5 0 (Zh ox0 (x0.map Za)) (.clo 43 [] []) (iv x7) (iv x8) []) r
def Z5x x0 x7 x8 ox0 r (h : Z2a x0 x7 x8 = some r) := ZC h ox0
def Z58 (x0 : Z8) : Option Bool := pick fun r => ∀ (z9 z7 : Own), RRun Z6 (EE 43 [(pA_ (Z17 x0 z9 z7))] []) r
def Zd6 x0 z9 z7 r (h : Z58 x0 = some r) := ZC h z9 z7
def Z6K (x0 : Z8) : Option Bool := pick fun r => ∀ (z9 z7 : Own), RRun Z6 (EE 44 [(pA_ (Z17 x0 z9 z7))] []) r
def ZeW x0 z9 z7 r (h : Z6K x0 = some r) := ZC h z9 z7
def Z2G (x0 x1 : Int) : Option Bool := pick fun r => RRun Z6 (EE 60 [(iv x0), (iv x1)] []) r
def Z3h x0 x1 r (h : Z2G x0 x1 = some r) := ZC h
def Z35 (x0 : List Z4) : Option Bool := pick fun r => ∀ (ox0 : Own), RRun Z6 (EE 61 [(Zh ox0 (x0.map Z2)), (.clo 62 [] [])] []) r
def Z9o x0 ox0 r (h : Z35 x0 = some r) := ZC h ox0
def Z3H (x0 : List Z4) : Option Int := pick fun r => ∀ (ox0 : Own), RRun Zd (EE 80 [(Zh ox0 (x0.map Z2)), (.clo 62 [] [])] []) r
def ZaJ x0 ox0 r (h : Z3H x0 = some r) := ZC h ox0
def Z2j (x0 : List Z4) (x7 x8 : Int) : Option Int := pick fun r => ∀ (ox0 : Own), RRun Zd (Zhe 0 (Zh ox0 (x0.map Z2)) (.clo 62 [] []) (iv x7) (iv x8) []) r
def Z5R x0 x7 x8 ox0 r (h : Z2j x0 x7 x8 = some r) := ZC h ox0
def Z5L (x0 : Z4) : Option Bool := pick fun r => RRun Z6 (EE 62 [(pA_ (ZJ x0))] []) r
def ZdT x0 r (h : Z5L x0 = some r) := ZC h
def Z76 (x0 : Z4) : Option Bool := pick fun r => RRun Z6 (EE 63 [(pA_ (ZJ x0))] []) r
def ZfO x0 r (h : Z76 x0 = some r) := ZC h
def Z3c (x0 : List Int) : Option Bool := pick fun r => ∀ (ox0 : Own), RRun Z6 (EE 64 [(Zh ox0 (x0.map (eI .i64))), (.clo 65 [] [])] []) r
def Z9Q x0 ox0 r (h : Z3c x0 = some r) := ZC h ox0
def Z3W (x0 : List Int) : Option Int := pick fun r => ∀ (ox0 : Own), RRun Zd (EE 81 [(Zh ox0 (x0.map (eI .i64))), (.clo 65 [] [])] []) r
def Zb6 x0 ox0 r (h : Z3W x0 = some r) := ZC h ox0
def Z2s (x0 : List Int) (x7 x8 : Int) : Option Int := pick fun r => ∀ (ox0 : Own), RRun Zd (Zhf 0 (Zh ox0 (x0.map (eI .i64))) (.clo 65 [] []) (iv x7) (iv x8) []) r
def Z6b x0 x7 x8 ox0 r (h : Z2s x0 x7 x8 = some r) := ZC h ox0
def Z5M (x0 : Int) : Option Bool := pick fun r => RRun Z6 (EE 65 [(iv x0)] []) r
def ZdV x0 r (h : Z5M x0 = some r) := ZC h
def Z65 (x0 : List Z0) (x2 x3 : Int) (x11 : List Z0) (x12 x13 : Int) : Option (Int × Int × Bool) := pick fun r => ∀ (ox0 ox11 : Own), RRun ZR (Zgv 0 (Zh ox0 (x0.map Z3)) (iv x2) (iv x3) (Zh ox11 (x11.map Z3)) (iv x12) (iv x13) []) r
def Zb8 x0 x2 x3 x11 x12 x13 ox0 ox11 r (h : Z65 x0 x2 x3 x11 x12 x13 = some r) := ZC h ox0 ox11
def Z66 (x0 : List Z0) (x2 x3 x5 : Int) (x11 : List Z0) (x12 x13 : Int) (x20 : List Z0) (x21 x22 : Int) (b0 : Z0) : Option (Int × Int × Bool) := pick fun r => ∀ (ox0 ox11 ox20 zj : Own), RRun ZR (Zgw 0 (Zh ox0 (x0.map Z3)) (iv x2) (iv x3) (iv x5) (.ptr 0 0) (Zh ox11 (x11.map Z3)) (iv x12) (iv x13) (Zh ox20 (x20.map Z3)) (iv x21) (iv x22) [(Ze b0 zj)]) r
def Zba x0 x2 x3 x5 x11 x12 x13 x20 x21 x22 b0 ox0 ox11 ox20 zj r (h : Z66 x0 x2 x3 x5 x11 x12 x13 x20 x21 x22 b0 = some r) := ZC h ox0 ox11 ox20 zj
def Z7e (x0 : Z0) : Option (List Z8) := pick fun r => ∀ (zl : Own), RRun Zah (EE 30 [(pA_ (Zv x0 zl))] []) r
def ZaD x0 zl r (h : Z7e x0 = some r) := ZC h zl
def Z8K (x0 x1 : List Z8) : Option Bool := pick fun r => ∀ (ox0 ox1 : Own), RRun Z6 (EE 29 [(Zh ox0 (x0.map Za)), (Zh ox1 (x1.map Za))] []) r
def Zi1 x0 x1 ox0 ox1 r (h : Z8K x0 x1 = some r) := ZC h ox0 ox1
def Z9m (x0 x1 : List Z8) : Option Bool := pick fun r => ∀ (ox0 ox1 : Own), RRun Z6 (EE 34 [(Zh ox0 (x0.map Za)), (Zh ox1 (x1.map Za))] []) r
def ZeX x0 x1 ox0 ox1 r (h : Z9m x0 x1 = some r) := ZC h ox0 ox1
def Z3t (x0 x1 : List Z8) : Option Bool := pick fun r => ∀ (ox0 ox1 : Own), RRun Z6 (EE 51 [(Zh ox0 (x0.map Za)), (Zh ox1 (x1.map Za)), (.clo 52 [] [])] []) r
def Zad x0 x1 ox0 ox1 r (h : Z3t x0 x1 = some r) := ZC h ox0 ox1
def Z29 (x1 x15 : List Z8) (x16 x17 : Int) : Option Bool := pick fun r => ∀ (ox1 ox15 : Own), RRun Z6 (ZgZ 0 (Zh ox1 (x1.map Za)) (.clo 52 [] []) (Zh ox15 (x15.map Za)) (iv x16) (iv x17) []) r
def Z5w x1 x15 x16 x17 ox1 ox15 r (h : Z29 x1 x15 x16 x17 = some r) := ZC h ox1 ox15
def ZbM (x0 x1 : Z8) : Option Bool := pick fun r => ∀ (z9 z7 zN zK : Own), RRun Z6 (EE 52 [(pA_ (Z17 x0 z9 z7)), (pA_ (Z17 x1 zN zK))] []) r
def ZkM x0 x1 z9 z7 zN zK r (h : ZbM x0 x1 = some r) := ZC h z9 z7 zN zK
def Z6o (x0 x1 : List Z4) : Option Bool := pick fun r => ∀ (ox0 ox1 : Own), RRun Z6 (EE 69 [(Zh ox0 (x0.map Z2)), (Zh ox1 (x1.map Z2))] []) r
def Zeu x0 x1 ox0 ox1 r (h : Z6o x0 x1 = some r) := ZC h ox0 ox1
def Z3P (x0 x1 : List Z4) (x12 x13 : Int) : Option Bool := pick fun r => ∀ (ox0 ox1 : Own), RRun Z6 (Zha 0 (Zh ox0 (x0.map Z2)) (Zh ox1 (x1.map Z2)) (iv x12) (iv x13) []) r
def Z8h x0 x1 x12 x13 ox0 ox1 r (h : Z3P x0 x1 x12 x13 = some r) := ZC h ox0 ox1
def Z6N (x0 x1 : List Int) : Option Bool := pick fun r => ∀ (ox0 ox1 : Own), RRun Z6 (EE 70 [(Zh ox0 (x0.map (eI .i64))), (Zh ox1 (x1.map (eI .i64)))] []) r
def Zf4 x0 x1 ox0 ox1 r (h : Z6N x0 x1 = some r) := ZC h ox0 ox1
def Z42 (x0 x1 : List Int) (x12 x13 : Int) : Option Bool := pick fun r => ∀ (ox0 ox1 : Own), RRun Z6 (Zhc 0 (Zh ox0 (x0.map (eI .i64))) (Zh ox1 (x1.map (eI .i64))) (iv x12) (iv x13) []) r
def Z8q x0 x1 x12 x13 ox0 ox1 r (h : Z42 x0 x1 x12 x13 = some r) := ZC h ox0 ox1
def Z2v (x0 : List Z0) : Option Int := pick fun r => ∀ (ox0 : Own), RRun Zd (EE 17 [(Zh ox0 (x0.map Z3))] []) r
def ZcT x0 ox0 r (h : Z2v x0 = some r) := ZC h ox0
def Z5s (x0 : List Z0) (x3 : Int) (x12 : List Z0) (x13 x14 : Int) : Option Int := pick fun r => ∀ (ox0 ox12 : Own), RRun Zd (ZgD 0 (Zh ox0 (x0.map Z3)) (iv x3) (Zh ox12 (x12.map Z3)) (iv x13) (iv x14) []) r
def ZaA x0 x3 x12 x13 x14 ox0 ox12 r (h : Z5s x0 x3 x12 x13 x14 = some r) := ZC h ox0 ox12
def Z5t (x0 : List Z0) (x3 x6 : Int) (x12 : List Z0) (x13 x14 : Int) (b0 : Z0) : Option Int := pick fun r => ∀ (ox0 ox12 zj : Own), RRun Zd (ZgE 0 (Zh ox0 (x0.map Z3)) (iv x3) (.ptr 0 0) (iv x6) (Zh ox12 (x12.map Z3)) (iv x13) (iv x14) [(Ze b0 zj)]) r
def ZaC x0 x3 x6 x12 x13 x14 b0 ox0 ox12 zj r (h : Z5t x0 x3 x6 x12 x13 x14 b0 = some r) := ZC h ox0 ox12 zj
def Z41 (x0 : List Z0) (x3 x6 x7 : Int) (x12 : List Z0) (x13 x14 : Int) (x26 : List Z0) (x27 x28 : Int) (b0 : Z0) : Option Int := pick fun r => ∀ (ox0 ox12 ox26 zj : Own), RRun Zd (ZeH 0 (Zh ox0 (x0.map Z3)) (iv x3) (.ptr 0 0) (iv x6) (iv x7) (Zh ox12 (x12.map Z3)) (iv x13) (iv x14) (Zh ox26 (x26.map Z3)) (iv x27) (iv x28) [(Ze b0 zj)]) r
def Za3 x0 x3 x6 x7 x12 x13 x14 x26 x27 x28 b0 ox0 ox12 ox26 zj r (h : Z41 x0 x3 x6 x7 x12 x13 x14 x26 x27 x28 b0 = some r) := ZC h ox0 ox12 ox26 zj
def Zdw (x0 x1 : Z0) : Option Bool := pick fun r => ∀ (zl z1D : Own), RRun Z6 (EE 24 [(pA_ (Zv x0 zl)), (pA_ (Zv x1 z1D))] []) r
def ZjJ x0 x1 zl z1D r (h : Zdw x0 x1 = some r) := ZC h zl z1D
def Z3O (x0 : Z0) : Option (List Zp) := pick fun r => ∀ (zl : Own), RRun Z1M (EE 19 [(pA_ (Zv x0 zl))] []) r
def Ze2 x0 zl r (h : Z3O x0 = some r) := ZC h zl
def Z9E : Option ((List (Int × ZT)) × (List Zp) × Int) := pick fun r => RRun Z9w (EE 36 [] []) r
def Ziv r (h : Z9E = some r) := ZC h
def ZaH : Option Zp := pick fun r => RRun Zai (EE 54 [] []) r
def ZjR r (h : ZaH = some r) := ZC h
def Z6J (x16 : List Z8) (x17 x18 : Int) (zW : List (Int × ZT)) (z1y : List Zp) (z24 : Int) : Option (List Zp) := pick fun r => ∀ (b0 : Z0) (ox16 zj z1E : Own) (z3j : Z1i z1E = true), RRun Z1M (ZgH 0 (.ptr 2 0) (Zh ox16 (x16.map Za)) (iv x17) (iv x18) [(Ze b0 zj), (rM_ ZF zW), [(Zh z1E (z1y.map Zz)), (.mp 1), (iv z24)]]) r
def Zc3 x16 x17 x18 b0 zW z1y z24 ox16 zj z1E z3j r (h : Z6J x16 x17 x18 zW z1y z24 = some r) := ZC h b0 ox16 zj z1E z3j
def Z8b (x1 : Z8) (z1d : List Zp) (z1G : Int) (zW : List (Int × ZT)) : Option (Z4H × Int) := pick fun r => ∀ (zN zK z15 : Own) (z4n : Z1i z15 = true), RRun (ZcV z1d z1G zW z15) (EE 37 [(.ptr 0 0), (pA_ (Z17 x1 zN zK))] [[(Zh z15 (z1d.map Zz)), (.mp 1), (iv z1G)], (rM_ ZF zW)]) r
def Zbt x1 z1d z1G zW zN zK z15 z4n r (h : Z8b x1 z1d z1G zW = some r) := ZC h zN zK z15 z4n
def Z3b (z1d : List Zp) : Option Int := pick fun r => ∀ (z1G : Int) (zW : List (Int × ZT)) (z15 : Own) (z4n : Z1i z15 = true), RRun (Z36 z1d z1G zW z15) (EE 38 [(.ptr 0 0)] [[(Zh z15 (z1d.map Zz)), (.mp 1), (iv z1G)], (rM_ ZF zW)]) r
def Z9M z1d z1G zW z15 z4n r (h : Z3b z1d = some r) := ZC h z1G zW z15 z4n
def Z5o (x6 : List Zp) (x28 x29 : Int) (z1y : List Zp) : Option (List Zp) := pick fun r => ∀ (b0 : Z0) (zW : List (Int × ZT)) (z24 : Int) (ox6 zj z1E : Own) (hox6 : Z1i ox6 = true) (z3j : Z1i z1E = true), RRun Z1M (ZgI 0 (.ptr 2 0) (Zh ox6 (x6.map Zz)) (iv x28) (iv x29) [(Ze b0 zj), (rM_ ZF zW), [(Zh z1E (z1y.map Zz)), (.mp 1), (iv z24)]]) r
def Zc5 x6 x28 x29 b0 zW z1y z24 ox6 zj z1E hox6 z3j r (h : Z5o x6 x28 x29 z1y = some r) := ZC h b0 zW z24 ox6 zj z1E hox6 z3j
def Z4c (x1 : Int) (z1d : List Zp) : Option (Zp × Bool) := pick fun r => ∀ (z1G : Int) (zW : List (Int × ZT)) (z15 : Own) (z4n : Z1i z15 = true), RRun (Z2o z1d z1G zW z15) (EE 39 [(.ptr 0 0), (iv x1)] [[(Zh z15 (z1d.map Zz)), (.mp 1), (iv z1G)], (rM_ ZF zW)]) r
def Zbv x1 z1d z1G zW z15 z4n r (h : Z4c x1 z1d = some r) := ZC h z1G zW z15 z4n
def Z81 (x0 : List Z4) : Option (List Z4) := pick fun r => ∀ (ox0 : Own), RRun Z80 (EE 56 [(Zh ox0 (x0.map Z2))] []) r
def Zes x0 ox0 r (h : Z81 x0 = some r) := ZC h ox0
def Z1u (x0 : List Z0) : Option Bool := pick fun r => ∀ (ox0 : Own), RRun Z6 (EE 11 [(Zh ox0 (x0.map Z3))] []) r
def Z8n x0 ox0 r (h : Z1u x0 = some r) := ZC h ox0
def Z3g (x0 x5 : List Z0) (x6 x7 : Int) : Option Bool := pick fun r => ∀ (ox0 ox5 : Own), RRun Z6 (Zgt 0 (Zh ox0 (x0.map Z3)) (Zh ox5 (x5.map Z3)) (iv x6) (iv x7) []) r
def Z7m x0 x5 x6 x7 ox0 ox5 r (h : Z3g x0 x5 x6 x7 = some r) := ZC h ox0 ox5
def Z4b (x0 : Z0) : Option Bool := pick fun r => ∀ (zl : Own), RRun Z6 (EE 27 [(pA_ (Zv x0 zl))] []) r
def Zbs x0 zl r (h : Z4b x0 = some r) := ZC h zl
def Z4E (x0 : List Z8) : Option Bool := pick fun r => ∀ (ox0 : Own), RRun Z6 (EE 48 [(Zh ox0 (x0.map Za))] []) r
def Zcx x0 ox0 r (h : Z4E x0 = some r) := ZC h ox0
def Z2e (x0 x7 : List Z8) (x8 x9 : Int) : Option Bool := pick fun r => ∀ (ox0 ox7 : Own), RRun Z6 (ZgU 0 (Zh ox0 (x0.map Za)) (Zh ox7 (x7.map Za)) (iv x8) (iv x9) []) r
def Z6Y x0 x7 x8 x9 ox0 ox7 r (h : Z2e x0 x7 x8 x9 = some r) := ZC h ox0 ox7
def Z2F (x0 x7 : List Z8) (x8 x9 : Int) (x27 : List Z4) (x28 x29 : Int) : Option Bool := pick fun r => ∀ (ox0 ox7 ox27 : Own), RRun Z6 (ZgV 0 (Zh ox0 (x0.map Za)) (Zh ox7 (x7.map Za)) (iv x8) (iv x9) (Zh ox27 (x27.map Z2)) (iv x28) (iv x29) []) r
def Z6Z x0 x7 x8 x9 x27 x28 x29 ox0 ox7 ox27 r (h : Z2F x0 x7 x8 x9 x27 x28 x29 = some r) := ZC h ox0 ox7 ox27
def Z1p (x0 : List Z0) : Option (List Z1) := pick fun r => ∀ (ox0 : Own), RRun Z1n (EE 14 [(Zh ox0 (x0.map Z3))] []) r
def Z8a x0 ox0 r (h : Z1p x0 = some r) := ZC h ox0
def Z33 (x3 : List Z1) (x6 : List Z0) (x7 x8 : Int) : Option (List Z1) := pick fun r => ∀ (ox3 ox6 : Own) (hox3 : Z1i ox3 = true), RRun Z1n (ZgC 0 (Zh ox3 (x3.map Zf)) (Zh ox6 (x6.map Z3)) (iv x7) (iv x8) []) r
def Z7b x3 x6 x7 x8 ox3 ox6 hox3 r (h : Z33 x3 x6 x7 x8 = some r) := ZC h ox3 ox6 hox3
def Z5K (x0 : Z0) : Option Z1 := pick fun r => ∀ (zl : Own), RRun Z5z (EE 31 [(pA_ (Zv x0 zl))] []) r
def ZdQ x0 zl r (h : Z5K x0 = some r) := ZC h zl
def Z57 (x0 : List Z8) : Option (List Zb) := pick fun r => ∀ (ox0 : Own), RRun Z1W (EE 49 [(Zh ox0 (x0.map Za))] []) r
def Zd4 x0 ox0 r (h : Z57 x0 = some r) := ZC h ox0
def Z34 (x3 : List Zb) (x6 : List Z8) (x7 x8 : Int) : Option (List Zb) := pick fun r => ∀ (ox3 ox6 : Own) (hox3 : Z1i ox3 = true), RRun Z1W (ZgW 0 (Zh ox3 (x3.map Zg)) (Zh ox6 (x6.map Za)) (iv x7) (iv x8) []) r
def Z7d x3 x6 x7 x8 ox3 ox6 hox3 r (h : Z34 x3 x6 x7 x8 = some r) := ZC h ox3 ox6 hox3
def Z5J (x0 : Z26) : Option Z5 := pick fun r => ∀ (z1U z1A : Own), RRun Z2g (EE 67 [(pA_ (Z6s x0 z1U z1A))] []) r
def ZdO x0 z1U z1A r (h : Z5J x0 = some r) := ZC h z1U z1A
def Z3y (x18 : List Z4) (x19 x20 z12 z1a z1s z1h : Int) (z1N : List Z4) (z1r : List Int) : Option Z5 := pick fun r => ∀ (b0 : Z26) (b1 : Z5) (ox18 zS zP zu zn z1Z z23 : Own) (z6T : Z1i zu = true) (z5S : Z1i zn = true) (z6U : Z1i z1Z = true), RRun Z2g (Zh6 0 (.ptr 1 0) (.ptr 2 0) (Zh ox18 (x18.map Z2)) (iv x19) (iv x20) [(Zo b0 zS zP), (Zc b1 zu zn), (Zbz z12 z1a z1s z1h z1N z1r z1Z z23)]) r
def Z7S x18 x19 x20 b0 b1 z12 z1a z1s z1h z1N z1r ox18 zS zP zu zn z1Z z23 z6T z5S z6U r (h : Z3y x18 x19 x20 z12 z1a z1s z1h z1N z1r = some r) := ZC h b0 b1 ox18 zS zP zu zn z1Z z23 z6T z5S z6U
def Z9F (x0 : List Z1) : Option (List Z1) := pick fun r => ∀ (ox0 : Own), RRun Z1n (EE 32 [(Zh ox0 (x0.map Zf))] []) r
def ZiF x0 ox0 r (h : Z9F x0 = some r) := ZC h ox0
def Z6a (x0 x3 : List Z1) (x4 : Int) : Option (List Z1) := pick fun r => ∀ (ox0 ox3 : Own) (hox3 : Z1i ox3 = true), RRun Z1n (ZgP 0 (Zh ox0 (x0.map Zf)) (Zh ox3 (x3.map Zf)) (iv x4) []) r
def Zbk x0 x3 x4 ox0 ox3 hox3 r (h : Z6a x0 x3 x4 = some r) := ZC h ox0 ox3 hox3
def Z6n (x0 : Z1) : Option Bool := pick fun r => ∀ (zl : Own), RRun Z6 (EE 50 [(pA_ (ZO x0 zl))] []) r
def Zer x0 zl r (h : Z6n x0 = some r) := ZC h zl
def Z2S (x3 : Int) (b0 : Z1) : Option Bool := pick fun r => ∀ (zj : Own), RRun Z6 (ZgX 0 (.ptr 0 0) (iv x3) [(ZI b0 zj)]) r
def Z8f x3 b0 zj r (h : Z2S x3 b0 = some r) := ZC h zj
def Z6l (x0 : Zb) : Option Bool := pick fun r => ∀ (z9 z7 : Own), RRun Z6 (EE 68 [(pA_ (Z1e x0 z9 z7))] []) r
def Zep x0 z9 z7 r (h : Z6l x0 = some r) := ZC h z9 z7
def Z2x (x0 x1 x2 : Int) : Option Bool := pick fun r => RRun Z6 (EE 82 [(iv x0), (iv x1), (iv x2)] []) r
def Z2U x0 x1 x2 r (h : Z2x x0 x1 x2 = some r) := ZC h
def Z2n (x4 : Int) (b1 : Z5) : Option Bool := pick fun r => ∀ (b0 : Zb) (zB zy zu zn : Own), RRun Z6 (Zh7 0 (.ptr 1 0) (iv x4) [(ZL b0 zB zy), (Zc b1 zu zn)]) r
def Z8d x4 b0 b1 zB zy zu zn r (h : Z2n x4 b1 = some r) := ZC h b0 zB zy zu zn
def Z6L (x0 : Z4) : Option Bool := pick fun r => RRun Z6 (EE 75 [(pA_ (ZJ x0))] []) r
def ZeZ x0 r (h : Z6L x0 = some r) := ZC h
def Z3z (x5 : Int) (b1 : Z5) : Option Bool := pick fun r => ∀ (b0 : Zb) (zB zy zu zn : Own), RRun Z6 (ZeN 0 (.ptr 1 0) (iv x5) [(ZL b0 zB zy), (Zc b1 zu zn)]) r
def Z7U x5 b0 b1 zB zy zu zn r (h : Z3z x5 b1 = some r) := ZC h b0 zB zy zu zn
def Z2I (x0 : List Z1) : Option (Int × Int × Bool) := pick fun r => ∀ (ox0 : Own), RRun ZR (EE 13 [(Zh ox0 (x0.map Zf))] []) r
def ZdG x0 ox0 r (h : Z2I x0 = some r) := ZC h ox0
def Z68 (x0 : List Z1) (x5 : Int) : Option (Int × Int × Bool) := pick fun r => ∀ (ox0 : Own), RRun ZR (Zgz 0 (Zh ox0 (x0.map Zf)) (iv x5) []) r
def Zbe x0 x5 ox0 r (h : Z68 x0 x5 = some r) := ZC h ox0
def Z69 (x0 : List Z1) (x5 x6 : Int) : Option (Int × Int × Bool) := pick fun r => ∀ (ox0 : Own), RRun ZR (ZgA 0 (Zh ox0 (x0.map Zf)) (iv x5) (iv x6) []) r
def Zbg x0 x5 x6 ox0 r (h : Z69 x0 x5 x6 = some r) := ZC h ox0
def Z6r (x0 x1 : Z1) : Option Bool := pick fun r => ∀ (zl z1D : Own), RRun Z6 (EE 25 [(pA_ (ZO x0 zl)), (pA_ (ZO x1 z1D))] []) r
def ZdH x0 x1 zl z1D r (h : Z6r x0 x1 = some r) := ZC h zl z1D
def Z4M (x5 : Int) (b0 b1 : Z1) : Option Bool := pick fun r => ∀ (zj z3v : Own), RRun Z6 (ZgK 0 (.ptr 0 0) (.ptr 1 0) (iv x5) [(ZI b0 zj), (ZI b1 z3v)]) r
def Zbi x5 b0 b1 zj z3v r (h : Z4M x5 b0 b1 = some r) := ZC h zj z3v
def Z7f (x0 x1 : List Zb) : Option Bool := pick fun r => ∀ (ox0 ox1 : Own), RRun Z6 (EE 35 [(Zh ox0 (x0.map Zg)), (Zh ox1 (x1.map Zg))] []) r
def ZjP x0 x1 ox0 ox1 r (h : Z7f x0 x1 = some r) := ZC h ox0 ox1
def Z6M (x0 x1 : List Zb) (x5 : Int) : Option Bool := pick fun r => ∀ (ox0 ox1 : Own), RRun Z6 (ZgR 0 (Zh ox0 (x0.map Zg)) (Zh ox1 (x1.map Zg)) (iv x5) []) r
def Zcc x0 x1 x5 ox0 ox1 r (h : Z6M x0 x1 x5 = some r) := ZC h ox0 ox1
def Z5u (x0 x1 : Z5) : Option Bool := pick fun r => ∀ (z1U z1A z7h z6e : Own), RRun Z6 (EE 53 [(pA_ (Z1m x0 z1U z1A)), (pA_ (Z1m x1 z7h z6e))] []) r
def Zfz x0 x1 z1U z1A z7h z6e r (h : Z5u x0 x1 = some r) := ZC h z1U z1A z7h z6e
def Z3s (x5 : Int) (b0 b1 : Z5) : Option Bool := pick fun r => ∀ (zS zP zu zn : Own), RRun Z6 (Zh1 0 (.ptr 0 0) (.ptr 1 0) (iv x5) [(Zc b0 zS zP), (Zc b1 zu zn)]) r
def Z92 x5 b0 b1 zS zP zu zn r (h : Z3s x5 b0 b1 = some r) := ZC h zS zP zu zn
def Z4m (x6 : Int) (b0 b1 : Z5) : Option Bool := pick fun r => ∀ (zS zP zu zn : Own), RRun Z6 (Zh2 0 (.ptr 0 0) (.ptr 1 0) (iv x6) [(Zc b0 zS zP), (Zc b1 zu zn)]) r
def Z94 x6 b0 b1 zS zP zu zn r (h : Z4m x6 b0 b1 = some r) := ZC h zS zP zu zn
def Zbx (x0 : List Z1) (x1 : List Bool) : Option (Int × Bool) := pick fun r => ∀ (ox0 ox1 : Own), RRun Z3Z (EE 16 [(Zh ox0 (x0.map Zf)), (Zh ox1 (x1.map eB))] []) r
def Zi9 x0 x1 ox0 ox1 r (h : Zbx x0 x1 = some r) := ZC h ox0 ox1
def Zbw (x0 : List Z1) : Option Int := pick fun r => ∀ (ox0 : Own), RRun Zd (EE 18 [(Zh ox0 (x0.map Zf))] []) r
def Zi7 x0 ox0 r (h : Zbw x0 = some r) := ZC h ox0
def Z9O (x0 x1 : Z0) : Option ((List Z5a) × Int) := pick fun r => ∀ (zl z1D : Own), RRun Z3d (EE 26 [(pA_ (Zv x0 zl)), (pA_ (Zv x1 z1D))] []) r
def Zgj x0 x1 zl z1D r (h : Z9O x0 x1 = some r) := ZC h zl z1D
end Go.Proofs.YtiigbcahdaoedaaGreatDoor.N2
end
