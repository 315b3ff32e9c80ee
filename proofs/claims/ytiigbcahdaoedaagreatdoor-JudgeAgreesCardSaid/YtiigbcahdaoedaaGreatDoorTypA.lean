/- The functions, read typed: their types, and what they stand for. No condition. -/
import Derived.Test.YtiigbcahdaoedaaGreatDoorSim
import Derived.Test.YtiigbcahdaoedaaGreatDoorEqs

set_option linter.unusedSimpArgs false
set_option linter.unusedVariables false
set_option linter.defProp false
noncomputable section
namespace Go.Proofs.YtiigbcahdaoedaaGreatDoor.N2
open Go Go.Abs
set_option maxRecDepth 100000
theorem gj_ (n : Nat) {l k : List PV} (h : l = k) : l.getD n .junk = k.getD n .junk := congrArg (fun l => l.getD n .junk) h
structure Z4 where
 ID : Int
 Priority : Int
 Action : Int
 Scope : Int
 Pattern : ByteArray
 deriving Inhabited
def Z1o (a : Z4) : List PV := [(eI .i64) a.ID, (eI .i64) a.Priority, (eI .i64) a.Action, (eI .i64) a.Scope, eS a.Pattern]
def Z2 (a : Z4) : PV := .agg (Z1o a)
def ZJ (a : Z4) : List PV := [(eI .i64) a.ID, (eI .i64) a.Priority, (eI .i64) a.Action, (eI .i64) a.Scope, eS a.Pattern]
def ZG (a : Z4) : Row := [.p ((eI .i64) a.ID), .p ((eI .i64) a.Priority), .p ((eI .i64) a.Action), .p ((eI .i64) a.Scope), .p (eS a.Pattern)]
theorem ZcS {a b : Z4} (h : Z1o a = Z1o b) : a = b := by
 have h0 : a.ID = b.ID := Z1E _ _ (gj_ 0 h)
 have h1 : a.Priority = b.Priority := Z1E _ _ (gj_ 1 h)
 have h2 : a.Action = b.Action := Z1E _ _ (gj_ 2 h)
 have h3 : a.Scope = b.Scope := Z1E _ _ (gj_ 3 h)
 have h4 : a.Pattern = b.Pattern := Zva _ _ (gj_ 4 h)
 cases a; cases b
 cases h0
 cases h1
 cases h2
 cases h3
 cases h4
 rfl
theorem Z48 (a b : Z4) (h : Z2 a = Z2 b) : a = b := ZcS (congrArg pC h)
structure Z26 where
 Default : Int
 Closed : Int
 Fuel : Int
 Stack : Int
 Put : (List Z4)
 Drop : (List Int)
 deriving Inhabited
def Zcl (a : Z26) : List PV := [(eI .i64) a.Default, (eI .i64) a.Closed, (eI .i64) a.Fuel, (eI .i64) a.Stack, (eL Z2) a.Put, (eL (eI .i64)) a.Drop]
def Z6p (a : Z26) (o0 o1 : Own) : List PV := [(eI .i64) a.Default, (eI .i64) a.Closed, (eI .i64) a.Fuel, (eI .i64) a.Stack, .lst o0 (a.Put.map Z2), .lst o1 (a.Drop.map (eI .i64))]
def Zo (a : Z26) (o0 o1 : Own) : Row := [.p ((eI .i64) a.Default), .p ((eI .i64) a.Closed), .p ((eI .i64) a.Fuel), .p ((eI .i64) a.Stack), .p (.lst o0 (a.Put.map Z2)), .p (.lst o1 (a.Drop.map (eI .i64)))]
theorem ZhS {a b : Z26} (h : Zcl a = Zcl b) : a = b := by
 have h0 : a.Default = b.Default := Z1E _ _ (gj_ 0 h)
 have h1 : a.Closed = b.Closed := Z1E _ _ (gj_ 1 h)
 have h2 : a.Fuel = b.Fuel := Z1E _ _ (gj_ 2 h)
 have h3 : a.Stack = b.Stack := Z1E _ _ (gj_ 3 h)
 have h4 : a.Put = b.Put := (Zdm Z48) _ _ (gj_ 4 h)
 have h5 : a.Drop = b.Drop := (Zdm Z1E) _ _ (gj_ 5 h)
 cases a; cases b
 cases h0
 cases h1
 cases h2
 cases h3
 cases h4
 cases h5
 rfl
structure Z8 where
 View : Int
 Client : Int
 Request : Int
 Delta : Z26
 deriving Inhabited
def Z3l (a : Z8) : List PV := [(eI .i64) a.View, (eI .i64) a.Client, (eI .i64) a.Request, (eI .i64) a.Delta.Default, (eI .i64) a.Delta.Closed, (eI .i64) a.Delta.Fuel, (eI .i64) a.Delta.Stack, (eL Z2) a.Delta.Put, (eL (eI .i64)) a.Delta.Drop]
def Za (a : Z8) : PV := .agg (Z3l a)
def Z17 (a : Z8) (o0 o1 : Own) : List PV := [(eI .i64) a.View, (eI .i64) a.Client, (eI .i64) a.Request, (eI .i64) a.Delta.Default, (eI .i64) a.Delta.Closed, (eI .i64) a.Delta.Fuel, (eI .i64) a.Delta.Stack, .lst o0 (a.Delta.Put.map Z2), .lst o1 (a.Delta.Drop.map (eI .i64))]
def Zk (a : Z8) (o0 o1 : Own) : Row := [.p ((eI .i64) a.View), .p ((eI .i64) a.Client), .p ((eI .i64) a.Request), .p ((eI .i64) a.Delta.Default), .p ((eI .i64) a.Delta.Closed), .p ((eI .i64) a.Delta.Fuel), .p ((eI .i64) a.Delta.Stack), .p (.lst o0 (a.Delta.Put.map Z2)), .p (.lst o1 (a.Delta.Drop.map (eI .i64)))]
theorem ZhR {a b : Z8} (h : Z3l a = Z3l b) : a = b := by
 have h0 : a.View = b.View := Z1E _ _ (gj_ 0 h)
 have h1 : a.Client = b.Client := Z1E _ _ (gj_ 1 h)
 have h2 : a.Request = b.Request := Z1E _ _ (gj_ 2 h)
 have h3 : a.Delta = b.Delta := ZhS (congrArg (fun l => (l.drop 3).take 6) h)
 cases a; cases b
 cases h0
 cases h1
 cases h2
 cases h3
 rfl
theorem ZcN (a b : Z8) (h : Za a = Za b) : a = b := ZhR (congrArg pC h)
structure Z0 where
 View : Int
 Normal : Int
 Commit : Int
 Active : Int
 Log : (List Z8)
 deriving Inhabited
def Z20 (a : Z0) : List PV := [(eI .i64) a.View, (eI .i64) a.Normal, (eI .i64) a.Commit, (eI .i64) a.Active, (eL Za) a.Log]
def Z3 (a : Z0) : PV := .agg (Z20 a)
def Zv (a : Z0) (o0 : Own) : List PV := [(eI .i64) a.View, (eI .i64) a.Normal, (eI .i64) a.Commit, (eI .i64) a.Active, .lst o0 (a.Log.map Za)]
def Zd (a : Z0) (o0 : Own) : Row := [.p ((eI .i64) a.View), .p ((eI .i64) a.Normal), .p ((eI .i64) a.Commit), .p ((eI .i64) a.Active), .p (.lst o0 (a.Log.map Za))]
theorem Zga {a b : Z0} (h : Z20 a = Z20 b) : a = b := by
 have h0 : a.View = b.View := Z1E _ _ (gj_ 0 h)
 have h1 : a.Normal = b.Normal := Z1E _ _ (gj_ 1 h)
 have h2 : a.Commit = b.Commit := Z1E _ _ (gj_ 2 h)
 have h3 : a.Active = b.Active := Z1E _ _ (gj_ 3 h)
 have h4 : a.Log = b.Log := (Zdm ZcN) _ _ (gj_ 4 h)
 cases a; cases b
 cases h0
 cases h1
 cases h2
 cases h3
 cases h4
 rfl
theorem Zgc (a b : Z0) (h : Z3 a = Z3 b) : a = b := Zga (congrArg pC h)
structure Zp where
 Default : Int
 Closed : Int
 Fuel : Int
 Stack : Int
 Rules : (List Z4)
 deriving Inhabited
def ZbE (a : Zp) : List PV := [(eI .i64) a.Default, (eI .i64) a.Closed, (eI .i64) a.Fuel, (eI .i64) a.Stack, (eL Z2) a.Rules]
def ZC (a : Zp) : PV := .agg (ZbE a)
def Z2A (a : Zp) (o0 : Own) : List PV := [(eI .i64) a.Default, (eI .i64) a.Closed, (eI .i64) a.Fuel, (eI .i64) a.Stack, .lst o0 (a.Rules.map Z2)]
def Z1t (a : Zp) (o0 : Own) : Row := [.p ((eI .i64) a.Default), .p ((eI .i64) a.Closed), .p ((eI .i64) a.Fuel), .p ((eI .i64) a.Stack), .p (.lst o0 (a.Rules.map Z2))]
theorem Zaj {a b : Zp} (h : ZbE a = ZbE b) : a = b := by
 have h0 : a.Default = b.Default := Z1E _ _ (gj_ 0 h)
 have h1 : a.Closed = b.Closed := Z1E _ _ (gj_ 1 h)
 have h2 : a.Fuel = b.Fuel := Z1E _ _ (gj_ 2 h)
 have h3 : a.Stack = b.Stack := Z1E _ _ (gj_ 3 h)
 have h4 : a.Rules = b.Rules := (Zdm Z48) _ _ (gj_ 4 h)
 cases a; cases b
 cases h0
 cases h1
 cases h2
 cases h3
 cases h4
 rfl
theorem ZdY (a b : Zp) (h : ZC a = ZC b) : a = b := Zaj (congrArg pC h)
structure Z9C where
 Code : Int
 Rule : Int
 At : Int
 deriving Inhabited
def ZbN (a : Z9C) : List PV := [(eI .i64) a.Code, (eI .i64) a.Rule, (eI .i64) a.At]
theorem Zeb {a b : Z9C} (h : ZbN a = ZbN b) : a = b := by
 have h0 : a.Code = b.Code := Z1E _ _ (gj_ 0 h)
 have h1 : a.Rule = b.Rule := Z1E _ _ (gj_ 1 h)
 have h2 : a.At = b.At := Z1E _ _ (gj_ 2 h)
 cases a; cases b
 cases h0
 cases h1
 cases h2
 rfl
structure Z4E where
 Version : Int
 Verdict : Z9C
 deriving Inhabited
def ZbM (a : Z4E) : List PV := [(eI .i64) a.Version, (eI .i64) a.Verdict.Code, (eI .i64) a.Verdict.Rule, (eI .i64) a.Verdict.At]
def Zc8 (a : Z4E) : List PV := [(eI .i64) a.Version, (eI .i64) a.Verdict.Code, (eI .i64) a.Verdict.Rule, (eI .i64) a.Verdict.At]
theorem Zea {a b : Z4E} (h : ZbM a = ZbM b) : a = b := by
 have h0 : a.Version = b.Version := Z1E _ _ (gj_ 0 h)
 have h1 : a.Verdict = b.Verdict := Zeb (congrArg (fun l => (l.drop 1).take 3) h)
 cases a; cases b
 cases h0
 cases h1
 rfl
structure ZT where
 request : Int
 Outcome : Z4E
 deriving Inhabited
def Zai (a : ZT) : List PV := [(eI .i64) a.request, (eI .i64) a.Outcome.Version, (eI .i64) a.Outcome.Verdict.Code, (eI .i64) a.Outcome.Verdict.Rule, (eI .i64) a.Outcome.Verdict.At]
def ZF (a : ZT) : PV := .agg (Zai a)
theorem Zg9 {a b : ZT} (h : Zai a = Zai b) : a = b := by
 have h0 : a.request = b.request := Z1E _ _ (gj_ 0 h)
 have h1 : a.Outcome = b.Outcome := Zea (congrArg (fun l => (l.drop 1).take 4) h)
 cases a; cases b
 cases h0
 cases h1
 rfl
theorem Zgb (a b : ZT) (h : ZF a = ZF b) : a = b := Zg9 (congrArg pC h)
structure Z5 where
 Default : Int
 Closed : Int
 Fuel : Int
 Stack : Int
 Put : (List Z4)
 Drop : (List Int)
 deriving Inhabited
def Z9d (a : Z5) : List PV := [(eI .i64) a.Default, (eI .i64) a.Closed, (eI .i64) a.Fuel, (eI .i64) a.Stack, (eL Z2) a.Put, (eL (eI .i64)) a.Drop]
def Z1n (a : Z5) (o0 o1 : Own) : List PV := [(eI .i64) a.Default, (eI .i64) a.Closed, (eI .i64) a.Fuel, (eI .i64) a.Stack, .lst o0 (a.Put.map Z2), .lst o1 (a.Drop.map (eI .i64))]
def Zc (a : Z5) (o0 o1 : Own) : Row := [.p ((eI .i64) a.Default), .p ((eI .i64) a.Closed), .p ((eI .i64) a.Fuel), .p ((eI .i64) a.Stack), .p (.lst o0 (a.Put.map Z2)), .p (.lst o1 (a.Drop.map (eI .i64)))]
theorem Z7I {a b : Z5} (h : Z9d a = Z9d b) : a = b := by
 have h0 : a.Default = b.Default := Z1E _ _ (gj_ 0 h)
 have h1 : a.Closed = b.Closed := Z1E _ _ (gj_ 1 h)
 have h2 : a.Fuel = b.Fuel := Z1E _ _ (gj_ 2 h)
 have h3 : a.Stack = b.Stack := Z1E _ _ (gj_ 3 h)
 have h4 : a.Put = b.Put := (Zdm Z48) _ _ (gj_ 4 h)
 have h5 : a.Drop = b.Drop := (Zdm Z1E) _ _ (gj_ 5 h)
 cases a; cases b
 cases h0
 cases h1
 cases h2
 cases h3
 cases h4
 cases h5
 rfl
structure Zb where
 View : Int
 Client : Int
 Request : Int
 Delta : Z5
 deriving Inhabited
def Z1m (a : Zb) : List PV := [(eI .i64) a.View, (eI .i64) a.Client, (eI .i64) a.Request, (eI .i64) a.Delta.Default, (eI .i64) a.Delta.Closed, (eI .i64) a.Delta.Fuel, (eI .i64) a.Delta.Stack, (eL Z2) a.Delta.Put, (eL (eI .i64)) a.Delta.Drop]
def Zg (a : Zb) : PV := .agg (Z1m a)
def Z1f (a : Zb) (o0 o1 : Own) : List PV := [(eI .i64) a.View, (eI .i64) a.Client, (eI .i64) a.Request, (eI .i64) a.Delta.Default, (eI .i64) a.Delta.Closed, (eI .i64) a.Delta.Fuel, (eI .i64) a.Delta.Stack, .lst o0 (a.Delta.Put.map Z2), .lst o1 (a.Delta.Drop.map (eI .i64))]
def ZM (a : Zb) (o0 o1 : Own) : Row := [.p ((eI .i64) a.View), .p ((eI .i64) a.Client), .p ((eI .i64) a.Request), .p ((eI .i64) a.Delta.Default), .p ((eI .i64) a.Delta.Closed), .p ((eI .i64) a.Delta.Fuel), .p ((eI .i64) a.Delta.Stack), .p (.lst o0 (a.Delta.Put.map Z2)), .p (.lst o1 (a.Delta.Drop.map (eI .i64)))]
theorem Zck {a b : Zb} (h : Z1m a = Z1m b) : a = b := by
 have h0 : a.View = b.View := Z1E _ _ (gj_ 0 h)
 have h1 : a.Client = b.Client := Z1E _ _ (gj_ 1 h)
 have h2 : a.Request = b.Request := Z1E _ _ (gj_ 2 h)
 have h3 : a.Delta = b.Delta := Z7I (congrArg (fun l => (l.drop 3).take 6) h)
 cases a; cases b
 cases h0
 cases h1
 cases h2
 cases h3
 rfl
theorem Z7L (a b : Zb) (h : Zg a = Zg b) : a = b := Zck (congrArg pC h)
structure Z1 where
 View : Int
 Normal : Int
 Commit : Int
 Active : Int
 Log : (List Zb)
 deriving Inhabited
def Z2n (a : Z1) : List PV := [(eI .i64) a.View, (eI .i64) a.Normal, (eI .i64) a.Commit, (eI .i64) a.Active, (eL Zg) a.Log]
def Zf (a : Z1) : PV := .agg (Z2n a)
def ZP (a : Z1) (o0 : Own) : List PV := [(eI .i64) a.View, (eI .i64) a.Normal, (eI .i64) a.Commit, (eI .i64) a.Active, .lst o0 (a.Log.map Zg)]
def ZI (a : Z1) (o0 : Own) : Row := [.p ((eI .i64) a.View), .p ((eI .i64) a.Normal), .p ((eI .i64) a.Commit), .p ((eI .i64) a.Active), .p (.lst o0 (a.Log.map Zg))]
theorem Z7J {a b : Z1} (h : Z2n a = Z2n b) : a = b := by
 have h0 : a.View = b.View := Z1E _ _ (gj_ 0 h)
 have h1 : a.Normal = b.Normal := Z1E _ _ (gj_ 1 h)
 have h2 : a.Commit = b.Commit := Z1E _ _ (gj_ 2 h)
 have h3 : a.Active = b.Active := Z1E _ _ (gj_ 3 h)
 have h4 : a.Log = b.Log := (Zdm Z7L) _ _ (gj_ 4 h)
 cases a; cases b
 cases h0
 cases h1
 cases h2
 cases h3
 cases h4
 rfl
theorem Zcm (a b : Z1) (h : Zf a = Zf b) : a = b := Z7J (congrArg pC h)
structure Z8h where
 Kind : Int
 A : Int
 B : Int
 Log : (List Z8)
 deriving Inhabited
def Zkh (a : Z8h) : List PV := [(eI .i64) a.Kind, (eI .i64) a.A, (eI .i64) a.B, (eL Za) a.Log]
def Zkj (a : Z8h) : PV := .agg (Zkh a)
theorem et_ {α : Type} {a b c : α} (h : b = c) (g : a = b := by kernel_rfl) : a = c := g.trans h
theorem ru_ {R : Type} {Q : R → Res → Prop} {e : Option Res} {a b : R} (u : ∀ a b q, Q a q → Q b q → a = b) (h : RRun Q e a) (g : RRun Q e b) : a = b := RRun.uniq u h g
abbrev ZeB := Z0.mk 0 0 0 0 ([] : List Z8)
abbrev Zo8 := Z26.mk 0 0 0 0 ([] : List Z4) ([] : List Int)
abbrev Zo9 := Z8.mk 0 0 0 (Z26.mk 0 0 0 0 ([] : List Z4) ([] : List Int))
abbrev ZdI := Zp.mk 0 0 0 0 ([] : List Z4)
abbrev Zoa := Z1.mk 0 0 0 0 ([] : List Zb)
abbrev ZkZ := Z5.mk 0 0 0 0 ([] : List Z4) ([] : List Int)
abbrev Zbu a0 a1 a2 a3 a4 a5 o0 o1 := Zc (Z5.mk a0 a1 a2 a3 a4 a5) o0 o1
abbrev Zh (o : Own) (l : List PV) : AV := .p (.lst o l)
abbrev pA_ (l : List PV) : AV := .p (.agg l)
abbrev rM_ {α : Type} (e : α → PV) (l : List (Int × α)) : Row := [.md (l.map (encM e))]
abbrev Z6 : Bool → Res → Prop := fun r q => ∃ (ex : List Row), q = ((bv r), ex)
theorem ZK : ∀ a b q, Z6 a q → Z6 b q → a = b := by
 rintro a b q ⟨_, e1⟩ ⟨_, e2⟩
 have e := e1.symm.trans e2
 exact congrArg (fun q : Res => pB (pA q.1)) e
abbrev Ze : Int → Res → Prop := fun r q => ∃ (ex : List Row), q = ((iv r), ex)
theorem Z1e : ∀ a b q, Ze a q → Ze b q → a = b := by
 rintro a b q ⟨_, e1⟩ ⟨_, e2⟩
 have e := e1.symm.trans e2
 exact congrArg (fun q : Res => pI (pA q.1)) e
abbrev Z2E : (List Z0) → Res → Prop := fun r q => ∃ (ex : List Row), q = ((Zh .sh (r.map Z3)), ex)
theorem ZdV : ∀ a b q, Z2E a q → Z2E b q → a = b := by
 rintro a b q ⟨_, e1⟩ ⟨_, e2⟩
 have e := e1.symm.trans e2
 exact Z6R Zgc (congrArg (fun q : Res => pL (pA q.1)) e)
abbrev Zac : (List Z8) → Res → Prop := fun r q => ∃ (ex : List Row), q = ((Zh .sh (r.map Za)), ex)
theorem Zkf : ∀ a b q, Zac a q → Zac b q → a = b := by
 rintro a b q ⟨_, e1⟩ ⟨_, e2⟩
 have e := e1.symm.trans e2
 exact Z6R ZcN (congrArg (fun q : Res => pL (pA q.1)) e)
abbrev ZY : (Int × Int × Bool) → Res → Prop := fun r q => ∃ (ex : List Row), q = ((.p (.tup [(.v (.int .i64 r.1)), (.v (.int .i64 r.2.1)), (.v (.bool r.2.2))])), ex)
theorem Z5c : ∀ a b q, ZY a q → ZY b q → a = b := by
 rintro a b q ⟨_, e1⟩ ⟨_, e2⟩
 have e := e1.symm.trans e2
 exact Zg0 (congrArg (fun q : Res => pI ((pT (pA q.1)).getD 0 .junk)) e) (Zg0 (congrArg (fun q : Res => pI ((pT (pA q.1)).getD 1 .junk)) e) (congrArg (fun q : Res => pB ((pT (pA q.1)).getD 2 .junk)) e))
abbrev Zad : Zp → Res → Prop := fun r q => ∃ (ex : List Row), q = ((pA_ (Z2A r .sh)), ex)
theorem Zkg : ∀ a b q, Zad a q → Zad b q → a = b := by
 rintro a b q ⟨_, e1⟩ ⟨_, e2⟩
 have e := e1.symm.trans e2
 exact Zaj (congrArg (fun q : Res => pC (pA q.1)) e)
abbrev Z9q : ((List (Int × ZT)) × (List Zp) × Int) → Res → Prop := fun r q => ∃ (n1_0 : Own) (ex : List Row), Z1j n1_0 = true ∧ q = ((.ptr 1 0), [(rM_ ZF r.1), [(Zh n1_0 (r.2.1.map ZC)), (.mp 0), (iv r.2.2)]]) ∧ ex = []
theorem ZiS : ∀ a b q, Z9q a q → Z9q b q → a = b := by
 rintro a b q ⟨_, _, _, e1, _⟩ ⟨_, _, _, e2, _⟩
 have e := e1.symm.trans e2
 exact Zg0 (Z6R (Ztt Zgb) (congrArg (fun q : Res => pM (cellAt q 0 0)) e)) (Zg0 (Z6R ZdY (congrArg (fun q : Res => pL (pA (cellAt q 1 0))) e)) (congrArg (fun q : Res => pI (pA (cellAt q 1 2))) e))
abbrev ZcQ (z1d : List Zp) (z1H : Int) (zW : List (Int × ZT)) (z15 : Own) : (Z4E × Int) → Res → Prop := fun r q => ∃ (ex : List Row), q = ((.p (.tup [(.agg (Zc8 r.1)), (.v (.int .i64 r.2))])), [[(Zh z15 (z1d.map ZC)), (.mp 1), (iv z1H)], (rM_ ZF zW)] ++ ex)
abbrev Z37 (z1d : List Zp) (z1H : Int) (zW : List (Int × ZT)) (z15 : Own) : Int → Res → Prop := fun r q => ∃ (ex : List Row), q = ((iv r), [[(Zh z15 (z1d.map ZC)), (.mp 1), (iv z1H)], (rM_ ZF zW)] ++ ex)
theorem Za2 (z1d : List Zp) (z1H : Int) (zW : List (Int × ZT)) (z15 : Own) : ∀ a b q, Z37 z1d z1H zW z15 a q → Z37 z1d z1H zW z15 b q → a = b := by
 rintro a b q ⟨_, e1⟩ ⟨_, e2⟩
 have e := e1.symm.trans e2
 exact congrArg (fun q : Res => pI (pA q.1)) e
abbrev Z7W : (List Z4) → Res → Prop := fun r q => ∃ (ex : List Row), q = ((Zh .sh (r.map Z2)), ex)
theorem ZeC : ∀ a b q, Z7W a q → Z7W b q → a = b := by
 rintro a b q ⟨_, e1⟩ ⟨_, e2⟩
 have e := e1.symm.trans e2
 exact Z6R Z48 (congrArg (fun q : Res => pL (pA q.1)) e)
abbrev Z2p (z1d : List Zp) (z1H : Int) (zW : List (Int × ZT)) (z15 : Own) : (Zp × Bool) → Res → Prop := fun r q => ∃ (ex : List Row), q = ((.p (.tup [(.agg (Z2A r.1 .sh)), (.v (.bool r.2))])), [[(Zh z15 (z1d.map ZC)), (.mp 1), (iv z1H)], (rM_ ZF zW)] ++ ex)
theorem ZbL (z1d : List Zp) (z1H : Int) (zW : List (Int × ZT)) (z15 : Own) : ∀ a b q, Z2p z1d z1H zW z15 a q → Z2p z1d z1H zW z15 b q → a = b := by
 rintro a b q ⟨_, e1⟩ ⟨_, e2⟩
 have e := e1.symm.trans e2
 exact Zg0 (Zaj (congrArg (fun q : Res => pC ((pT (pA q.1)).getD 0 .junk)) e)) (congrArg (fun q : Res => pB ((pT (pA q.1)).getD 1 .junk)) e)
abbrev Z2h : (List Zp) → Res → Prop := fun r q => ∃ (ex : List Row), q = ((Zh .sh (r.map ZC)), ex)
theorem Zbf : ∀ a b q, Z2h a q → Z2h b q → a = b := by
 rintro a b q ⟨_, e1⟩ ⟨_, e2⟩
 have e := e1.symm.trans e2
 exact Z6R ZdY (congrArg (fun q : Res => pL (pA q.1)) e)
abbrev Z2g : Z5 → Res → Prop := fun r q => ∃ (ex : List Row), q = ((pA_ (Z1n r .sh .sh)), ex)
theorem Z9c : ∀ a b q, Z2g a q → Z2g b q → a = b := by
 rintro a b q ⟨_, e1⟩ ⟨_, e2⟩
 have e := e1.symm.trans e2
 exact Z7I (congrArg (fun q : Res => pC (pA q.1)) e)
abbrev Z1W : (List Zb) → Res → Prop := fun r q => ∃ (ex : List Row), q = ((Zh .sh (r.map Zg)), ex)
theorem Z8g : ∀ a b q, Z1W a q → Z1W b q → a = b := by
 rintro a b q ⟨_, e1⟩ ⟨_, e2⟩
 have e := e1.symm.trans e2
 exact Z6R Z7L (congrArg (fun q : Res => pL (pA q.1)) e)
abbrev Z5w : Z1 → Res → Prop := fun r q => ∃ (ex : List Row), q = ((pA_ (ZP r .sh)), ex)
theorem Ze9 : ∀ a b q, Z5w a q → Z5w b q → a = b := by
 rintro a b q ⟨_, e1⟩ ⟨_, e2⟩
 have e := e1.symm.trans e2
 exact Z7J (congrArg (fun q : Res => pC (pA q.1)) e)
abbrev Z1B : (List Z1) → Res → Prop := fun r q => ∃ (ex : List Row), q = ((Zh .sh (r.map Zf)), ex)
theorem Z80 : ∀ a b q, Z1B a q → Z1B b q → a = b := by
 rintro a b q ⟨_, e1⟩ ⟨_, e2⟩
 have e := e1.symm.trans e2
 exact Z6R Zcm (congrArg (fun q : Res => pL (pA q.1)) e)
abbrev Zbg : (Int × Bool) → Res → Prop := fun r q => ∃ (ex : List Row), q = ((.p (.tup [(.v (.int .i64 r.1)), (.v (.bool r.2))])), ex)
abbrev Z9B : ((List Z8h) × Int) → Res → Prop := fun r q => ∃ (ex : List Row), q = ((.p (.tup [(.lst .sh (r.1.map Zkj)), (.v (.int .i64 r.2))])), ex)
def Z2f (x0 : List Z0) : Option (Int × Int × Bool) := pick fun r => ∀ (ox0 : Own), RRun ZY (EE 12 [(Zh ox0 (x0.map Z3))] []) r
def Z9I x0 ox0 r (h : Z2f x0 = some r) := ZD h ox0
def Z6n (x0 : List Z0) : Option (List Z0) := pick fun r => ∀ (ox0 : Own), RRun Z2E (EE 28 [(Zh ox0 (x0.map Z3))] []) r
def Z7G x0 ox0 r (h : Z6n x0 = some r) := ZD h ox0
def Z64 (x3 x6 : List Z0) (x7 x8 : Int) : Option (List Z0) := pick fun r => ∀ (ox3 ox6 : Own) (hox3 : Z1j ox3 = true), RRun Z2E (ZgI 0 (Zh ox3 (x3.map Z3)) (Zh ox6 (x6.map Z3)) (iv x7) (iv x8) []) r
def Zb6 x3 x6 x7 x8 ox3 ox6 hox3 r (h : Z64 x3 x6 x7 x8 = some r) := ZD h ox3 ox6 hox3
def Z3q (x0 : Z0) : Option Bool := pick fun r => ∀ (zl : Own), RRun Z6 (EE 23 [(pA_ (Zv x0 zl))] []) r
def Z8V x0 zl r (h : Z3q x0 = some r) := ZD h zl
def Z2R (x0 : List Z8) : Option Bool := pick fun r => ∀ (ox0 : Own), RRun Z6 (EE 42 [(Zh ox0 (x0.map Za)), (.clo 43 [] [])] []) r
def Z93 x0 ox0 r (h : Z2R x0 = some r) := ZD h ox0
def Z3t (x0 : List Z8) : Option Int := pick fun r => ∀ (ox0 : Own), RRun Ze (EE 59 [(Zh ox0 (x0.map Za)), (.clo 43 [] [])] []) r
def Zaa x0 ox0 r (h : Z3t x0 = some r) := ZD h ox0
def Z2a (x0 : List Z8) (x7 x8 : Int) : Option Int := pick fun r => ∀ (ox0 : Own), RRun Ze (Zh1 0 (Zh ox0 (x0.map Za)) (.clo 43 [] []) (iv x7) (iv x8) []) r
def Z5u x0 x7 x8 ox0 r (h : Z2a x0 x7 x8 = some r) := ZD h ox0
def Z55 (x0 : Z8) : Option Bool := pick fun r => ∀ (z9 z7 : Own), RRun Z6 (EE 43 [(pA_ (Z17 x0 z9 z7))] []) r
def Zd1 x0 z9 z7 r (h : Z55 x0 = some r) := ZD h z9 z7
def Z6G (x0 : Z8) : Option Bool := pick fun r => ∀ (z9 z7 : Own), RRun Z6 (EE 44 [(pA_ (Z17 x0 z9 z7))] []) r
def ZeT x0 z9 z7 r (h : Z6G x0 = some r) := ZD h z9 z7
def Z2H (x0 x1 : Int) : Option Bool := pick fun r => RRun Z6 (EE 60 [(iv x0), (iv x1)] []) r
def Z3h x0 x1 r (h : Z2H x0 x1 = some r) := ZD h
def Z36 (x0 : List Z4) : Option Bool := pick fun r => ∀ (ox0 : Own), RRun Z6 (EE 61 [(Zh ox0 (x0.map Z2)), (.clo 62 [] [])] []) r
def Z9i x0 ox0 r (h : Z36 x0 = some r) := ZD h ox0
def Z3F (x0 : List Z4) : Option Int := pick fun r => ∀ (ox0 : Own), RRun Ze (EE 80 [(Zh ox0 (x0.map Z2)), (.clo 62 [] [])] []) r
def ZaD x0 ox0 r (h : Z3F x0 = some r) := ZD h ox0
def Z2k (x0 : List Z4) (x7 x8 : Int) : Option Int := pick fun r => ∀ (ox0 : Own), RRun Ze (Zha 0 (Zh ox0 (x0.map Z2)) (.clo 62 [] []) (iv x7) (iv x8) []) r
def Z5O x0 x7 x8 ox0 r (h : Z2k x0 x7 x8 = some r) := ZD h ox0
def Z5I (x0 : Z4) : Option Bool := pick fun r => RRun Z6 (EE 62 [(pA_ (ZJ x0))] []) r
def ZdP x0 r (h : Z5I x0 = some r) := ZD h
def Z73 (x0 : Z4) : Option Bool := pick fun r => RRun Z6 (EE 63 [(pA_ (ZJ x0))] []) r
def ZfL x0 r (h : Z73 x0 = some r) := ZD h
def Z3d (x0 : List Int) : Option Bool := pick fun r => ∀ (ox0 : Own), RRun Z6 (EE 64 [(Zh ox0 (x0.map (eI .i64))), (.clo 65 [] [])] []) r
def Z9L x0 ox0 r (h : Z3d x0 = some r) := ZD h ox0
def Z3V (x0 : List Int) : Option Int := pick fun r => ∀ (ox0 : Own), RRun Ze (EE 81 [(Zh ox0 (x0.map (eI .i64))), (.clo 65 [] [])] []) r
def Zb0 x0 ox0 r (h : Z3V x0 = some r) := ZD h ox0
def Z2t (x0 : List Int) (x7 x8 : Int) : Option Int := pick fun r => ∀ (ox0 : Own), RRun Ze (Zhb 0 (Zh ox0 (x0.map (eI .i64))) (.clo 65 [] []) (iv x7) (iv x8) []) r
def Z68 x0 x7 x8 ox0 r (h : Z2t x0 x7 x8 = some r) := ZD h ox0
def Z5J (x0 : Int) : Option Bool := pick fun r => RRun Z6 (EE 65 [(iv x0)] []) r
def ZdR x0 r (h : Z5J x0 = some r) := ZD h
def Z62 (x0 : List Z0) (x2 x3 : Int) (x11 : List Z0) (x12 x13 : Int) : Option (Int × Int × Bool) := pick fun r => ∀ (ox0 ox11 : Own), RRun ZY (Zgr 0 (Zh ox0 (x0.map Z3)) (iv x2) (iv x3) (Zh ox11 (x11.map Z3)) (iv x12) (iv x13) []) r
def Zb2 x0 x2 x3 x11 x12 x13 ox0 ox11 r (h : Z62 x0 x2 x3 x11 x12 x13 = some r) := ZD h ox0 ox11
def Z63 (x0 : List Z0) (x2 x3 x5 : Int) (x11 : List Z0) (x12 x13 : Int) (x20 : List Z0) (x21 x22 : Int) (b0 : Z0) : Option (Int × Int × Bool) := pick fun r => ∀ (ox0 ox11 ox20 zj : Own), RRun ZY (Zgs 0 (Zh ox0 (x0.map Z3)) (iv x2) (iv x3) (iv x5) (.ptr 0 0) (Zh ox11 (x11.map Z3)) (iv x12) (iv x13) (Zh ox20 (x20.map Z3)) (iv x21) (iv x22) [(Zd b0 zj)]) r
def Zb4 x0 x2 x3 x5 x11 x12 x13 x20 x21 x22 b0 ox0 ox11 ox20 zj r (h : Z63 x0 x2 x3 x5 x11 x12 x13 x20 x21 x22 b0 = some r) := ZD h ox0 ox11 ox20 zj
def Z7b (x0 : Z0) : Option (List Z8) := pick fun r => ∀ (zl : Own), RRun Zac (EE 30 [(pA_ (Zv x0 zl))] []) r
def Zax x0 zl r (h : Z7b x0 = some r) := ZD h zl
def Z8F (x0 x1 : List Z8) : Option Bool := pick fun r => ∀ (ox0 ox1 : Own), RRun Z6 (EE 29 [(Zh ox0 (x0.map Za)), (Zh ox1 (x1.map Za))] []) r
def ZhX x0 x1 ox0 ox1 r (h : Z8F x0 x1 = some r) := ZD h ox0 ox1
def Z9g (x0 x1 : List Z8) : Option Bool := pick fun r => ∀ (ox0 ox1 : Own), RRun Z6 (EE 34 [(Zh ox0 (x0.map Za)), (Zh ox1 (x1.map Za))] []) r
def ZeU x0 x1 ox0 ox1 r (h : Z9g x0 x1 = some r) := ZD h ox0 ox1
def Z3s (x0 x1 : List Z8) : Option Bool := pick fun r => ∀ (ox0 ox1 : Own), RRun Z6 (EE 51 [(Zh ox0 (x0.map Za)), (Zh ox1 (x1.map Za)), (.clo 52 [] [])] []) r
def Za8 x0 x1 ox0 ox1 r (h : Z3s x0 x1 = some r) := ZD h ox0 ox1
def Z29 (x1 x15 : List Z8) (x16 x17 : Int) : Option Bool := pick fun r => ∀ (ox1 ox15 : Own), RRun Z6 (ZgV 0 (Zh ox1 (x1.map Za)) (.clo 52 [] []) (Zh ox15 (x15.map Za)) (iv x16) (iv x17) []) r
def Z5t x1 x15 x16 x17 ox1 ox15 r (h : Z29 x1 x15 x16 x17 = some r) := ZD h ox1 ox15
def ZbH (x0 x1 : Z8) : Option Bool := pick fun r => ∀ (z9 z7 zO zL : Own), RRun Z6 (EE 52 [(pA_ (Z17 x0 z9 z7)), (pA_ (Z17 x1 zO zL))] []) r
def ZkJ x0 x1 z9 z7 zO zL r (h : ZbH x0 x1 = some r) := ZD h z9 z7 zO zL
def Z6l (x0 x1 : List Z4) : Option Bool := pick fun r => ∀ (ox0 ox1 : Own), RRun Z6 (EE 69 [(Zh ox0 (x0.map Z2)), (Zh ox1 (x1.map Z2))] []) r
def Zer x0 x1 ox0 ox1 r (h : Z6l x0 x1 = some r) := ZD h ox0 ox1
def Z3N (x0 x1 : List Z4) (x12 x13 : Int) : Option Bool := pick fun r => ∀ (ox0 ox1 : Own), RRun Z6 (Zh6 0 (Zh ox0 (x0.map Z2)) (Zh ox1 (x1.map Z2)) (iv x12) (iv x13) []) r
def Z8e x0 x1 x12 x13 ox0 ox1 r (h : Z3N x0 x1 x12 x13 = some r) := ZD h ox0 ox1
def Z6J (x0 x1 : List Int) : Option Bool := pick fun r => ∀ (ox0 ox1 : Own), RRun Z6 (EE 70 [(Zh ox0 (x0.map (eI .i64))), (Zh ox1 (x1.map (eI .i64)))] []) r
def Zf1 x0 x1 ox0 ox1 r (h : Z6J x0 x1 = some r) := ZD h ox0 ox1
def Z40 (x0 x1 : List Int) (x12 x13 : Int) : Option Bool := pick fun r => ∀ (ox0 ox1 : Own), RRun Z6 (Zh8 0 (Zh ox0 (x0.map (eI .i64))) (Zh ox1 (x1.map (eI .i64))) (iv x12) (iv x13) []) r
def Z8o x0 x1 x12 x13 ox0 ox1 r (h : Z40 x0 x1 x12 x13 = some r) := ZD h ox0 ox1
def Z2w (x0 : List Z0) : Option Int := pick fun r => ∀ (ox0 : Own), RRun Ze (EE 17 [(Zh ox0 (x0.map Z3))] []) r
def ZcO x0 ox0 r (h : Z2w x0 = some r) := ZD h ox0
def Z5p (x0 : List Z0) (x3 : Int) (x12 : List Z0) (x13 x14 : Int) : Option Int := pick fun r => ∀ (ox0 ox12 : Own), RRun Ze (Zgz 0 (Zh ox0 (x0.map Z3)) (iv x3) (Zh ox12 (x12.map Z3)) (iv x13) (iv x14) []) r
def Zau x0 x3 x12 x13 x14 ox0 ox12 r (h : Z5p x0 x3 x12 x13 x14 = some r) := ZD h ox0 ox12
def Z5q (x0 : List Z0) (x3 x6 : Int) (x12 : List Z0) (x13 x14 : Int) (b0 : Z0) : Option Int := pick fun r => ∀ (ox0 ox12 zj : Own), RRun Ze (ZgA 0 (Zh ox0 (x0.map Z3)) (iv x3) (.ptr 0 0) (iv x6) (Zh ox12 (x12.map Z3)) (iv x13) (iv x14) [(Zd b0 zj)]) r
def Zaw x0 x3 x6 x12 x13 x14 b0 ox0 ox12 zj r (h : Z5q x0 x3 x6 x12 x13 x14 b0 = some r) := ZD h ox0 ox12 zj
def Z3Z (x0 : List Z0) (x3 x6 x7 : Int) (x12 : List Z0) (x13 x14 : Int) (x26 : List Z0) (x27 x28 : Int) (b0 : Z0) : Option Int := pick fun r => ∀ (ox0 ox12 ox26 zj : Own), RRun Ze (ZeE 0 (Zh ox0 (x0.map Z3)) (iv x3) (.ptr 0 0) (iv x6) (iv x7) (Zh ox12 (x12.map Z3)) (iv x13) (iv x14) (Zh ox26 (x26.map Z3)) (iv x27) (iv x28) [(Zd b0 zj)]) r
def Z9Y x0 x3 x6 x7 x12 x13 x14 x26 x27 x28 b0 ox0 ox12 ox26 zj r (h : Z3Z x0 x3 x6 x7 x12 x13 x14 x26 x27 x28 b0 = some r) := ZD h ox0 ox12 ox26 zj
def Zds (x0 x1 : Z0) : Option Bool := pick fun r => ∀ (zl z1D : Own), RRun Z6 (EE 24 [(pA_ (Zv x0 zl)), (pA_ (Zv x1 z1D))] []) r
def ZjE x0 x1 zl z1D r (h : Zds x0 x1 = some r) := ZD h zl z1D
def Z3M (x0 : Z0) : Option (List Zp) := pick fun r => ∀ (zl : Own), RRun Z2h (EE 19 [(pA_ (Zv x0 zl))] []) r
def ZdZ x0 zl r (h : Z3M x0 = some r) := ZD h zl
def Z9y : Option ((List (Int × ZT)) × (List Zp) × Int) := pick fun r => RRun Z9q (EE 36 [] []) r
def Ziq r (h : Z9y = some r) := ZD h
def ZaB : Option Zp := pick fun r => RRun Zad (EE 54 [] []) r
def ZjM r (h : ZaB = some r) := ZD h
def Z6F (x16 : List Z8) (x17 x18 : Int) (zW : List (Int × ZT)) (z1x : List Zp) (z24 : Int) : Option (List Zp) := pick fun r => ∀ (b0 : Z0) (ox16 zj z1F : Own) (z3i : Z1j z1F = true), RRun Z2h (ZgD 0 (.ptr 2 0) (Zh ox16 (x16.map Za)) (iv x17) (iv x18) [(Zd b0 zj), (rM_ ZF zW), [(Zh z1F (z1x.map ZC)), (.mp 1), (iv z24)]]) r
def ZbW x16 x17 x18 b0 zW z1x z24 ox16 zj z1F z3i r (h : Z6F x16 x17 x18 zW z1x z24 = some r) := ZD h b0 ox16 zj z1F z3i
def Z88 (x1 : Z8) (z1d : List Zp) (z1H : Int) (zW : List (Int × ZT)) : Option (Z4E × Int) := pick fun r => ∀ (zO zL z15 : Own) (z4l : Z1j z15 = true), RRun (ZcQ z1d z1H zW z15) (EE 37 [(.ptr 0 0), (pA_ (Z17 x1 zO zL))] [[(Zh z15 (z1d.map ZC)), (.mp 1), (iv z1H)], (rM_ ZF zW)]) r
def Zbo x1 z1d z1H zW zO zL z15 z4l r (h : Z88 x1 z1d z1H zW = some r) := ZD h zO zL z15 z4l
def Z3c (z1d : List Zp) : Option Int := pick fun r => ∀ (z1H : Int) (zW : List (Int × ZT)) (z15 : Own) (z4l : Z1j z15 = true), RRun (Z37 z1d z1H zW z15) (EE 38 [(.ptr 0 0)] [[(Zh z15 (z1d.map ZC)), (.mp 1), (iv z1H)], (rM_ ZF zW)]) r
def Z9H z1d z1H zW z15 z4l r (h : Z3c z1d = some r) := ZD h z1H zW z15 z4l
def Z5l (x6 : List Zp) (x28 x29 : Int) (z1x : List Zp) : Option (List Zp) := pick fun r => ∀ (b0 : Z0) (zW : List (Int × ZT)) (z24 : Int) (ox6 zj z1F : Own) (hox6 : Z1j ox6 = true) (z3i : Z1j z1F = true), RRun Z2h (ZgE 0 (.ptr 2 0) (Zh ox6 (x6.map ZC)) (iv x28) (iv x29) [(Zd b0 zj), (rM_ ZF zW), [(Zh z1F (z1x.map ZC)), (.mp 1), (iv z24)]]) r
def ZbY x6 x28 x29 b0 zW z1x z24 ox6 zj z1F hox6 z3i r (h : Z5l x6 x28 x29 z1x = some r) := ZD h b0 zW z24 ox6 zj z1F hox6 z3i
def Z4a (x1 : Int) (z1d : List Zp) : Option (Zp × Bool) := pick fun r => ∀ (z1H : Int) (zW : List (Int × ZT)) (z15 : Own) (z4l : Z1j z15 = true), RRun (Z2p z1d z1H zW z15) (EE 39 [(.ptr 0 0), (iv x1)] [[(Zh z15 (z1d.map ZC)), (.mp 1), (iv z1H)], (rM_ ZF zW)]) r
def Zbq x1 z1d z1H zW z15 z4l r (h : Z4a x1 z1d = some r) := ZD h z1H zW z15 z4l
def Z7X (x0 : List Z4) : Option (List Z4) := pick fun r => ∀ (ox0 : Own), RRun Z7W (EE 56 [(Zh ox0 (x0.map Z2))] []) r
def Zep x0 ox0 r (h : Z7X x0 = some r) := ZD h ox0
def Z1u (x0 : List Z0) : Option Bool := pick fun r => ∀ (ox0 : Own), RRun Z6 (EE 11 [(Zh ox0 (x0.map Z3))] []) r
def Z8l x0 ox0 r (h : Z1u x0 = some r) := ZD h ox0
def Z3g (x0 x5 : List Z0) (x6 x7 : Int) : Option Bool := pick fun r => ∀ (ox0 ox5 : Own), RRun Z6 (Zgp 0 (Zh ox0 (x0.map Z3)) (Zh ox5 (x5.map Z3)) (iv x6) (iv x7) []) r
def Z7j x0 x5 x6 x7 ox0 ox5 r (h : Z3g x0 x5 x6 x7 = some r) := ZD h ox0 ox5
def Z49 (x0 : Z0) : Option Bool := pick fun r => ∀ (zl : Own), RRun Z6 (EE 27 [(pA_ (Zv x0 zl))] []) r
def Zbn x0 zl r (h : Z49 x0 = some r) := ZD h zl
def Z4B (x0 : List Z8) : Option Bool := pick fun r => ∀ (ox0 : Own), RRun Z6 (EE 48 [(Zh ox0 (x0.map Za))] []) r
def Zcr x0 ox0 r (h : Z4B x0 = some r) := ZD h ox0
def Z2e (x0 x7 : List Z8) (x8 x9 : Int) : Option Bool := pick fun r => ∀ (ox0 ox7 : Own), RRun Z6 (ZgQ 0 (Zh ox0 (x0.map Za)) (Zh ox7 (x7.map Za)) (iv x8) (iv x9) []) r
def Z6V x0 x7 x8 x9 ox0 ox7 r (h : Z2e x0 x7 x8 x9 = some r) := ZD h ox0 ox7
def Z2G (x0 x7 : List Z8) (x8 x9 : Int) (x27 : List Z4) (x28 x29 : Int) : Option Bool := pick fun r => ∀ (ox0 ox7 ox27 : Own), RRun Z6 (ZgR 0 (Zh ox0 (x0.map Za)) (Zh ox7 (x7.map Za)) (iv x8) (iv x9) (Zh ox27 (x27.map Z2)) (iv x28) (iv x29) []) r
def Z6W x0 x7 x8 x9 x27 x28 x29 ox0 ox7 ox27 r (h : Z2G x0 x7 x8 x9 x27 x28 x29 = some r) := ZD h ox0 ox7 ox27
def Z1p (x0 : List Z0) : Option (List Z1) := pick fun r => ∀ (ox0 : Own), RRun Z1B (EE 14 [(Zh ox0 (x0.map Z3))] []) r
def Z87 x0 ox0 r (h : Z1p x0 = some r) := ZD h ox0
def Z34 (x3 : List Z1) (x6 : List Z0) (x7 x8 : Int) : Option (List Z1) := pick fun r => ∀ (ox3 ox6 : Own) (hox3 : Z1j ox3 = true), RRun Z1B (Zgy 0 (Zh ox3 (x3.map Zf)) (Zh ox6 (x6.map Z3)) (iv x7) (iv x8) []) r
def Z78 x3 x6 x7 x8 ox3 ox6 hox3 r (h : Z34 x3 x6 x7 x8 = some r) := ZD h ox3 ox6 hox3
def Z5H (x0 : Z0) : Option Z1 := pick fun r => ∀ (zl : Own), RRun Z5w (EE 31 [(pA_ (Zv x0 zl))] []) r
def ZdM x0 zl r (h : Z5H x0 = some r) := ZD h zl
def Z54 (x0 : List Z8) : Option (List Zb) := pick fun r => ∀ (ox0 : Own), RRun Z1W (EE 49 [(Zh ox0 (x0.map Za))] []) r
def ZcZ x0 ox0 r (h : Z54 x0 = some r) := ZD h ox0
def Z35 (x3 : List Zb) (x6 : List Z8) (x7 x8 : Int) : Option (List Zb) := pick fun r => ∀ (ox3 ox6 : Own) (hox3 : Z1j ox3 = true), RRun Z1W (ZgS 0 (Zh ox3 (x3.map Zg)) (Zh ox6 (x6.map Za)) (iv x7) (iv x8) []) r
def Z7a x3 x6 x7 x8 ox3 ox6 hox3 r (h : Z35 x3 x6 x7 x8 = some r) := ZD h ox3 ox6 hox3
def Z5G (x0 : Z26) : Option Z5 := pick fun r => ∀ (z1U z1z : Own), RRun Z2g (EE 67 [(pA_ (Z6p x0 z1U z1z))] []) r
def ZdK x0 z1U z1z r (h : Z5G x0 = some r) := ZD h z1U z1z
def Z3x (x18 : List Z4) (x19 x20 z12 z1a z1s z1i : Int) (z1N : List Z4) (z1r : List Int) : Option Z5 := pick fun r => ∀ (b0 : Z26) (b1 : Z5) (ox18 zS zQ zu zn z1Z z23 : Own) (z6P : Z1j zu = true) (z5P : Z1j zn = true) (z6Q : Z1j z1Z = true), RRun Z2g (Zh2 0 (.ptr 1 0) (.ptr 2 0) (Zh ox18 (x18.map Z2)) (iv x19) (iv x20) [(Zo b0 zS zQ), (Zc b1 zu zn), (Zbu z12 z1a z1s z1i z1N z1r z1Z z23)]) r
def Z7O x18 x19 x20 b0 b1 z12 z1a z1s z1i z1N z1r ox18 zS zQ zu zn z1Z z23 z6P z5P z6Q r (h : Z3x x18 x19 x20 z12 z1a z1s z1i z1N z1r = some r) := ZD h b0 b1 ox18 zS zQ zu zn z1Z z23 z6P z5P z6Q
def Z9z (x0 : List Z1) : Option (List Z1) := pick fun r => ∀ (ox0 : Own), RRun Z1B (EE 32 [(Zh ox0 (x0.map Zf))] []) r
def ZiA x0 ox0 r (h : Z9z x0 = some r) := ZD h ox0
def Z67 (x0 x3 : List Z1) (x4 : Int) : Option (List Z1) := pick fun r => ∀ (ox0 ox3 : Own) (hox3 : Z1j ox3 = true), RRun Z1B (ZgL 0 (Zh ox0 (x0.map Zf)) (Zh ox3 (x3.map Zf)) (iv x4) []) r
def Zbe x0 x3 x4 ox0 ox3 hox3 r (h : Z67 x0 x3 x4 = some r) := ZD h ox0 ox3 hox3
def Z6k (x0 : Z1) : Option Bool := pick fun r => ∀ (zl : Own), RRun Z6 (EE 50 [(pA_ (ZP x0 zl))] []) r
def Zeo x0 zl r (h : Z6k x0 = some r) := ZD h zl
def Z2T (x3 : Int) (b0 : Z1) : Option Bool := pick fun r => ∀ (zj : Own), RRun Z6 (ZgT 0 (.ptr 0 0) (iv x3) [(ZI b0 zj)]) r
def Z8c x3 b0 zj r (h : Z2T x3 b0 = some r) := ZD h zj
def Z6i (x0 : Zb) : Option Bool := pick fun r => ∀ (z9 z7 : Own), RRun Z6 (EE 68 [(pA_ (Z1f x0 z9 z7))] []) r
def Zem x0 z9 z7 r (h : Z6i x0 = some r) := ZD h z9 z7
def Z2y (x0 x1 x2 : Int) : Option Bool := pick fun r => RRun Z6 (EE 82 [(iv x0), (iv x1), (iv x2)] []) r
def Z2V x0 x1 x2 r (h : Z2y x0 x1 x2 = some r) := ZD h
def Z2o (x4 : Int) (b1 : Z5) : Option Bool := pick fun r => ∀ (b0 : Zb) (zB zy zu zn : Own), RRun Z6 (Zh3 0 (.ptr 1 0) (iv x4) [(ZM b0 zB zy), (Zc b1 zu zn)]) r
def Z8a x4 b0 b1 zB zy zu zn r (h : Z2o x4 b1 = some r) := ZD h b0 zB zy zu zn
def Z6H (x0 : Z4) : Option Bool := pick fun r => RRun Z6 (EE 75 [(pA_ (ZJ x0))] []) r
def ZeW x0 r (h : Z6H x0 = some r) := ZD h
def Z3y (x5 : Int) (b1 : Z5) : Option Bool := pick fun r => ∀ (b0 : Zb) (zB zy zu zn : Own), RRun Z6 (ZeK 0 (.ptr 1 0) (iv x5) [(ZM b0 zB zy), (Zc b1 zu zn)]) r
def Z7Q x5 b0 b1 zB zy zu zn r (h : Z3y x5 b1 = some r) := ZD h b0 zB zy zu zn
def Z2J (x0 : List Z1) : Option (Int × Int × Bool) := pick fun r => ∀ (ox0 : Own), RRun ZY (EE 13 [(Zh ox0 (x0.map Zf))] []) r
def ZdC x0 ox0 r (h : Z2J x0 = some r) := ZD h ox0
def Z65 (x0 : List Z1) (x5 : Int) : Option (Int × Int × Bool) := pick fun r => ∀ (ox0 : Own), RRun ZY (Zgv 0 (Zh ox0 (x0.map Zf)) (iv x5) []) r
def Zb8 x0 x5 ox0 r (h : Z65 x0 x5 = some r) := ZD h ox0
def Z66 (x0 : List Z1) (x5 x6 : Int) : Option (Int × Int × Bool) := pick fun r => ∀ (ox0 : Own), RRun ZY (Zgw 0 (Zh ox0 (x0.map Zf)) (iv x5) (iv x6) []) r
def Zba x0 x5 x6 ox0 r (h : Z66 x0 x5 x6 = some r) := ZD h ox0
def Z6o (x0 x1 : Z1) : Option Bool := pick fun r => ∀ (zl z1D : Own), RRun Z6 (EE 25 [(pA_ (ZP x0 zl)), (pA_ (ZP x1 z1D))] []) r
def ZdD x0 x1 zl z1D r (h : Z6o x0 x1 = some r) := ZD h zl z1D
def Z4J (x5 : Int) (b0 b1 : Z1) : Option Bool := pick fun r => ∀ (zj z3u : Own), RRun Z6 (ZgG 0 (.ptr 0 0) (.ptr 1 0) (iv x5) [(ZI b0 zj), (ZI b1 z3u)]) r
def Zbc x5 b0 b1 zj z3u r (h : Z4J x5 b0 b1 = some r) := ZD h zj z3u
def Z7c (x0 x1 : List Zb) : Option Bool := pick fun r => ∀ (ox0 ox1 : Own), RRun Z6 (EE 35 [(Zh ox0 (x0.map Zg)), (Zh ox1 (x1.map Zg))] []) r
def ZjK x0 x1 ox0 ox1 r (h : Z7c x0 x1 = some r) := ZD h ox0 ox1
def Z6I (x0 x1 : List Zb) (x5 : Int) : Option Bool := pick fun r => ∀ (ox0 ox1 : Own), RRun Z6 (ZgN 0 (Zh ox0 (x0.map Zg)) (Zh ox1 (x1.map Zg)) (iv x5) []) r
def Zc5 x0 x1 x5 ox0 ox1 r (h : Z6I x0 x1 x5 = some r) := ZD h ox0 ox1
def Z5r (x0 x1 : Z5) : Option Bool := pick fun r => ∀ (z1U z1z z7e z6b : Own), RRun Z6 (EE 53 [(pA_ (Z1n x0 z1U z1z)), (pA_ (Z1n x1 z7e z6b))] []) r
def Zfw x0 x1 z1U z1z z7e z6b r (h : Z5r x0 x1 = some r) := ZD h z1U z1z z7e z6b
def Z3r (x5 : Int) (b0 b1 : Z5) : Option Bool := pick fun r => ∀ (zS zQ zu zn : Own), RRun Z6 (ZgX 0 (.ptr 0 0) (.ptr 1 0) (iv x5) [(Zc b0 zS zQ), (Zc b1 zu zn)]) r
def Z8X x5 b0 b1 zS zQ zu zn r (h : Z3r x5 b0 b1 = some r) := ZD h zS zQ zu zn
def Z4k (x6 : Int) (b0 b1 : Z5) : Option Bool := pick fun r => ∀ (zS zQ zu zn : Own), RRun Z6 (ZgY 0 (.ptr 0 0) (.ptr 1 0) (iv x6) [(Zc b0 zS zQ), (Zc b1 zu zn)]) r
def Z8Z x6 b0 b1 zS zQ zu zn r (h : Z4k x6 b0 b1 = some r) := ZD h zS zQ zu zn
def Zbs (x0 : List Z1) (x1 : List Bool) : Option (Int × Bool) := pick fun r => ∀ (ox0 ox1 : Own), RRun Zbg (EE 16 [(Zh ox0 (x0.map Zf)), (Zh ox1 (x1.map eB))] []) r
def Zi5 x0 x1 ox0 ox1 r (h : Zbs x0 x1 = some r) := ZD h ox0 ox1
def Zbr (x0 : List Z1) : Option Int := pick fun r => ∀ (ox0 : Own), RRun Ze (EE 18 [(Zh ox0 (x0.map Zf))] []) r
def Zi3 x0 ox0 r (h : Zbr x0 = some r) := ZD h ox0
def Z9J (x0 x1 : Z0) : Option ((List Z8h) × Int) := pick fun r => ∀ (zl z1D : Own), RRun Z9B (EE 26 [(pA_ (Zv x0 zl)), (pA_ (Zv x1 z1D))] []) r
def Zgh x0 x1 zl z1D r (h : Z9J x0 x1 = some r) := ZD h zl z1D
end Go.Proofs.YtiigbcahdaoedaaGreatDoor.N2
end
