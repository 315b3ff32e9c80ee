/- The functions, read typed: their types, and what they stand for. No condition. -/
import Derived.Test.YtiigbcahdaoedaaGreatDoorSim
import Derived.Test.YtiigbcahdaoedaaGreatDoorEqs

set_option linter.unusedSimpArgs false
set_option linter.unusedVariables false
set_option linter.defProp false
noncomputable section
namespace Go.Proofs.YtiigbcahdaoedaaGreatDoor.N2
open Go Go.Abs
set_option maxRecDepth 100000
theorem gj_ (n : Nat) {l k : List PV} (h : l = k) : l.getD n .junk = k.getD n .junk := congrArg (fun l => l.getD n .junk) h
structure Z9 where
 ID : Int
 Priority : Int
 Action : Int
 Scope : Int
 Pattern : ByteArray
 deriving Inhabited
def Z1L (a : Z9) : List PV := [(eI .i64) a.ID, (eI .i64) a.Priority, (eI .i64) a.Action, (eI .i64) a.Scope, eS a.Pattern]
def Z8 (a : Z9) : PV := .agg (Z1L a)
def Z11 (a : Z9) : List PV := [(eI .i64) a.ID, (eI .i64) a.Priority, (eI .i64) a.Action, (eI .i64) a.Scope, eS a.Pattern]
def ZW (a : Z9) : Row := [.p ((eI .i64) a.ID), .p ((eI .i64) a.Priority), .p ((eI .i64) a.Action), .p ((eI .i64) a.Scope), .p (eS a.Pattern)]
theorem Zgz {a b : Z9} (h : Z1L a = Z1L b) : a = b := by
 have h0 : a.ID = b.ID := Z1Y _ _ (gj_ 0 h)
 have h1 : a.Priority = b.Priority := Z1Y _ _ (gj_ 1 h)
 have h2 : a.Action = b.Action := Z1Y _ _ (gj_ 2 h)
 have h3 : a.Scope = b.Scope := Z1Y _ _ (gj_ 3 h)
 have h4 : a.Pattern = b.Pattern := ZDe _ _ (gj_ 4 h)
 cases a; cases b
 cases h0
 cases h1
 cases h2
 cases h3
 cases h4
 rfl
theorem Z5y (a b : Z9) (h : Z8 a = Z8 b) : a = b := Zgz (congrArg pC h)
structure Z1U where
 Default : Int
 Closed : Int
 Fuel : Int
 Stack : Int
 Put : (List Z9)
 Drop : (List Int)
 deriving Inhabited
def Zg0 (a : Z1U) : List PV := [(eI .i64) a.Default, (eI .i64) a.Closed, (eI .i64) a.Fuel, (eI .i64) a.Stack, (eL Z8) a.Put, (eL (eI .i64)) a.Drop]
def Z8U (a : Z1U) (o0 o1 : Own) : List PV := [(eI .i64) a.Default, (eI .i64) a.Closed, (eI .i64) a.Fuel, (eI .i64) a.Stack, .lst o0 (a.Put.map Z8), .lst o1 (a.Drop.map (eI .i64))]
def ZH (a : Z1U) (o0 o1 : Own) : Row := [.p ((eI .i64) a.Default), .p ((eI .i64) a.Closed), .p ((eI .i64) a.Fuel), .p ((eI .i64) a.Stack), .p (.lst o0 (a.Put.map Z8)), .p (.lst o1 (a.Drop.map (eI .i64)))]
theorem ZmX {a b : Z1U} (h : Zg0 a = Zg0 b) : a = b := by
 have h0 : a.Default = b.Default := Z1Y _ _ (gj_ 0 h)
 have h1 : a.Closed = b.Closed := Z1Y _ _ (gj_ 1 h)
 have h2 : a.Fuel = b.Fuel := Z1Y _ _ (gj_ 2 h)
 have h3 : a.Stack = b.Stack := Z1Y _ _ (gj_ 3 h)
 have h4 : a.Put = b.Put := (Zfm Z5y) _ _ (gj_ 4 h)
 have h5 : a.Drop = b.Drop := (Zfm Z1Y) _ _ (gj_ 5 h)
 cases a; cases b
 cases h0
 cases h1
 cases h2
 cases h3
 cases h4
 cases h5
 rfl
structure Z3 where
 View : Int
 Client : Int
 Request : Int
 Delta : Z1U
 deriving Inhabited
def Z36 (a : Z3) : List PV := [(eI .i64) a.View, (eI .i64) a.Client, (eI .i64) a.Request, (eI .i64) a.Delta.Default, (eI .i64) a.Delta.Closed, (eI .i64) a.Delta.Fuel, (eI .i64) a.Delta.Stack, (eL Z8) a.Delta.Put, (eL (eI .i64)) a.Delta.Drop]
def Z7 (a : Z3) : PV := .agg (Z36 a)
def Z1f (a : Z3) (o0 o1 : Own) : List PV := [(eI .i64) a.View, (eI .i64) a.Client, (eI .i64) a.Request, (eI .i64) a.Delta.Default, (eI .i64) a.Delta.Closed, (eI .i64) a.Delta.Fuel, (eI .i64) a.Delta.Stack, .lst o0 (a.Delta.Put.map Z8), .lst o1 (a.Delta.Drop.map (eI .i64))]
def ZE (a : Z3) (o0 o1 : Own) : Row := [.p ((eI .i64) a.View), .p ((eI .i64) a.Client), .p ((eI .i64) a.Request), .p ((eI .i64) a.Delta.Default), .p ((eI .i64) a.Delta.Closed), .p ((eI .i64) a.Delta.Fuel), .p ((eI .i64) a.Delta.Stack), .p (.lst o0 (a.Delta.Put.map Z8)), .p (.lst o1 (a.Delta.Drop.map (eI .i64)))]
theorem ZmW {a b : Z3} (h : Z36 a = Z36 b) : a = b := by
 have h0 : a.View = b.View := Z1Y _ _ (gj_ 0 h)
 have h1 : a.Client = b.Client := Z1Y _ _ (gj_ 1 h)
 have h2 : a.Request = b.Request := Z1Y _ _ (gj_ 2 h)
 have h3 : a.Delta = b.Delta := ZmX (congrArg (fun l => (l.drop 3).take 6) h)
 cases a; cases b
 cases h0
 cases h1
 cases h2
 cases h3
 rfl
theorem Z7w (a b : Z3) (h : Z7 a = Z7 b) : a = b := ZmW (congrArg pC h)
structure Z0 where
 View : Int
 Normal : Int
 Commit : Int
 Active : Int
 Log : (List Z3)
 deriving Inhabited
def Z27 (a : Z0) : List PV := [(eI .i64) a.View, (eI .i64) a.Normal, (eI .i64) a.Commit, (eI .i64) a.Active, (eL Z7) a.Log]
def Z6 (a : Z0) : PV := .agg (Z27 a)
def Zi (a : Z0) (o0 : Own) : List PV := [(eI .i64) a.View, (eI .i64) a.Normal, (eI .i64) a.Commit, (eI .i64) a.Active, .lst o0 (a.Log.map Z7)]
def Z1 (a : Z0) (o0 : Own) : Row := [.p ((eI .i64) a.View), .p ((eI .i64) a.Normal), .p ((eI .i64) a.Commit), .p ((eI .i64) a.Active), .p (.lst o0 (a.Log.map Z7))]
theorem ZkG {a b : Z0} (h : Z27 a = Z27 b) : a = b := by
 have h0 : a.View = b.View := Z1Y _ _ (gj_ 0 h)
 have h1 : a.Normal = b.Normal := Z1Y _ _ (gj_ 1 h)
 have h2 : a.Commit = b.Commit := Z1Y _ _ (gj_ 2 h)
 have h3 : a.Active = b.Active := Z1Y _ _ (gj_ 3 h)
 have h4 : a.Log = b.Log := (Zfm Z7w) _ _ (gj_ 4 h)
 cases a; cases b
 cases h0
 cases h1
 cases h2
 cases h3
 cases h4
 rfl
theorem ZkI (a b : Z0) (h : Z6 a = Z6 b) : a = b := ZkG (congrArg pC h)
structure ZJ where
 Default : Int
 Closed : Int
 Fuel : Int
 Stack : Int
 Rules : (List Z9)
 deriving Inhabited
def Zf9 (a : ZJ) : List PV := [(eI .i64) a.Default, (eI .i64) a.Closed, (eI .i64) a.Fuel, (eI .i64) a.Stack, (eL Z8) a.Rules]
def ZT (a : ZJ) : PV := .agg (Zf9 a)
def Z3j (a : ZJ) (o0 : Own) : List PV := [(eI .i64) a.Default, (eI .i64) a.Closed, (eI .i64) a.Fuel, (eI .i64) a.Stack, .lst o0 (a.Rules.map Z8)]
def Z1V (a : ZJ) (o0 : Own) : Row := [.p ((eI .i64) a.Default), .p ((eI .i64) a.Closed), .p ((eI .i64) a.Fuel), .p ((eI .i64) a.Stack), .p (.lst o0 (a.Rules.map Z8))]
theorem Zdv {a b : ZJ} (h : Zf9 a = Zf9 b) : a = b := by
 have h0 : a.Default = b.Default := Z1Y _ _ (gj_ 0 h)
 have h1 : a.Closed = b.Closed := Z1Y _ _ (gj_ 1 h)
 have h2 : a.Fuel = b.Fuel := Z1Y _ _ (gj_ 2 h)
 have h3 : a.Stack = b.Stack := Z1Y _ _ (gj_ 3 h)
 have h4 : a.Rules = b.Rules := (Zfm Z5y) _ _ (gj_ 4 h)
 cases a; cases b
 cases h0
 cases h1
 cases h2
 cases h3
 cases h4
 rfl
theorem ZhV (a b : ZJ) (h : ZT a = ZT b) : a = b := Zdv (congrArg pC h)
structure ZcC where
 Code : Int
 Rule : Int
 At : Int
 deriving Inhabited
def Zfk (a : ZcC) : List PV := [(eI .i64) a.Code, (eI .i64) a.Rule, (eI .i64) a.At]
theorem Zid {a b : ZcC} (h : Zfk a = Zfk b) : a = b := by
 have h0 : a.Code = b.Code := Z1Y _ _ (gj_ 0 h)
 have h1 : a.Rule = b.Rule := Z1Y _ _ (gj_ 1 h)
 have h2 : a.At = b.At := Z1Y _ _ (gj_ 2 h)
 cases a; cases b
 cases h0
 cases h1
 cases h2
 rfl
structure Z6p where
 Version : Int
 Verdict : ZcC
 deriving Inhabited
def Zfj (a : Z6p) : List PV := [(eI .i64) a.Version, (eI .i64) a.Verdict.Code, (eI .i64) a.Verdict.Rule, (eI .i64) a.Verdict.At]
def ZfN (a : Z6p) : List PV := [(eI .i64) a.Version, (eI .i64) a.Verdict.Code, (eI .i64) a.Verdict.Rule, (eI .i64) a.Verdict.At]
theorem Zic {a b : Z6p} (h : Zfj a = Zfj b) : a = b := by
 have h0 : a.Version = b.Version := Z1Y _ _ (gj_ 0 h)
 have h1 : a.Verdict = b.Verdict := Zid (congrArg (fun l => (l.drop 1).take 3) h)
 cases a; cases b
 cases h0
 cases h1
 rfl
structure Z1d where
 request : Int
 Outcome : Z6p
 deriving Inhabited
def Zdu (a : Z1d) : List PV := [(eI .i64) a.request, (eI .i64) a.Outcome.Version, (eI .i64) a.Outcome.Verdict.Code, (eI .i64) a.Outcome.Verdict.Rule, (eI .i64) a.Outcome.Verdict.At]
def ZV (a : Z1d) : PV := .agg (Zdu a)
theorem ZkF {a b : Z1d} (h : Zdu a = Zdu b) : a = b := by
 have h0 : a.request = b.request := Z1Y _ _ (gj_ 0 h)
 have h1 : a.Outcome = b.Outcome := Zic (congrArg (fun l => (l.drop 1).take 4) h)
 cases a; cases b
 cases h0
 cases h1
 rfl
theorem ZkH (a b : Z1d) (h : ZV a = ZV b) : a = b := ZkF (congrArg pC h)
structure Za where
 Default : Int
 Closed : Int
 Fuel : Int
 Stack : Int
 Put : (List Z9)
 Drop : (List Int)
 deriving Inhabited
def Zc3 (a : Za) : List PV := [(eI .i64) a.Default, (eI .i64) a.Closed, (eI .i64) a.Fuel, (eI .i64) a.Stack, (eL Z8) a.Put, (eL (eI .i64)) a.Drop]
def Z1J (a : Za) (o0 o1 : Own) : List PV := [(eI .i64) a.Default, (eI .i64) a.Closed, (eI .i64) a.Fuel, (eI .i64) a.Stack, .lst o0 (a.Put.map Z8), .lst o1 (a.Drop.map (eI .i64))]
def Zz (a : Za) (o0 o1 : Own) : Row := [.p ((eI .i64) a.Default), .p ((eI .i64) a.Closed), .p ((eI .i64) a.Fuel), .p ((eI .i64) a.Stack), .p (.lst o0 (a.Put.map Z8)), .p (.lst o1 (a.Drop.map (eI .i64)))]
theorem Zai {a b : Za} (h : Zc3 a = Zc3 b) : a = b := by
 have h0 : a.Default = b.Default := Z1Y _ _ (gj_ 0 h)
 have h1 : a.Closed = b.Closed := Z1Y _ _ (gj_ 1 h)
 have h2 : a.Fuel = b.Fuel := Z1Y _ _ (gj_ 2 h)
 have h3 : a.Stack = b.Stack := Z1Y _ _ (gj_ 3 h)
 have h4 : a.Put = b.Put := (Zfm Z5y) _ _ (gj_ 4 h)
 have h5 : a.Drop = b.Drop := (Zfm Z1Y) _ _ (gj_ 5 h)
 cases a; cases b
 cases h0
 cases h1
 cases h2
 cases h3
 cases h4
 cases h5
 rfl
structure Zo where
 View : Int
 Client : Int
 Request : Int
 Delta : Za
 deriving Inhabited
def Z1I (a : Zo) : List PV := [(eI .i64) a.View, (eI .i64) a.Client, (eI .i64) a.Request, (eI .i64) a.Delta.Default, (eI .i64) a.Delta.Closed, (eI .i64) a.Delta.Fuel, (eI .i64) a.Delta.Stack, (eL Z8) a.Delta.Put, (eL (eI .i64)) a.Delta.Drop]
def Zl (a : Zo) : PV := .agg (Z1I a)
def Z1C (a : Zo) (o0 o1 : Own) : List PV := [(eI .i64) a.View, (eI .i64) a.Client, (eI .i64) a.Request, (eI .i64) a.Delta.Default, (eI .i64) a.Delta.Closed, (eI .i64) a.Delta.Fuel, (eI .i64) a.Delta.Stack, .lst o0 (a.Delta.Put.map Z8), .lst o1 (a.Delta.Drop.map (eI .i64))]
def Z15 (a : Zo) (o0 o1 : Own) : Row := [.p ((eI .i64) a.View), .p ((eI .i64) a.Client), .p ((eI .i64) a.Request), .p ((eI .i64) a.Delta.Default), .p ((eI .i64) a.Delta.Closed), .p ((eI .i64) a.Delta.Fuel), .p ((eI .i64) a.Delta.Stack), .p (.lst o0 (a.Delta.Put.map Z8)), .p (.lst o1 (a.Delta.Drop.map (eI .i64)))]
theorem ZfZ {a b : Zo} (h : Z1I a = Z1I b) : a = b := by
 have h0 : a.View = b.View := Z1Y _ _ (gj_ 0 h)
 have h1 : a.Client = b.Client := Z1Y _ _ (gj_ 1 h)
 have h2 : a.Request = b.Request := Z1Y _ _ (gj_ 2 h)
 have h3 : a.Delta = b.Delta := Zai (congrArg (fun l => (l.drop 3).take 6) h)
 cases a; cases b
 cases h0
 cases h1
 cases h2
 cases h3
 rfl
theorem Zal (a b : Zo) (h : Zl a = Zl b) : a = b := ZfZ (congrArg pC h)
structure Z2 where
 View : Int
 Normal : Int
 Commit : Int
 Active : Int
 Log : (List Zo)
 deriving Inhabited
def Z1x (a : Z2) : List PV := [(eI .i64) a.View, (eI .i64) a.Normal, (eI .i64) a.Commit, (eI .i64) a.Active, (eL Zl) a.Log]
def Zc (a : Z2) : PV := .agg (Z1x a)
def ZP (a : Z2) (o0 : Own) : List PV := [(eI .i64) a.View, (eI .i64) a.Normal, (eI .i64) a.Commit, (eI .i64) a.Active, .lst o0 (a.Log.map Zl)]
def ZK (a : Z2) (o0 : Own) : Row := [.p ((eI .i64) a.View), .p ((eI .i64) a.Normal), .p ((eI .i64) a.Commit), .p ((eI .i64) a.Active), .p (.lst o0 (a.Log.map Zl))]
theorem Zaj {a b : Z2} (h : Z1x a = Z1x b) : a = b := by
 have h0 : a.View = b.View := Z1Y _ _ (gj_ 0 h)
 have h1 : a.Normal = b.Normal := Z1Y _ _ (gj_ 1 h)
 have h2 : a.Commit = b.Commit := Z1Y _ _ (gj_ 2 h)
 have h3 : a.Active = b.Active := Z1Y _ _ (gj_ 3 h)
 have h4 : a.Log = b.Log := (Zfm Zal) _ _ (gj_ 4 h)
 cases a; cases b
 cases h0
 cases h1
 cases h2
 cases h3
 cases h4
 rfl
theorem Zg1 (a b : Z2) (h : Zc a = Zc b) : a = b := Zaj (congrArg pC h)
structure Zb where
 Kind : Int
 A : Int
 B : Int
 Log : (List Z3)
 deriving Inhabited
def Zbm (a : Zb) : List PV := [(eI .i64) a.Kind, (eI .i64) a.A, (eI .i64) a.B, (eL Z7) a.Log]
def ZO (a : Zb) : PV := .agg (Zbm a)
def Z3i (a : Zb) (o0 : Own) : List PV := [(eI .i64) a.Kind, (eI .i64) a.A, (eI .i64) a.B, .lst o0 (a.Log.map Z7)]
def Z1v (a : Zb) (o0 : Own) : Row := [.p ((eI .i64) a.Kind), .p ((eI .i64) a.A), .p ((eI .i64) a.B), .p (.lst o0 (a.Log.map Z7))]
theorem ZkW {a b : Zb} (h : Zbm a = Zbm b) : a = b := by
 have h0 : a.Kind = b.Kind := Z1Y _ _ (gj_ 0 h)
 have h1 : a.A = b.A := Z1Y _ _ (gj_ 1 h)
 have h2 : a.B = b.B := Z1Y _ _ (gj_ 2 h)
 have h3 : a.Log = b.Log := (Zfm Z7w) _ _ (gj_ 3 h)
 cases a; cases b
 cases h0
 cases h1
 cases h2
 cases h3
 rfl
theorem Zfn (a b : Zb) (h : ZO a = ZO b) : a = b := ZkW (congrArg pC h)
theorem et_ {α : Type} {a b c : α} (h : b = c) (g : a = b := by kernel_rfl) : a = c := g.trans h
theorem ru_ {R : Type} {Q : R → Res → Prop} {e : Option Res} {a b : R} (u : ∀ a b q, Q a q → Q b q → a = b) (h : RRun Q e a) (g : RRun Q e b) : a = b := RRun.uniq u h g
abbrev Zef := Z0.mk 0 0 0 0 ([] : List Z3)
abbrev ZuE := Z1U.mk 0 0 0 0 ([] : List Z9) ([] : List Int)
abbrev Zo7 := Z3.mk 0 0 0 (Z1U.mk 0 0 0 0 ([] : List Z9) ([] : List Int))
abbrev Zhy := ZJ.mk 0 0 0 0 ([] : List Z9)
abbrev ZuF := Z2.mk 0 0 0 0 ([] : List Zo)
abbrev ZqM := Za.mk 0 0 0 0 ([] : List Z9) ([] : List Int)
abbrev Z3k a0 a1 a2 a3 a4 o0 := Z1 (Z0.mk a0 a1 a2 a3 a4) o0
abbrev ZeY a0 a1 a2 a3 a4 a5 o0 o1 := Zz (Za.mk a0 a1 a2 a3 a4 a5) o0 o1
abbrev Zm (o : Own) (l : List PV) : AV := .p (.lst o l)
abbrev pA_ (l : List PV) : AV := .p (.agg l)
abbrev rM_ {α : Type} (e : α → PV) (l : List (Int × α)) : Row := [.md (l.map (encM e))]
abbrev Zd : Bool → Res → Prop := fun r q => ∃ (ex : List Row), q = ((bv r), ex)
theorem ZZ : ∀ a b q, Zd a q → Zd b q → a = b := by
 rintro a b q ⟨_, e1⟩ ⟨_, e2⟩
 have e := e1.symm.trans e2
 exact congrArg (fun q : Res => pB (pA q.1)) e
abbrev Zk : Int → Res → Prop := fun r q => ∃ (ex : List Row), q = ((iv r), ex)
theorem Z1c : ∀ a b q, Zk a q → Zk b q → a = b := by
 rintro a b q ⟨_, e1⟩ ⟨_, e2⟩
 have e := e1.symm.trans e2
 exact congrArg (fun q : Res => pI (pA q.1)) e
abbrev Z3q : (List Z0) → Res → Prop := fun r q => ∃ (ex : List Row), q = ((Zm .sh (r.map Z6)), ex)
theorem ZhT : ∀ a b q, Z3q a q → Z3q b q → a = b := by
 rintro a b q ⟨_, e1⟩ ⟨_, e2⟩
 have e := e1.symm.trans e2
 exact Z5S ZkI (congrArg (fun q : Res => pL (pA q.1)) e)
abbrev Z52 : (List Z3) → Res → Prop := fun r q => ∃ (ex : List Row), q = ((Zm .sh (r.map Z7)), ex)
theorem ZeJ : ∀ a b q, Z52 a q → Z52 b q → a = b := by
 rintro a b q ⟨_, e1⟩ ⟨_, e2⟩
 have e := e1.symm.trans e2
 exact Z5S Z7w (congrArg (fun q : Res => pL (pA q.1)) e)
abbrev Z1Q : (Int × Int × Bool) → Res → Prop := fun r q => ∃ (ex : List Row), q = ((.p (.tup [(.v (.int .i64 r.1)), (.v (.int .i64 r.2.1)), (.v (.bool r.2.2))])), ex)
theorem Zdm : ∀ a b q, Z1Q a q → Z1Q b q → a = b := by
 rintro a b q ⟨_, e1⟩ ⟨_, e2⟩
 have e := e1.symm.trans e2
 exact Zc1 (congrArg (fun q : Res => pI ((pT (pA q.1)).getD 0 .junk)) e) (Zc1 (congrArg (fun q : Res => pI ((pT (pA q.1)).getD 1 .junk)) e) (congrArg (fun q : Res => pB ((pT (pA q.1)).getD 2 .junk)) e))
abbrev Zdn : ZJ → Res → Prop := fun r q => ∃ (ex : List Row), q = ((pA_ (Z3j r .sh)), ex)
theorem ZpU : ∀ a b q, Zdn a q → Zdn b q → a = b := by
 rintro a b q ⟨_, e1⟩ ⟨_, e2⟩
 have e := e1.symm.trans e2
 exact Zdv (congrArg (fun q : Res => pC (pA q.1)) e)
abbrev Zcq : ((List (Int × Z1d)) × (List ZJ) × Int) → Res → Prop := fun r q => ∃ (n1_0 : Own) (ex : List Row), Z1e n1_0 = true ∧ q = ((.ptr 1 0), [(rM_ ZV r.1), [(Zm n1_0 (r.2.1.map ZT)), (.mp 0), (iv r.2.2)]]) ∧ ex = []
theorem Zo9 : ∀ a b q, Zcq a q → Zcq b q → a = b := by
 rintro a b q ⟨_, _, _, e1, _⟩ ⟨_, _, _, e2, _⟩
 have e := e1.symm.trans e2
 exact Zc1 (Z5S (ZB7 ZkH) (congrArg (fun q : Res => pM (cellAt q 0 0)) e)) (Zc1 (Z5S ZhV (congrArg (fun q : Res => pL (pA (cellAt q 1 0))) e)) (congrArg (fun q : Res => pI (pA (cellAt q 1 2))) e))
abbrev Zgw (z1A : List ZJ) (z2a : Int) (z1g : List (Int × Z1d)) (z1s : Own) : (Z6p × Int) → Res → Prop := fun r q => ∃ (ex : List Row), q = ((.p (.tup [(.agg (ZfN r.1)), (.v (.int .i64 r.2))])), [[(Zm z1s (z1A.map ZT)), (.mp 1), (iv z2a)], (rM_ ZV z1g)] ++ ex)
abbrev Z40 (z1A : List ZJ) (z2a : Int) (z1g : List (Int × Z1d)) (z1s : Own) : Int → Res → Prop := fun r q => ∃ (ex : List Row), q = ((iv r), [[(Zm z1s (z1A.map ZT)), (.mp 1), (iv z2a)], (rM_ ZV z1g)] ++ ex)
theorem Zdb (z1A : List ZJ) (z2a : Int) (z1g : List (Int × Z1d)) (z1s : Own) : ∀ a b q, Z40 z1A z2a z1g z1s a q → Z40 z1A z2a z1g z1s b q → a = b := by
 rintro a b q ⟨_, e1⟩ ⟨_, e2⟩
 have e := e1.symm.trans e2
 exact congrArg (fun q : Res => pI (pA q.1)) e
abbrev Zaz : (List Z9) → Res → Prop := fun r q => ∃ (ex : List Row), q = ((Zm .sh (r.map Z8)), ex)
theorem ZiR : ∀ a b q, Zaz a q → Zaz b q → a = b := by
 rintro a b q ⟨_, e1⟩ ⟨_, e2⟩
 have e := e1.symm.trans e2
 exact Z5S Z5y (congrArg (fun q : Res => pL (pA q.1)) e)
abbrev Z32 (z1A : List ZJ) (z2a : Int) (z1g : List (Int × Z1d)) (z1s : Own) : (ZJ × Bool) → Res → Prop := fun r q => ∃ (ex : List Row), q = ((.p (.tup [(.agg (Z3j r.1 .sh)), (.v (.bool r.2))])), [[(Zm z1s (z1A.map ZT)), (.mp 1), (iv z2a)], (rM_ ZV z1g)] ++ ex)
theorem Zfh (z1A : List ZJ) (z2a : Int) (z1g : List (Int × Z1d)) (z1s : Own) : ∀ a b q, Z32 z1A z2a z1g z1s a q → Z32 z1A z2a z1g z1s b q → a = b := by
 rintro a b q ⟨_, e1⟩ ⟨_, e2⟩
 have e := e1.symm.trans e2
 exact Zc1 (Zdv (congrArg (fun q : Res => pC ((pT (pA q.1)).getD 0 .junk)) e)) (congrArg (fun q : Res => pB ((pT (pA q.1)).getD 1 .junk)) e)
abbrev Z2U : (List ZJ) → Res → Prop := fun r q => ∃ (ex : List Row), q = ((Zm .sh (r.map ZT)), ex)
theorem ZeI : ∀ a b q, Z2U a q → Z2U b q → a = b := by
 rintro a b q ⟨_, e1⟩ ⟨_, e2⟩
 have e := e1.symm.trans e2
 exact Z5S ZhV (congrArg (fun q : Res => pL (pA q.1)) e)
abbrev Z2T : Za → Res → Prop := fun r q => ∃ (ex : List Row), q = ((pA_ (Z1J r .sh .sh)), ex)
theorem Zc2 : ∀ a b q, Z2T a q → Z2T b q → a = b := by
 rintro a b q ⟨_, e1⟩ ⟨_, e2⟩
 have e := e1.symm.trans e2
 exact Zai (congrArg (fun q : Res => pC (pA q.1)) e)
abbrev Z2x : (List Zo) → Res → Prop := fun r q => ∃ (ex : List Row), q = ((Zm .sh (r.map Zl)), ex)
theorem ZaV : ∀ a b q, Z2x a q → Z2x b q → a = b := by
 rintro a b q ⟨_, e1⟩ ⟨_, e2⟩
 have e := e1.symm.trans e2
 exact Z5S Zal (congrArg (fun q : Res => pL (pA q.1)) e)
abbrev Z7H : Z2 → Res → Prop := fun r q => ∃ (ex : List Row), q = ((pA_ (ZP r .sh)), ex)
theorem Zi9 : ∀ a b q, Z7H a q → Z7H b q → a = b := by
 rintro a b q ⟨_, e1⟩ ⟨_, e2⟩
 have e := e1.symm.trans e2
 exact Zaj (congrArg (fun q : Res => pC (pA q.1)) e)
abbrev Z25 : (List Z2) → Res → Prop := fun r q => ∃ (ex : List Row), q = ((Zm .sh (r.map Zc)), ex)
theorem ZaF : ∀ a b q, Z25 a q → Z25 b q → a = b := by
 rintro a b q ⟨_, e1⟩ ⟨_, e2⟩
 have e := e1.symm.trans e2
 exact Z5S Zg1 (congrArg (fun q : Res => pL (pA q.1)) e)
abbrev Z1W : (Int × Bool) → Res → Prop := fun r q => ∃ (ex : List Row), q = ((.p (.tup [(.v (.int .i64 r.1)), (.v (.bool r.2))])), ex)
theorem ZcB : ∀ a b q, Z1W a q → Z1W b q → a = b := by
 rintro a b q ⟨_, e1⟩ ⟨_, e2⟩
 have e := e1.symm.trans e2
 exact Zc1 (congrArg (fun q : Res => pI ((pT (pA q.1)).getD 0 .junk)) e) (congrArg (fun q : Res => pB ((pT (pA q.1)).getD 1 .junk)) e)
abbrev Z1F : (List Zb) → Res → Prop := fun r q => ∃ (ex : List Row), q = ((Zm .sh (r.map ZO)), ex)
theorem ZaW : ∀ a b q, Z1F a q → Z1F b q → a = b := by
 rintro a b q ⟨_, e1⟩ ⟨_, e2⟩
 have e := e1.symm.trans e2
 exact Z5S Zfn (congrArg (fun q : Res => pL (pA q.1)) e)
abbrev Z8C : (List Z3) → Res → Prop := fun r q => ∃ (ex : List Row), q = ((Zm .ex (r.map Z7)), ex)
theorem ZiQ : ∀ a b q, Z8C a q → Z8C b q → a = b := by
 rintro a b q ⟨_, e1⟩ ⟨_, e2⟩
 have e := e1.symm.trans e2
 exact Z5S Z7w (congrArg (fun q : Res => pL (pA q.1)) e)
abbrev Z1t : (Bool × Int × Int × Int × Int × (List Z3)) → Res → Prop := fun r q => ∃ (p0_4 : Own) (ex : List Row), q = ((bv r.1), [(Z3k r.2.1 r.2.2.1 r.2.2.2.1 r.2.2.2.2.1 r.2.2.2.2.2 p0_4)] ++ ex)
theorem Zia : ∀ a b q, Z1t a q → Z1t b q → a = b := by
 rintro a b q ⟨_, _, e1⟩ ⟨_, _, e2⟩
 have e := e1.symm.trans e2
 exact Zc1 (congrArg (fun q : Res => pB (pA q.1)) e) (Zc1 (congrArg (fun q : Res => pI (pA (cellAt q 0 0))) e) (Zc1 (congrArg (fun q : Res => pI (pA (cellAt q 0 1))) e) (Zc1 (congrArg (fun q : Res => pI (pA (cellAt q 0 2))) e) (Zc1 (congrArg (fun q : Res => pI (pA (cellAt q 0 3))) e) (Z5S Z7w (congrArg (fun q : Res => pL (pA (cellAt q 0 4))) e))))))
abbrev Z29 : ((List Zb) × Int) → Res → Prop := fun r q => ∃ (ex : List Row), q = ((.p (.tup [(.lst .sh (r.1.map ZO)), (.v (.int .i64 r.2))])), ex)
theorem Zfi : ∀ a b q, Z29 a q → Z29 b q → a = b := by
 rintro a b q ⟨_, e1⟩ ⟨_, e2⟩
 have e := e1.symm.trans e2
 exact Zc1 (Z5S Zfn (congrArg (fun q : Res => pL ((pT (pA q.1)).getD 0 .junk)) e)) (congrArg (fun q : Res => pI ((pT (pA q.1)).getD 1 .junk)) e)
def Z2S (x0 : List Z0) : Option (Int × Int × Bool) := pick fun r => ∀ (ox0 : Own), RRun Z1Q (EE 12 [(Zm ox0 (x0.map Z6))] []) r
def ZcO x0 ox0 r (h : Z2S x0 = some r) := ZM h ox0
def Z7o (x0 : List Z0) : Option (List Z0) := pick fun r => ∀ (ox0 : Own), RRun Z3q (EE 28 [(Zm ox0 (x0.map Z6))] []) r
def Z8t x0 ox0 r (h : Z7o x0 = some r) := ZM h ox0
def Z8s (x3 x6 : List Z0) (x7 x8 : Int) : Option (List Z0) := pick fun r => ∀ (ox3 ox6 : Own) (hox3 : Z1e ox3 = true), RRun Z3q (Zll 0 (Zm ox3 (x3.map Z6)) (Zm ox6 (x6.map Z6)) (iv x7) (iv x8) []) r
def ZeA x3 x6 x7 x8 ox3 ox6 hox3 r (h : Z8s x3 x6 x7 x8 = some r) := ZM h ox3 ox6 hox3
def Z1K (x0 : Z0) : Option Bool := pick fun r => ∀ (zn : Own), RRun Zd (EE 23 [(pA_ (Zi x0 zn))] []) r
def Z4J x0 zn r (h : Z1K x0 = some r) := ZM h zn
def Z3D (x0 : List Z3) : Option Bool := pick fun r => ∀ (ox0 : Own), RRun Zd (EE 42 [(Zm ox0 (x0.map Z7)), (.clo 43 [] [])] []) r
def ZbS x0 ox0 r (h : Z3D x0 = some r) := ZM h ox0
def Z4D (x0 : List Z3) : Option Int := pick fun r => ∀ (ox0 : Own), RRun Zk (EE 59 [(Zm ox0 (x0.map Z7)), (.clo 43 [] [])] []) r
def Zdk x0 ox0 r (h : Z4D x0 = some r) := ZM h ox0
def Z2L (x0 : List Z3) (x7 x8 : Int) : Option Int := pick fun r => ∀ (ox0 : Own), RRun Zk (ZlG 0 (Zm ox0 (x0.map Z7)) (.clo 43 [] []) (iv x7) (iv x8) []) r
def Z7G x0 x7 x8 ox0 r (h : Z2L x0 x7 x8 = some r) := ZM h ox0
def Z6S (x0 : Z3) : Option Bool := pick fun r => ∀ (zj zh : Own), RRun Zd (EE 43 [(pA_ (Z1f x0 zj zh))] []) r
def ZgH x0 zj zh r (h : Z6S x0 = some r) := ZM h zj zh
def Z9h (x0 : Z3) : Option Bool := pick fun r => ∀ (zj zh : Own), RRun Zd (EE 44 [(pA_ (Z1f x0 zj zh))] []) r
def Zje x0 zj zh r (h : Z9h x0 = some r) := ZM h zj zh
def Z3t (x0 x1 : Int) : Option Bool := pick fun r => RRun Zd (EE 60 [(iv x0), (iv x1)] []) r
def Z4h x0 x1 r (h : Z3t x0 x1 = some r) := ZM h
def Z3Y (x0 : List Z9) : Option Bool := pick fun r => ∀ (ox0 : Own), RRun Zd (EE 61 [(Zm ox0 (x0.map Z8)), (.clo 62 [] [])] []) r
def Zci x0 ox0 r (h : Z3Y x0 = some r) := ZM h ox0
def Z4T (x0 : List Z9) : Option Int := pick fun r => ∀ (ox0 : Own), RRun Zk (EE 80 [(Zm ox0 (x0.map Z8)), (.clo 62 [] [])] []) r
def Ze2 x0 ox0 r (h : Z4T x0 = some r) := ZM h ox0
def Z2Y (x0 : List Z9) (x7 x8 : Int) : Option Int := pick fun r => ∀ (ox0 : Own), RRun Zk (ZlQ 0 (Zm ox0 (x0.map Z8)) (.clo 62 [] []) (iv x7) (iv x8) []) r
def Z89 x0 x7 x8 ox0 r (h : Z2Y x0 x7 x8 = some r) := ZM h ox0
def Z81 (x0 : Z9) : Option Bool := pick fun r => RRun Zd (EE 62 [(pA_ (Z11 x0))] []) r
def ZhM x0 r (h : Z81 x0 = some r) := ZM h
def Z9J (x0 : Z9) : Option Bool := pick fun r => RRun Zd (EE 63 [(pA_ (Z11 x0))] []) r
def Zkc x0 r (h : Z9J x0 = some r) := ZM h
def Z4b (x0 : List Int) : Option Bool := pick fun r => ∀ (ox0 : Own), RRun Zd (EE 64 [(Zm ox0 (x0.map (eI .i64))), (.clo 65 [] [])] []) r
def ZcQ x0 ox0 r (h : Z4b x0 = some r) := ZM h ox0
def Z5g (x0 : List Int) : Option Int := pick fun r => ∀ (ox0 : Own), RRun Zk (EE 81 [(Zm ox0 (x0.map (eI .i64))), (.clo 65 [] [])] []) r
def Zeu x0 ox0 r (h : Z5g x0 = some r) := ZM h ox0
def Z35 (x0 : List Int) (x7 x8 : Int) : Option Int := pick fun r => ∀ (ox0 : Own), RRun Zk (ZlR 0 (Zm ox0 (x0.map (eI .i64))) (.clo 65 [] []) (iv x7) (iv x8) []) r
def Z8x x0 x7 x8 ox0 r (h : Z35 x0 x7 x8 = some r) := ZM h ox0
def Z82 (x0 : Int) : Option Bool := pick fun r => RRun Zd (EE 65 [(iv x0)] []) r
def ZhO x0 r (h : Z82 x0 = some r) := ZM h
def Z8q (x0 : List Z0) (x2 x3 : Int) (x11 : List Z0) (x12 x13 : Int) : Option (Int × Int × Bool) := pick fun r => ∀ (ox0 ox11 : Own), RRun Z1Q (Zl0 0 (Zm ox0 (x0.map Z6)) (iv x2) (iv x3) (Zm ox11 (x11.map Z6)) (iv x12) (iv x13) []) r
def Zew x0 x2 x3 x11 x12 x13 ox0 ox11 r (h : Z8q x0 x2 x3 x11 x12 x13 = some r) := ZM h ox0 ox11
def Z8r (x0 : List Z0) (x2 x3 x5 : Int) (x11 : List Z0) (x12 x13 : Int) (x20 : List Z0) (x21 x22 : Int) (b0 : Z0) : Option (Int × Int × Bool) := pick fun r => ∀ (ox0 ox11 ox20 z5 : Own), RRun Z1Q (Zl1 0 (Zm ox0 (x0.map Z6)) (iv x2) (iv x3) (iv x5) (.ptr 0 0) (Zm ox11 (x11.map Z6)) (iv x12) (iv x13) (Zm ox20 (x20.map Z6)) (iv x21) (iv x22) [(Z1 b0 z5)]) r
def Zey x0 x2 x3 x5 x11 x12 x13 x20 x21 x22 b0 ox0 ox11 ox20 z5 r (h : Z8r x0 x2 x3 x5 x11 x12 x13 x20 x21 x22 b0 = some r) := ZM h ox0 ox11 ox20 z5
def Z74 (x0 : Z0) : Option (List Z3) := pick fun r => ∀ (zn : Own), RRun Z52 (EE 30 [(pA_ (Zi x0 zn))] []) r
def Z9g x0 zn r (h : Z74 x0 = some r) := ZM h zn
def Z9Q (x0 x1 : List Z3) : Option Bool := pick fun r => ∀ (ox0 ox1 : Own), RRun Zd (EE 29 [(Zm ox0 (x0.map Z7)), (Zm ox1 (x1.map Z7))] []) r
def Zgt x0 x1 ox0 ox1 r (h : Z9Q x0 x1 = some r) := ZM h ox0 ox1
def Z88 (x0 x1 : List Z3) : Option Bool := pick fun r => ∀ (ox0 ox1 : Own), RRun Zd (EE 34 [(Zm ox0 (x0.map Z7)), (Zm ox1 (x1.map Z7))] []) r
def ZeW x0 x1 ox0 ox1 r (h : Z88 x0 x1 = some r) := ZM h ox0 ox1
def Z4C (x0 x1 : List Z3) : Option Bool := pick fun r => ∀ (ox0 ox1 : Own), RRun Zd (EE 51 [(Zm ox0 (x0.map Z7)), (Zm ox1 (x1.map Z7)), (.clo 52 [] [])] []) r
def Zdi x0 x1 ox0 ox1 r (h : Z4C x0 x1 = some r) := ZM h ox0 ox1
def Z2K (x1 x15 : List Z3) (x16 x17 : Int) : Option Bool := pick fun r => ∀ (ox1 ox15 : Own), RRun Zd (ZlA 0 (Zm ox1 (x1.map Z7)) (.clo 52 [] []) (Zm ox15 (x15.map Z7)) (iv x16) (iv x17) []) r
def Z7F x1 x15 x16 x17 ox1 ox15 r (h : Z2K x1 x15 x16 x17 = some r) := ZM h ox1 ox15
def Zfc (x0 x1 : Z3) : Option Bool := pick fun r => ∀ (zj zh z16 z13 : Own), RRun Zd (EE 52 [(pA_ (Z1f x0 zj zh)), (pA_ (Z1f x1 z16 z13))] []) r
def Zqy x0 x1 zj zh z16 z13 r (h : Zfc x0 x1 = some r) := ZM h zj zh z16 z13
def Z8O (x0 x1 : List Z9) : Option Bool := pick fun r => ∀ (ox0 ox1 : Own), RRun Zd (EE 69 [(Zm ox0 (x0.map Z8)), (Zm ox1 (x1.map Z8))] []) r
def ZiG x0 x1 ox0 ox1 r (h : Z8O x0 x1 = some r) := ZM h ox0 ox1
def Z57 (x0 x1 : List Z9) (x12 x13 : Int) : Option Bool := pick fun r => ∀ (ox0 ox1 : Own), RRun Zd (ZlL 0 (Zm ox0 (x0.map Z8)) (Zm ox1 (x1.map Z8)) (iv x12) (iv x13) []) r
def ZaT x0 x1 x12 x13 ox0 ox1 r (h : Z57 x0 x1 x12 x13 = some r) := ZM h ox0 ox1
def Z9k (x0 x1 : List Int) : Option Bool := pick fun r => ∀ (ox0 ox1 : Own), RRun Zd (EE 70 [(Zm ox0 (x0.map (eI .i64))), (Zm ox1 (x1.map (eI .i64)))] []) r
def Zjt x0 x1 ox0 ox1 r (h : Z9k x0 x1 = some r) := ZM h ox0 ox1
def Z5o (x0 x1 : List Int) (x12 x13 : Int) : Option Bool := pick fun r => ∀ (ox0 ox1 : Own), RRun Zd (ZlN 0 (Zm ox0 (x0.map (eI .i64))) (Zm ox1 (x1.map (eI .i64))) (iv x12) (iv x13) []) r
def Zb8 x0 x1 x12 x13 ox0 ox1 r (h : Z5o x0 x1 x12 x13 = some r) := ZM h ox0 ox1
def Z2b (x0 : List Z0) : Option Int := pick fun r => ∀ (ox0 : Own), RRun Zk (EE 17 [(Zm ox0 (x0.map Z6))] []) r
def Z9I x0 ox0 r (h : Z2b x0 = some r) := ZM h ox0
def Z7y (x0 : List Z0) (x3 : Int) (x12 : List Z0) (x13 x14 : Int) : Option Int := pick fun r => ∀ (ox0 ox12 : Own), RRun Zk (Zl8 0 (Zm ox0 (x0.map Z6)) (iv x3) (Zm ox12 (x12.map Z6)) (iv x13) (iv x14) []) r
def ZdK x0 x3 x12 x13 x14 ox0 ox12 r (h : Z7y x0 x3 x12 x13 x14 = some r) := ZM h ox0 ox12
def Z7z (x0 : List Z0) (x3 x6 : Int) (x12 : List Z0) (x13 x14 : Int) (b0 : Z0) : Option Int := pick fun r => ∀ (ox0 ox12 z5 : Own), RRun Zk (Zl9 0 (Zm ox0 (x0.map Z6)) (iv x3) (.ptr 0 0) (iv x6) (Zm ox12 (x12.map Z6)) (iv x13) (iv x14) [(Z1 b0 z5)]) r
def ZdM x0 x3 x6 x12 x13 x14 b0 ox0 ox12 z5 r (h : Z7z x0 x3 x6 x12 x13 x14 b0 = some r) := ZM h ox0 ox12 z5
def Z5n (x0 : List Z0) (x3 x6 x7 : Int) (x12 : List Z0) (x13 x14 : Int) (x26 : List Z0) (x27 x28 : Int) (b0 : Z0) : Option Int := pick fun r => ∀ (ox0 ox12 ox26 z5 : Own), RRun Zk (ZiU 0 (Zm ox0 (x0.map Z6)) (iv x3) (.ptr 0 0) (iv x6) (iv x7) (Zm ox12 (x12.map Z6)) (iv x13) (iv x14) (Zm ox26 (x26.map Z6)) (iv x27) (iv x28) [(Z1 b0 z5)]) r
def Zd3 x0 x3 x6 x7 x12 x13 x14 x26 x27 x28 b0 ox0 ox12 ox26 z5 r (h : Z5n x0 x3 x6 x7 x12 x13 x14 x26 x27 x28 b0 = some r) := ZM h ox0 ox12 ox26 z5
def Z1P (x0 x1 : Z0) : Option Bool := pick fun r => ∀ (zn zN : Own), RRun Zd (EE 24 [(pA_ (Zi x0 zn)), (pA_ (Zi x1 zN))] []) r
def Z5O x0 x1 zn zN r (h : Z1P x0 x1 = some r) := ZM h zn zN
def Z56 (x0 : Z0) : Option (List ZJ) := pick fun r => ∀ (zn : Own), RRun Z2U (EE 19 [(pA_ (Zi x0 zn))] []) r
def ZhY x0 zn r (h : Z56 x0 = some r) := ZM h zn
def Zcy : Option ((List (Int × Z1d)) × (List ZJ) × Int) := pick fun r => RRun Zcq (EE 36 [] []) r
def Zny r (h : Zcy = some r) := ZM h
def Ze0 : Option ZJ := pick fun r => RRun Zdn (EE 54 [] []) r
def Zpp r (h : Ze0 = some r) := ZM h
def Z9f (x16 : List Z3) (x17 x18 : Int) (z1g : List (Int × Z1d)) (z20 : List ZJ) (z2H : Int) : Option (List ZJ) := pick fun r => ∀ (b0 : Z0) (ox16 z5 z28 : Own) (z4k : Z1e z28 = true), RRun Z2U (Zle 0 (.ptr 2 0) (Zm ox16 (x16.map Z7)) (iv x17) (iv x18) [(Z1 b0 z5), (rM_ ZV z1g), [(Zm z28 (z20.map ZT)), (.mp 1), (iv z2H)]]) r
def Zfx x16 x17 x18 b0 z1g z20 z2H ox16 z5 z28 z4k r (h : Z9f x16 x17 x18 z1g z20 z2H = some r) := ZM h b0 ox16 z5 z28 z4k
def ZaN (x1 : Z3) (z1A : List ZJ) (z2a : Int) (z1g : List (Int × Z1d)) : Option (Z6p × Int) := pick fun r => ∀ (z16 z13 z1s : Own) (z5R : Z1e z1s = true), RRun (Zgw z1A z2a z1g z1s) (EE 37 [(.ptr 0 0), (pA_ (Z1f x1 z16 z13))] [[(Zm z1s (z1A.map ZT)), (.mp 1), (iv z2a)], (rM_ ZV z1g)]) r
def ZeS x1 z1A z2a z1g z16 z13 z1s z5R r (h : ZaN x1 z1A z2a z1g = some r) := ZM h z16 z13 z1s z5R
def Z4a (z1A : List ZJ) : Option Int := pick fun r => ∀ (z2a : Int) (z1g : List (Int × Z1d)) (z1s : Own) (z5R : Z1e z1s = true), RRun (Z40 z1A z2a z1g z1s) (EE 38 [(.ptr 0 0)] [[(Zm z1s (z1A.map ZT)), (.mp 1), (iv z2a)], (rM_ ZV z1g)]) r
def ZcN z1A z2a z1g z1s z5R r (h : Z4a z1A = some r) := ZM h z2a z1g z1s z5R
def Z7i (x6 : List ZJ) (x28 x29 : Int) (z20 : List ZJ) : Option (List ZJ) := pick fun r => ∀ (b0 : Z0) (z1g : List (Int × Z1d)) (z2H : Int) (ox6 z5 z28 : Own) (hox6 : Z1e ox6 = true) (z4k : Z1e z28 = true), RRun Z2U (Zlf 0 (.ptr 2 0) (Zm ox6 (x6.map ZT)) (iv x28) (iv x29) [(Z1 b0 z5), (rM_ ZV z1g), [(Zm z28 (z20.map ZT)), (.mp 1), (iv z2H)]]) r
def Zfz x6 x28 x29 b0 z1g z20 z2H ox6 z5 z28 hox6 z4k r (h : Z7i x6 x28 x29 z20 = some r) := ZM h b0 z1g z2H ox6 z5 z28 hox6 z4k
def Z5B (x1 : Int) (z1A : List ZJ) : Option (ZJ × Bool) := pick fun r => ∀ (z2a : Int) (z1g : List (Int × Z1d)) (z1s : Own) (z5R : Z1e z1s = true), RRun (Z32 z1A z2a z1g z1s) (EE 39 [(.ptr 0 0), (iv x1)] [[(Zm z1s (z1A.map ZT)), (.mp 1), (iv z2a)], (rM_ ZV z1g)]) r
def ZeU x1 z1A z2a z1g z1s z5R r (h : Z5B x1 z1A = some r) := ZM h z2a z1g z1s z5R
def ZaB (x0 : List Z9) : Option (List Z9) := pick fun r => ∀ (ox0 : Own), RRun Zaz (EE 56 [(Zm ox0 (x0.map Z8))] []) r
def ZiE x0 ox0 r (h : ZaB x0 = some r) := ZM h ox0
def Z1u (x0 : List Z0) : Option Bool := pick fun r => ∀ (ox0 : Own), RRun Zd (EE 11 [(Zm ox0 (x0.map Z6))] []) r
def Z3c x0 ox0 r (h : Z1u x0 = some r) := ZM h ox0
def Z4g (x0 x5 : List Z0) (x6 x7 : Int) : Option Bool := pick fun r => ∀ (ox0 ox5 : Own), RRun Zd (ZkY 0 (Zm ox0 (x0.map Z6)) (Zm ox5 (x5.map Z6)) (iv x6) (iv x7) []) r
def Z9V x0 x5 x6 x7 ox0 ox5 r (h : Z4g x0 x5 x6 x7 = some r) := ZM h ox0 ox5
def Z5A (x0 : Z0) : Option Bool := pick fun r => ∀ (zn : Own), RRun Zd (EE 27 [(pA_ (Zi x0 zn))] []) r
def ZeR x0 zn r (h : Z5A x0 = some r) := ZM h zn
def Z6i (x0 : List Z3) : Option Bool := pick fun r => ∀ (ox0 : Own), RRun Zd (EE 48 [(Zm ox0 (x0.map Z7))] []) r
def Zg6 x0 ox0 r (h : Z6i x0 = some r) := ZM h ox0
def Z2R (x0 x7 : List Z3) (x8 x9 : Int) : Option Bool := pick fun r => ∀ (ox0 ox7 : Own), RRun Zd (Zlv 0 (Zm ox0 (x0.map Z7)) (Zm ox7 (x7.map Z7)) (iv x8) (iv x9) []) r
def Z9y x0 x7 x8 x9 ox0 ox7 r (h : Z2R x0 x7 x8 x9 = some r) := ZM h ox0 ox7
def Z3s (x0 x7 : List Z3) (x8 x9 : Int) (x27 : List Z9) (x28 x29 : Int) : Option Bool := pick fun r => ∀ (ox0 ox7 ox27 : Own), RRun Zd (Zlw 0 (Zm ox0 (x0.map Z7)) (Zm ox7 (x7.map Z7)) (iv x8) (iv x9) (Zm ox27 (x27.map Z8)) (iv x28) (iv x29) []) r
def Z9z x0 x7 x8 x9 x27 x28 x29 ox0 ox7 ox27 r (h : Z3s x0 x7 x8 x9 x27 x28 x29 = some r) := ZM h ox0 ox7 ox27
def Z1B (x0 : List Z0) : Option (List Z2) := pick fun r => ∀ (ox0 : Own), RRun Z25 (EE 14 [(Zm ox0 (x0.map Z6))] []) r
def Z5z x0 ox0 r (h : Z1B x0 = some r) := ZM h ox0
def Z3W (x3 : List Z2) (x6 : List Z0) (x7 x8 : Int) : Option (List Z2) := pick fun r => ∀ (ox3 ox6 : Own) (hox3 : Z1e ox3 = true), RRun Z25 (Zl4 0 (Zm ox3 (x3.map Zc)) (Zm ox6 (x6.map Z6)) (iv x7) (iv x8) []) r
def Z9N x3 x6 x7 x8 ox3 ox6 hox3 r (h : Z3W x3 x6 x7 x8 = some r) := ZM h ox3 ox6 hox3
def Z7Z (x0 : Z0) : Option Z2 := pick fun r => ∀ (zn : Own), RRun Z7H (EE 31 [(pA_ (Zi x0 zn))] []) r
def ZhC x0 zn r (h : Z7Z x0 = some r) := ZM h zn
def Z6R (x0 : List Z3) : Option (List Zo) := pick fun r => ∀ (ox0 : Own), RRun Z2x (EE 49 [(Zm ox0 (x0.map Z7))] []) r
def ZgF x0 ox0 r (h : Z6R x0 = some r) := ZM h ox0
def Z3X (x3 : List Zo) (x6 : List Z3) (x7 x8 : Int) : Option (List Zo) := pick fun r => ∀ (ox3 ox6 : Own) (hox3 : Z1e ox3 = true), RRun Z2x (Zlx 0 (Zm ox3 (x3.map Zl)) (Zm ox6 (x6.map Z7)) (iv x7) (iv x8) []) r
def Z9P x3 x6 x7 x8 ox3 ox6 hox3 r (h : Z3X x3 x6 x7 x8 = some r) := ZM h ox3 ox6 hox3
def Z7Y (x0 : Z1U) : Option Za := pick fun r => ∀ (z2u z23 : Own), RRun Z2T (EE 67 [(pA_ (Z8U x0 z2u z23))] []) r
def ZhA x0 z2u z23 r (h : Z7Y x0 = some r) := ZM h z2u z23
def Z4I (x18 : List Z9) (x19 x20 z1m z1w z1T z1E : Int) (z2h : List Z9) (z1S : List Int) : Option Za := pick fun r => ∀ (b0 : Z1U) (b1 : Za) (ox18 z19 z18 zL zG z2B z2G : Own) (z9t : Z1e zL = true) (z8a : Z1e zG = true) (z9u : Z1e z2B = true), RRun Z2T (ZlH 0 (.ptr 1 0) (.ptr 2 0) (Zm ox18 (x18.map Z8)) (iv x19) (iv x20) [(ZH b0 z19 z18), (Zz b1 zL zG), (ZeY z1m z1w z1T z1E z2h z1S z2B z2G)]) r
def Zao x18 x19 x20 b0 b1 z1m z1w z1T z1E z2h z1S ox18 z19 z18 zL zG z2B z2G z9t z8a z9u r (h : Z4I x18 x19 x20 z1m z1w z1T z1E z2h z1S = some r) := ZM h b0 b1 ox18 z19 z18 zL zG z2B z2G z9t z8a z9u
def Zcz (x0 : List Z2) : Option (List Z2) := pick fun r => ∀ (ox0 : Own), RRun Z25 (EE 32 [(Zm ox0 (x0.map Zc))] []) r
def ZnJ x0 ox0 r (h : Zcz x0 = some r) := ZM h ox0
def Z8w (x0 x3 : List Z2) (x4 : Int) : Option (List Z2) := pick fun r => ∀ (ox0 ox3 : Own) (hox3 : Z1e ox3 = true), RRun Z25 (Zlo 0 (Zm ox0 (x0.map Zc)) (Zm ox3 (x3.map Zc)) (iv x4) []) r
def ZeG x0 x3 x4 ox0 ox3 hox3 r (h : Z8w x0 x3 x4 = some r) := ZM h ox0 ox3 hox3
def Z8M (x0 : Z2) : Option Bool := pick fun r => ∀ (zn : Own), RRun Zd (EE 50 [(pA_ (ZP x0 zn))] []) r
def Zit x0 zn r (h : Z8M x0 = some r) := ZM h zn
def Z3G (x3 : Int) (b0 : Z2) : Option Bool := pick fun r => ∀ (z5 : Own), RRun Zd (Zly 0 (.ptr 0 0) (iv x3) [(ZK b0 z5)]) r
def ZaR x3 b0 z5 r (h : Z3G x3 b0 = some r) := ZM h z5
def Z8K (x0 : Zo) : Option Bool := pick fun r => ∀ (zj zh : Own), RRun Zd (EE 68 [(pA_ (Z1C x0 zj zh))] []) r
def Zir x0 zj zh r (h : Z8K x0 = some r) := ZM h zj zh
def Z3e (x0 x1 x2 : Int) : Option Bool := pick fun r => RRun Zd (EE 82 [(iv x0), (iv x1), (iv x2)] []) r
def Z3K x0 x1 x2 r (h : Z3e x0 x1 x2 = some r) := ZM h
def Z31 (x4 : Int) (b1 : Za) : Option Bool := pick fun r => ∀ (b0 : Zo) (zS zQ zL zG : Own), RRun Zd (ZlI 0 (.ptr 1 0) (iv x4) [(Z15 b0 zS zQ), (Zz b1 zL zG)]) r
def ZaP x4 b0 b1 zS zQ zL zG r (h : Z31 x4 b1 = some r) := ZM h b0 zS zQ zL zG
def Z9i (x0 : Z9) : Option Bool := pick fun r => RRun Zd (EE 75 [(pA_ (Z11 x0))] []) r
def Zjg x0 r (h : Z9i x0 = some r) := ZM h
def Z4K (x5 : Int) (b1 : Za) : Option Bool := pick fun r => ∀ (b0 : Zo) (zS zQ zL zG : Own), RRun Zd (Zj5 0 (.ptr 1 0) (iv x5) [(Z15 b0 zS zQ), (Zz b1 zL zG)]) r
def Zaq x5 b0 b1 zS zQ zL zG r (h : Z4K x5 b1 = some r) := ZM h b0 zS zQ zL zG
def Zgi (x0 : List Z2) : Option (Int × Int × Bool) := pick fun r => ∀ (ox0 : Own), RRun Z1Q (EE 13 [(Zm ox0 (x0.map Zc))] []) r
def ZnG x0 ox0 r (h : Zgi x0 = some r) := ZM h ox0
def Z3v (x0 x1 : Z2) : Option Bool := pick fun r => ∀ (zn zN : Own), RRun Zd (EE 25 [(pA_ (ZP x0 zn)), (pA_ (ZP x1 zN))] []) r
def Zho x0 x1 zn zN r (h : Z3v x0 x1 = some r) := ZM h zn zN
def Z6u (x5 : Int) (b0 b1 : Z2) : Option Bool := pick fun r => ∀ (z5 zC : Own), RRun Zd (Zlh 0 (.ptr 0 0) (.ptr 1 0) (iv x5) [(ZK b0 z5), (ZK b1 zC)]) r
def ZeE x5 b0 b1 z5 zC r (h : Z6u x5 b0 b1 = some r) := ZM h z5 zC
def Z8v (x0 x1 : List Zo) : Option Bool := pick fun r => ∀ (ox0 ox1 : Own), RRun Zd (EE 35 [(Zm ox0 (x0.map Zl)), (Zm ox1 (x1.map Zl))] []) r
def ZhZ x0 x1 ox0 ox1 r (h : Z8v x0 x1 = some r) := ZM h ox0 ox1
def Z9j (x0 x1 : List Zo) (x5 : Int) : Option Bool := pick fun r => ∀ (ox0 ox1 : Own), RRun Zd (Zlq 0 (Zm ox0 (x0.map Zl)) (Zm ox1 (x1.map Zl)) (iv x5) []) r
def ZfK x0 x1 x5 ox0 ox1 r (h : Z9j x0 x1 x5 = some r) := ZM h ox0 ox1
def Z7A (x0 x1 : Za) : Option Bool := pick fun r => ∀ (z2u z23 z9R z8A : Own), RRun Zd (EE 53 [(pA_ (Z1J x0 z2u z23)), (pA_ (Z1J x1 z9R z8A))] []) r
def Zk4 x0 x1 z2u z23 z9R z8A r (h : Z7A x0 x1 = some r) := ZM h z2u z23 z9R z8A
def Z4B (x5 : Int) (b0 b1 : Za) : Option Bool := pick fun r => ∀ (z19 z18 zL zG : Own), RRun Zd (ZlC 0 (.ptr 0 0) (.ptr 1 0) (iv x5) [(Zz b0 z19 z18), (Zz b1 zL zG)]) r
def ZbJ x5 b0 b1 z19 z18 zL zG r (h : Z4B x5 b0 b1 = some r) := ZM h z19 z18 zL zG
def Z5Q (x6 : Int) (b0 b1 : Za) : Option Bool := pick fun r => ∀ (z19 z18 zL zG : Own), RRun Zd (ZlD 0 (.ptr 0 0) (.ptr 1 0) (iv x6) [(Zz b0 z19 z18), (Zz b1 zL zG)]) r
def ZbL x6 b0 b1 z19 z18 zL zG r (h : Z5Q x6 b0 b1 = some r) := ZM h z19 z18 zL zG
def Z3g (x0 : List Z2) (x1 : List Bool) : Option (Int × Bool) := pick fun r => ∀ (ox0 ox1 : Own), RRun Z1W (EE 16 [(Zm ox0 (x0.map Zc)), (Zm ox1 (x1.map eB))] []) r
def Zgv x0 x1 ox0 ox1 r (h : Z3g x0 x1 = some r) := ZM h ox0 ox1
def Z7C (x0 : List Z2) (x1 : List Bool) (x6 : Int) (x7 : Bool) (x8 : Int) : Option (Int × Bool) := pick fun r => ∀ (ox0 ox1 : Own), RRun Z1W (Zl5 0 (Zm ox0 (x0.map Zc)) (Zm ox1 (x1.map eB)) (iv x6) (bv x7) (iv x8) []) r
def ZdW x0 x1 x6 x7 x8 ox0 ox1 r (h : Z7C x0 x1 x6 x7 x8 = some r) := ZM h ox0 ox1
def Z7D (x0 : List Z2) (x1 : List Bool) (x6 : Int) (x7 : Bool) (x8 x9 x10 x11 : Int) : Option (Int × Bool) := pick fun r => ∀ (ox0 ox1 : Own), RRun Z1W (Zl6 0 (Zm ox0 (x0.map Zc)) (Zm ox1 (x1.map eB)) (iv x6) (bv x7) (iv x8) (iv x9) (iv x10) (iv x11) []) r
def ZdY x0 x1 x6 x7 x8 x9 x10 x11 ox0 ox1 r (h : Z7D x0 x1 x6 x7 x8 x9 x10 x11 = some r) := ZM h ox0 ox1
def ZdZ (x0 : List Z2) (x1 : List Bool) (x2 x3 : Int) : Option Bool := pick fun r => ∀ (ox0 ox1 : Own), RRun Zd (EE 33 [(Zm ox0 (x0.map Zc)), (Zm ox1 (x1.map eB)), (iv x2), (iv x3)] []) r
def ZkC x0 x1 x2 x3 ox0 ox1 r (h : ZdZ x0 x1 x2 x3 = some r) := ZM h ox0 ox1
def Z3f (x0 : List Z2) : Option Int := pick fun r => ∀ (ox0 : Own), RRun Zk (EE 18 [(Zm ox0 (x0.map Zc))] []) r
def Zgu x0 ox0 r (h : Z3f x0 = some r) := ZM h ox0
def Z7B (x0 : List Z2) (x3 x4 : Int) : Option Int := pick fun r => ∀ (ox0 : Own), RRun Zk (Zlc 0 (Zm ox0 (x0.map Zc)) (iv x3) (iv x4) []) r
def ZdR x0 x3 x4 ox0 r (h : Z7B x0 x3 x4 = some r) := ZM h ox0
def Z62 (x0 : List Z2) (x3 x4 x5 : Int) : Option Int := pick fun r => ∀ (ox0 : Own), RRun Zk (Zld 0 (Zm ox0 (x0.map Zc)) (iv x3) (iv x4) (iv x5) []) r
def ZdT x0 x3 x4 x5 ox0 r (h : Z62 x0 x3 x4 x5 = some r) := ZM h ox0
def Z4i (x0 : List Z2) (x3 x4 x5 x6 x7 : Int) : Option Int := pick fun r => ∀ (ox0 : Own), RRun Zk (ZiW 0 (Zm ox0 (x0.map Zc)) (iv x3) (iv x4) (iv x5) (iv x6) (iv x7) []) r
def Zd7 x0 x3 x4 x5 x6 x7 ox0 r (h : Z4i x0 x3 x4 x5 x6 x7 = some r) := ZM h ox0
def Z2F (x0 x1 : Z0) : Option ((List Zb) × Int) := pick fun r => ∀ (zn zN : Own), RRun Z29 (EE 26 [(pA_ (Zi x0 zn)), (pA_ (Zi x1 zN))] []) r
def ZeB x0 x1 zn zN r (h : Z2F x0 x1 = some r) := ZM h zn zN
def Z8u (x0 x1 : Z0) : Option (List Zb) := pick fun r => ∀ (zn zN : Own), RRun Z1F (EE 45 [(pA_ (Zi x0 zn)), (pA_ (Zi x1 zN))] []) r
def ZkO x0 x1 zn zN r (h : Z8u x0 x1 = some r) := ZM h zn zN
def Z50 (x5 : List Zb) (x6 : Int) (b0 b1 : Z0) : Option (List Zb) := pick fun r => ∀ (ox5 z5 zC : Own) (hox5 : Z1e ox5 = true), RRun Z1F (Zls 0 (.ptr 0 0) (.ptr 1 0) (Zm ox5 (x5.map ZO)) (iv x6) [(Z1 b0 z5), (Z1 b1 zC)]) r
def Zce x5 x6 b0 b1 ox5 z5 zC hox5 r (h : Z50 x5 x6 b0 b1 = some r) := ZM h ox5 z5 zC hox5
def Z7j (x0 : List Z3) : Option (List Z3) := pick fun r => ∀ (ox0 : Own), RRun Z52 (EE 46 [(Zm ox0 (x0.map Z7))] []) r
def Zb2 x0 ox0 r (h : Z7j x0 = some r) := ZM h ox0
def Z76 (x3 x6 : List Z3) (x7 x8 : Int) : Option (List Z3) := pick fun r => ∀ (ox3 ox6 : Own) (hox3 : Z1e ox3 = true), RRun Z52 (Zlt 0 (Zm ox3 (x3.map Z7)) (Zm ox6 (x6.map Z7)) (iv x7) (iv x8) []) r
def Zd6 x3 x6 x7 x8 ox3 ox6 hox3 r (h : Z76 x3 x6 x7 x8 = some r) := ZM h ox3 ox6 hox3
def Z5P (x5 : List Zb) (x62 : List Z3) (x63 x64 : Int) (b0 b1 : Z0) : Option (List Zb) := pick fun r => ∀ (ox5 ox62 z5 zC : Own) (hox5 : Z1e ox5 = true), RRun Z1F (Zj0 0 (.ptr 0 0) (.ptr 1 0) (Zm ox5 (x5.map ZO)) (Zm ox62 (x62.map Z7)) (iv x63) (iv x64) [(Z1 b0 z5), (Z1 b1 zC)]) r
def ZbE x5 x62 x63 x64 b0 b1 ox5 ox62 z5 zC hox5 r (h : Z5P x5 x62 x63 x64 b0 b1 = some r) := ZM h ox5 ox62 z5 zC hox5
def Z6l (x6 x24 : List Zb) (x25 x26 zD zy zu zB : Int) (zF : List Z3) : Option ((List Zb) × Int) := pick fun r => ∀ (ox6 ox24 z5 : Own), RRun Z29 (Zlj 0 (.ptr 0 0) (Zm ox6 (x6.map ZO)) (Zm ox24 (x24.map ZO)) (iv x25) (iv x26) [(Z3k zD zy zu zB zF z5)]) r
def Zcd x6 x24 x25 x26 zD zy zu zB zF ox6 ox24 z5 r (h : Z6l x6 x24 x25 x26 zD zy zu zB zF = some r) := ZM h ox6 ox24 z5
def Z80 (x1 : Zb) (zD zy zu zB : Int) (zF : List Z3) : Option (Bool × Int × Int × Int × Int × (List Z3)) := pick fun r => ∀ (zN z5 : Own), RRun Z1t (EE 47 [(.ptr 0 0), (pA_ (Z3i x1 zN))] [(Z3k zD zy zu zB zF z5)]) r
def ZhI x1 zD zy zu zB zF zN z5 r (h : Z80 x1 zD zy zu zB zF = some r) := ZM h zN z5
def Z8N (x0 : List Z3) : Option (List Z3) := pick fun r => ∀ (ox0 : Own), RRun Z8C (EE 66 [(Zm ox0 (x0.map Z7))] []) r
def ZiD x0 ox0 r (h : Z8N x0 = some r) := ZM h ox0
end Go.Proofs.YtiigbcahdaoedaaGreatDoor.N2
end
