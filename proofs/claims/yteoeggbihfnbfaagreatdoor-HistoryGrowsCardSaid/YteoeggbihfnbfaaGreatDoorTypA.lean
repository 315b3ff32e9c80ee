/- The functions, read typed: their types, and what they stand for. No condition. -/
import Derived.Test.YteoeggbihfnbfaaGreatDoorSim
import Derived.Test.YteoeggbihfnbfaaGreatDoorEqs

set_option linter.unusedSimpArgs false
set_option linter.unusedVariables false
set_option linter.defProp false
noncomputable section
namespace Go.Proofs.YteoeggbihfnbfaaGreatDoor.N2
open Go Go.Abs
set_option maxRecDepth 100000
theorem gj_ (n : Nat) {l k : List PV} (h : l = k) : l.getD n .junk = k.getD n .junk := congrArg (fun l => l.getD n .junk) h
structure ZA where
 ID : Int
 Priority : Int
 Action : Int
 Scope : Int
 Pattern : ByteArray
 deriving Inhabited
def Z52 (a : ZA) : List PV := [(eI .i64) a.ID, (eI .i64) a.Priority, (eI .i64) a.Action, (eI .i64) a.Scope, eS a.Pattern]
def ZE (a : ZA) : PV := .agg (Z52 a)
def Z1Y (a : ZA) : List PV := [(eI .i64) a.ID, (eI .i64) a.Priority, (eI .i64) a.Action, (eI .i64) a.Scope, eS a.Pattern]
def Z1P (a : ZA) : Row := [.p ((eI .i64) a.ID), .p ((eI .i64) a.Priority), .p ((eI .i64) a.Action), .p ((eI .i64) a.Scope), .p (eS a.Pattern)]
theorem Zvd {a b : ZA} (h : Z52 a = Z52 b) : a = b := by
 have h0 : a.ID = b.ID := Z43 _ _ (gj_ 0 h)
 have h1 : a.Priority = b.Priority := Z43 _ _ (gj_ 1 h)
 have h2 : a.Action = b.Action := Z43 _ _ (gj_ 2 h)
 have h3 : a.Scope = b.Scope := Z43 _ _ (gj_ 3 h)
 have h4 : a.Pattern = b.Pattern := ZHR _ _ (gj_ 4 h)
 cases a; cases b
 cases h0
 cases h1
 cases h2
 cases h3
 cases h4
 rfl
theorem Zef (a b : ZA) (h : ZE a = ZE b) : a = b := Zvd (congrArg pC h)
structure Z1i where
 Default : Int
 Closed : Int
 Fuel : Int
 Stack : Int
 Put : (List ZA)
 Drop : (List Int)
 deriving Inhabited
def ZlE (a : Z1i) : List PV := [(eI .i64) a.Default, (eI .i64) a.Closed, (eI .i64) a.Fuel, (eI .i64) a.Stack, (eL ZE) a.Put, (eL (eI .i64)) a.Drop]
def Z4A (a : Z1i) (o0 o1 : Own) : List PV := [(eI .i64) a.Default, (eI .i64) a.Closed, (eI .i64) a.Fuel, (eI .i64) a.Stack, .lst o0 (a.Put.map ZE), .lst o1 (a.Drop.map (eI .i64))]
def ZI (a : Z1i) (o0 o1 : Own) : Row := [.p ((eI .i64) a.Default), .p ((eI .i64) a.Closed), .p ((eI .i64) a.Fuel), .p ((eI .i64) a.Stack), .p (.lst o0 (a.Put.map ZE)), .p (.lst o1 (a.Drop.map (eI .i64)))]
theorem ZuB {a b : Z1i} (h : ZlE a = ZlE b) : a = b := by
 have h0 : a.Default = b.Default := Z43 _ _ (gj_ 0 h)
 have h1 : a.Closed = b.Closed := Z43 _ _ (gj_ 1 h)
 have h2 : a.Fuel = b.Fuel := Z43 _ _ (gj_ 2 h)
 have h3 : a.Stack = b.Stack := Z43 _ _ (gj_ 3 h)
 have h4 : a.Put = b.Put := (Zst Zef) _ _ (gj_ 4 h)
 have h5 : a.Drop = b.Drop := (Zst Z43) _ _ (gj_ 5 h)
 cases a; cases b
 cases h0
 cases h1
 cases h2
 cases h3
 cases h4
 cases h5
 rfl
structure Z16 where
 View : Int
 Client : Int
 Request : Int
 Delta : Z1i
 deriving Inhabited
def Zck (a : Z16) : List PV := [(eI .i64) a.View, (eI .i64) a.Client, (eI .i64) a.Request, (eI .i64) a.Delta.Default, (eI .i64) a.Delta.Closed, (eI .i64) a.Delta.Fuel, (eI .i64) a.Delta.Stack, (eL ZE) a.Delta.Put, (eL (eI .i64)) a.Delta.Drop]
def Z2a (a : Z16) : PV := .agg (Zck a)
def Z4m (a : Z16) (o0 o1 : Own) : List PV := [(eI .i64) a.View, (eI .i64) a.Client, (eI .i64) a.Request, (eI .i64) a.Delta.Default, (eI .i64) a.Delta.Closed, (eI .i64) a.Delta.Fuel, (eI .i64) a.Delta.Stack, .lst o0 (a.Delta.Put.map ZE), .lst o1 (a.Delta.Drop.map (eI .i64))]
def Z1a (a : Z16) (o0 o1 : Own) : Row := [.p ((eI .i64) a.View), .p ((eI .i64) a.Client), .p ((eI .i64) a.Request), .p ((eI .i64) a.Delta.Default), .p ((eI .i64) a.Delta.Closed), .p ((eI .i64) a.Delta.Fuel), .p ((eI .i64) a.Delta.Stack), .p (.lst o0 (a.Delta.Put.map ZE)), .p (.lst o1 (a.Delta.Drop.map (eI .i64)))]
theorem ZuA {a b : Z16} (h : Zck a = Zck b) : a = b := by
 have h0 : a.View = b.View := Z43 _ _ (gj_ 0 h)
 have h1 : a.Client = b.Client := Z43 _ _ (gj_ 1 h)
 have h2 : a.Request = b.Request := Z43 _ _ (gj_ 2 h)
 have h3 : a.Delta = b.Delta := ZuB (congrArg (fun l => (l.drop 3).take 6) h)
 cases a; cases b
 cases h0
 cases h1
 cases h2
 cases h3
 rfl
structure ZD where
 Default : Int
 Closed : Int
 Fuel : Int
 Stack : Int
 Rules : (List ZA)
 deriving Inhabited
def ZgY (a : ZD) : List PV := [(eI .i64) a.Default, (eI .i64) a.Closed, (eI .i64) a.Fuel, (eI .i64) a.Stack, (eL ZE) a.Rules]
def ZL (a : ZD) : PV := .agg (ZgY a)
def Z1q (a : ZD) (o0 : Own) : List PV := [(eI .i64) a.Default, (eI .i64) a.Closed, (eI .i64) a.Fuel, (eI .i64) a.Stack, .lst o0 (a.Rules.map ZE)]
def Zw (a : ZD) (o0 : Own) : Row := [.p ((eI .i64) a.Default), .p ((eI .i64) a.Closed), .p ((eI .i64) a.Fuel), .p ((eI .i64) a.Stack), .p (.lst o0 (a.Rules.map ZE))]
theorem ZcE {a b : ZD} (h : ZgY a = ZgY b) : a = b := by
 have h0 : a.Default = b.Default := Z43 _ _ (gj_ 0 h)
 have h1 : a.Closed = b.Closed := Z43 _ _ (gj_ 1 h)
 have h2 : a.Fuel = b.Fuel := Z43 _ _ (gj_ 2 h)
 have h3 : a.Stack = b.Stack := Z43 _ _ (gj_ 3 h)
 have h4 : a.Rules = b.Rules := (Zst Zef) _ _ (gj_ 4 h)
 cases a; cases b
 cases h0
 cases h1
 cases h2
 cases h3
 cases h4
 rfl
theorem Zj1 (a b : ZD) (h : ZL a = ZL b) : a = b := ZcE (congrArg pC h)
structure Z10 where
 Code : Int
 Rule : Int
 At : Int
 deriving Inhabited
def Zl0 (a : Z10) : List PV := [(eI .i64) a.Code, (eI .i64) a.Rule, (eI .i64) a.At]
def Z1M (a : Z10) : List PV := [(eI .i64) a.Code, (eI .i64) a.Rule, (eI .i64) a.At]
def Z15 (a : Z10) : Row := [.p ((eI .i64) a.Code), .p ((eI .i64) a.Rule), .p ((eI .i64) a.At)]
theorem ZcS {a b : Z10} (h : Zl0 a = Zl0 b) : a = b := by
 have h0 : a.Code = b.Code := Z43 _ _ (gj_ 0 h)
 have h1 : a.Rule = b.Rule := Z43 _ _ (gj_ 1 h)
 have h2 : a.At = b.At := Z43 _ _ (gj_ 2 h)
 cases a; cases b
 cases h0
 cases h1
 cases h2
 rfl
structure Z1k where
 Version : Int
 Verdict : Z10
 deriving Inhabited
def ZkZ (a : Z1k) : List PV := [(eI .i64) a.Version, (eI .i64) a.Verdict.Code, (eI .i64) a.Verdict.Rule, (eI .i64) a.Verdict.At]
def Z2e (a : Z1k) : List PV := [(eI .i64) a.Version, (eI .i64) a.Verdict.Code, (eI .i64) a.Verdict.Rule, (eI .i64) a.Verdict.At]
def ZG (a : Z1k) : Row := [.p ((eI .i64) a.Version), .p ((eI .i64) a.Verdict.Code), .p ((eI .i64) a.Verdict.Rule), .p ((eI .i64) a.Verdict.At)]
theorem ZcR {a b : Z1k} (h : ZkZ a = ZkZ b) : a = b := by
 have h0 : a.Version = b.Version := Z43 _ _ (gj_ 0 h)
 have h1 : a.Verdict = b.Verdict := ZcS (congrArg (fun l => (l.drop 1).take 3) h)
 cases a; cases b
 cases h0
 cases h1
 rfl
structure Z19 where
 request : Int
 Outcome : Z1k
 deriving Inhabited
def Zj0 (a : Z19) : List PV := [(eI .i64) a.request, (eI .i64) a.Outcome.Version, (eI .i64) a.Outcome.Verdict.Code, (eI .i64) a.Outcome.Verdict.Rule, (eI .i64) a.Outcome.Verdict.At]
def ZF (a : Z19) : PV := .agg (Zj0 a)
def ZeZ (a : Z19) : List PV := [(eI .i64) a.request, (eI .i64) a.Outcome.Version, (eI .i64) a.Outcome.Verdict.Code, (eI .i64) a.Outcome.Verdict.Rule, (eI .i64) a.Outcome.Verdict.At]
def Zoi (a : Z19) : Row := [.p ((eI .i64) a.request), .p ((eI .i64) a.Outcome.Version), .p ((eI .i64) a.Outcome.Verdict.Code), .p ((eI .i64) a.Outcome.Verdict.Rule), .p ((eI .i64) a.Outcome.Verdict.At)]
theorem Zs4 {a b : Z19} (h : Zj0 a = Zj0 b) : a = b := by
 have h0 : a.request = b.request := Z43 _ _ (gj_ 0 h)
 have h1 : a.Outcome = b.Outcome := ZcR (congrArg (fun l => (l.drop 1).take 4) h)
 cases a; cases b
 cases h0
 cases h1
 rfl
theorem ZjP (a b : Z19) (h : ZF a = ZF b) : a = b := Zs4 (congrArg pC h)
structure Zi where
 Lo : Int
 Hi : Int
 deriving Inhabited
def Z9V (a : Zi) : List PV := [(eI .i64) a.Lo, (eI .i64) a.Hi]
def ZB (a : Zi) : PV := .agg (Z9V a)
def Z1c (a : Zi) : List PV := [(eI .i64) a.Lo, (eI .i64) a.Hi]
def Z3f (a : Zi) : Row := [.p ((eI .i64) a.Lo), .p ((eI .i64) a.Hi)]
theorem ZkY {a b : Zi} (h : Z9V a = Z9V b) : a = b := by
 have h0 : a.Lo = b.Lo := Z43 _ _ (gj_ 0 h)
 have h1 : a.Hi = b.Hi := Z43 _ _ (gj_ 1 h)
 cases a; cases b
 cases h0
 cases h1
 rfl
theorem Z8M (a b : Zi) (h : ZB a = ZB b) : a = b := ZkY (congrArg pC h)
structure Zj where
 Kind : Int
 Lo : Int
 Hi : Int
 Mode : Int
 Ref : Int
 Set : (List Zi)
 Kids : (List Zj)
instance : Inhabited Zj := ⟨⟨default, default, default, default, default, default, default⟩⟩
mutual
def Z14 : Zj → PV
 | ⟨Kind_, Lo_, Hi_, Mode_, Ref_, Set_, Kids_⟩ => .agg [(eI .i64) Kind_, (eI .i64) Lo_, (eI .i64) Hi_, (eI .i64) Mode_, (eI .i64) Ref_, (eL ZB) Set_, .lst .sh (Z7I Kids_)]
def Z7I : List Zj → List PV
 | [] => []
 | x :: r => Z14 x :: Z7I r
end
theorem ZlT : ∀ l, Z7I l = l.map Z14
 | [] => rfl
 | x :: r => by rw [Z7I, ZlT r]; rfl
def Z3P (a : Zj) : List PV := [(eI .i64) a.Kind, (eI .i64) a.Lo, (eI .i64) a.Hi, (eI .i64) a.Mode, (eI .i64) a.Ref, (eL ZB) a.Set, (eL Z14) a.Kids]
theorem Z6h (a : Zj) : Z14 a = .agg (Z3P a) := by
 cases a; rw [Z14, ZlT]; rfl
theorem Z7S (a : Zj) : Z2r (Z14 a) = Z3P a := by rw [Z6h]; rfl
theorem Zq2 (a : Zj) : (Z2r (Z14 a)).length = 7 := by rw [Z6h]; rfl
def ZQ (a : Zj) (o0 o1 : Own) : List PV := [(eI .i64) a.Kind, (eI .i64) a.Lo, (eI .i64) a.Hi, (eI .i64) a.Mode, (eI .i64) a.Ref, .lst o0 (a.Set.map ZB), .lst o1 (a.Kids.map Z14)]
def Zv (a : Zj) (o0 o1 : Own) : Row := [.p ((eI .i64) a.Kind), .p ((eI .i64) a.Lo), .p ((eI .i64) a.Hi), .p ((eI .i64) a.Mode), .p ((eI .i64) a.Ref), .p (.lst o0 (a.Set.map ZB)), .p (.lst o1 (a.Kids.map Z14))]
mutual
theorem ZlS : ∀ a b : Zj, Z14 a = Z14 b → a = b
 | ⟨Kind_, Lo_, Hi_, Mode_, Ref_, Set_, Kids_⟩, ⟨Kind_2, Lo_2, Hi_2, Mode_2, Ref_2, Set_2, Kids_2⟩, h => by
  rw [Z14, Z14] at h
  have h0 : Kind_ = Kind_2 := Z43 _ _ (congrArg (fun l => (pC l).getD 0 .junk) h)
  have h1 : Lo_ = Lo_2 := Z43 _ _ (congrArg (fun l => (pC l).getD 1 .junk) h)
  have h2 : Hi_ = Hi_2 := Z43 _ _ (congrArg (fun l => (pC l).getD 2 .junk) h)
  have h3 : Mode_ = Mode_2 := Z43 _ _ (congrArg (fun l => (pC l).getD 3 .junk) h)
  have h4 : Ref_ = Ref_2 := Z43 _ _ (congrArg (fun l => (pC l).getD 4 .junk) h)
  have h5 : Set_ = Set_2 := (Zst Z8M) _ _ (congrArg (fun l => (pC l).getD 5 .junk) h)
  have h6 : Kids_ = Kids_2 := Zl1 Kids_ Kids_2 (congrArg (fun l => pL ((pC l).getD 6 .junk)) h)
  subst h0
  subst h1
  subst h2
  subst h3
  subst h4
  subst h5
  subst h6
  rfl
theorem Zl1 : ∀ a b : List Zj, Z7I a = Z7I b → a = b
 | [], [], _ => rfl
 | [], _ :: _, h => by simp [Z7I] at h
 | _ :: _, [], h => by simp [Z7I] at h
 | x :: r, y :: t, h => by
  simp only [Z7I, Ztz] at h
  rw [ZlS x y h.1, Zl1 r t h.2]
end
theorem Z9s {a b : Zj} (h : Z3P a = Z3P b) : a = b := ZlS a b (by rw [Z6h, Z6h, h])
structure Z1Q where
 Root : Zj
 Groups : Int
 Fold : Bool
 deriving Inhabited
def ZmO (a : Z1Q) : List PV := [(eI .i64) a.Root.Kind, (eI .i64) a.Root.Lo, (eI .i64) a.Root.Hi, (eI .i64) a.Root.Mode, (eI .i64) a.Root.Ref, (eL ZB) a.Root.Set, (eL Z14) a.Root.Kids, (eI .i64) a.Groups, eB a.Fold]
def Z4k (a : Z1Q) (o0 o1 : Own) : List PV := [(eI .i64) a.Root.Kind, (eI .i64) a.Root.Lo, (eI .i64) a.Root.Hi, (eI .i64) a.Root.Mode, (eI .i64) a.Root.Ref, .lst o0 (a.Root.Set.map ZB), .lst o1 (a.Root.Kids.map Z14), (eI .i64) a.Groups, eB a.Fold]
def Z1t (a : Z1Q) (o0 o1 : Own) : Row := [.p ((eI .i64) a.Root.Kind), .p ((eI .i64) a.Root.Lo), .p ((eI .i64) a.Root.Hi), .p ((eI .i64) a.Root.Mode), .p ((eI .i64) a.Root.Ref), .p (.lst o0 (a.Root.Set.map ZB)), .p (.lst o1 (a.Root.Kids.map Z14)), .p ((eI .i64) a.Groups), .p (eB a.Fold)]
theorem Zqq {a b : Z1Q} (h : ZmO a = ZmO b) : a = b := by
 have h0 : a.Root = b.Root := Z9s (congrArg (fun l => (l.drop 0).take 7) h)
 have h1 : a.Groups = b.Groups := Z43 _ _ (gj_ 7 h)
 have h2 : a.Fold = b.Fold := Zss _ _ (gj_ 8 h)
 cases a; cases b
 cases h0
 cases h1
 cases h2
 rfl
structure Z1p where
 Code : Int
 At : Int
 deriving Inhabited
def Zp2 (a : Z1p) : List PV := [(eI .i64) a.Code, (eI .i64) a.At]
def Z6B (a : Z1p) : List PV := [(eI .i64) a.Code, (eI .i64) a.At]
def Z2b (a : Z1p) : Row := [.p ((eI .i64) a.Code), .p ((eI .i64) a.At)]
theorem Zsr {a b : Z1p} (h : Zp2 a = Zp2 b) : a = b := by
 have h0 : a.Code = b.Code := Z43 _ _ (gj_ 0 h)
 have h1 : a.At = b.At := Z43 _ _ (gj_ 1 h)
 cases a; cases b
 cases h0
 cases h1
 rfl
structure Zz where
 group : Int
 at_ : Int
 deriving Inhabited
def Zed (a : Zz) : List PV := [(eI .i64) a.group, (eI .i64) a.at_]
def Z3I (a : Zz) : PV := .agg (Zed a)
def Zic (a : Zz) : List PV := [(eI .i64) a.group, (eI .i64) a.at_]
def Zig (a : Zz) : Row := [.p ((eI .i64) a.group), .p ((eI .i64) a.at_)]
theorem Zqr {a b : Zz} (h : Zed a = Zed b) : a = b := by
 have h0 : a.group = b.group := Z43 _ _ (gj_ 0 h)
 have h1 : a.at_ = b.at_ := Z43 _ _ (gj_ 1 h)
 cases a; cases b
 cases h0
 cases h1
 rfl
theorem Zee (a b : Zz) (h : Z3I a = Z3I b) : a = b := Zqr (congrArg pC h)
structure Z2c where
 b : (List Int)
 at_ : Int
 groups : Int
 deep : Int
 refs : (List Zz)
 fault : Z1p
 deriving Inhabited
def Zxr (a : Z2c) (o0 o1 : Own) : List PV := [.lst o0 (a.b.map (eI .u8)), (eI .i64) a.at_, (eI .i64) a.groups, (eI .i64) a.deep, .lst o1 (a.refs.map Z3I), (eI .i64) a.fault.Code, (eI .i64) a.fault.At]
def Z4V (a : Z2c) (o0 o1 : Own) : Row := [.p (.lst o0 (a.b.map (eI .u8))), .p ((eI .i64) a.at_), .p ((eI .i64) a.groups), .p ((eI .i64) a.deep), .p (.lst o1 (a.refs.map Z3I)), .p ((eI .i64) a.fault.Code), .p ((eI .i64) a.fault.At)]
structure ZU where
 Default : Int
 Closed : Int
 Fuel : Int
 Stack : Int
 Rules : (List ZA)
 deriving Inhabited
def Zb8 (a : ZU) : List PV := [(eI .i64) a.Default, (eI .i64) a.Closed, (eI .i64) a.Fuel, (eI .i64) a.Stack, (eL ZE) a.Rules]
def Z2o (a : ZU) : PV := .agg (Zb8 a)
def Z34 (a : ZU) (o0 : Own) : List PV := [(eI .i64) a.Default, (eI .i64) a.Closed, (eI .i64) a.Fuel, (eI .i64) a.Stack, .lst o0 (a.Rules.map ZE)]
def Z1y (a : ZU) (o0 : Own) : Row := [.p ((eI .i64) a.Default), .p ((eI .i64) a.Closed), .p ((eI .i64) a.Fuel), .p ((eI .i64) a.Stack), .p (.lst o0 (a.Rules.map ZE))]
theorem ZmN {a b : ZU} (h : Zb8 a = Zb8 b) : a = b := by
 have h0 : a.Default = b.Default := Z43 _ _ (gj_ 0 h)
 have h1 : a.Closed = b.Closed := Z43 _ _ (gj_ 1 h)
 have h2 : a.Fuel = b.Fuel := Z43 _ _ (gj_ 2 h)
 have h3 : a.Stack = b.Stack := Z43 _ _ (gj_ 3 h)
 have h4 : a.Rules = b.Rules := (Zst Zef) _ _ (gj_ 4 h)
 cases a; cases b
 cases h0
 cases h1
 cases h2
 cases h3
 cases h4
 rfl
end Go.Proofs.YteoeggbihfnbfaaGreatDoor.N2
end
noncomputable section
namespace Go.Proofs.YteoeggbihfnbfaaGreatDoor.N2
open Go Go.Abs
set_option maxRecDepth 100000
theorem et_ {α : Type} {a b c : α} (h : b = c) (g : a = b := by kernel_rfl) : a = c := g.trans h
theorem ru_ {R : Type} {Q : R → Res → Prop} {e : Option Res} {a b : R} (u : ∀ a b q, Q a q → Q b q → a = b) (h : RRun Q e a) (g : RRun Q e b) : a = b := RRun.uniq u h g
abbrev Z40 := ZD.mk 0 0 0 0 ([] : List ZA)
abbrev Z71 := Z10.mk 0 0 0
abbrev ZLv := Z16.mk 0 0 0 (Z1i.mk 0 0 0 0 ([] : List ZA) ([] : List Int))
abbrev Za6 := Z1k.mk 0 (Z10.mk 0 0 0)
abbrev ZA2 := ZU.mk 0 0 0 0 ([] : List ZA)
abbrev ZgV := Z1Q.mk (Zj.mk 0 0 0 0 0 ([] : List Zi) ([] : List Zj)) 0 false
abbrev ZjF := Z1p.mk 0 0
abbrev Z2j := Zj.mk 0 0 0 0 0 ([] : List Zi) ([] : List Zj)
abbrev Z2H a0 a1 a2 a3 a4 o0 := Zw (ZD.mk a0 a1 a2 a3 a4) o0
abbrev ZY a0 a1 a2 a3 a4 a5 a6 o0 o1 := Z4V (Z2c.mk a0 a1 a2 a3 a4 (Z1p.mk a5 a6)) o0 o1
abbrev ZbT a0 a1 a2 a3 a4 a5 a6 a7 a8 o0 o1 := Z1t (Z1Q.mk (Zj.mk a0 a1 a2 a3 a4 a5 a6) a7 a8) o0 o1
abbrev Zkv a0 a1 a2 a3 a4 o0 := Z1y (ZU.mk a0 a1 a2 a3 a4) o0
abbrev Zkw a0 a1 a2 := Z15 (Z10.mk a0 a1 a2)
abbrev Z3w a0 a1 a2 a3 a4 a5 a6 o0 o1 := Zv (Zj.mk a0 a1 a2 a3 a4 a5 a6) o0 o1
abbrev ZM (o : Own) (l : List PV) : AV := .p (.lst o l)
abbrev pA_ (l : List PV) : AV := .p (.agg l)
abbrev rM_ {α : Type} (e : α → PV) (l : List (Int × α)) : Row := [.md (l.map (encM e))]
abbrev ZiU : ZD → Res → Prop := fun r q => ∃ (ex : List Row), q = ((pA_ (Z1q r .sh)), ex)
theorem ZxT : ∀ a b q, ZiU a q → ZiU b q → a = b := by
 rintro a b q ⟨_, e1⟩ ⟨_, e2⟩
 have e := e1.symm.trans e2
 exact ZcE (congrArg (fun q : Res => pC (pA q.1)) e)
abbrev Zhx : ((List (Int × Z19)) × (List ZD) × Int) → Res → Prop := fun r q => ∃ (n1_0 : Own) (ex : List Row), ZW n1_0 = true ∧ q = ((.ptr 1 0), [(rM_ ZF r.1), [(ZM n1_0 (r.2.1.map ZL)), (.mp 0), (iv r.2.2)]]) ∧ ex = []
theorem Zwi : ∀ a b q, Zhx a q → Zhx b q → a = b := by
 rintro a b q ⟨_, _, _, e1, _⟩ ⟨_, _, _, e2, _⟩
 have e := e1.symm.trans e2
 exact Z3Z (Z5h (Zk5 ZjP) (congrArg (fun q : Res => pM (cellAt q 0 0)) e)) (Z3Z (Z5h Zj1 (congrArg (fun q : Res => pL (pA (cellAt q 1 0))) e)) (congrArg (fun q : Res => pI (pA (cellAt q 1 2))) e))
abbrev ZbZ : Z16 → Res → Prop := fun r q => ∃ (ex : List Row), q = ((pA_ (Z4m r .sh .sh)), ex)
theorem ZoX : ∀ a b q, ZbZ a q → ZbZ b q → a = b := by
 rintro a b q ⟨_, e1⟩ ⟨_, e2⟩
 have e := e1.symm.trans e2
 exact ZuA (congrArg (fun q : Res => pC (pA q.1)) e)
abbrev ZZ : Bool → Res → Prop := fun r q => ∃ (ex : List Row), q = ((bv r), ex)
theorem Z2k : ∀ a b q, ZZ a q → ZZ b q → a = b := by
 rintro a b q ⟨_, e1⟩ ⟨_, e2⟩
 have e := e1.symm.trans e2
 exact congrArg (fun q : Res => pB (pA q.1)) e
abbrev ZN : Int → Res → Prop := fun r q => ∃ (ex : List Row), q = ((iv r), ex)
theorem Z2l : ∀ a b q, ZN a q → ZN b q → a = b := by
 rintro a b q ⟨_, e1⟩ ⟨_, e2⟩
 have e := e1.symm.trans e2
 exact congrArg (fun q : Res => pI (pA q.1)) e
abbrev Zhz (z1S z2i z1X : Int) (z1U : List ZA) (zC : Own) : Int → Res → Prop := fun r q => ∃ (ex : List Row), q = ((.p (.tup [])), [(Z2H r z1S z2i z1X z1U zC)] ++ ex)
theorem Zwk (z1S z2i z1X : Int) (z1U : List ZA) (zC : Own) : ∀ a b q, Zhz z1S z2i z1X z1U zC a q → Zhz z1S z2i z1X z1U zC b q → a = b := by
 rintro a b q ⟨_, e1⟩ ⟨_, e2⟩
 have e := e1.symm.trans e2
 exact congrArg (fun q : Res => pI (pA (cellAt q 0 0))) e
abbrev Zdb (z1K z2i z1X : Int) (z1U : List ZA) (zC : Own) : Int → Res → Prop := fun r q => ∃ (ex : List Row), q = ((.p (.tup [])), [(Z2H z1K r z2i z1X z1U zC)] ++ ex)
theorem Zs3 (z1K z2i z1X : Int) (z1U : List ZA) (zC : Own) : ∀ a b q, Zdb z1K z2i z1X z1U zC a q → Zdb z1K z2i z1X z1U zC b q → a = b := by
 rintro a b q ⟨_, e1⟩ ⟨_, e2⟩
 have e := e1.symm.trans e2
 exact congrArg (fun q : Res => pI (pA (cellAt q 0 1))) e
abbrev Zda (z1K z1S z1X : Int) (z1U : List ZA) (zC : Own) : Int → Res → Prop := fun r q => ∃ (ex : List Row), q = ((.p (.tup [])), [(Z2H z1K z1S r z1X z1U zC)] ++ ex)
theorem Zs2 (z1K z1S z1X : Int) (z1U : List ZA) (zC : Own) : ∀ a b q, Zda z1K z1S z1X z1U zC a q → Zda z1K z1S z1X z1U zC b q → a = b := by
 rintro a b q ⟨_, e1⟩ ⟨_, e2⟩
 have e := e1.symm.trans e2
 exact congrArg (fun q : Res => pI (pA (cellAt q 0 2))) e
abbrev Zd9 (z1K z1S z2i : Int) (z1U : List ZA) (zC : Own) : Int → Res → Prop := fun r q => ∃ (ex : List Row), q = ((.p (.tup [])), [(Z2H z1K z1S z2i r z1U zC)] ++ ex)
theorem Zs1 (z1K z1S z2i : Int) (z1U : List ZA) (zC : Own) : ∀ a b q, Zd9 z1K z1S z2i z1U zC a q → Zd9 z1K z1S z2i z1U zC b q → a = b := by
 rintro a b q ⟨_, e1⟩ ⟨_, e2⟩
 have e := e1.symm.trans e2
 exact congrArg (fun q : Res => pI (pA (cellAt q 0 3))) e
abbrev Z72 : Bool → Res → Prop := fun r q => ∃ (ex : List Row), q = ((bv r), [[(.clo 27 [] [])]] ++ ex)
theorem Zgl : ∀ a b q, Z72 a q → Z72 b q → a = b := by
 rintro a b q ⟨_, e1⟩ ⟨_, e2⟩
 have e := e1.symm.trans e2
 exact congrArg (fun q : Res => pB (pA q.1)) e
abbrev Z3t : Int → Res → Prop := fun r q => ∃ (ex : List Row), q = ((iv r), [[(.clo 27 [] [])]] ++ ex)
theorem Zd1 : ∀ a b q, Z3t a q → Z3t b q → a = b := by
 rintro a b q ⟨_, e1⟩ ⟨_, e2⟩
 have e := e1.symm.trans e2
 exact congrArg (fun q : Res => pI (pA q.1)) e
abbrev Z5V : (Bool × (List (Int × Bool))) → Res → Prop := fun r q => ∃ (ex : List Row), q = ((bv r.1), [[(.mp 1)], (rM_ eB r.2)] ++ ex)
theorem Zeo : ∀ a b q, Z5V a q → Z5V b q → a = b := by
 rintro a b q ⟨_, e1⟩ ⟨_, e2⟩
 have e := e1.symm.trans e2
 exact Z3Z (congrArg (fun q : Res => pB (pA q.1)) e) (Z5h (Zk5 Zss) (congrArg (fun q : Res => pM (cellAt q 1 0)) e))
abbrev Z5W : (Bool × (List (Int × Bool))) → Res → Prop := fun r q => ∃ (ex : List Row), q = ((bv r.1), [[(.clo 74 [] [(.ptr 1 0)])], [(.mp 2)], (rM_ eB r.2)] ++ ex)
theorem Zep : ∀ a b q, Z5W a q → Z5W b q → a = b := by
 rintro a b q ⟨_, e1⟩ ⟨_, e2⟩
 have e := e1.symm.trans e2
 exact Z3Z (congrArg (fun q : Res => pB (pA q.1)) e) (Z5h (Zk5 Zss) (congrArg (fun q : Res => pM (cellAt q 2 0)) e))
abbrev Z3u : (Int × (List (Int × Bool))) → Res → Prop := fun r q => ∃ (ex : List Row), q = ((iv r.1), [[(.clo 74 [] [(.ptr 1 0)])], [(.mp 2)], (rM_ eB r.2)] ++ ex)
theorem Zd2 : ∀ a b q, Z3u a q → Z3u b q → a = b := by
 rintro a b q ⟨_, e1⟩ ⟨_, e2⟩
 have e := e1.symm.trans e2
 exact Z3Z (congrArg (fun q : Res => pI (pA q.1)) e) (Z5h (Zk5 Zss) (congrArg (fun q : Res => pM (cellAt q 2 0)) e))
abbrev Z3B : (Int × (List (Int × Bool))) → Res → Prop := fun r q => ∃ (ex : List Row), q = ((iv r.1), [[(.mp 1)], (rM_ eB r.2)] ++ ex)
theorem Zds : ∀ a b q, Z3B a q → Z3B b q → a = b := by
 rintro a b q ⟨_, e1⟩ ⟨_, e2⟩
 have e := e1.symm.trans e2
 exact Z3Z (congrArg (fun q : Res => pI (pA q.1)) e) (Z5h (Zk5 Zss) (congrArg (fun q : Res => pM (cellAt q 1 0)) e))
abbrev Zb1 (zP : List (Int × ZA)) : Unit → Res → Prop := fun r q => ∃ (ex : List Row), q = ((.clo 78 [] [(.ptr 1 0)]), [(rM_ ZE zP), [(.mp 0)]]) ∧ ex = []
theorem Zom (zP : List (Int × ZA)) : ∀ a b q, Zb1 zP a q → Zb1 zP b q → a = b := by
 rintro a b q ⟨_, e1, _⟩ ⟨_, e2, _⟩
 have e := e1.symm.trans e2
 exact rfl
abbrev Zch (zV : List (Int × ZA)) : (List Int) → Res → Prop := fun r q => ∃ (ex : List Row), q = ((ZM .sh (r.map (eI .i64))), [[(.mp 1)], (rM_ ZE zV)] ++ ex)
theorem ZlX (zV : List (Int × ZA)) : ∀ a b q, Zch zV a q → Zch zV b q → a = b := by
 rintro a b q ⟨_, e1⟩ ⟨_, e2⟩
 have e := e1.symm.trans e2
 exact Z5h Z43 (congrArg (fun q : Res => pL (pA q.1)) e)
abbrev Z2U : (ZD × Int) → Res → Prop := fun r q => ∃ (ex : List Row), q = ((.p (.tup [(.agg (Z1q r.1 .sh)), (.v (.int .i64 r.2))])), ex)
theorem Zdr : ∀ a b q, Z2U a q → Z2U b q → a = b := by
 rintro a b q ⟨_, e1⟩ ⟨_, e2⟩
 have e := e1.symm.trans e2
 exact Z3Z (ZcE (congrArg (fun q : Res => pC ((pT (pA q.1)).getD 0 .junk)) e)) (congrArg (fun q : Res => pI ((pT (pA q.1)).getD 1 .junk)) e)
abbrev Z8b (zl : List Int) (z7 zd : Int) (zh : List Zz) (z2 z6 : Int) (zu zb : Own) : (Bool × Int) → Res → Prop := fun r q => ∃ (ex : List Row), q = ((bv r.1), [(ZY zl r.2 z7 zd zh z2 z6 zu zb)] ++ ex)
theorem Zp0 (zl : List Int) (z7 zd : Int) (zh : List Zz) (z2 z6 : Int) (zu zb : Own) : ∀ a b q, Z8b zl z7 zd zh z2 z6 zu zb a q → Z8b zl z7 zd zh z2 z6 zu zb b q → a = b := by
 rintro a b q ⟨_, e1⟩ ⟨_, e2⟩
 have e := e1.symm.trans e2
 exact Z3Z (congrArg (fun q : Res => pB (pA q.1)) e) (congrArg (fun q : Res => pI (pA (cellAt q 0 1))) e)
abbrev Zb3 : (Int × Int) → Res → Prop := fun r q => ∃ (ex : List Row), q = ((.p (.tup [(.v (.int .i32 r.1)), (.v (.int .i64 r.2))])), ex)
theorem ZkW : ∀ a b q, Zb3 a q → Zb3 b q → a = b := by
 rintro a b q ⟨_, e1⟩ ⟨_, e2⟩
 have e := e1.symm.trans e2
 exact Z3Z (congrArg (fun q : Res => pI ((pT (pA q.1)).getD 0 .junk)) e) (congrArg (fun q : Res => pI ((pT (pA q.1)).getD 1 .junk)) e)
abbrev Z49 : (Int × Int) → Res → Prop := fun r q => ∃ (ex : List Row), q = ((.p (.tup [(.v (.int .i64 r.1)), (.v (.int .i64 r.2))])), ex)
theorem ZhA : ∀ a b q, Z49 a q → Z49 b q → a = b := by
 rintro a b q ⟨_, e1⟩ ⟨_, e2⟩
 have e := e1.symm.trans e2
 exact Z3Z (congrArg (fun q : Res => pI ((pT (pA q.1)).getD 0 .junk)) e) (congrArg (fun q : Res => pI ((pT (pA q.1)).getD 1 .junk)) e)
abbrev Z9F (b0 : Z2c) (zu zb : Own) : Int → Res → Prop := fun r q => ∃ (ex : List Row), q = ((iv r), [(Z4V b0 zu zb)] ++ ex)
theorem ZoZ (b0 : Z2c) (zu zb : Own) : ∀ a b q, Z9F b0 zu zb a q → Z9F b0 zu zb b q → a = b := by
 rintro a b q ⟨_, e1⟩ ⟨_, e2⟩
 have e := e1.symm.trans e2
 exact congrArg (fun q : Res => pI (pA q.1)) e
abbrev Z8A : Zj → Res → Prop := fun r q => ∃ (ex : List Row), q = ((pA_ (ZQ r .sh .sh)), ex)
theorem ZmI : ∀ a b q, Z8A a q → Z8A b q → a = b := by
 rintro a b q ⟨_, e1⟩ ⟨_, e2⟩
 have e := e1.symm.trans e2
 exact Z9s (congrArg (fun q : Res => pC (pA q.1)) e)
abbrev Z2R (zl : List Int) (z7 zd : Int) (zh : List Zz) (z2 z6 : Int) (zu zb : Own) : (Int × Int) → Res → Prop := fun r q => ∃ (ex : List Row), q = ((iv r.1), [(ZY zl r.2 z7 zd zh z2 z6 zu zb)] ++ ex)
theorem Z8B (zl : List Int) (z7 zd : Int) (zh : List Zz) (z2 z6 : Int) (zu zb : Own) : ∀ a b q, Z2R zl z7 zd zh z2 z6 zu zb a q → Z2R zl z7 zd zh z2 z6 zu zb b q → a = b := by
 rintro a b q ⟨_, e1⟩ ⟨_, e2⟩
 have e := e1.symm.trans e2
 exact Z3Z (congrArg (fun q : Res => pI (pA q.1)) e) (congrArg (fun q : Res => pI (pA (cellAt q 0 1))) e)
abbrev ZkJ : Zi → Res → Prop := fun r q => ∃ (ex : List Row), q = ((pA_ (Z1c r)), ex)
theorem ZAu : ∀ a b q, ZkJ a q → ZkJ b q → a = b := by
 rintro a b q ⟨_, e1⟩ ⟨_, e2⟩
 have e := e1.symm.trans e2
 exact ZkY (congrArg (fun q : Res => pC (pA q.1)) e)
abbrev Z4O : (List Zi) → Res → Prop := fun r q => ∃ (ex : List Row), q = ((ZM .sh (r.map ZB)), ex)
theorem ZdT : ∀ a b q, Z4O a q → Z4O b q → a = b := by
 rintro a b q ⟨_, e1⟩ ⟨_, e2⟩
 have e := e1.symm.trans e2
 exact Z5h Z8M (congrArg (fun q : Res => pL (pA q.1)) e)
abbrev Z6k : ((List Zi) × Int) → Res → Prop := fun r q => ∃ (ex : List Row), q = ((.p (.tup [(.lst .sh (r.1.map ZB)), (.v (.int .i64 r.2))])), ex)
theorem Zk4 : ∀ a b q, Z6k a q → Z6k b q → a = b := by
 rintro a b q ⟨_, e1⟩ ⟨_, e2⟩
 have e := e1.symm.trans e2
 exact Z3Z (Z5h Z8M (congrArg (fun q : Res => pL ((pT (pA q.1)).getD 0 .junk)) e)) (congrArg (fun q : Res => pI ((pT (pA q.1)).getD 1 .junk)) e)
abbrev Z9E (zl : List Int) (z7 zd : Int) (zh : List Zz) (zu zb : Own) : (Int × Int × Int) → Res → Prop := fun r q => ∃ (ex : List Row), q = ((.p (.tup [])), [(ZY zl r.1 z7 zd zh r.2.1 r.2.2 zu zb)] ++ ex)
theorem ZoY (zl : List Int) (z7 zd : Int) (zh : List Zz) (zu zb : Own) : ∀ a b q, Z9E zl z7 zd zh zu zb a q → Z9E zl z7 zd zh zu zb b q → a = b := by
 rintro a b q ⟨_, e1⟩ ⟨_, e2⟩
 have e := e1.symm.trans e2
 exact Z3Z (congrArg (fun q : Res => pI (pA (cellAt q 0 1))) e) (Z3Z (congrArg (fun q : Res => pI (pA (cellAt q 0 5))) e) (congrArg (fun q : Res => pI (pA (cellAt q 0 6))) e))
abbrev ZaN : (Own × (List Zi)) → Res → Prop := fun r q => ∃ (ex : List Row), q = ((ZM r.1 (r.2.map ZB)), ex)
theorem Zs0 : ∀ a b q, ZaN a q → ZaN b q → a = b := by
 rintro a b q ⟨_, e1⟩ ⟨_, e2⟩
 have e := e1.symm.trans e2
 exact Z3Z (congrArg (fun q : Res => pOwn (pA q.1)) e) (Z5h Z8M (congrArg (fun q : Res => pL (pA q.1)) e))
abbrev Z9q (zP : Int) : Bool → Res → Prop := fun r q => ∃ (ex : List Row), q = ((bv r), [[(iv zP)]] ++ ex)
theorem ZjO (zP : Int) : ∀ a b q, Z9q zP a q → Z9q zP b q → a = b := by
 rintro a b q ⟨_, e1⟩ ⟨_, e2⟩
 have e := e1.symm.trans e2
 exact congrArg (fun q : Res => pB (pA q.1)) e
abbrev Z3q (zP : Int) : Int → Res → Prop := fun r q => ∃ (ex : List Row), q = ((iv r), [[(iv zP)]] ++ ex)
theorem Zcq (zP : Int) : ∀ a b q, Z3q zP a q → Z3q zP b q → a = b := by
 rintro a b q ⟨_, e1⟩ ⟨_, e2⟩
 have e := e1.symm.trans e2
 exact congrArg (fun q : Res => pI (pA q.1)) e
abbrev Z7B (zl : List Int) (z7 zd : Int) (zh : List Zz) (zu zb : Own) : (Int × Int × Int × Int) → Res → Prop := fun r q => ∃ (ex : List Row), q = ((iv r.1), [(ZY zl r.2.1 z7 zd zh r.2.2.1 r.2.2.2 zu zb)] ++ ex)
theorem Zon (zl : List Int) (z7 zd : Int) (zh : List Zz) (zu zb : Own) : ∀ a b q, Z7B zl z7 zd zh zu zb a q → Z7B zl z7 zd zh zu zb b q → a = b := by
 rintro a b q ⟨_, e1⟩ ⟨_, e2⟩
 have e := e1.symm.trans e2
 exact Z3Z (congrArg (fun q : Res => pI (pA q.1)) e) (Z3Z (congrArg (fun q : Res => pI (pA (cellAt q 0 1))) e) (Z3Z (congrArg (fun q : Res => pI (pA (cellAt q 0 5))) e) (congrArg (fun q : Res => pI (pA (cellAt q 0 6))) e)))
abbrev Z5T (zl : List Int) (z7 zd : Int) (zu : Own) : (Zj × Int × (List Zz) × Int × Int) → Res → Prop := fun r q => ∃ (p0_4 : Own) (ex : List Row), ZW p0_4 = true ∧ q = ((pA_ (ZQ r.1 .sh .sh)), [(ZY zl r.2.1 z7 zd r.2.2.1 r.2.2.2.1 r.2.2.2.2 zu p0_4)] ++ ex)
theorem Znw (zl : List Int) (z7 zd : Int) (zu : Own) : ∀ a b q, Z5T zl z7 zd zu a q → Z5T zl z7 zd zu b q → a = b := by
 rintro a b q ⟨_, _, _, e1⟩ ⟨_, _, _, e2⟩
 have e := e1.symm.trans e2
 exact Z3Z (Z9s (congrArg (fun q : Res => pC (pA q.1)) e)) (Z3Z (congrArg (fun q : Res => pI (pA (cellAt q 0 1))) e) (Z3Z (Z5h Zee (congrArg (fun q : Res => pL (pA (cellAt q 0 4))) e)) (Z3Z (congrArg (fun q : Res => pI (pA (cellAt q 0 5))) e) (congrArg (fun q : Res => pI (pA (cellAt q 0 6))) e))))
abbrev Z5U (zl : List Int) (z7 zd : Int) (zh : List Zz) (zu zb : Own) : (Int × (Own × (List Zi)) × Bool × Int × Int × Int) → Res → Prop := fun r q => ∃ (ex : List Row), q = ((.p (.tup [(.v (.int .i64 r.1)), (.lst r.2.1.1 (r.2.1.2.map ZB)), (.v (.bool r.2.2.1))])), [(ZY zl r.2.2.2.1 z7 zd zh r.2.2.2.2.1 r.2.2.2.2.2 zu zb)] ++ ex)
theorem Znx (zl : List Int) (z7 zd : Int) (zh : List Zz) (zu zb : Own) : ∀ a b q, Z5U zl z7 zd zh zu zb a q → Z5U zl z7 zd zh zu zb b q → a = b := by
 rintro a b q ⟨_, e1⟩ ⟨_, e2⟩
 have e := e1.symm.trans e2
 exact Z3Z (congrArg (fun q : Res => pI ((pT (pA q.1)).getD 0 .junk)) e) (Z3Z (Z3Z (congrArg (fun q : Res => pOwn ((pT (pA q.1)).getD 1 .junk)) e) (Z5h Z8M (congrArg (fun q : Res => pL ((pT (pA q.1)).getD 1 .junk)) e))) (Z3Z (congrArg (fun q : Res => pB ((pT (pA q.1)).getD 2 .junk)) e) (Z3Z (congrArg (fun q : Res => pI (pA (cellAt q 0 1))) e) (Z3Z (congrArg (fun q : Res => pI (pA (cellAt q 0 5))) e) (congrArg (fun q : Res => pI (pA (cellAt q 0 6))) e)))))
abbrev Za7 : (List Zi) → Res → Prop := fun r q => ∃ (p0_0 : Own) (ex : List Row), q = ((.p (.tup [])), [[(ZM p0_0 (r.map ZB))]] ++ ex)
theorem ZmJ : ∀ a b q, Za7 a q → Za7 b q → a = b := by
 rintro a b q ⟨_, _, e1⟩ ⟨_, _, e2⟩
 have e := e1.symm.trans e2
 exact Z5h Z8M (congrArg (fun q : Res => pL (pA (cellAt q 0 0))) e)
abbrev Z2n (zl : List Int) (z7 zd : Int) (zh : List Zz) (zu zb : Own) : (Zj × Int × Int × Int) → Res → Prop := fun r q => ∃ (ex : List Row), q = ((pA_ (ZQ r.1 .sh .sh)), [(ZY zl r.2.1 z7 zd zh r.2.2.1 r.2.2.2 zu zb)] ++ ex)
theorem ZcQ (zl : List Int) (z7 zd : Int) (zh : List Zz) (zu zb : Own) : ∀ a b q, Z2n zl z7 zd zh zu zb a q → Z2n zl z7 zd zh zu zb b q → a = b := by
 rintro a b q ⟨_, e1⟩ ⟨_, e2⟩
 have e := e1.symm.trans e2
 exact Z3Z (Z9s (congrArg (fun q : Res => pC (pA q.1)) e)) (Z3Z (congrArg (fun q : Res => pI (pA (cellAt q 0 1))) e) (Z3Z (congrArg (fun q : Res => pI (pA (cellAt q 0 5))) e) (congrArg (fun q : Res => pI (pA (cellAt q 0 6))) e)))
abbrev Zhy : (List ByteArray) → Res → Prop := fun r q => ∃ (ex : List Row), q = ((ZM .sh (r.map eS)), ex)
theorem Zwj : ∀ a b q, Zhy a q → Zhy b q → a = b := by
 rintro a b q ⟨_, e1⟩ ⟨_, e2⟩
 have e := e1.symm.trans e2
 exact Z5h ZHR (congrArg (fun q : Res => pL (pA q.1)) e)
abbrev Z3A (zl : List Int) (zu : Own) : (Zj × Bool × Int × Int × Int × (List Zz) × Int × Int) → Res → Prop := fun r q => ∃ (p0_4 : Own) (ex : List Row), ZW p0_4 = true ∧ q = ((.p (.tup [(.agg (ZQ r.1 .sh .sh)), (.v (.bool r.2.1))])), [(ZY zl r.2.2.1 r.2.2.2.1 r.2.2.2.2.1 r.2.2.2.2.2.1 r.2.2.2.2.2.2.1 r.2.2.2.2.2.2.2 zu p0_4)] ++ ex)
theorem ZgW (zl : List Int) (zu : Own) : ∀ a b q, Z3A zl zu a q → Z3A zl zu b q → a = b := by
 rintro a b q ⟨_, _, _, e1⟩ ⟨_, _, _, e2⟩
 have e := e1.symm.trans e2
 exact Z3Z (Z9s (congrArg (fun q : Res => pC ((pT (pA q.1)).getD 0 .junk)) e)) (Z3Z (congrArg (fun q : Res => pB ((pT (pA q.1)).getD 1 .junk)) e) (Z3Z (congrArg (fun q : Res => pI (pA (cellAt q 0 1))) e) (Z3Z (congrArg (fun q : Res => pI (pA (cellAt q 0 2))) e) (Z3Z (congrArg (fun q : Res => pI (pA (cellAt q 0 3))) e) (Z3Z (Z5h Zee (congrArg (fun q : Res => pL (pA (cellAt q 0 4))) e)) (Z3Z (congrArg (fun q : Res => pI (pA (cellAt q 0 5))) e) (congrArg (fun q : Res => pI (pA (cellAt q 0 6))) e)))))))
abbrev Z48 (zl : List Int) (z7 zd : Int) (zh : List Zz) (zu zb : Own) : (Int × Int × Int × Int × Int) → Res → Prop := fun r q => ∃ (ex : List Row), q = ((.p (.tup [(.v (.int .i64 r.1)), (.v (.int .i64 r.2.1))])), [(ZY zl r.2.2.1 z7 zd zh r.2.2.2.1 r.2.2.2.2 zu zb)] ++ ex)
theorem Znv (zl : List Int) (z7 zd : Int) (zh : List Zz) (zu zb : Own) : ∀ a b q, Z48 zl z7 zd zh zu zb a q → Z48 zl z7 zd zh zu zb b q → a = b := by
 rintro a b q ⟨_, e1⟩ ⟨_, e2⟩
 have e := e1.symm.trans e2
 exact Z3Z (congrArg (fun q : Res => pI ((pT (pA q.1)).getD 0 .junk)) e) (Z3Z (congrArg (fun q : Res => pI ((pT (pA q.1)).getD 1 .junk)) e) (Z3Z (congrArg (fun q : Res => pI (pA (cellAt q 0 1))) e) (Z3Z (congrArg (fun q : Res => pI (pA (cellAt q 0 5))) e) (congrArg (fun q : Res => pI (pA (cellAt q 0 6))) e))))
abbrev Z3h (zl : List Int) (zu : Own) : (Zj × Int × Int × Int × (List Zz) × Int × Int) → Res → Prop := fun r q => ∃ (p0_4 : Own) (ex : List Row), ZW p0_4 = true ∧ q = ((pA_ (ZQ r.1 .sh .sh)), [(ZY zl r.2.1 r.2.2.1 r.2.2.2.1 r.2.2.2.2.1 r.2.2.2.2.2.1 r.2.2.2.2.2.2 zu p0_4)] ++ ex)
theorem Zb2 (zl : List Int) (zu : Own) : ∀ a b q, Z3h zl zu a q → Z3h zl zu b q → a = b := by
 rintro a b q ⟨_, _, _, e1⟩ ⟨_, _, _, e2⟩
 have e := e1.symm.trans e2
 exact Z3Z (Z9s (congrArg (fun q : Res => pC (pA q.1)) e)) (Z3Z (congrArg (fun q : Res => pI (pA (cellAt q 0 1))) e) (Z3Z (congrArg (fun q : Res => pI (pA (cellAt q 0 2))) e) (Z3Z (congrArg (fun q : Res => pI (pA (cellAt q 0 3))) e) (Z3Z (Z5h Zee (congrArg (fun q : Res => pL (pA (cellAt q 0 4))) e)) (Z3Z (congrArg (fun q : Res => pI (pA (cellAt q 0 5))) e) (congrArg (fun q : Res => pI (pA (cellAt q 0 6))) e))))))
abbrev Z5i : (Z1Q × Z1p) → Res → Prop := fun r q => ∃ (ex : List Row), q = ((.p (.tup [(.agg (Z4k r.1 .sh .sh)), (.agg (Z6B r.2))])), ex)
theorem Zo2 : ∀ a b q, Z5i a q → Z5i b q → a = b := by
 rintro a b q ⟨_, e1⟩ ⟨_, e2⟩
 have e := e1.symm.trans e2
 exact Z3Z (Zqq (congrArg (fun q : Res => pC ((pT (pA q.1)).getD 0 .junk)) e)) (Zsr (congrArg (fun q : Res => pC ((pT (pA q.1)).getD 1 .junk)) e))
abbrev Z3W : Z10 → Res → Prop := fun r q => ∃ (ex : List Row), q = ((pA_ (Z1M r)), ex)
theorem ZeI : ∀ a b q, Z3W a q → Z3W b q → a = b := by
 rintro a b q ⟨_, e1⟩ ⟨_, e2⟩
 have e := e1.symm.trans e2
 exact ZcS (congrArg (fun q : Res => pC (pA q.1)) e)
abbrev Z9T : (ZD × Z10) → Res → Prop := fun r q => ∃ (ex : List Row), q = ((.p (.tup [(.agg (Z1q r.1 .sh)), (.agg (Z1M r.2))])), ex)
theorem Zso : ∀ a b q, Z9T a q → Z9T b q → a = b := by
 rintro a b q ⟨_, e1⟩ ⟨_, e2⟩
 have e := e1.symm.trans e2
 exact Z3Z (ZcE (congrArg (fun q : Res => pC ((pT (pA q.1)).getD 0 .junk)) e)) (ZcS (congrArg (fun q : Res => pC ((pT (pA q.1)).getD 1 .junk)) e))
abbrev Z5S (z1W : Int) (zV : List (Int × Z19)) : (Z1k × (List ZD)) → Res → Prop := fun r q => ∃ (p0_0 : Own) (ex : List Row), ZW p0_0 = true ∧ q = ((pA_ (Z2e r.1)), [[(ZM p0_0 (r.2.map ZL)), (.mp 1), (iv z1W)], (rM_ ZF zV)] ++ ex)
theorem ZiT (z1W : Int) (zV : List (Int × Z19)) : ∀ a b q, Z5S z1W zV a q → Z5S z1W zV b q → a = b := by
 rintro a b q ⟨_, _, _, e1⟩ ⟨_, _, _, e2⟩
 have e := e1.symm.trans e2
 exact Z3Z (ZcR (congrArg (fun q : Res => pC (pA q.1)) e)) (Z5h Zj1 (congrArg (fun q : Res => pL (pA (cellAt q 0 0))) e))
abbrev Z4I : (Z1k × Int × (List ZD) × Int × (List (Int × Z19))) → Res → Prop := fun r q => ∃ (p0_0 : Own) (ex : List Row), ZW p0_0 = true ∧ q = ((.p (.tup [(.agg (Z2e r.1)), (.v (.int .i64 r.2.1))])), [[(ZM p0_0 (r.2.2.1.map ZL)), (.mp 1), (iv r.2.2.2.1)], (rM_ ZF r.2.2.2.2)] ++ ex)
theorem ZkU : ∀ a b q, Z4I a q → Z4I b q → a = b := by
 rintro a b q ⟨_, _, _, e1⟩ ⟨_, _, _, e2⟩
 have e := e1.symm.trans e2
 exact Z3Z (ZcR (congrArg (fun q : Res => pC ((pT (pA q.1)).getD 0 .junk)) e)) (Z3Z (congrArg (fun q : Res => pI ((pT (pA q.1)).getD 1 .junk)) e) (Z3Z (Z5h Zj1 (congrArg (fun q : Res => pL (pA (cellAt q 0 0))) e)) (Z3Z (congrArg (fun q : Res => pI (pA (cellAt q 0 2))) e) (Z5h (Zk5 ZjP) (congrArg (fun q : Res => pM (cellAt q 1 0)) e)))))
abbrev Z7c (zP : List ZD) (z1W : Int) (zV : List (Int × Z19)) (z1E : Own) : Int → Res → Prop := fun r q => ∃ (ex : List Row), q = ((iv r), [[(ZM z1E (zP.map ZL)), (.mp 1), (iv z1W)], (rM_ ZF zV)] ++ ex)
theorem ZiB (zP : List ZD) (z1W : Int) (zV : List (Int × Z19)) (z1E : Own) : ∀ a b q, Z7c zP z1W zV z1E a q → Z7c zP z1W zV z1E b q → a = b := by
 rintro a b q ⟨_, e1⟩ ⟨_, e2⟩
 have e := e1.symm.trans e2
 exact congrArg (fun q : Res => pI (pA q.1)) e
abbrev ZeH : (List ZA) → Res → Prop := fun r q => ∃ (ex : List Row), q = ((ZM .sh (r.map ZE)), ex)
theorem Zp1 : ∀ a b q, ZeH a q → ZeH b q → a = b := by
 rintro a b q ⟨_, e1⟩ ⟨_, e2⟩
 have e := e1.symm.trans e2
 exact Z5h Zef (congrArg (fun q : Res => pL (pA q.1)) e)
abbrev Z5H (zP : List ZD) (z1W : Int) (zV : List (Int × Z19)) (z1E : Own) : (ZD × Bool) → Res → Prop := fun r q => ∃ (ex : List Row), q = ((.p (.tup [(.agg (Z1q r.1 .sh)), (.v (.bool r.2))])), [[(ZM z1E (zP.map ZL)), (.mp 1), (iv z1W)], (rM_ ZF zV)] ++ ex)
theorem ZkV (zP : List ZD) (z1W : Int) (zV : List (Int × Z19)) (z1E : Own) : ∀ a b q, Z5H zP z1W zV z1E a q → Z5H zP z1W zV z1E b q → a = b := by
 rintro a b q ⟨_, e1⟩ ⟨_, e2⟩
 have e := e1.symm.trans e2
 exact Z3Z (ZcE (congrArg (fun q : Res => pC ((pT (pA q.1)).getD 0 .junk)) e)) (congrArg (fun q : Res => pB ((pT (pA q.1)).getD 1 .junk)) e)
abbrev Z67 : ZU → Res → Prop := fun r q => ∃ (ex : List Row), q = ((pA_ (Z34 r .sh)), ex)
theorem ZiS : ∀ a b q, Z67 a q → Z67 b q → a = b := by
 rintro a b q ⟨_, e1⟩ ⟨_, e2⟩
 have e := e1.symm.trans e2
 exact ZmN (congrArg (fun q : Res => pC (pA q.1)) e)
def Z9W (x0 : List Z16) : Option Bool := pick fun r => ∀ (ox0 : Own), RRun ZZ (EE 9 [(ZM ox0 (x0.map Z2a))] []) r
def ZiD x0 ox0 r (h : Z9W x0 = some r) := Z1g h ox0
def Zad : Option Bool := pick fun r => RRun ZZ (EE 29 [] []) r
def Zm8 r (h : Zad = some r) := Z1g h
def Zer : Option ((List (Int × Z19)) × (List ZD) × Int) := pick fun r => RRun Zhx (EE 32 [] []) r
def ZmX r (h : Zer = some r) := Z1g h
def Zja : Option ZD := pick fun r => RRun ZiU (EE 43 [] []) r
def Zxi r (h : Zja = some r) := Z1g h
def Z6I (x0 x1 x2 : Int) (x3 : ByteArray) : Option Z16 := pick fun r => RRun ZbZ (EE 55 [(iv x0), (iv x1), (iv x2), (.p (.v (.string x3)))] []) r
def ZcW x0 x1 x2 x3 r (h : Z6I x0 x1 x2 x3 = some r) := Z1g h
def Z4e (x1 : Z16) (zP : List ZD) (z1W : Int) (zV : List (Int × Z19)) : Option (Z1k × Int × (List ZD) × Int × (List (Int × Z19))) := pick fun r => ∀ (z4U z4x z1E : Own) (z3F : ZW z1E = true), RRun Z4I (EE 33 [(.ptr 0 0), (pA_ (Z4m x1 z4U z4x))] [[(ZM z1E (zP.map ZL)), (.mp 1), (iv z1W)], (rM_ ZF zV)]) r
def Z7J x1 zP z1W zV z4U z4x z1E z3F r (h : Z4e x1 zP z1W zV = some r) := Z1g h z4U z4x z1E z3F
def ZcJ (x0 : Z16) : Option Bool := pick fun r => ∀ (z1z z1r : Own), RRun ZZ (EE 31 [(pA_ (Z4m x0 z1z z1r))] []) r
def ZpC x0 z1z z1r r (h : ZcJ x0 = some r) := Z1g h z1z z1r
def Z6n (x0 x1 : Int) : Option Bool := pick fun r => RRun ZZ (EE 56 [(iv x0), (iv x1)] []) r
def Z7w x0 x1 r (h : Z6n x0 x1 = some r) := Z1g h
def Z6Y (x0 : List ZA) : Option Bool := pick fun r => ∀ (ox0 : Own), RRun ZZ (EE 57 [(ZM ox0 (x0.map ZE)), (.clo 58 [] [])] []) r
def Zhd x0 ox0 r (h : Z6Y x0 = some r) := Z1g h ox0
def Z87 (x0 : List ZA) : Option Int := pick fun r => ∀ (ox0 : Own), RRun ZN (EE 83 [(ZM ox0 (x0.map ZE)), (.clo 58 [] [])] []) r
def Zjk x0 ox0 r (h : Z87 x0 = some r) := Z1g h ox0
def Z5z (x0 : List ZA) (x7 x8 : Int) : Option Int := pick fun r => ∀ (ox0 : Own), RRun ZN (Zj3 0 (ZM ox0 (x0.map ZE)) (.clo 58 [] []) (iv x7) (iv x8) []) r
def Zbl x0 x7 x8 ox0 r (h : Z5z x0 x7 x8 = some r) := Z1g h ox0
def Zba (x0 : ZA) : Option Bool := pick fun r => RRun ZZ (EE 58 [(pA_ (Z1Y x0))] []) r
def ZnF x0 r (h : Zba x0 = some r) := Z1g h
def Z9v (x0 : ZA) : Option Bool := pick fun r => RRun ZZ (EE 27 [(pA_ (Z1Y x0))] []) r
def Zei x0 r (h : Z9v x0 = some r) := Z1g h
def Z7n (x0 : List Int) : Option Bool := pick fun r => ∀ (ox0 : Own), RRun ZZ (EE 59 [(ZM ox0 (x0.map (eI .i64))), (.clo 60 [] [])] []) r
def Zi3 x0 ox0 r (h : Z7n x0 = some r) := Z1g h ox0
def Z8p (x0 : List Int) : Option Int := pick fun r => ∀ (ox0 : Own), RRun ZN (EE 84 [(ZM ox0 (x0.map (eI .i64))), (.clo 60 [] [])] []) r
def ZjN x0 ox0 r (h : Z8p x0 = some r) := Z1g h ox0
def Z5O (x0 : List Int) (x7 x8 : Int) : Option Int := pick fun r => ∀ (ox0 : Own), RRun ZN (ZmV 0 (ZM ox0 (x0.map (eI .i64))) (.clo 60 [] []) (iv x7) (iv x8) []) r
def ZbQ x0 x7 x8 ox0 r (h : Z5O x0 x7 x8 = some r) := Z1g h ox0
def Zbb (x0 : Int) : Option Bool := pick fun r => RRun ZZ (EE 60 [(iv x0)] []) r
def ZnH x0 r (h : Zbb x0 = some r) := Z1g h
def Z7K (x1 : Z1i) (zP : List ZD) : Option (Z1k × (List ZD)) := pick fun r => ∀ (z1W : Int) (zV : List (Int × Z19)) (z2N z2t z1E : Own) (z3F : ZW z1E = true), RRun (Z5S z1W zV) (EE 61 [(.ptr 0 0), (pA_ (Z4A x1 z2N z2t))] [[(ZM z1E (zP.map ZL)), (.mp 1), (iv z1W)], (rM_ ZF zV)]) r
def ZiI x1 zP z1W zV z2N z2t z1E z3F r (h : Z7K x1 zP = some r) := Z1g h z1W zV z2N z2t z1E z3F
def ZbR (x0 : ZD) (x1 : Z1i) : Option (ZD × Z10) := pick fun r => ∀ (z1b z2N z2t : Own), RRun Z9T (EE 23 [(pA_ (Z1q x0 z1b)), (pA_ (Z4A x1 z2N z2t))] []) r
def Zk3 x0 x1 z1b z2N z2t r (h : ZbR x0 x1 = some r) := Z1g h z1b z2N z2t
def Zfp (x0 : ZD) (x1 : Z1i) : Option (ZD × Int) := pick fun r => ∀ (z1b z2N z2t : Own), RRun Z2U (EE 22 [(pA_ (Z1q x0 z1b)), (pA_ (Z4A x1 z2N z2t))] []) r
def Zxg x0 x1 z1b z2N z2t r (h : Zfp x0 x1 = some r) := Z1g h z1b z2N z2t
def ZbN (x0 : ZD) : Option Bool := pick fun r => ∀ (z1b : Own), RRun ZZ (EE 20 [(pA_ (Z1q x0 z1b))] []) r
def Zk0 x0 z1b r (h : ZbN x0 = some r) := Z1g h z1b
def Z9P (x0 : ZD) : Option Bool := pick fun r => ∀ (z1b : Own), RRun ZZ (EE 46 [(pA_ (Z1q x0 z1b))] []) r
def Zh8 x0 z1b r (h : Z9P x0 = some r) := Z1g h z1b
def Z9O (x3 : Int) (x16 : List ZA) (x17 x18 : Int) : Option Bool := pick fun r => ∀ (ox16 : Own), RRun ZZ (Zsx 0 (iv x3) (ZM ox16 (x16.map ZE)) (iv x17) (iv x18) []) r
def Zh7 x3 x16 x17 x18 ox16 r (h : Z9O x3 x16 x17 x18 = some r) := Z1g h ox16
def ZhK (x1 z1K : Int) : Option Int := pick fun r => ∀ (z1S z2i z1X : Int) (z1U : List ZA) (zC : Own), RRun (Zhz z1S z2i z1X z1U zC) (EE 49 [(.ptr 0 0), (iv x1)] [(Z2H z1K z1S z2i z1X z1U zC)]) r
def ZvD x1 z1K z1S z2i z1X z1U zC r (h : ZhK x1 z1K = some r) := Z1g h z1S z2i z1X z1U zC
def Zdp (x1 z1S : Int) : Option Int := pick fun r => ∀ (z1K z2i z1X : Int) (z1U : List ZA) (zC : Own), RRun (Zdb z1K z2i z1X z1U zC) (EE 49 [(.ptr 0 1), (iv x1)] [(Z2H z1K z1S z2i z1X z1U zC)]) r
def Zrf x1 z1K z1S z2i z1X z1U zC r (h : Zdp x1 z1S = some r) := Z1g h z1K z2i z1X z1U zC
def Zdo (x1 z2i : Int) : Option Int := pick fun r => ∀ (z1K z1S z1X : Int) (z1U : List ZA) (zC : Own), RRun (Zda z1K z1S z1X z1U zC) (EE 49 [(.ptr 0 2), (iv x1)] [(Z2H z1K z1S z2i z1X z1U zC)]) r
def Zrd x1 z1K z1S z2i z1X z1U zC r (h : Zdo x1 z2i = some r) := Z1g h z1K z1S z1X z1U zC
def Zdn (x1 z1X : Int) : Option Int := pick fun r => ∀ (z1K z1S z2i : Int) (z1U : List ZA) (zC : Own), RRun (Zd9 z1K z1S z2i z1U zC) (EE 49 [(.ptr 0 3), (iv x1)] [(Z2H z1K z1S z2i z1X z1U zC)]) r
def Zrb x1 z1K z1S z2i z1X z1U zC r (h : Zdn x1 z1X = some r) := Z1g h z1K z1S z2i z1U zC
def Zcg (x0 : List ZA) : Option Bool := pick fun r => ∀ (ox0 : Own), RRun ZZ (EE 50 [(ZM ox0 (x0.map ZE)), (.clo 27 [] [])] []) r
def ZoI x0 ox0 r (h : Zcg x0 = some r) := Z1g h ox0
def Z6Z (x0 : List ZA) : Option Bool := pick fun r => ∀ (ox0 : Own), RRun Z72 (EE 57 [(ZM ox0 (x0.map ZE)), (.clo 73 [] [(.ptr 0 0)])] [[(.clo 27 [] [])]]) r
def Zhf x0 ox0 r (h : Z6Z x0 = some r) := Z1g h ox0
def Z88 (x0 : List ZA) : Option Int := pick fun r => ∀ (ox0 : Own), RRun Z3t (EE 83 [(ZM ox0 (x0.map ZE)), (.clo 73 [] [(.ptr 0 0)])] [[(.clo 27 [] [])]]) r
def Zjm x0 ox0 r (h : Z88 x0 = some r) := Z1g h ox0
def Z5A (x0 : List ZA) (x7 x8 : Int) : Option Int := pick fun r => ∀ (ox0 : Own), RRun Z3t (Zj3 1 (ZM ox0 (x0.map ZE)) (.clo 73 [] [(.ptr 0 0)]) (iv x7) (iv x8) [[(.clo 27 [] [])]]) r
def Zbm x0 x7 x8 ox0 r (h : Z5A x0 x7 x8 = some r) := Z1g h ox0
def Z8U (x0 : ZA) : Option Bool := pick fun r => RRun Z72 (EE 73 [(pA_ (Z1Y x0)), (.ptr 0 0)] [[(.clo 27 [] [])]]) r
def Znc x0 r (h : Z8U x0 = some r) := Z1g h
def ZcL (x0 : Z1i) : Option Bool := pick fun r => ∀ (z8d z6J : Own), RRun ZZ (EE 51 [(pA_ (Z4A x0 z8d z6J))] []) r
def ZpK x0 z8d z6J r (h : ZcL x0 = some r) := Z1g h z8d z6J
def Z70 (x0 : List ZA) (z1l : List (Int × Bool)) : Option (Bool × (List (Int × Bool))) := pick fun r => ∀ (ox0 : Own), RRun Z5W (EE 57 [(ZM ox0 (x0.map ZE)), (.clo 75 [] [(.ptr 0 0)])] [[(.clo 74 [] [(.ptr 1 0)])], [(.mp 2)], (rM_ eB z1l)]) r
def Zhh x0 z1l ox0 r (h : Z70 x0 z1l = some r) := Z1g h ox0
def Z89 (x0 : List ZA) (z1l : List (Int × Bool)) : Option (Int × (List (Int × Bool))) := pick fun r => ∀ (ox0 : Own), RRun Z3u (EE 83 [(ZM ox0 (x0.map ZE)), (.clo 75 [] [(.ptr 0 0)])] [[(.clo 74 [] [(.ptr 1 0)])], [(.mp 2)], (rM_ eB z1l)]) r
def Zjo x0 z1l ox0 r (h : Z89 x0 z1l = some r) := Z1g h ox0
def Z5B (x0 : List ZA) (x7 x8 : Int) (z1l : List (Int × Bool)) : Option (Int × (List (Int × Bool))) := pick fun r => ∀ (ox0 : Own), RRun Z3u (Zj3 3 (ZM ox0 (x0.map ZE)) (.clo 75 [] [(.ptr 0 0)]) (iv x7) (iv x8) [[(.clo 74 [] [(.ptr 1 0)])], [(.mp 2)], (rM_ eB z1l)]) r
def Zbn x0 x7 x8 z1l ox0 r (h : Z5B x0 x7 x8 z1l = some r) := Z1g h ox0
def Z9n (x0 : ZA) (z1l : List (Int × Bool)) : Option (Bool × (List (Int × Bool))) := pick fun r => RRun Z5W (EE 75 [(pA_ (Z1Y x0)), (.ptr 0 0)] [[(.clo 74 [] [(.ptr 1 0)])], [(.mp 2)], (rM_ eB z1l)]) r
def Zlh x0 z1l r (h : Z9n x0 z1l = some r) := Z1g h
def Z7x (x0 : Int) (zV : List (Int × Bool)) : Option (Bool × (List (Int × Bool))) := pick fun r => RRun Z5V (EE 74 [(iv x0), (.ptr 0 0)] [[(.mp 1)], (rM_ eB zV)]) r
def ZdO x0 zV r (h : Z7x x0 zV = some r) := Z1g h
def Z7m (x0 : List Int) (zV : List (Int × Bool)) : Option (Bool × (List (Int × Bool))) := pick fun r => ∀ (ox0 : Own), RRun Z5V (EE 59 [(ZM ox0 (x0.map (eI .i64))), (.clo 74 [] [(.ptr 0 0)])] [[(.mp 1)], (rM_ eB zV)]) r
def Zi1 x0 zV ox0 r (h : Z7m x0 zV = some r) := Z1g h ox0
def Z8o (x0 : List Int) (zV : List (Int × Bool)) : Option (Int × (List (Int × Bool))) := pick fun r => ∀ (ox0 : Own), RRun Z3B (EE 84 [(ZM ox0 (x0.map (eI .i64))), (.clo 74 [] [(.ptr 0 0)])] [[(.mp 1)], (rM_ eB zV)]) r
def ZjL x0 zV ox0 r (h : Z8o x0 zV = some r) := Z1g h ox0
def Z5N (x0 : List Int) (x7 x8 : Int) (zV : List (Int × Bool)) : Option (Int × (List (Int × Bool))) := pick fun r => ∀ (ox0 : Own), RRun Z3B (ZmV 2 (ZM ox0 (x0.map (eI .i64))) (.clo 74 [] [(.ptr 0 0)]) (iv x7) (iv x8) [[(.mp 1)], (rM_ eB zV)]) r
def ZbP x0 x7 x8 zV ox0 r (h : Z5N x0 x7 x8 zV = some r) := Z1g h ox0
def ZbJ (x54 : List ZA) (x55 x56 : Int) (b1 : Z1i) (zJ zT z11 zX : Int) (z1C : List (Int × ZA)) : Option (ZD × Int) := pick fun r => ∀ (b0 b2 : ZD) (z1d : List ZA) (ox54 zC z18 z13 zK z12 : Own) (z1s : ZW zK = true), RRun Z2U (Zpl 0 (.ptr 1 0) (.ptr 2 0) (.ptr 3 0) (.mp 4) (ZM ox54 (x54.map ZE)) (iv x55) (iv x56) [(Zw b0 zC), (ZI b1 z18 z13), (Zw b2 zK), (Z2H zJ zT z11 zX z1d z12), (rM_ ZE z1C)]) r
def ZjS x54 x55 x56 b0 b1 b2 zJ zT z11 zX z1d z1C ox54 zC z18 z13 zK z12 z1s r (h : ZbJ x54 x55 x56 b1 zJ zT z11 zX z1C = some r) := Z1g h b0 b2 z1d ox54 zC z18 z13 zK z12 z1s
def ZbK (x66 : List Int) (x67 x68 : Int) (b1 : Z1i) (zJ zT z11 zX : Int) (z1C : List (Int × ZA)) : Option (ZD × Int) := pick fun r => ∀ (b0 b2 : ZD) (z1d : List ZA) (ox66 zC z18 z13 zK z12 : Own) (z1s : ZW zK = true), RRun Z2U (Zpm 0 (.ptr 1 0) (.ptr 2 0) (.ptr 3 0) (.mp 4) (ZM ox66 (x66.map (eI .i64))) (iv x67) (iv x68) [(Zw b0 zC), (ZI b1 z18 z13), (Zw b2 zK), (Z2H zJ zT z11 zX z1d z12), (rM_ ZE z1C)]) r
def ZjU x66 x67 x68 b0 b1 b2 zJ zT z11 zX z1d z1C ox66 zC z18 z13 zK z12 z1s r (h : ZbK x66 x67 x68 b1 zJ zT z11 zX z1C = some r) := Z1g h b0 b2 z1d ox66 zC z18 z13 zK z12 z1s
def ZbL (x85 : List ZA) (x86 x87 zJ zT z11 zX : Int) (z1C : List (Int × ZA)) : Option (ZD × Int) := pick fun r => ∀ (b0 : ZD) (b1 : Z1i) (b2 : ZD) (z1d : List ZA) (ox85 zC z18 z13 zK z12 : Own) (z1s : ZW zK = true), RRun Z2U (Zpn 0 (.ptr 2 0) (.ptr 3 0) (.mp 4) (ZM ox85 (x85.map ZE)) (iv x86) (iv x87) [(Zw b0 zC), (ZI b1 z18 z13), (Zw b2 zK), (Z2H zJ zT z11 zX z1d z12), (rM_ ZE z1C)]) r
def ZjW x85 x86 x87 b0 b1 b2 zJ zT z11 zX z1d z1C ox85 zC z18 z13 zK z12 z1s r (h : ZbL x85 x86 x87 zJ zT z11 zX z1C = some r) := Z1g h b0 b1 b2 z1d ox85 zC z18 z13 zK z12 z1s
def Zb9 : Option Unit := pick fun r => ∀ (zP : List (Int × ZA)), RRun (Zb1 zP) (EE 53 [(.mp 0)] [(rM_ ZE zP)]) r
def ZnD zP r (h : Zb9 = some r) := Z1g h zP
def Zcj (zV : List (Int × ZA)) : Option (List Int) := pick fun r => RRun (Zch zV) (EE 52 [(.clo 78 [] [(.ptr 0 0)])] [[(.mp 1)], (rM_ ZE zV)]) r
def ZlL zV r (h : Zcj zV = some r) := Z1g h
def ZbM (x103 : List Int) (x104 x105 zJ zT z11 zX : Int) (z1d : List ZA) (z1C : List (Int × ZA)) : Option (ZD × Int) := pick fun r => ∀ (b0 : ZD) (b1 : Z1i) (b2 : ZD) (ox103 zC z18 z13 zK z12 : Own) (z1s : ZW zK = true) (zaf : ZW z12 = true), RRun Z2U (Zpo 0 (.ptr 2 0) (.ptr 3 0) (.mp 4) (ZM ox103 (x103.map (eI .i64))) (iv x104) (iv x105) [(Zw b0 zC), (ZI b1 z18 z13), (Zw b2 zK), (Z2H zJ zT z11 zX z1d z12), (rM_ ZE z1C)]) r
def ZjY x103 x104 x105 b0 b1 b2 zJ zT z11 zX z1d z1C ox103 zC z18 z13 zK z12 z1s zaf r (h : ZbM x103 x104 x105 zJ zT z11 zX z1d z1C = some r) := Z1g h b0 b1 b2 ox103 zC z18 z13 zK z12 z1s zaf
def ZcM (x0 : ZD) : Option Z10 := pick fun r => ∀ (z1b : Own), RRun Z3W (EE 16 [(pA_ (Z1q x0 z1b))] []) r
def Zlp x0 z1b r (h : ZcM x0 = some r) := Z1g h z1b
def Zao (x11 : List ZA) (x12 x13 : Int) : Option Z10 := pick fun r => ∀ (b0 : ZD) (b1 : Z10) (ox11 zC : Own), RRun Z3W (Zsu 0 (.ptr 1 0) (ZM ox11 (x11.map ZE)) (iv x12) (iv x13) [(Zw b0 zC), (Z15 b1)]) r
def Zix x11 x12 x13 b0 b1 ox11 zC r (h : Zao x11 x12 x13 = some r) := Z1g h b0 b1 ox11 zC
def Z6F (x0 : ByteArray) : Option Z10 := pick fun r => RRun Z3W (EE 21 [(.p (.v (.string x0)))] []) r
def Zro x0 r (h : Z6F x0 = some r) := Z1g h
def ZhI (x0 : ByteArray) : Option (Z1Q × Z1p) := pick fun r => RRun Z5i (EE 47 [(.p (.v (.string x0)))] []) r
def Zvv x0 r (h : ZhI x0 = some r) := Z1g h
def Z2p (x1 : ByteArray) (zl : List Int) (zn : Int) : Option (Bool × Int) := pick fun r => ∀ (z7 zd : Int) (zh : List Zz) (z2 z6 : Int) (zu zb : Own) (zy : ZW zb = true), RRun (Z8b zl z7 zd zh z2 z6 zu zb) (EE 68 [(.ptr 0 0), (.p (.v (.string x1)))] [(ZY zl zn z7 zd zh z2 z6 zu zb)]) r
def Z2y x1 zl zn z7 zd zh z2 z6 zu zb zy r (h : Z2p x1 zl zn = some r) := Z1g h z7 zd zh z2 z6 zu zb zy
def Z5w (zl : List Int) (zn z7 zd : Int) (zh : List Zz) (z2 z6 : Int) : Option (Zj × Int × Int × Int × (List Zz) × Int × Int) := pick fun r => ∀ (zu zb : Own) (zy : ZW zb = true), RRun (Z3h zl zu) (EE 69 [(.ptr 0 0)] [(ZY zl zn z7 zd zh z2 z6 zu zb)]) r
def Zir zl zn z7 zd zh z2 z6 zu zb zy r (h : Z5w zl zn z7 zd zh z2 z6 = some r) := Z1g h zu zb zy
def Z8R (zl : List Int) (zn z7 zd : Int) (zh : List Zz) (z2 z6 : Int) : Option (Zj × Int × Int × Int × (List Zz) × Int × Int) := pick fun r => ∀ (zu zb : Own) (zy : ZW zb = true), RRun (Z3h zl zu) (EE 91 [(.ptr 0 0)] [(ZY zl zn z7 zd zh z2 z6 zu zb)]) r
def Zit zl zn z7 zd zh z2 z6 zu zb zy r (h : Z8R zl zn z7 zd zh z2 z6 = some r) := Z1g h zu zb zy
def Z78 (x3 : List Zj) (zl : List Int) (zn z7 zd : Int) (zh : List Zz) (z2 z6 : Int) : Option (Zj × Int × Int × Int × (List Zz) × Int × Int) := pick fun r => ∀ (b1 : Zj) (ox3 zu zb zO zH : Own) (hox3 : ZW ox3 = true) (zy : ZW zb = true) (z1u : ZW zO = true) (z1j : ZW zH = true), RRun (Z3h zl zu) (ZsQ 1 (.ptr 0 0) (.ptr 1 0) (ZM ox3 (x3.map Z14)) [(ZY zl zn z7 zd zh z2 z6 zu zb), (Zv b1 zO zH)]) r
def Zfi x3 zl zn z7 zd zh z2 z6 b1 ox3 zu zb zO zH hox3 zy z1u z1j r (h : Z78 x3 zl zn z7 zd zh z2 z6 = some r) := Z1g h b1 ox3 zu zb zO zH hox3 zy z1u z1j
def Z3p (b0 : Z2c) : Option Int := pick fun r => ∀ (zu zb : Own) (zy : ZW zb = true), RRun (Z9F b0 zu zb) (EE 104 [(.ptr 0 0)] [(Z4V b0 zu zb)]) r
def Z3z b0 zu zb zy r (h : Z3p b0 = some r) := Z1g h zu zb zy
def Zht (x0 : List Int) (x1 : Int) : Option (Int × Int) := pick fun r => ∀ (ox0 : Own), RRun Z49 (EE 126 [(ZM ox0 (x0.map (eI .u8))), (iv x1)] []) r
def ZpX x0 x1 ox0 r (h : Zht x0 x1 = some r) := Z1g h ox0
def Zbe (x0 : List Int) : Option (Int × Int) := pick fun r => ∀ (ox0 : Own), RRun Zb3 (EE 146 [(ZM ox0 (x0.map (eI .u8)))] []) r
def Zkt x0 ox0 r (h : Zbe x0 = some r) := Z1g h ox0
def ZdB (x0 : Int) (x1 : List Zj) : Option Zj := pick fun r => ∀ (ox1 : Own), RRun Z8A (EE 92 [(iv x0), (ZM ox1 (x1.map Z14))] []) r
def ZlV x0 x1 ox1 r (h : ZdB x0 x1 = some r) := Z1g h ox1
def Zcf (zl : List Int) (zn z7 zd : Int) (zh : List Zz) (z2 z6 : Int) : Option (Zj × Bool × Int × Int × Int × (List Zz) × Int × Int) := pick fun r => ∀ (zu zb : Own) (zy : ZW zb = true), RRun (Z3A zl zu) (EE 105 [(.ptr 0 0)] [(ZY zl zn z7 zd zh z2 z6 zu zb)]) r
def Zoz zl zn z7 zd zh z2 z6 zu zb zy r (h : Zcf zl zn z7 zd zh z2 z6 = some r) := Z1g h zu zb zy
def Z4b (zl : List Int) (zn : Int) : Option (Int × Int) := pick fun r => ∀ (z7 zd : Int) (zh : List Zz) (z2 z6 : Int) (zu zb : Own) (zy : ZW zb = true), RRun (Z2R zl z7 zd zh z2 z6 zu zb) (EE 127 [(.ptr 0 0)] [(ZY zl zn z7 zd zh z2 z6 zu zb)]) r
def Z4L zl zn z7 zd zh z2 z6 zu zb zy r (h : Z4b zl zn = some r) := Z1g h z7 zd zh z2 z6 zu zb zy
def Z3d (x0 : Int) : Option Zi := pick fun r => RRun ZkJ (EE 129 [(iv x0)] []) r
def Z31 x0 r (h : Z3d x0 = some r) := Z1g h
def Z58 (x0 : Bool) (x1 : List Zi) : Option Zj := pick fun r => ∀ (ox1 : Own), RRun Z8A (EE 128 [(bv x0), (ZM ox1 (x1.map ZB))] []) r
def Z5o x0 x1 ox1 r (h : Z58 x0 x1 = some r) := Z1g h ox1
def Zj4 (x0 : List Zi) : Option ((List Zi) × Int) := pick fun r => ∀ (ox0 : Own), RRun Z6k (EE 147 [(ZM ox0 (x0.map ZB))] []) r
def Zxb x0 ox0 r (h : Zj4 x0 = some r) := Z1g h ox0
def Z6y (x0 : List Zi) : Option Bool := pick fun r => ∀ (ox0 : Own), RRun ZZ (EE 166 [(ZM ox0 (x0.map ZB)), (.clo 167 [] [])] []) r
def Zgx x0 ox0 r (h : Z6y x0 = some r) := Z1g h ox0
def Z7P (x0 : List Zi) : Option Int := pick fun r => ∀ (ox0 : Own), RRun ZN (EE 179 [(ZM ox0 (x0.map ZB)), (.clo 167 [] [])] []) r
def ZiN x0 ox0 r (h : Z7P x0 = some r) := Z1g h ox0
def Z5f (x0 : List Zi) (x7 x8 : Int) : Option Int := pick fun r => ∀ (ox0 : Own), RRun ZN (Zph 0 (ZM ox0 (x0.map ZB)) (.clo 167 [] []) (iv x7) (iv x8) []) r
def ZaZ x0 x7 x8 ox0 r (h : Z5f x0 x7 x8 = some r) := Z1g h ox0
def ZfU (x0 : Zi) : Option Bool := pick fun r => RRun ZZ (EE 167 [(pA_ (Z1c x0))] []) r
def ZuD x0 r (h : ZfU x0 = some r) := Z1g h
def Z9M (x0 : Zi) : Option Bool := pick fun r => RRun ZZ (EE 168 [(pA_ (Z1c x0))] []) r
def Zh0 x0 r (h : Z9M x0 = some r) := Z1g h
def ZfW (x0 : List Zi) : Option (List Zi) := pick fun r => ∀ (ox0 : Own), RRun Z4O (EE 169 [(ZM ox0 (x0.map ZB))] []) r
def ZlU x0 ox0 r (h : ZfW x0 = some r) := Z1g h ox0
def ZcH (x0 : List Zi) : Option ((List Zi) × Int) := pick fun r => ∀ (ox0 : Own), RRun Z6k (EE 148 [(ZM ox0 (x0.map ZB))] []) r
def Zl5 x0 ox0 r (h : ZcH x0 = some r) := Z1g h ox0
def Z8O (x0 : List Zi) : Option Bool := pick fun r => ∀ (ox0 : Own), RRun ZZ (EE 170 [(ZM ox0 (x0.map ZB))] []) r
def Zdz x0 ox0 r (h : Z8O x0 = some r) := Z1g h ox0
def Z8P (x3 : Int) (x6 : List Zi) (x7 x8 : Int) : Option Bool := pick fun r => ∀ (ox6 : Own), RRun ZZ (Zpe 0 (iv x3) (ZM ox6 (x6.map ZB)) (iv x7) (iv x8) []) r
def Zf5 x3 x6 x7 x8 ox6 r (h : Z8P x3 x6 x7 x8 = some r) := Z1g h ox6
def ZeX (x0 : List Zi) : Option (List Zi) := pick fun r => ∀ (ox0 : Own), RRun Z4O (EE 171 [(ZM ox0 (x0.map ZB))] []) r
def Zt4 x0 ox0 r (h : ZeX x0 = some r) := Z1g h ox0
def Zan (x3 : List Zi) (x4 : Int) (x7 : List Zi) (x8 x9 : Int) : Option (List Zi) := pick fun r => ∀ (ox3 ox7 : Own) (hox3 : ZW ox3 = true), RRun Z4O (Zpf 0 (ZM ox3 (x3.map ZB)) (iv x4) (ZM ox7 (x7.map ZB)) (iv x8) (iv x9) []) r
def Zio x3 x4 x7 x8 x9 ox3 ox7 hox3 r (h : Zan x3 x4 x7 x8 x9 = some r) := Z1g h ox3 ox7 hox3
def Z62 (x1 : Int) (zl : List Int) (zn z7 zd : Int) (zh : List Zz) (z2 z6 : Int) : Option (Zj × Int × (List Zz) × Int × Int) := pick fun r => ∀ (zu zb : Own) (zy : ZW zb = true), RRun (Z5T zl z7 zd zu) (EE 130 [(.ptr 0 0), (iv x1)] [(ZY zl zn z7 zd zh z2 z6 zu zb)]) r
def Zn5 x1 zl zn z7 zd zh z2 z6 zu zb zy r (h : Z62 x1 zl zn z7 zd zh z2 z6 = some r) := Z1g h zu zb zy
def Z1D (x1 x2 : Int) (zl : List Int) (z2 z6 : Int) : Option (Int × Int × Int) := pick fun r => ∀ (zn z7 zd : Int) (zh : List Zz) (zu zb : Own) (zy : ZW zb = true), RRun (Z9E zl z7 zd zh zu zb) (EE 70 [(.ptr 0 0), (iv x1), (iv x2)] [(ZY zl zn z7 zd zh z2 z6 zu zb)]) r
def Z1J x1 x2 zl zn z7 zd zh z2 z6 zu zb zy r (h : Z1D x1 x2 zl z2 z6 = some r) := Z1g h zn z7 zd zh zu zb zy
def Z9u (x0 : Int) : Option (Own × (List Zi)) := pick fun r => RRun ZaN (EE 149 [(iv x0)] []) r
def Zeh x0 r (h : Z9u x0 = some r) := Z1g h
def Z9m (x1 x2 : Int) (zl : List Int) (zn z7 zd : Int) (zh : List Zz) (z2 z6 : Int) : Option (Int × Int × Int × Int) := pick fun r => ∀ (zu zb : Own) (zy : ZW zb = true), RRun (Z7B zl z7 zd zh zu zb) (EE 150 [(.ptr 0 0), (iv x1), (iv x2)] [(ZY zl zn z7 zd zh z2 z6 zu zb)]) r
def Zgn x1 x2 zl zn z7 zd zh z2 z6 zu zb zy r (h : Z9m x1 x2 zl zn z7 zd zh z2 z6 = some r) := Z1g h zu zb zy
def Zh4 (x0 : Int) : Option Int := pick fun r => RRun ZN (EE 172 [(iv x0)] []) r
def ZpG x0 r (h : Zh4 x0 = some r) := Z1g h
def ZcG (x0 : List Zi) (x1 : Int) : Option Bool := pick fun r => ∀ (ox0 : Own), RRun ZZ (EE 173 [(ZM ox0 (x0.map ZB)), (iv x1)] []) r
def Zt0 x0 x1 ox0 r (h : ZcG x0 x1 = some r) := Z1g h ox0
def Z6x (x0 : List Zi) (zP : Int) : Option Bool := pick fun r => ∀ (ox0 : Own), RRun (Z9q zP) (EE 184 [(ZM ox0 (x0.map ZB)), (.clo 185 [] [(.ptr 0 0)])] [[(iv zP)]]) r
def Zgv x0 zP ox0 r (h : Z6x x0 zP = some r) := Z1g h ox0
def Z7O (x0 : List Zi) (zP : Int) : Option Int := pick fun r => ∀ (ox0 : Own), RRun (Z3q zP) (EE 191 [(ZM ox0 (x0.map ZB)), (.clo 185 [] [(.ptr 0 0)])] [[(iv zP)]]) r
def ZiL x0 zP ox0 r (h : Z7O x0 zP = some r) := Z1g h ox0
def Z5e (x0 : List Zi) (x7 x8 zP : Int) : Option Int := pick fun r => ∀ (ox0 : Own), RRun (Z3q zP) (Zpi 1 (ZM ox0 (x0.map ZB)) (.clo 185 [] [(.ptr 0 0)]) (iv x7) (iv x8) [[(iv zP)]]) r
def ZaX x0 x7 x8 zP ox0 r (h : Z5e x0 x7 x8 zP = some r) := Z1g h ox0
def Zdm (x0 : Zi) (zP : Int) : Option Bool := pick fun r => RRun (Z9q zP) (EE 185 [(pA_ (Z1c x0)), (.ptr 0 0)] [[(iv zP)]]) r
def ZqI x0 zP r (h : Zdm x0 zP = some r) := Z1g h
def Zbd (x1 : Int) (zl : List Int) (zn z7 zd : Int) (zh : List Zz) (z2 z6 : Int) : Option (Zj × Int × Int × Int) := pick fun r => ∀ (zu zb : Own) (zy : ZW zb = true), RRun (Z2n zl z7 zd zh zu zb) (EE 131 [(.ptr 0 0), (iv x1)] [(ZY zl zn z7 zd zh z2 z6 zu zb)]) r
def ZnK x1 zl zn z7 zd zh z2 z6 zu zb zy r (h : Zbd x1 zl zn z7 zd zh z2 z6 = some r) := Z1g h zu zb zy
def Z5g (x1 : Int) (x5 : Bool) (x8 : Int) (zl : List Int) (zn z7 zd : Int) (zh : List Zz) (z2 z6 : Int) (z1l : List Zi) : Option (Zj × Int × Int × Int) := pick fun r => ∀ (b1 : Zj) (zu zb zO zH z2D : Own) (zy : ZW zb = true) (z1u : ZW zO = true) (z1j : ZW zH = true), RRun (Z2n zl z7 zd zh zu zb) (Zp8 1 (.ptr 0 0) (iv x1) (.ptr 1 0) (bv x5) (.ptr 2 0) (.clo 151 [] [(.ptr 2 0)]) (iv x8) [(ZY zl zn z7 zd zh z2 z6 zu zb), (Zv b1 zO zH), [(ZM z2D (z1l.map ZB))]]) r
def Zet x1 x5 x8 zl zn z7 zd zh z2 z6 b1 z1l zu zb zO zH z2D zy z1u z1j r (h : Z5g x1 x5 x8 zl zn z7 zd zh z2 z6 z1l = some r) := Z1g h b1 zu zb zO zH z2D zy z1u z1j
def Z79 (zl : List Int) (zn z7 zd : Int) (zh : List Zz) (z2 z6 : Int) : Option (Int × (Own × (List Zi)) × Bool × Int × Int × Int) := pick fun r => ∀ (zu zb : Own) (zy : ZW zb = true), RRun (Z5U zl z7 zd zh zu zb) (EE 153 [(.ptr 0 0)] [(ZY zl zn z7 zd zh z2 z6 zu zb)]) r
def Zfl zl zn z7 zd zh z2 z6 zu zb zy r (h : Z79 zl zn z7 zd zh z2 z6 = some r) := Z1g h zu zb zy
def Z8e (x0 zP : List Zi) : Option (List Zi) := pick fun r => ∀ (ox0 z1E : Own), RRun Za7 (EE 151 [(ZM ox0 (x0.map ZB)), (.ptr 0 0)] [[(ZM z1E (zP.map ZB))]]) r
def ZeY x0 zP ox0 z1E r (h : Z8e x0 zP = some r) := Z1g h ox0 z1E
def ZfV (x0 x1 : List Zi) : Option ((List Zi) × Int) := pick fun r => ∀ (ox0 ox1 : Own), RRun Z6k (EE 152 [(ZM ox0 (x0.map ZB)), (ZM ox1 (x1.map ZB))] []) r
def ZuF x0 x1 ox0 ox1 r (h : ZfV x0 x1 = some r) := Z1g h ox0 ox1
def ZdI (x0 : List (List Zi)) : Option (List Zi) := pick fun r => ∀ (ox0 : Own), RRun Z4O (EE 174 [(ZM ox0 (x0.map (eL ZB)))] []) r
def Znd x0 ox0 r (h : ZdI x0 = some r) := Z1g h ox0
def Z6i (x1 : Int) (zl : List Int) (zn z7 zd : Int) (zh : List Zz) (z2 z6 : Int) : Option (Zj × Bool × Int × Int × Int × (List Zz) × Int × Int) := pick fun r => ∀ (zu zb : Own) (zy : ZW zb = true), RRun (Z3A zl zu) (EE 132 [(.ptr 0 0), (iv x1)] [(ZY zl zn z7 zd zh z2 z6 zu zb)]) r
def ZnM x1 zl zn z7 zd zh z2 z6 zu zb zy r (h : Z6i x1 zl zn z7 zd zh z2 z6 = some r) := Z1g h zu zb zy
def ZhJ : Option (List ByteArray) := pick fun r => RRun Zhy (EE 155 [] []) r
def Zvx r (h : ZhJ = some r) := Z1g h
def Z7o (x0 : List ByteArray) (zl : List Int) (zn : Int) : Option (Int × Int) := pick fun r => ∀ (z7 zd : Int) (zh : List Zz) (z2 z6 : Int) (ox0 zu zb : Own) (zy : ZW zb = true), RRun (Z2R zl z7 zd zh z2 z6 zu zb) (EE 154 [(ZM ox0 (x0.map eS)), (.clo 68 [(.ptr 0 0)] [])] [(ZY zl zn z7 zd zh z2 z6 zu zb)]) r
def Zi9 x0 zl zn z7 zd zh z2 z6 ox0 zu zb zy r (h : Z7o x0 zl zn = some r) := Z1g h z7 zd zh z2 z6 ox0 zu zb zy
def Z33 (x0 : List ByteArray) (x7 x8 : Int) (zl : List Int) (zn : Int) : Option (Int × Int) := pick fun r => ∀ (z7 zd : Int) (zh : List Zz) (z2 z6 : Int) (ox0 zu zb : Own) (zy : ZW zb = true), RRun (Z2R zl z7 zd zh z2 z6 zu zb) (Zpa 1 (ZM ox0 (x0.map eS)) (.clo 68 [(.ptr 0 0)] []) (iv x7) (iv x8) [(ZY zl zn z7 zd zh z2 z6 zu zb)]) r
def ZaK x0 x7 x8 zl zn z7 zd zh z2 z6 ox0 zu zb zy r (h : Z33 x0 x7 x8 zl zn = some r) := Z1g h z7 zd zh z2 z6 ox0 zu zb zy
def Z8T (x1 : Zj) (x2 : Bool) (zl : List Int) (zn z7 zd : Int) (zh : List Zz) (z2 z6 : Int) : Option (Zj × Int × Int × Int) := pick fun r => ∀ (z4p z3N zu zb : Own) (zy : ZW zb = true), RRun (Z2n zl z7 zd zh zu zb) (EE 106 [(.ptr 0 0), (pA_ (ZQ x1 z4p z3N)), (bv x2)] [(ZY zl zn z7 zd zh z2 z6 zu zb)]) r
def Zn9 x1 x2 zl zn z7 zd zh z2 z6 z4p z3N zu zb zy r (h : Z8T x1 x2 zl zn z7 zd zh z2 z6 = some r) := Z1g h z4p z3N zu zb zy
def Z8S (x1 : Int) (zl : List Int) (zn z7 zd : Int) (zh : List Zz) (z2 z6 : Int) : Option (Int × Int × Int × Int × Int) := pick fun r => ∀ (zu zb : Own) (zy : ZW zb = true), RRun (Z48 zl z7 zd zh zu zb) (EE 133 [(.ptr 0 0), (iv x1)] [(ZY zl zn z7 zd zh z2 z6 zu zb)]) r
def Zn3 x1 zl zn z7 zd zh z2 z6 zu zb zy r (h : Z8S x1 zl zn z7 zd zh z2 z6 = some r) := Z1g h zu zb zy
def Z7a (zl : List Int) (zn z7 zd : Int) (zh : List Zz) (z2 z6 : Int) : Option (Int × Int) := pick fun r => ∀ (zu zb : Own) (zy : ZW zb = true), RRun (Z2R zl z7 zd zh z2 z6 zu zb) (EE 156 [(.ptr 0 0)] [(ZY zl zn z7 zd zh z2 z6 zu zb)]) r
def Zfm zl zn z7 zd zh z2 z6 zu zb zy r (h : Z7a zl zn z7 zd zh z2 z6 = some r) := Z1g h zu zb zy
def Z54 (x3 x4 : Int) (zl : List Int) (zn z7 zd : Int) (zh : List Zz) (z2 z6 : Int) : Option (Int × Int) := pick fun r => ∀ (zu zb : Own) (zy : ZW zb = true), RRun (Z2R zl z7 zd zh z2 z6 zu zb) (Zpb 1 (.ptr 0 0) (iv x3) (iv x4) [(ZY zl zn z7 zd zh z2 z6 zu zb)]) r
def ZdN x3 x4 zl zn z7 zd zh z2 z6 zu zb zy r (h : Z54 x3 x4 zl zn z7 zd zh z2 z6 = some r) := Z1g h zu zb zy
def Z77 (x3 : List Zj) (zl : List Int) (zn z7 zd : Int) (zh : List Zz) (z2 z6 : Int) : Option (Zj × Int × Int × Int × (List Zz) × Int × Int) := pick fun r => ∀ (b1 : Zj) (ox3 zu zb zO zH : Own) (hox3 : ZW ox3 = true) (zy : ZW zb = true) (z1u : ZW zO = true) (z1j : ZW zH = true), RRun (Z3h zl zu) (ZsG 1 (.ptr 0 0) (.ptr 1 0) (ZM ox3 (x3.map Z14)) [(ZY zl zn z7 zd zh z2 z6 zu zb), (Zv b1 zO zH)]) r
def Zfg x3 zl zn z7 zd zh z2 z6 b1 ox3 zu zb zO zH hox3 zy z1u z1j r (h : Z77 x3 zl zn z7 zd zh z2 z6 = some r) := Z1g h b1 ox3 zu zb zO zH hox3 zy z1u z1j
def Z9Y (x50 : List Zz) (x51 x52 : Int) (z3R : List Int) (z1A z1h z1F z1n z1H z1G z1o z1v : Int) (z1w : List Zi) (z1m : List Zj) (z2f : Bool) : Option (Z1Q × Z1p) := pick fun r => ∀ (b0 : Z1Q) (b1 : Z1p) (z3J z3m : Int) (z2I : List Zz) (z37 : Int) (ox50 z1O z1I z4D z2s z20 z1V : Own) (z3a : ZW z1O = true) (z2V : ZW z1I = true) (z4M : ZW z2s = true), RRun Z5i (ZsE 0 (.ptr 0 0) (.ptr 1 0) (.ptr 2 0) (.ptr 3 0) (ZM ox50 (x50.map Z3I)) (iv x51) (iv x52) [(Z1t b0 z1O z1I), (Z2b b1), (ZY z3R z3J z1A z3m z2I z1h z1F z4D z2s), (ZbT z1n z1H z1G z1o z1v z1w z1m z37 z2f z20 z1V)]) r
def ZjQ x50 x51 x52 b0 b1 z3R z3J z1A z3m z2I z1h z1F z1n z1H z1G z1o z1v z1w z1m z37 z2f ox50 z1O z1I z4D z2s z20 z1V z3a z2V z4M r (h : Z9Y x50 x51 x52 z3R z1A z1h z1F z1n z1H z1G z1o z1v z1w z1m z2f = some r) := Z1g h b0 b1 z3J z3m z2I z37 ox50 z1O z1I z4D z2s z20 z1V z3a z2V z4M
def ZhL (x0 : Z1Q) : Option Int := pick fun r => ∀ (z5D z4T : Own), RRun ZN (EE 48 [(pA_ (Z4k x0 z5D z4T))] []) r
def ZvF x0 z5D z4T r (h : ZhL x0 = some r) := Z1g h z5D z4T
def Z5x (x0 : Zj) : Option Bool := pick fun r => ∀ (z2M z1Z : Own), RRun ZZ (EE 71 [(pA_ (ZQ x0 z2M z1Z))] []) r
def Zlk x0 z2M z1Z r (h : Z5x x0 = some r) := Z1g h z2M z1Z
def Z4z (x0 : Zj) : Option (Int × Int) := pick fun r => ∀ (z2M z1Z : Own), RRun Z49 (EE 93 [(pA_ (ZQ x0 z2M z1Z))] []) r
def Za2 x0 z2M z1Z r (h : Z4z x0 = some r) := Z1g h z2M z1Z
def ZbO (x2 x3 : Int) (x23 : List Zj) (x24 x25 : Int) : Option (Int × Int) := pick fun r => ∀ (ox23 : Own), RRun Z49 (ZsT 0 (iv x2) (iv x3) (ZM ox23 (x23.map Z14)) (iv x24) (iv x25) []) r
def Zk2 x2 x3 x23 x24 x25 ox23 r (h : ZbO x2 x3 x23 x24 x25 = some r) := Z1g h ox23
def ZaW (x2 x3 : Int) (x45 : List Zj) (x46 x47 : Int) : Option (Int × Int) := pick fun r => ∀ (ox45 : Own), RRun Z49 (Zpu 0 (iv x2) (iv x3) (ZM ox45 (x45.map Z14)) (iv x46) (iv x47) []) r
def Zje x2 x3 x45 x46 x47 ox45 r (h : ZaW x2 x3 x45 x46 x47 = some r) := Z1g h ox45
def Zew (x0 x1 : Int) : Option Int := pick fun r => RRun ZN (EE 108 [(iv x0), (iv x1)] []) r
def ZvK x0 x1 r (h : Zew x0 x1 = some r) := Z1g h
def Zfr (x0 : Int) : Option Int := pick fun r => RRun ZN (EE 134 [(iv x0)] []) r
def Zo6 x0 r (h : Zfr x0 = some r) := Z1g h
def ZkR (x0 x1 : Int) : Option Int := pick fun r => RRun ZN (EE 107 [(iv x0), (iv x1)] []) r
def ZzP x0 x1 r (h : ZkR x0 x1 = some r) := Z1g h
def Z6X (x0 : List Zj) : Option Bool := pick fun r => ∀ (ox0 : Own), RRun ZZ (EE 94 [(ZM ox0 (x0.map Z14)), (.clo 95 [] [])] []) r
def Zhb x0 ox0 r (h : Z6X x0 = some r) := Z1g h ox0
def Z86 (x0 : List Zj) : Option Int := pick fun r => ∀ (ox0 : Own), RRun ZN (EE 109 [(ZM ox0 (x0.map Z14)), (.clo 95 [] [])] []) r
def Zji x0 ox0 r (h : Z86 x0 = some r) := Z1g h ox0
def Z5y (x0 : List Zj) (x7 x8 : Int) : Option Int := pick fun r => ∀ (ox0 : Own), RRun ZN (Zp6 0 (ZM ox0 (x0.map Z14)) (.clo 95 [] []) (iv x7) (iv x8) []) r
def Zbk x0 x7 x8 ox0 r (h : Z5y x0 x7 x8 = some r) := Z1g h ox0
def Zdq (x0 : Zj) : Option Bool := pick fun r => ∀ (z2M z1Z : Own), RRun ZZ (EE 95 [(pA_ (ZQ x0 z2M z1Z))] []) r
def Zrk x0 z2M z1Z r (h : Zdq x0 = some r) := Z1g h z2M z1Z
def Z7y (x0 : Zj) : Option Int := pick fun r => ∀ (z2M z1Z : Own), RRun ZN (EE 72 [(pA_ (ZQ x0 z2M z1Z))] []) r
def Zo5 x0 z2M z1Z r (h : Z7y x0 = some r) := Z1g h z2M z1Z
def Z85 (x3 : Int) (x8 : List Zj) (x9 x10 : Int) (b0 : Zj) : Option Int := pick fun r => ∀ (ox8 z2C z29 : Own), RRun ZN (ZsI 0 (.ptr 0 0) (iv x3) (ZM ox8 (x8.map Z14)) (iv x9) (iv x10) [(Zv b0 z2C z29)]) r
def Zlj x3 x8 x9 x10 b0 ox8 z2C z29 r (h : Z85 x3 x8 x9 x10 b0 = some r) := Z1g h ox8 z2C z29
def Z3g (zP : List ZD) : Option Int := pick fun r => ∀ (z1W : Int) (zV : List (Int × Z19)) (z1E : Own) (z3F : ZW z1E = true), RRun (Z7c zP z1W zV z1E) (EE 35 [(.ptr 0 0)] [[(ZM z1E (zP.map ZL)), (.mp 1), (iv z1W)], (rM_ ZF zV)]) r
def Z4i zP z1W zV z1E z3F r (h : Z3g zP = some r) := Z1g h z1W zV z1E z3F
def Z9D (x0 : List Z16) : Option Bool := pick fun r => ∀ (ox0 : Own), RRun ZZ (EE 30 [(ZM ox0 (x0.map Z2a))] []) r
def ZlH x0 ox0 r (h : Z9D x0 = some r) := Z1g h ox0
def Z5n (x0 x7 : List Z16) (x8 x9 : Int) : Option Bool := pick fun r => ∀ (ox0 ox7 : Own), RRun ZZ (ZsC 0 (ZM ox0 (x0.map Z2a)) (ZM ox7 (x7.map Z2a)) (iv x8) (iv x9) []) r
def Zd3 x0 x7 x8 x9 ox0 ox7 r (h : Z5n x0 x7 x8 x9 = some r) := Z1g h ox0 ox7
def Z6m (x0 x7 : List Z16) (x8 x9 : Int) (x27 : List ZA) (x28 x29 : Int) : Option Bool := pick fun r => ∀ (ox0 ox7 ox27 : Own), RRun ZZ (ZsD 0 (ZM ox0 (x0.map Z2a)) (ZM ox7 (x7.map Z2a)) (iv x8) (iv x9) (ZM ox27 (x27.map ZE)) (iv x28) (iv x29) []) r
def Zd4 x0 x7 x8 x9 x27 x28 x29 ox0 ox7 ox27 r (h : Z6m x0 x7 x8 x9 x27 x28 x29 = some r) := Z1g h ox0 ox7 ox27
def Z5d (x4 : List ZU) (x31 : List Z16) (x32 x33 : Int) (zP : List (Int × Z19)) (zV : List ZD) (z2v : Int) : Option Bool := pick fun r => ∀ (ox4 ox31 z2h : Own) (hox4 : ZW ox4 = true) (z3Q : ZW z2h = true), RRun ZZ (Zx6 0 (.ptr 1 0) (ZM ox4 (x4.map Z2o)) (ZM ox31 (x31.map Z2a)) (iv x32) (iv x33) [(rM_ ZF zP), [(ZM z2h (zV.map ZL)), (.mp 0), (iv z2v)]]) r
def ZaV x4 x31 x32 x33 zP zV z2v ox4 ox31 z2h hox4 z3Q r (h : Z5d x4 x31 x32 x33 zP zV z2v = some r) := Z1g h ox4 ox31 z2h hox4 z3Q
def Z5J (x1 : Int) (zP : List ZD) : Option (ZD × Bool) := pick fun r => ∀ (z1W : Int) (zV : List (Int × Z19)) (z1E : Own) (z3F : ZW z1E = true), RRun (Z5H zP z1W zV z1E) (EE 36 [(.ptr 0 0), (iv x1)] [[(ZM z1E (zP.map ZL)), (.mp 1), (iv z1W)], (rM_ ZF zV)]) r
def Z9X x1 zP z1W zV z1E z3F r (h : Z5J x1 zP = some r) := Z1g h z1W zV z1E z3F
def ZeK (x0 : List ZA) : Option (List ZA) := pick fun r => ∀ (ox0 : Own), RRun ZeH (EE 62 [(ZM ox0 (x0.map ZE))] []) r
def ZoK x0 ox0 r (h : ZeK x0 = some r) := Z1g h ox0
def Z53 (x4 x129 : List ZU) (x130 x131 : Int) (zV : List ZD) : Option Bool := pick fun r => ∀ (zP : List (Int × Z19)) (z2v : Int) (ox4 ox129 z2h : Own) (hox4 : ZW ox4 = true) (z3Q : ZW z2h = true), RRun ZZ (ZsU 0 (.ptr 1 0) (ZM ox4 (x4.map Z2o)) (ZM ox129 (x129.map Z2o)) (iv x130) (iv x131) [(rM_ ZF zP), [(ZM z2h (zV.map ZL)), (.mp 0), (iv z2v)]]) r
def ZaE x4 x129 x130 x131 zP zV z2v ox4 ox129 z2h hox4 z3Q r (h : Z53 x4 x129 x130 x131 zV = some r) := Z1g h zP z2v ox4 ox129 z2h hox4 z3Q
def Z7v (x0 : ZD) : Option ZU := pick fun r => ∀ (z1b : Own), RRun Z67 (EE 19 [(pA_ (Z1q x0 z1b))] []) r
def ZaG x0 z1b r (h : Z7v x0 = some r) := Z1g h z1b
def Z8Q (x16 : List ZA) (x17 x18 z2J z2X z3D z3e : Int) (z3i : List ZA) : Option ZU := pick fun r => ∀ (b0 : ZD) (b1 : ZU) (ox16 zC z2z zK : Own) (zae : ZW z2z = true) (z1s : ZW zK = true), RRun Z67 (Zsw 0 (.ptr 1 0) (.ptr 2 0) (ZM ox16 (x16.map ZE)) (iv x17) (iv x18) [(Zw b0 zC), (Z1y b1 z2z), (Zkv z2J z2X z3D z3e z3i zK)]) r
def Zfe x16 x17 x18 b0 b1 z2J z2X z3D z3e z3i ox16 zC z2z zK zae z1s r (h : Z8Q x16 x17 x18 z2J z2X z3D z3e z3i = some r) := Z1g h b0 b1 ox16 zC z2z zK zae z1s
def ZdG (x0 x1 : ZU) : Option Bool := pick fun r => ∀ (z1b zaq : Own), RRun ZZ (EE 26 [(pA_ (Z34 x0 z1b)), (pA_ (Z34 x1 zaq))] []) r
def Zo4 x0 x1 z1b zaq r (h : ZdG x0 x1 = some r) := Z1g h z1b zaq
def ZcK (x5 : Int) (b0 b1 : ZU) : Option Bool := pick fun r => ∀ (zC z2z : Own), RRun ZZ (ZsA 0 (.ptr 0 0) (.ptr 1 0) (iv x5) [(Z1y b0 zC), (Z1y b1 z2z)]) r
def Zle x5 b0 b1 zC z2z r (h : ZcK x5 b0 b1 = some r) := Z1g h zC z2z
end Go.Proofs.YteoeggbihfnbfaaGreatDoor.N2
end
