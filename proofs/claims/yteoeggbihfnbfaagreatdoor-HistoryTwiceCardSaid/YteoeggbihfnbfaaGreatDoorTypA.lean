/- The functions, read typed: their types, and what they stand for. No condition. -/
import Derived.Test.YteoeggbihfnbfaaGreatDoorSim
import Derived.Test.YteoeggbihfnbfaaGreatDoorEqs

set_option linter.unusedSimpArgs false
set_option linter.unusedVariables false
set_option linter.defProp false
noncomputable section
namespace Go.Proofs.YteoeggbihfnbfaaGreatDoor.N2
open Go Go.Abs
set_option maxRecDepth 100000
theorem gj_ (n : Nat) {l k : List PV} (h : l = k) : l.getD n .junk = k.getD n .junk := congrArg (fun l => l.getD n .junk) h
structure ZA where
 ID : Int
 Priority : Int
 Action : Int
 Scope : Int
 Pattern : ByteArray
 deriving Inhabited
def Z4Z (a : ZA) : List PV := [(eI .i64) a.ID, (eI .i64) a.Priority, (eI .i64) a.Action, (eI .i64) a.Scope, eS a.Pattern]
def ZG (a : ZA) : PV := .agg (Z4Z a)
def Z1Y (a : ZA) : List PV := [(eI .i64) a.ID, (eI .i64) a.Priority, (eI .i64) a.Action, (eI .i64) a.Scope, eS a.Pattern]
def Z1O (a : ZA) : Row := [.p ((eI .i64) a.ID), .p ((eI .i64) a.Priority), .p ((eI .i64) a.Action), .p ((eI .i64) a.Scope), .p (eS a.Pattern)]
theorem ZuX {a b : ZA} (h : Z4Z a = Z4Z b) : a = b := by
 have h0 : a.ID = b.ID := Z46 _ _ (gj_ 0 h)
 have h1 : a.Priority = b.Priority := Z46 _ _ (gj_ 1 h)
 have h2 : a.Action = b.Action := Z46 _ _ (gj_ 2 h)
 have h3 : a.Scope = b.Scope := Z46 _ _ (gj_ 3 h)
 have h4 : a.Pattern = b.Pattern := ZHv _ _ (gj_ 4 h)
 cases a; cases b
 cases h0
 cases h1
 cases h2
 cases h3
 cases h4
 rfl
theorem ZdZ (a b : ZA) (h : ZG a = ZG b) : a = b := ZuX (congrArg pC h)
structure Z1i where
 Default : Int
 Closed : Int
 Fuel : Int
 Stack : Int
 Put : (List ZA)
 Drop : (List Int)
 deriving Inhabited
def Zls (a : Z1i) : List PV := [(eI .i64) a.Default, (eI .i64) a.Closed, (eI .i64) a.Fuel, (eI .i64) a.Stack, (eL ZG) a.Put, (eL (eI .i64)) a.Drop]
def Z4S (a : Z1i) (o0 o1 : Own) : List PV := [(eI .i64) a.Default, (eI .i64) a.Closed, (eI .i64) a.Fuel, (eI .i64) a.Stack, .lst o0 (a.Put.map ZG), .lst o1 (a.Drop.map (eI .i64))]
def ZJ (a : Z1i) (o0 o1 : Own) : Row := [.p ((eI .i64) a.Default), .p ((eI .i64) a.Closed), .p ((eI .i64) a.Fuel), .p ((eI .i64) a.Stack), .p (.lst o0 (a.Put.map ZG)), .p (.lst o1 (a.Drop.map (eI .i64)))]
theorem Zui {a b : Z1i} (h : Zls a = Zls b) : a = b := by
 have h0 : a.Default = b.Default := Z46 _ _ (gj_ 0 h)
 have h1 : a.Closed = b.Closed := Z46 _ _ (gj_ 1 h)
 have h2 : a.Fuel = b.Fuel := Z46 _ _ (gj_ 2 h)
 have h3 : a.Stack = b.Stack := Z46 _ _ (gj_ 3 h)
 have h4 : a.Put = b.Put := (Zsa ZdZ) _ _ (gj_ 4 h)
 have h5 : a.Drop = b.Drop := (Zsa Z46) _ _ (gj_ 5 h)
 cases a; cases b
 cases h0
 cases h1
 cases h2
 cases h3
 cases h4
 cases h5
 rfl
structure Z10 where
 View : Int
 Client : Int
 Request : Int
 Delta : Z1i
 deriving Inhabited
def ZaA (a : Z10) : List PV := [(eI .i64) a.View, (eI .i64) a.Client, (eI .i64) a.Request, (eI .i64) a.Delta.Default, (eI .i64) a.Delta.Closed, (eI .i64) a.Delta.Fuel, (eI .i64) a.Delta.Stack, (eL ZG) a.Delta.Put, (eL (eI .i64)) a.Delta.Drop]
def Z1S (a : Z10) : PV := .agg (ZaA a)
def Z3H (a : Z10) (o0 o1 : Own) : List PV := [(eI .i64) a.View, (eI .i64) a.Client, (eI .i64) a.Request, (eI .i64) a.Delta.Default, (eI .i64) a.Delta.Closed, (eI .i64) a.Delta.Fuel, (eI .i64) a.Delta.Stack, .lst o0 (a.Delta.Put.map ZG), .lst o1 (a.Delta.Drop.map (eI .i64))]
def Z1r (a : Z10) (o0 o1 : Own) : Row := [.p ((eI .i64) a.View), .p ((eI .i64) a.Client), .p ((eI .i64) a.Request), .p ((eI .i64) a.Delta.Default), .p ((eI .i64) a.Delta.Closed), .p ((eI .i64) a.Delta.Fuel), .p ((eI .i64) a.Delta.Stack), .p (.lst o0 (a.Delta.Put.map ZG)), .p (.lst o1 (a.Delta.Drop.map (eI .i64)))]
theorem Zuh {a b : Z10} (h : ZaA a = ZaA b) : a = b := by
 have h0 : a.View = b.View := Z46 _ _ (gj_ 0 h)
 have h1 : a.Client = b.Client := Z46 _ _ (gj_ 1 h)
 have h2 : a.Request = b.Request := Z46 _ _ (gj_ 2 h)
 have h3 : a.Delta = b.Delta := Zui (congrArg (fun l => (l.drop 3).take 6) h)
 cases a; cases b
 cases h0
 cases h1
 cases h2
 cases h3
 rfl
structure ZE where
 Default : Int
 Closed : Int
 Fuel : Int
 Stack : Int
 Rules : (List ZA)
 deriving Inhabited
def ZgD (a : ZE) : List PV := [(eI .i64) a.Default, (eI .i64) a.Closed, (eI .i64) a.Fuel, (eI .i64) a.Stack, (eL ZG) a.Rules]
def ZH (a : ZE) : PV := .agg (ZgD a)
def Z1C (a : ZE) (o0 : Own) : List PV := [(eI .i64) a.Default, (eI .i64) a.Closed, (eI .i64) a.Fuel, (eI .i64) a.Stack, .lst o0 (a.Rules.map ZG)]
def ZB (a : ZE) (o0 : Own) : Row := [.p ((eI .i64) a.Default), .p ((eI .i64) a.Closed), .p ((eI .i64) a.Fuel), .p ((eI .i64) a.Stack), .p (.lst o0 (a.Rules.map ZG))]
theorem Zcs {a b : ZE} (h : ZgD a = ZgD b) : a = b := by
 have h0 : a.Default = b.Default := Z46 _ _ (gj_ 0 h)
 have h1 : a.Closed = b.Closed := Z46 _ _ (gj_ 1 h)
 have h2 : a.Fuel = b.Fuel := Z46 _ _ (gj_ 2 h)
 have h3 : a.Stack = b.Stack := Z46 _ _ (gj_ 3 h)
 have h4 : a.Rules = b.Rules := (Zsa ZdZ) _ _ (gj_ 4 h)
 cases a; cases b
 cases h0
 cases h1
 cases h2
 cases h3
 cases h4
 rfl
theorem ZiP (a b : ZE) (h : ZH a = ZH b) : a = b := Zcs (congrArg pC h)
structure ZY where
 Code : Int
 Rule : Int
 At : Int
 deriving Inhabited
def ZkO (a : ZY) : List PV := [(eI .i64) a.Code, (eI .i64) a.Rule, (eI .i64) a.At]
def Z20 (a : ZY) : List PV := [(eI .i64) a.Code, (eI .i64) a.Rule, (eI .i64) a.At]
def Z1d (a : ZY) : Row := [.p ((eI .i64) a.Code), .p ((eI .i64) a.Rule), .p ((eI .i64) a.At)]
theorem ZcF {a b : ZY} (h : ZkO a = ZkO b) : a = b := by
 have h0 : a.Code = b.Code := Z46 _ _ (gj_ 0 h)
 have h1 : a.Rule = b.Rule := Z46 _ _ (gj_ 1 h)
 have h2 : a.At = b.At := Z46 _ _ (gj_ 2 h)
 cases a; cases b
 cases h0
 cases h1
 cases h2
 rfl
structure Z1m where
 Version : Int
 Verdict : ZY
 deriving Inhabited
def ZkN (a : Z1m) : List PV := [(eI .i64) a.Version, (eI .i64) a.Verdict.Code, (eI .i64) a.Verdict.Rule, (eI .i64) a.Verdict.At]
def Z1Q (a : Z1m) : List PV := [(eI .i64) a.Version, (eI .i64) a.Verdict.Code, (eI .i64) a.Verdict.Rule, (eI .i64) a.Verdict.At]
def ZM (a : Z1m) : Row := [.p ((eI .i64) a.Version), .p ((eI .i64) a.Verdict.Code), .p ((eI .i64) a.Verdict.Rule), .p ((eI .i64) a.Verdict.At)]
theorem ZcE {a b : Z1m} (h : ZkN a = ZkN b) : a = b := by
 have h0 : a.Version = b.Version := Z46 _ _ (gj_ 0 h)
 have h1 : a.Verdict = b.Verdict := ZcF (congrArg (fun l => (l.drop 1).take 3) h)
 cases a; cases b
 cases h0
 cases h1
 rfl
structure Z14 where
 request : Int
 Outcome : Z1m
 deriving Inhabited
def ZiO (a : Z14) : List PV := [(eI .i64) a.request, (eI .i64) a.Outcome.Version, (eI .i64) a.Outcome.Verdict.Code, (eI .i64) a.Outcome.Verdict.Rule, (eI .i64) a.Outcome.Verdict.At]
def ZF (a : Z14) : PV := .agg (ZiO a)
def ZeI (a : Z14) : List PV := [(eI .i64) a.request, (eI .i64) a.Outcome.Version, (eI .i64) a.Outcome.Verdict.Code, (eI .i64) a.Outcome.Verdict.Rule, (eI .i64) a.Outcome.Verdict.At]
def Zo1 (a : Z14) : Row := [.p ((eI .i64) a.request), .p ((eI .i64) a.Outcome.Version), .p ((eI .i64) a.Outcome.Verdict.Code), .p ((eI .i64) a.Outcome.Verdict.Rule), .p ((eI .i64) a.Outcome.Verdict.At)]
theorem ZrK {a b : Z14} (h : ZiO a = ZiO b) : a = b := by
 have h0 : a.request = b.request := Z46 _ _ (gj_ 0 h)
 have h1 : a.Outcome = b.Outcome := ZcE (congrArg (fun l => (l.drop 1).take 4) h)
 cases a; cases b
 cases h0
 cases h1
 rfl
theorem ZjC (a b : Z14) (h : ZF a = ZF b) : a = b := ZrK (congrArg pC h)
structure Zi where
 Lo : Int
 Hi : Int
 deriving Inhabited
def Z9O (a : Zi) : List PV := [(eI .i64) a.Lo, (eI .i64) a.Hi]
def ZC (a : Zi) : PV := .agg (Z9O a)
def Z1b (a : Zi) : List PV := [(eI .i64) a.Lo, (eI .i64) a.Hi]
def Z3e (a : Zi) : Row := [.p ((eI .i64) a.Lo), .p ((eI .i64) a.Hi)]
theorem ZkM {a b : Zi} (h : Z9O a = Z9O b) : a = b := by
 have h0 : a.Lo = b.Lo := Z46 _ _ (gj_ 0 h)
 have h1 : a.Hi = b.Hi := Z46 _ _ (gj_ 1 h)
 cases a; cases b
 cases h0
 cases h1
 rfl
theorem Z8C (a b : Zi) (h : ZC a = ZC b) : a = b := ZkM (congrArg pC h)
structure Zj where
 Kind : Int
 Lo : Int
 Hi : Int
 Mode : Int
 Ref : Int
 Set : (List Zi)
 Kids : (List Zj)
instance : Inhabited Zj := ⟨⟨default, default, default, default, default, default, default⟩⟩
mutual
def Z15 : Zj → PV
 | ⟨Kind_, Lo_, Hi_, Mode_, Ref_, Set_, Kids_⟩ => .agg [(eI .i64) Kind_, (eI .i64) Lo_, (eI .i64) Hi_, (eI .i64) Mode_, (eI .i64) Ref_, (eL ZC) Set_, .lst .sh (Z7x Kids_)]
def Z7x : List Zj → List PV
 | [] => []
 | x :: r => Z15 x :: Z7x r
end
theorem ZlH : ∀ l, Z7x l = l.map Z15
 | [] => rfl
 | x :: r => by rw [Z7x, ZlH r]; rfl
def Z3T (a : Zj) : List PV := [(eI .i64) a.Kind, (eI .i64) a.Lo, (eI .i64) a.Hi, (eI .i64) a.Mode, (eI .i64) a.Ref, (eL ZC) a.Set, (eL Z15) a.Kids]
theorem Z69 (a : Zj) : Z15 a = .agg (Z3T a) := by
 cases a; rw [Z15, ZlH]; rfl
theorem Z7H (a : Zj) : Z2q (Z15 a) = Z3T a := by rw [Z69]; rfl
theorem ZpJ (a : Zj) : (Z2q (Z15 a)).length = 7 := by rw [Z69]; rfl
def ZQ (a : Zj) (o0 o1 : Own) : List PV := [(eI .i64) a.Kind, (eI .i64) a.Lo, (eI .i64) a.Hi, (eI .i64) a.Mode, (eI .i64) a.Ref, .lst o0 (a.Set.map ZC), .lst o1 (a.Kids.map Z15)]
def Zv (a : Zj) (o0 o1 : Own) : Row := [.p ((eI .i64) a.Kind), .p ((eI .i64) a.Lo), .p ((eI .i64) a.Hi), .p ((eI .i64) a.Mode), .p ((eI .i64) a.Ref), .p (.lst o0 (a.Set.map ZC)), .p (.lst o1 (a.Kids.map Z15))]
mutual
theorem ZlG : ∀ a b : Zj, Z15 a = Z15 b → a = b
 | ⟨Kind_, Lo_, Hi_, Mode_, Ref_, Set_, Kids_⟩, ⟨Kind_2, Lo_2, Hi_2, Mode_2, Ref_2, Set_2, Kids_2⟩, h => by
  rw [Z15, Z15] at h
  have h0 : Kind_ = Kind_2 := Z46 _ _ (congrArg (fun l => (pC l).getD 0 .junk) h)
  have h1 : Lo_ = Lo_2 := Z46 _ _ (congrArg (fun l => (pC l).getD 1 .junk) h)
  have h2 : Hi_ = Hi_2 := Z46 _ _ (congrArg (fun l => (pC l).getD 2 .junk) h)
  have h3 : Mode_ = Mode_2 := Z46 _ _ (congrArg (fun l => (pC l).getD 3 .junk) h)
  have h4 : Ref_ = Ref_2 := Z46 _ _ (congrArg (fun l => (pC l).getD 4 .junk) h)
  have h5 : Set_ = Set_2 := (Zsa Z8C) _ _ (congrArg (fun l => (pC l).getD 5 .junk) h)
  have h6 : Kids_ = Kids_2 := ZkP Kids_ Kids_2 (congrArg (fun l => pL ((pC l).getD 6 .junk)) h)
  subst h0
  subst h1
  subst h2
  subst h3
  subst h4
  subst h5
  subst h6
  rfl
theorem ZkP : ∀ a b : List Zj, Z7x a = Z7x b → a = b
 | [], [], _ => rfl
 | [], _ :: _, h => by simp [Z7x] at h
 | _ :: _, [], h => by simp [Z7x] at h
 | x :: r, y :: t, h => by
  simp only [Z7x, Ztf] at h
  rw [ZlG x y h.1, ZkP r t h.2]
end
theorem Z9l {a b : Zj} (h : Z3T a = Z3T b) : a = b := ZlG a b (by rw [Z69, Z69, h])
structure Z1P where
 Root : Zj
 Groups : Int
 Fold : Bool
 deriving Inhabited
def ZmB (a : Z1P) : List PV := [(eI .i64) a.Root.Kind, (eI .i64) a.Root.Lo, (eI .i64) a.Root.Hi, (eI .i64) a.Root.Mode, (eI .i64) a.Root.Ref, (eL ZC) a.Root.Set, (eL Z15) a.Root.Kids, (eI .i64) a.Groups, eB a.Fold]
def Z4h (a : Z1P) (o0 o1 : Own) : List PV := [(eI .i64) a.Root.Kind, (eI .i64) a.Root.Lo, (eI .i64) a.Root.Hi, (eI .i64) a.Root.Mode, (eI .i64) a.Root.Ref, .lst o0 (a.Root.Set.map ZC), .lst o1 (a.Root.Kids.map Z15), (eI .i64) a.Groups, eB a.Fold]
def Z1v (a : Z1P) (o0 o1 : Own) : Row := [.p ((eI .i64) a.Root.Kind), .p ((eI .i64) a.Root.Lo), .p ((eI .i64) a.Root.Hi), .p ((eI .i64) a.Root.Mode), .p ((eI .i64) a.Root.Ref), .p (.lst o0 (a.Root.Set.map ZC)), .p (.lst o1 (a.Root.Kids.map Z15)), .p ((eI .i64) a.Groups), .p (eB a.Fold)]
theorem Zq7 {a b : Z1P} (h : ZmB a = ZmB b) : a = b := by
 have h0 : a.Root = b.Root := Z9l (congrArg (fun l => (l.drop 0).take 7) h)
 have h1 : a.Groups = b.Groups := Z46 _ _ (gj_ 7 h)
 have h2 : a.Fold = b.Fold := Zs9 _ _ (gj_ 8 h)
 cases a; cases b
 cases h0
 cases h1
 cases h2
 rfl
structure Z1q where
 Code : Int
 At : Int
 deriving Inhabited
def ZoK (a : Z1q) : List PV := [(eI .i64) a.Code, (eI .i64) a.At]
def Z6t (a : Z1q) : List PV := [(eI .i64) a.Code, (eI .i64) a.At]
def Z2d (a : Z1q) : Row := [.p ((eI .i64) a.Code), .p ((eI .i64) a.At)]
theorem Zs8 {a b : Z1q} (h : ZoK a = ZoK b) : a = b := by
 have h0 : a.Code = b.Code := Z46 _ _ (gj_ 0 h)
 have h1 : a.At = b.At := Z46 _ _ (gj_ 1 h)
 cases a; cases b
 cases h0
 cases h1
 rfl
structure Zz where
 group : Int
 at_ : Int
 deriving Inhabited
def ZdX (a : Zz) : List PV := [(eI .i64) a.group, (eI .i64) a.at_]
def Z3M (a : Zz) : PV := .agg (ZdX a)
def ZhU (a : Zz) : List PV := [(eI .i64) a.group, (eI .i64) a.at_]
def ZhZ (a : Zz) : Row := [.p ((eI .i64) a.group), .p ((eI .i64) a.at_)]
theorem Zq8 {a b : Zz} (h : ZdX a = ZdX b) : a = b := by
 have h0 : a.group = b.group := Z46 _ _ (gj_ 0 h)
 have h1 : a.at_ = b.at_ := Z46 _ _ (gj_ 1 h)
 cases a; cases b
 cases h0
 cases h1
 rfl
theorem ZdY (a b : Zz) (h : Z3M a = Z3M b) : a = b := Zq8 (congrArg pC h)
structure Z2f where
 b : (List Int)
 at_ : Int
 groups : Int
 deep : Int
 refs : (List Zz)
 fault : Z1q
 deriving Inhabited
def Zxb (a : Z2f) (o0 o1 : Own) : List PV := [.lst o0 (a.b.map (eI .u8)), (eI .i64) a.at_, (eI .i64) a.groups, (eI .i64) a.deep, .lst o1 (a.refs.map Z3M), (eI .i64) a.fault.Code, (eI .i64) a.fault.At]
def Z4V (a : Z2f) (o0 o1 : Own) : Row := [.p (.lst o0 (a.b.map (eI .u8))), .p ((eI .i64) a.at_), .p ((eI .i64) a.groups), .p ((eI .i64) a.deep), .p (.lst o1 (a.refs.map Z3M)), .p ((eI .i64) a.fault.Code), .p ((eI .i64) a.fault.At)]
structure Z1e where
 Default : Int
 Closed : Int
 Fuel : Int
 Stack : Int
 Rules : (List ZA)
 deriving Inhabited
def ZiN (a : Z1e) : List PV := [(eI .i64) a.Default, (eI .i64) a.Closed, (eI .i64) a.Fuel, (eI .i64) a.Stack, (eL ZG) a.Rules]
def Z4k (a : Z1e) (o0 : Own) : List PV := [(eI .i64) a.Default, (eI .i64) a.Closed, (eI .i64) a.Fuel, (eI .i64) a.Stack, .lst o0 (a.Rules.map ZG)]
def Z1T (a : Z1e) (o0 : Own) : Row := [.p ((eI .i64) a.Default), .p ((eI .i64) a.Closed), .p ((eI .i64) a.Fuel), .p ((eI .i64) a.Stack), .p (.lst o0 (a.Rules.map ZG))]
theorem ZmA {a b : Z1e} (h : ZiN a = ZiN b) : a = b := by
 have h0 : a.Default = b.Default := Z46 _ _ (gj_ 0 h)
 have h1 : a.Closed = b.Closed := Z46 _ _ (gj_ 1 h)
 have h2 : a.Fuel = b.Fuel := Z46 _ _ (gj_ 2 h)
 have h3 : a.Stack = b.Stack := Z46 _ _ (gj_ 3 h)
 have h4 : a.Rules = b.Rules := (Zsa ZdZ) _ _ (gj_ 4 h)
 cases a; cases b
 cases h0
 cases h1
 cases h2
 cases h3
 cases h4
 rfl
end Go.Proofs.YteoeggbihfnbfaaGreatDoor.N2
end
noncomputable section
namespace Go.Proofs.YteoeggbihfnbfaaGreatDoor.N2
open Go Go.Abs
set_option maxRecDepth 100000
theorem et_ {α : Type} {a b c : α} (h : b = c) (g : a = b := by kernel_rfl) : a = c := g.trans h
theorem ru_ {R : Type} {Q : R → Res → Prop} {e : Option Res} {a b : R} (u : ∀ a b q, Q a q → Q b q → a = b) (h : RRun Q e a) (g : RRun Q e b) : a = b := RRun.uniq u h g
abbrev Z9i := Z1m.mk 0 (ZY.mk 0 0 0)
abbrev ZL6 := Z10.mk 0 0 0 (Z1i.mk 0 0 0 0 ([] : List ZA) ([] : List Int))
abbrev Z4j := ZE.mk 0 0 0 0 ([] : List ZA)
abbrev Z7J := ZY.mk 0 0 0
abbrev ZgA := Z1P.mk (Zj.mk 0 0 0 0 0 ([] : List Zi) ([] : List Zj)) 0 false
abbrev Zjs := Z1q.mk 0 0
abbrev Z2j := Zj.mk 0 0 0 0 0 ([] : List Zi) ([] : List Zj)
abbrev ZD4 := Z1e.mk 0 0 0 0 ([] : List ZA)
abbrev Z2F a0 a1 a2 a3 a4 o0 := ZB (ZE.mk a0 a1 a2 a3 a4) o0
abbrev ZX a0 a1 a2 a3 a4 a5 a6 o0 o1 := Z4V (Z2f.mk a0 a1 a2 a3 a4 (Z1q.mk a5 a6)) o0 o1
abbrev ZbH a0 a1 a2 a3 a4 a5 a6 a7 a8 o0 o1 := Z1v (Z1P.mk (Zj.mk a0 a1 a2 a3 a4 a5 a6) a7 a8) o0 o1
abbrev Zkj a0 a1 a2 a3 a4 o0 := Z1T (Z1e.mk a0 a1 a2 a3 a4) o0
abbrev Zkk a0 a1 a2 := Z1d (ZY.mk a0 a1 a2)
abbrev Z3A a0 a1 a2 a3 a4 a5 a6 o0 o1 := Zv (Zj.mk a0 a1 a2 a3 a4 a5 a6) o0 o1
abbrev ZL (o : Own) (l : List PV) : AV := .p (.lst o l)
abbrev pA_ (l : List PV) : AV := .p (.agg l)
abbrev rM_ {α : Type} (e : α → PV) (l : List (Int × α)) : Row := [.md (l.map (encM e))]
abbrev ZiH : ZE → Res → Prop := fun r q => ∃ (ex : List Row), q = ((pA_ (Z1C r .sh)), ex)
theorem ZxD : ∀ a b q, ZiH a q → ZiH b q → a = b := by
 rintro a b q ⟨_, e1⟩ ⟨_, e2⟩
 have e := e1.symm.trans e2
 exact Zcs (congrArg (fun q : Res => pC (pA q.1)) e)
abbrev Zhd : ((List (Int × Z14)) × (List ZE) × Int) → Res → Prop := fun r q => ∃ (n1_0 : Own) (ex : List Row), ZV n1_0 = true ∧ q = ((.ptr 1 0), [(rM_ ZF r.1), [(ZL n1_0 (r.2.1.map ZH)), (.mp 0), (iv r.2.2)]]) ∧ ex = []
theorem Zw3 : ∀ a b q, Zhd a q → Zhd b q → a = b := by
 rintro a b q ⟨_, _, _, e1, _⟩ ⟨_, _, _, e2, _⟩
 have e := e1.symm.trans e2
 exact Z43 (Z5c (ZjR ZjC) (congrArg (fun q : Res => pM (cellAt q 0 0)) e)) (Z43 (Z5c ZiP (congrArg (fun q : Res => pL (pA (cellAt q 1 0))) e)) (congrArg (fun q : Res => pI (pA (cellAt q 1 2))) e))
abbrev ZbN : Z10 → Res → Prop := fun r q => ∃ (ex : List Row), q = ((pA_ (Z3H r .sh .sh)), ex)
theorem ZoF : ∀ a b q, ZbN a q → ZbN b q → a = b := by
 rintro a b q ⟨_, e1⟩ ⟨_, e2⟩
 have e := e1.symm.trans e2
 exact Zuh (congrArg (fun q : Res => pC (pA q.1)) e)
abbrev Z11 : Bool → Res → Prop := fun r q => ∃ (ex : List Row), q = ((bv r), ex)
theorem Z2p : ∀ a b q, Z11 a q → Z11 b q → a = b := by
 rintro a b q ⟨_, e1⟩ ⟨_, e2⟩
 have e := e1.symm.trans e2
 exact congrArg (fun q : Res => pB (pA q.1)) e
abbrev ZO : Int → Res → Prop := fun r q => ∃ (ex : List Row), q = ((iv r), ex)
theorem Z2k : ∀ a b q, ZO a q → ZO b q → a = b := by
 rintro a b q ⟨_, e1⟩ ⟨_, e2⟩
 have e := e1.symm.trans e2
 exact congrArg (fun q : Res => pI (pA q.1)) e
abbrev Zhf (z1R z2i z1X : Int) (z1U : List ZA) (zD : Own) : Int → Res → Prop := fun r q => ∃ (ex : List Row), q = ((.p (.tup [])), [(Z2F r z1R z2i z1X z1U zD)] ++ ex)
theorem Zw5 (z1R z2i z1X : Int) (z1U : List ZA) (zD : Own) : ∀ a b q, Zhf z1R z2i z1X z1U zD a q → Zhf z1R z2i z1X z1U zD b q → a = b := by
 rintro a b q ⟨_, e1⟩ ⟨_, e2⟩
 have e := e1.symm.trans e2
 exact congrArg (fun q : Res => pI (pA (cellAt q 0 0))) e
abbrev ZcV (z1K z2i z1X : Int) (z1U : List ZA) (zD : Own) : Int → Res → Prop := fun r q => ∃ (ex : List Row), q = ((.p (.tup [])), [(Z2F z1K r z2i z1X z1U zD)] ++ ex)
theorem ZrJ (z1K z2i z1X : Int) (z1U : List ZA) (zD : Own) : ∀ a b q, ZcV z1K z2i z1X z1U zD a q → ZcV z1K z2i z1X z1U zD b q → a = b := by
 rintro a b q ⟨_, e1⟩ ⟨_, e2⟩
 have e := e1.symm.trans e2
 exact congrArg (fun q : Res => pI (pA (cellAt q 0 1))) e
abbrev ZcU (z1K z1R z1X : Int) (z1U : List ZA) (zD : Own) : Int → Res → Prop := fun r q => ∃ (ex : List Row), q = ((.p (.tup [])), [(Z2F z1K z1R r z1X z1U zD)] ++ ex)
theorem ZrI (z1K z1R z1X : Int) (z1U : List ZA) (zD : Own) : ∀ a b q, ZcU z1K z1R z1X z1U zD a q → ZcU z1K z1R z1X z1U zD b q → a = b := by
 rintro a b q ⟨_, e1⟩ ⟨_, e2⟩
 have e := e1.symm.trans e2
 exact congrArg (fun q : Res => pI (pA (cellAt q 0 2))) e
abbrev ZcT (z1K z1R z2i : Int) (z1U : List ZA) (zD : Own) : Int → Res → Prop := fun r q => ∃ (ex : List Row), q = ((.p (.tup [])), [(Z2F z1K z1R z2i r z1U zD)] ++ ex)
theorem ZrH (z1K z1R z2i : Int) (z1U : List ZA) (zD : Own) : ∀ a b q, ZcT z1K z1R z2i z1U zD a q → ZcT z1K z1R z2i z1U zD b q → a = b := by
 rintro a b q ⟨_, e1⟩ ⟨_, e2⟩
 have e := e1.symm.trans e2
 exact congrArg (fun q : Res => pI (pA (cellAt q 0 3))) e
abbrev Z6U : Bool → Res → Prop := fun r q => ∃ (ex : List Row), q = ((bv r), [[(.clo 27 [] [])]] ++ ex)
theorem Zg1 : ∀ a b q, Z6U a q → Z6U b q → a = b := by
 rintro a b q ⟨_, e1⟩ ⟨_, e2⟩
 have e := e1.symm.trans e2
 exact congrArg (fun q : Res => pB (pA q.1)) e
abbrev Z3x : Int → Res → Prop := fun r q => ∃ (ex : List Row), q = ((iv r), [[(.clo 27 [] [])]] ++ ex)
theorem ZcM : ∀ a b q, Z3x a q → Z3x b q → a = b := by
 rintro a b q ⟨_, e1⟩ ⟨_, e2⟩
 have e := e1.symm.trans e2
 exact congrArg (fun q : Res => pI (pA q.1)) e
abbrev Z5P : (Bool × (List (Int × Bool))) → Res → Prop := fun r q => ∃ (ex : List Row), q = ((bv r.1), [[(.mp 1)], (rM_ eB r.2)] ++ ex)
theorem Ze9 : ∀ a b q, Z5P a q → Z5P b q → a = b := by
 rintro a b q ⟨_, e1⟩ ⟨_, e2⟩
 have e := e1.symm.trans e2
 exact Z43 (congrArg (fun q : Res => pB (pA q.1)) e) (Z5c (ZjR Zs9) (congrArg (fun q : Res => pM (cellAt q 1 0)) e))
abbrev Z5Q : (Bool × (List (Int × Bool))) → Res → Prop := fun r q => ∃ (ex : List Row), q = ((bv r.1), [[(.clo 74 [] [(.ptr 1 0)])], [(.mp 2)], (rM_ eB r.2)] ++ ex)
theorem Zea : ∀ a b q, Z5Q a q → Z5Q b q → a = b := by
 rintro a b q ⟨_, e1⟩ ⟨_, e2⟩
 have e := e1.symm.trans e2
 exact Z43 (congrArg (fun q : Res => pB (pA q.1)) e) (Z5c (ZjR Zs9) (congrArg (fun q : Res => pM (cellAt q 2 0)) e))
abbrev Z3y : (Int × (List (Int × Bool))) → Res → Prop := fun r q => ∃ (ex : List Row), q = ((iv r.1), [[(.clo 74 [] [(.ptr 1 0)])], [(.mp 2)], (rM_ eB r.2)] ++ ex)
theorem ZcN : ∀ a b q, Z3y a q → Z3y b q → a = b := by
 rintro a b q ⟨_, e1⟩ ⟨_, e2⟩
 have e := e1.symm.trans e2
 exact Z43 (congrArg (fun q : Res => pI (pA q.1)) e) (Z5c (ZjR Zs9) (congrArg (fun q : Res => pM (cellAt q 2 0)) e))
abbrev Z3G : (Int × (List (Int × Bool))) → Res → Prop := fun r q => ∃ (ex : List Row), q = ((iv r.1), [[(.mp 1)], (rM_ eB r.2)] ++ ex)
theorem Zdc : ∀ a b q, Z3G a q → Z3G b q → a = b := by
 rintro a b q ⟨_, e1⟩ ⟨_, e2⟩
 have e := e1.symm.trans e2
 exact Z43 (congrArg (fun q : Res => pI (pA q.1)) e) (Z5c (ZjR Zs9) (congrArg (fun q : Res => pM (cellAt q 1 0)) e))
abbrev ZaQ (zU : List (Int × ZA)) : Unit → Res → Prop := fun r q => ∃ (ex : List Row), q = ((.clo 78 [] [(.ptr 1 0)]), [(rM_ ZG zU), [(.mp 0)]]) ∧ ex = []
theorem Zo5 (zU : List (Int × ZA)) : ∀ a b q, ZaQ zU a q → ZaQ zU b q → a = b := by
 rintro a b q ⟨_, e1, _⟩ ⟨_, e2, _⟩
 have e := e1.symm.trans e2
 exact rfl
abbrev Zc5 (zZ : List (Int × ZA)) : (List Int) → Res → Prop := fun r q => ∃ (ex : List Row), q = ((ZL .sh (r.map (eI .i64))), [[(.mp 1)], (rM_ ZG zZ)] ++ ex)
theorem ZlK (zZ : List (Int × ZA)) : ∀ a b q, Zc5 zZ a q → Zc5 zZ b q → a = b := by
 rintro a b q ⟨_, e1⟩ ⟨_, e2⟩
 have e := e1.symm.trans e2
 exact Z5c Z46 (congrArg (fun q : Res => pL (pA q.1)) e)
abbrev Z2T : (ZE × Int) → Res → Prop := fun r q => ∃ (ex : List Row), q = ((.p (.tup [(.agg (Z1C r.1 .sh)), (.v (.int .i64 r.2))])), ex)
theorem Zdb : ∀ a b q, Z2T a q → Z2T b q → a = b := by
 rintro a b q ⟨_, e1⟩ ⟨_, e2⟩
 have e := e1.symm.trans e2
 exact Z43 (Zcs (congrArg (fun q : Res => pC ((pT (pA q.1)).getD 0 .junk)) e)) (congrArg (fun q : Res => pI ((pT (pA q.1)).getD 1 .junk)) e)
abbrev Z82 (zl : List Int) (z7 zd : Int) (zh : List Zz) (z2 z6 : Int) (zu zb : Own) : (Bool × Int) → Res → Prop := fun r q => ∃ (ex : List Row), q = ((bv r.1), [(ZX zl r.2 z7 zd zh z2 z6 zu zb)] ++ ex)
theorem ZoI (zl : List Int) (z7 zd : Int) (zh : List Zz) (z2 z6 : Int) (zu zb : Own) : ∀ a b q, Z82 zl z7 zd zh z2 z6 zu zb a q → Z82 zl z7 zd zh z2 z6 zu zb b q → a = b := by
 rintro a b q ⟨_, e1⟩ ⟨_, e2⟩
 have e := e1.symm.trans e2
 exact Z43 (congrArg (fun q : Res => pB (pA q.1)) e) (congrArg (fun q : Res => pI (pA (cellAt q 0 1))) e)
abbrev ZaS : (Int × Int) → Res → Prop := fun r q => ∃ (ex : List Row), q = ((.p (.tup [(.v (.int .i32 r.1)), (.v (.int .i64 r.2))])), ex)
theorem ZkK : ∀ a b q, ZaS a q → ZaS b q → a = b := by
 rintro a b q ⟨_, e1⟩ ⟨_, e2⟩
 have e := e1.symm.trans e2
 exact Z43 (congrArg (fun q : Res => pI ((pT (pA q.1)).getD 0 .junk)) e) (congrArg (fun q : Res => pI ((pT (pA q.1)).getD 1 .junk)) e)
abbrev Z49 : (Int × Int) → Res → Prop := fun r q => ∃ (ex : List Row), q = ((.p (.tup [(.v (.int .i64 r.1)), (.v (.int .i64 r.2))])), ex)
theorem Zhg : ∀ a b q, Z49 a q → Z49 b q → a = b := by
 rintro a b q ⟨_, e1⟩ ⟨_, e2⟩
 have e := e1.symm.trans e2
 exact Z43 (congrArg (fun q : Res => pI ((pT (pA q.1)).getD 0 .junk)) e) (congrArg (fun q : Res => pI ((pT (pA q.1)).getD 1 .junk)) e)
abbrev Z9y (b0 : Z2f) (zu zb : Own) : Int → Res → Prop := fun r q => ∃ (ex : List Row), q = ((iv r), [(Z4V b0 zu zb)] ++ ex)
theorem ZoH (b0 : Z2f) (zu zb : Own) : ∀ a b q, Z9y b0 zu zb a q → Z9y b0 zu zb b q → a = b := by
 rintro a b q ⟨_, e1⟩ ⟨_, e2⟩
 have e := e1.symm.trans e2
 exact congrArg (fun q : Res => pI (pA q.1)) e
abbrev Z8p : Zj → Res → Prop := fun r q => ∃ (ex : List Row), q = ((pA_ (ZQ r .sh .sh)), ex)
theorem Zmv : ∀ a b q, Z8p a q → Z8p b q → a = b := by
 rintro a b q ⟨_, e1⟩ ⟨_, e2⟩
 have e := e1.symm.trans e2
 exact Z9l (congrArg (fun q : Res => pC (pA q.1)) e)
abbrev Z2Q (zl : List Int) (z7 zd : Int) (zh : List Zz) (z2 z6 : Int) (zu zb : Own) : (Int × Int) → Res → Prop := fun r q => ∃ (ex : List Row), q = ((iv r.1), [(ZX zl r.2 z7 zd zh z2 z6 zu zb)] ++ ex)
theorem Z8q (zl : List Int) (z7 zd : Int) (zh : List Zz) (z2 z6 : Int) (zu zb : Own) : ∀ a b q, Z2Q zl z7 zd zh z2 z6 zu zb a q → Z2Q zl z7 zd zh z2 z6 zu zb b q → a = b := by
 rintro a b q ⟨_, e1⟩ ⟨_, e2⟩
 have e := e1.symm.trans e2
 exact Z43 (congrArg (fun q : Res => pI (pA q.1)) e) (congrArg (fun q : Res => pI (pA (cellAt q 0 1))) e)
abbrev Zkx : Zi → Res → Prop := fun r q => ∃ (ex : List Row), q = ((pA_ (Z1b r)), ex)
theorem ZAh : ∀ a b q, Zkx a q → Zkx b q → a = b := by
 rintro a b q ⟨_, e1⟩ ⟨_, e2⟩
 have e := e1.symm.trans e2
 exact ZkM (congrArg (fun q : Res => pC (pA q.1)) e)
abbrev Z4M : (List Zi) → Res → Prop := fun r q => ∃ (ex : List Row), q = ((ZL .sh (r.map ZC)), ex)
theorem ZdD : ∀ a b q, Z4M a q → Z4M b q → a = b := by
 rintro a b q ⟨_, e1⟩ ⟨_, e2⟩
 have e := e1.symm.trans e2
 exact Z5c Z8C (congrArg (fun q : Res => pL (pA q.1)) e)
abbrev Z6b : ((List Zi) × Int) → Res → Prop := fun r q => ∃ (ex : List Row), q = ((.p (.tup [(.lst .sh (r.1.map ZC)), (.v (.int .i64 r.2))])), ex)
theorem ZjQ : ∀ a b q, Z6b a q → Z6b b q → a = b := by
 rintro a b q ⟨_, e1⟩ ⟨_, e2⟩
 have e := e1.symm.trans e2
 exact Z43 (Z5c Z8C (congrArg (fun q : Res => pL ((pT (pA q.1)).getD 0 .junk)) e)) (congrArg (fun q : Res => pI ((pT (pA q.1)).getD 1 .junk)) e)
abbrev Z9x (zl : List Int) (z7 zd : Int) (zh : List Zz) (zu zb : Own) : (Int × Int × Int) → Res → Prop := fun r q => ∃ (ex : List Row), q = ((.p (.tup [])), [(ZX zl r.1 z7 zd zh r.2.1 r.2.2 zu zb)] ++ ex)
theorem ZoG (zl : List Int) (z7 zd : Int) (zh : List Zz) (zu zb : Own) : ∀ a b q, Z9x zl z7 zd zh zu zb a q → Z9x zl z7 zd zh zu zb b q → a = b := by
 rintro a b q ⟨_, e1⟩ ⟨_, e2⟩
 have e := e1.symm.trans e2
 exact Z43 (congrArg (fun q : Res => pI (pA (cellAt q 0 1))) e) (Z43 (congrArg (fun q : Res => pI (pA (cellAt q 0 5))) e) (congrArg (fun q : Res => pI (pA (cellAt q 0 6))) e))
abbrev ZaD : (Own × (List Zi)) → Res → Prop := fun r q => ∃ (ex : List Row), q = ((ZL r.1 (r.2.map ZC)), ex)
theorem ZrG : ∀ a b q, ZaD a q → ZaD b q → a = b := by
 rintro a b q ⟨_, e1⟩ ⟨_, e2⟩
 have e := e1.symm.trans e2
 exact Z43 (congrArg (fun q : Res => pOwn (pA q.1)) e) (Z5c Z8C (congrArg (fun q : Res => pL (pA q.1)) e))
abbrev Z9j (zU : Int) : Bool → Res → Prop := fun r q => ∃ (ex : List Row), q = ((bv r), [[(iv zU)]] ++ ex)
theorem ZjB (zU : Int) : ∀ a b q, Z9j zU a q → Z9j zU b q → a = b := by
 rintro a b q ⟨_, e1⟩ ⟨_, e2⟩
 have e := e1.symm.trans e2
 exact congrArg (fun q : Res => pB (pA q.1)) e
abbrev Z3s (zU : Int) : Int → Res → Prop := fun r q => ∃ (ex : List Row), q = ((iv r), [[(iv zU)]] ++ ex)
theorem Zce (zU : Int) : ∀ a b q, Z3s zU a q → Z3s zU b q → a = b := by
 rintro a b q ⟨_, e1⟩ ⟨_, e2⟩
 have e := e1.symm.trans e2
 exact congrArg (fun q : Res => pI (pA q.1)) e
abbrev Z7q (zl : List Int) (z7 zd : Int) (zh : List Zz) (zu zb : Own) : (Int × Int × Int × Int) → Res → Prop := fun r q => ∃ (ex : List Row), q = ((iv r.1), [(ZX zl r.2.1 z7 zd zh r.2.2.1 r.2.2.2 zu zb)] ++ ex)
theorem Zo6 (zl : List Int) (z7 zd : Int) (zh : List Zz) (zu zb : Own) : ∀ a b q, Z7q zl z7 zd zh zu zb a q → Z7q zl z7 zd zh zu zb b q → a = b := by
 rintro a b q ⟨_, e1⟩ ⟨_, e2⟩
 have e := e1.symm.trans e2
 exact Z43 (congrArg (fun q : Res => pI (pA q.1)) e) (Z43 (congrArg (fun q : Res => pI (pA (cellAt q 0 1))) e) (Z43 (congrArg (fun q : Res => pI (pA (cellAt q 0 5))) e) (congrArg (fun q : Res => pI (pA (cellAt q 0 6))) e)))
abbrev Z5N (zl : List Int) (z7 zd : Int) (zu : Own) : (Zj × Int × (List Zz) × Int × Int) → Res → Prop := fun r q => ∃ (p0_4 : Own) (ex : List Row), ZV p0_4 = true ∧ q = ((pA_ (ZQ r.1 .sh .sh)), [(ZX zl r.2.1 z7 zd r.2.2.1 r.2.2.2.1 r.2.2.2.2 zu p0_4)] ++ ex)
theorem Znh (zl : List Int) (z7 zd : Int) (zu : Own) : ∀ a b q, Z5N zl z7 zd zu a q → Z5N zl z7 zd zu b q → a = b := by
 rintro a b q ⟨_, _, _, e1⟩ ⟨_, _, _, e2⟩
 have e := e1.symm.trans e2
 exact Z43 (Z9l (congrArg (fun q : Res => pC (pA q.1)) e)) (Z43 (congrArg (fun q : Res => pI (pA (cellAt q 0 1))) e) (Z43 (Z5c ZdY (congrArg (fun q : Res => pL (pA (cellAt q 0 4))) e)) (Z43 (congrArg (fun q : Res => pI (pA (cellAt q 0 5))) e) (congrArg (fun q : Res => pI (pA (cellAt q 0 6))) e))))
abbrev Z5O (zl : List Int) (z7 zd : Int) (zh : List Zz) (zu zb : Own) : (Int × (Own × (List Zi)) × Bool × Int × Int × Int) → Res → Prop := fun r q => ∃ (ex : List Row), q = ((.p (.tup [(.v (.int .i64 r.1)), (.lst r.2.1.1 (r.2.1.2.map ZC)), (.v (.bool r.2.2.1))])), [(ZX zl r.2.2.2.1 z7 zd zh r.2.2.2.2.1 r.2.2.2.2.2 zu zb)] ++ ex)
theorem Zni (zl : List Int) (z7 zd : Int) (zh : List Zz) (zu zb : Own) : ∀ a b q, Z5O zl z7 zd zh zu zb a q → Z5O zl z7 zd zh zu zb b q → a = b := by
 rintro a b q ⟨_, e1⟩ ⟨_, e2⟩
 have e := e1.symm.trans e2
 exact Z43 (congrArg (fun q : Res => pI ((pT (pA q.1)).getD 0 .junk)) e) (Z43 (Z43 (congrArg (fun q : Res => pOwn ((pT (pA q.1)).getD 1 .junk)) e) (Z5c Z8C (congrArg (fun q : Res => pL ((pT (pA q.1)).getD 1 .junk)) e))) (Z43 (congrArg (fun q : Res => pB ((pT (pA q.1)).getD 2 .junk)) e) (Z43 (congrArg (fun q : Res => pI (pA (cellAt q 0 1))) e) (Z43 (congrArg (fun q : Res => pI (pA (cellAt q 0 5))) e) (congrArg (fun q : Res => pI (pA (cellAt q 0 6))) e)))))
abbrev Z9Z : (List Zi) → Res → Prop := fun r q => ∃ (p0_0 : Own) (ex : List Row), q = ((.p (.tup [])), [[(ZL p0_0 (r.map ZC))]] ++ ex)
theorem Zmw : ∀ a b q, Z9Z a q → Z9Z b q → a = b := by
 rintro a b q ⟨_, _, e1⟩ ⟨_, _, e2⟩
 have e := e1.symm.trans e2
 exact Z5c Z8C (congrArg (fun q : Res => pL (pA (cellAt q 0 0))) e)
abbrev Z2m (zl : List Int) (z7 zd : Int) (zh : List Zz) (zu zb : Own) : (Zj × Int × Int × Int) → Res → Prop := fun r q => ∃ (ex : List Row), q = ((pA_ (ZQ r.1 .sh .sh)), [(ZX zl r.2.1 z7 zd zh r.2.2.1 r.2.2.2 zu zb)] ++ ex)
theorem ZcD (zl : List Int) (z7 zd : Int) (zh : List Zz) (zu zb : Own) : ∀ a b q, Z2m zl z7 zd zh zu zb a q → Z2m zl z7 zd zh zu zb b q → a = b := by
 rintro a b q ⟨_, e1⟩ ⟨_, e2⟩
 have e := e1.symm.trans e2
 exact Z43 (Z9l (congrArg (fun q : Res => pC (pA q.1)) e)) (Z43 (congrArg (fun q : Res => pI (pA (cellAt q 0 1))) e) (Z43 (congrArg (fun q : Res => pI (pA (cellAt q 0 5))) e) (congrArg (fun q : Res => pI (pA (cellAt q 0 6))) e)))
abbrev Zhe : (List ByteArray) → Res → Prop := fun r q => ∃ (ex : List Row), q = ((ZL .sh (r.map eS)), ex)
theorem Zw4 : ∀ a b q, Zhe a q → Zhe b q → a = b := by
 rintro a b q ⟨_, e1⟩ ⟨_, e2⟩
 have e := e1.symm.trans e2
 exact Z5c ZHv (congrArg (fun q : Res => pL (pA q.1)) e)
abbrev Z3F (zl : List Int) (zu : Own) : (Zj × Bool × Int × Int × Int × (List Zz) × Int × Int) → Res → Prop := fun r q => ∃ (p0_4 : Own) (ex : List Row), ZV p0_4 = true ∧ q = ((.p (.tup [(.agg (ZQ r.1 .sh .sh)), (.v (.bool r.2.1))])), [(ZX zl r.2.2.1 r.2.2.2.1 r.2.2.2.2.1 r.2.2.2.2.2.1 r.2.2.2.2.2.2.1 r.2.2.2.2.2.2.2 zu p0_4)] ++ ex)
theorem ZgB (zl : List Int) (zu : Own) : ∀ a b q, Z3F zl zu a q → Z3F zl zu b q → a = b := by
 rintro a b q ⟨_, _, _, e1⟩ ⟨_, _, _, e2⟩
 have e := e1.symm.trans e2
 exact Z43 (Z9l (congrArg (fun q : Res => pC ((pT (pA q.1)).getD 0 .junk)) e)) (Z43 (congrArg (fun q : Res => pB ((pT (pA q.1)).getD 1 .junk)) e) (Z43 (congrArg (fun q : Res => pI (pA (cellAt q 0 1))) e) (Z43 (congrArg (fun q : Res => pI (pA (cellAt q 0 2))) e) (Z43 (congrArg (fun q : Res => pI (pA (cellAt q 0 3))) e) (Z43 (Z5c ZdY (congrArg (fun q : Res => pL (pA (cellAt q 0 4))) e)) (Z43 (congrArg (fun q : Res => pI (pA (cellAt q 0 5))) e) (congrArg (fun q : Res => pI (pA (cellAt q 0 6))) e)))))))
abbrev Z48 (zl : List Int) (z7 zd : Int) (zh : List Zz) (zu zb : Own) : (Int × Int × Int × Int × Int) → Res → Prop := fun r q => ∃ (ex : List Row), q = ((.p (.tup [(.v (.int .i64 r.1)), (.v (.int .i64 r.2.1))])), [(ZX zl r.2.2.1 z7 zd zh r.2.2.2.1 r.2.2.2.2 zu zb)] ++ ex)
theorem Zng (zl : List Int) (z7 zd : Int) (zh : List Zz) (zu zb : Own) : ∀ a b q, Z48 zl z7 zd zh zu zb a q → Z48 zl z7 zd zh zu zb b q → a = b := by
 rintro a b q ⟨_, e1⟩ ⟨_, e2⟩
 have e := e1.symm.trans e2
 exact Z43 (congrArg (fun q : Res => pI ((pT (pA q.1)).getD 0 .junk)) e) (Z43 (congrArg (fun q : Res => pI ((pT (pA q.1)).getD 1 .junk)) e) (Z43 (congrArg (fun q : Res => pI (pA (cellAt q 0 1))) e) (Z43 (congrArg (fun q : Res => pI (pA (cellAt q 0 5))) e) (congrArg (fun q : Res => pI (pA (cellAt q 0 6))) e))))
abbrev Z3g (zl : List Int) (zu : Own) : (Zj × Int × Int × Int × (List Zz) × Int × Int) → Res → Prop := fun r q => ∃ (p0_4 : Own) (ex : List Row), ZV p0_4 = true ∧ q = ((pA_ (ZQ r.1 .sh .sh)), [(ZX zl r.2.1 r.2.2.1 r.2.2.2.1 r.2.2.2.2.1 r.2.2.2.2.2.1 r.2.2.2.2.2.2 zu p0_4)] ++ ex)
theorem ZaR (zl : List Int) (zu : Own) : ∀ a b q, Z3g zl zu a q → Z3g zl zu b q → a = b := by
 rintro a b q ⟨_, _, _, e1⟩ ⟨_, _, _, e2⟩
 have e := e1.symm.trans e2
 exact Z43 (Z9l (congrArg (fun q : Res => pC (pA q.1)) e)) (Z43 (congrArg (fun q : Res => pI (pA (cellAt q 0 1))) e) (Z43 (congrArg (fun q : Res => pI (pA (cellAt q 0 2))) e) (Z43 (congrArg (fun q : Res => pI (pA (cellAt q 0 3))) e) (Z43 (Z5c ZdY (congrArg (fun q : Res => pL (pA (cellAt q 0 4))) e)) (Z43 (congrArg (fun q : Res => pI (pA (cellAt q 0 5))) e) (congrArg (fun q : Res => pI (pA (cellAt q 0 6))) e))))))
abbrev Z5d : (Z1P × Z1q) → Res → Prop := fun r q => ∃ (ex : List Row), q = ((.p (.tup [(.agg (Z4h r.1 .sh .sh)), (.agg (Z6t r.2))])), ex)
theorem ZnN : ∀ a b q, Z5d a q → Z5d b q → a = b := by
 rintro a b q ⟨_, e1⟩ ⟨_, e2⟩
 have e := e1.symm.trans e2
 exact Z43 (Zq7 (congrArg (fun q : Res => pC ((pT (pA q.1)).getD 0 .junk)) e)) (Zs8 (congrArg (fun q : Res => pC ((pT (pA q.1)).getD 1 .junk)) e))
abbrev Z3Z : ZY → Res → Prop := fun r q => ∃ (ex : List Row), q = ((pA_ (Z20 r)), ex)
theorem Zeq : ∀ a b q, Z3Z a q → Z3Z b q → a = b := by
 rintro a b q ⟨_, e1⟩ ⟨_, e2⟩
 have e := e1.symm.trans e2
 exact ZcF (congrArg (fun q : Res => pC (pA q.1)) e)
abbrev Z9M : (ZE × ZY) → Res → Prop := fun r q => ∃ (ex : List Row), q = ((.p (.tup [(.agg (Z1C r.1 .sh)), (.agg (Z20 r.2))])), ex)
theorem Zs5 : ∀ a b q, Z9M a q → Z9M b q → a = b := by
 rintro a b q ⟨_, e1⟩ ⟨_, e2⟩
 have e := e1.symm.trans e2
 exact Z43 (Zcs (congrArg (fun q : Res => pC ((pT (pA q.1)).getD 0 .junk)) e)) (ZcF (congrArg (fun q : Res => pC ((pT (pA q.1)).getD 1 .junk)) e))
abbrev Z5M (z1W : Int) (zZ : List (Int × Z14)) : (Z1m × (List ZE)) → Res → Prop := fun r q => ∃ (p0_0 : Own) (ex : List Row), ZV p0_0 = true ∧ q = ((pA_ (Z1Q r.1)), [[(ZL p0_0 (r.2.map ZH)), (.mp 1), (iv z1W)], (rM_ ZF zZ)] ++ ex)
theorem ZiG (z1W : Int) (zZ : List (Int × Z14)) : ∀ a b q, Z5M z1W zZ a q → Z5M z1W zZ b q → a = b := by
 rintro a b q ⟨_, _, _, e1⟩ ⟨_, _, _, e2⟩
 have e := e1.symm.trans e2
 exact Z43 (ZcE (congrArg (fun q : Res => pC (pA q.1)) e)) (Z5c ZiP (congrArg (fun q : Res => pL (pA (cellAt q 0 0))) e))
abbrev Z4G : (Z1m × Int × (List ZE) × Int × (List (Int × Z14))) → Res → Prop := fun r q => ∃ (p0_0 : Own) (ex : List Row), ZV p0_0 = true ∧ q = ((.p (.tup [(.agg (Z1Q r.1)), (.v (.int .i64 r.2.1))])), [[(ZL p0_0 (r.2.2.1.map ZH)), (.mp 1), (iv r.2.2.2.1)], (rM_ ZF r.2.2.2.2)] ++ ex)
theorem ZkI : ∀ a b q, Z4G a q → Z4G b q → a = b := by
 rintro a b q ⟨_, _, _, e1⟩ ⟨_, _, _, e2⟩
 have e := e1.symm.trans e2
 exact Z43 (ZcE (congrArg (fun q : Res => pC ((pT (pA q.1)).getD 0 .junk)) e)) (Z43 (congrArg (fun q : Res => pI ((pT (pA q.1)).getD 1 .junk)) e) (Z43 (Z5c ZiP (congrArg (fun q : Res => pL (pA (cellAt q 0 0))) e)) (Z43 (congrArg (fun q : Res => pI (pA (cellAt q 0 2))) e) (Z5c (ZjR ZjC) (congrArg (fun q : Res => pM (cellAt q 1 0)) e)))))
abbrev Z73 (zU : List ZE) (z1W : Int) (zZ : List (Int × Z14)) (z1E : Own) : Int → Res → Prop := fun r q => ∃ (ex : List Row), q = ((iv r), [[(ZL z1E (zU.map ZH)), (.mp 1), (iv z1W)], (rM_ ZF zZ)] ++ ex)
theorem Zio (zU : List ZE) (z1W : Int) (zZ : List (Int × Z14)) (z1E : Own) : ∀ a b q, Z73 zU z1W zZ z1E a q → Z73 zU z1W zZ z1E b q → a = b := by
 rintro a b q ⟨_, e1⟩ ⟨_, e2⟩
 have e := e1.symm.trans e2
 exact congrArg (fun q : Res => pI (pA q.1)) e
abbrev Zep : (List ZA) → Res → Prop := fun r q => ∃ (ex : List Row), q = ((ZL .sh (r.map ZG)), ex)
theorem ZoJ : ∀ a b q, Zep a q → Zep b q → a = b := by
 rintro a b q ⟨_, e1⟩ ⟨_, e2⟩
 have e := e1.symm.trans e2
 exact Z5c ZdZ (congrArg (fun q : Res => pL (pA q.1)) e)
abbrev Z5B (zU : List ZE) (z1W : Int) (zZ : List (Int × Z14)) (z1E : Own) : (ZE × Bool) → Res → Prop := fun r q => ∃ (ex : List Row), q = ((.p (.tup [(.agg (Z1C r.1 .sh)), (.v (.bool r.2))])), [[(ZL z1E (zU.map ZH)), (.mp 1), (iv z1W)], (rM_ ZF zZ)] ++ ex)
theorem ZkJ (zU : List ZE) (z1W : Int) (zZ : List (Int × Z14)) (z1E : Own) : ∀ a b q, Z5B zU z1W zZ z1E a q → Z5B zU z1W zZ z1E b q → a = b := by
 rintro a b q ⟨_, e1⟩ ⟨_, e2⟩
 have e := e1.symm.trans e2
 exact Z43 (Zcs (congrArg (fun q : Res => pC ((pT (pA q.1)).getD 0 .junk)) e)) (congrArg (fun q : Res => pB ((pT (pA q.1)).getD 1 .junk)) e)
abbrev Z60 : Z1e → Res → Prop := fun r q => ∃ (ex : List Row), q = ((pA_ (Z4k r .sh)), ex)
theorem ZiF : ∀ a b q, Z60 a q → Z60 b q → a = b := by
 rintro a b q ⟨_, e1⟩ ⟨_, e2⟩
 have e := e1.symm.trans e2
 exact ZmA (congrArg (fun q : Res => pC (pA q.1)) e)
def Z9P (x0 : List Z10) (x1 : List Int) : Option Bool := pick fun r => ∀ (ox0 ox1 : Own), RRun Z11 (EE 10 [(ZL ox0 (x0.map Z1S)), (ZL ox1 (x1.map (eI .i64)))] []) r
def Ziq x0 x1 ox0 ox1 r (h : Z9P x0 x1 = some r) := Z1g h ox0 ox1
def Za5 : Option Bool := pick fun r => RRun Z11 (EE 29 [] []) r
def ZlU r (h : Za5 = some r) := Z1g h
def Zc8 : Option ((List (Int × Z14)) × (List ZE) × Int) := pick fun r => RRun Zhd (EE 32 [] []) r
def ZhH r (h : Zc8 = some r) := Z1g h
def ZiY : Option ZE := pick fun r => RRun ZiH (EE 43 [] []) r
def Zx2 r (h : ZiY = some r) := Z1g h
def Z6A (x0 x1 x2 : Int) (x3 : ByteArray) : Option Z10 := pick fun r => RRun ZbN (EE 55 [(iv x0), (iv x1), (iv x2), (.p (.v (.string x3)))] []) r
def ZcJ x0 x1 x2 x3 r (h : Z6A x0 x1 x2 x3 = some r) := Z1g h
def Z3v (x1 : Z10) (zU : List ZE) (z1W : Int) (zZ : List (Int × Z14)) : Option (Z1m × Int × (List ZE) × Int × (List (Int × Z14))) := pick fun r => ∀ (z4U z4w z1E : Own) (z3K : ZV z1E = true), RRun Z4G (EE 33 [(.ptr 0 0), (pA_ (Z3H x1 z4U z4w))] [[(ZL z1E (zU.map ZH)), (.mp 1), (iv z1W)], (rM_ ZF zZ)]) r
def Z4Q x1 zU z1W zZ z4U z4w z1E z3K r (h : Z3v x1 zU z1W zZ = some r) := Z1g h z4U z4w z1E z3K
def Zcx (x0 : Z10) : Option Bool := pick fun r => ∀ (z1z z1t : Own), RRun Z11 (EE 31 [(pA_ (Z3H x0 z1z z1t))] []) r
def Zpj x0 z1z z1t r (h : Zcx x0 = some r) := Z1g h z1z z1t
def Z6e (x0 x1 : Int) : Option Bool := pick fun r => RRun Z11 (EE 56 [(iv x0), (iv x1)] []) r
def Z7k x0 x1 r (h : Z6e x0 x1 = some r) := Z1g h
def Z6R (x0 : List ZA) : Option Bool := pick fun r => ∀ (ox0 : Own), RRun Z11 (EE 57 [(ZL ox0 (x0.map ZG)), (.clo 58 [] [])] []) r
def ZgS x0 ox0 r (h : Z6R x0 = some r) := Z1g h ox0
def Z7Y (x0 : List ZA) : Option Int := pick fun r => ∀ (ox0 : Own), RRun ZO (EE 83 [(ZL ox0 (x0.map ZG)), (.clo 58 [] [])] []) r
def Zj8 x0 ox0 r (h : Z7Y x0 = some r) := Z1g h ox0
def Z5t (x0 : List ZA) (x7 x8 : Int) : Option Int := pick fun r => ∀ (ox0 : Own), RRun ZO (ZiR 0 (ZL ox0 (x0.map ZG)) (.clo 58 [] []) (iv x7) (iv x8) []) r
def Zb9 x0 x7 x8 ox0 r (h : Z5t x0 x7 x8 = some r) := Z1g h ox0
def ZaY (x0 : ZA) : Option Bool := pick fun r => RRun Z11 (EE 58 [(pA_ (Z1Y x0))] []) r
def Znq x0 r (h : ZaY x0 = some r) := Z1g h
def Z9o (x0 : ZA) : Option Bool := pick fun r => RRun Z11 (EE 27 [(pA_ (Z1Y x0))] []) r
def Ze2 x0 r (h : Z9o x0 = some r) := Z1g h
def Z7e (x0 : List Int) : Option Bool := pick fun r => ∀ (ox0 : Own), RRun Z11 (EE 59 [(ZL ox0 (x0.map (eI .i64))), (.clo 60 [] [])] []) r
def ZhL x0 ox0 r (h : Z7e x0 = some r) := Z1g h ox0
def Z8g (x0 : List Int) : Option Int := pick fun r => ∀ (ox0 : Own), RRun ZO (EE 84 [(ZL ox0 (x0.map (eI .i64))), (.clo 60 [] [])] []) r
def ZjA x0 ox0 r (h : Z8g x0 = some r) := Z1g h ox0
def Z5I (x0 : List Int) (x7 x8 : Int) : Option Int := pick fun r => ∀ (ox0 : Own), RRun ZO (ZmK 0 (ZL ox0 (x0.map (eI .i64))) (.clo 60 [] []) (iv x7) (iv x8) []) r
def ZbF x0 x7 x8 ox0 r (h : Z5I x0 x7 x8 = some r) := Z1g h ox0
def ZaZ (x0 : Int) : Option Bool := pick fun r => RRun Z11 (EE 60 [(iv x0)] []) r
def Zns x0 r (h : ZaZ x0 = some r) := Z1g h
def Z7z (x1 : Z1i) (zU : List ZE) : Option (Z1m × (List ZE)) := pick fun r => ∀ (z1W : Int) (zZ : List (Int × Z14)) (z2L z2t z1E : Own) (z3K : ZV z1E = true), RRun (Z5M z1W zZ) (EE 61 [(.ptr 0 0), (pA_ (Z4S x1 z2L z2t))] [[(ZL z1E (zU.map ZH)), (.mp 1), (iv z1W)], (rM_ ZF zZ)]) r
def Ziv x1 zU z1W zZ z2L z2t z1E z3K r (h : Z7z x1 zU = some r) := Z1g h z1W zZ z2L z2t z1E z3K
def Ze3 (x0 : ZE) (x1 : Z1i) : Option (ZE × ZY) := pick fun r => ∀ (z1a z2L z2t : Own), RRun Z9M (EE 23 [(pA_ (Z1C x0 z1a)), (pA_ (Z4S x1 z2L z2t))] []) r
def Zs2 x0 x1 z1a z2L z2t r (h : Ze3 x0 x1 = some r) := Z1g h z1a z2L z2t
def Zf5 (x0 : ZE) (x1 : Z1i) : Option (ZE × Int) := pick fun r => ∀ (z1a z2L z2t : Own), RRun Z2T (EE 22 [(pA_ (Z1C x0 z1a)), (pA_ (Z4S x1 z2L z2t))] []) r
def Zx0 x0 x1 z1a z2L z2t r (h : Zf5 x0 x1 = some r) := Z1g h z1a z2L z2t
def ZbC (x0 : ZE) : Option Bool := pick fun r => ∀ (z1a : Own), RRun Z11 (EE 20 [(pA_ (Z1C x0 z1a))] []) r
def ZjN x0 z1a r (h : ZbC x0 = some r) := Z1g h z1a
def Z9I (x0 : ZE) : Option Bool := pick fun r => ∀ (z1a : Own), RRun Z11 (EE 46 [(pA_ (Z1C x0 z1a))] []) r
def ZgN x0 z1a r (h : Z9I x0 = some r) := Z1g h z1a
def Z9H (x3 : Int) (x16 : List ZA) (x17 x18 : Int) : Option Bool := pick fun r => ∀ (ox16 : Own), RRun Z11 (Zsh 0 (iv x3) (ZL ox16 (x16.map ZG)) (iv x17) (iv x18) []) r
def ZgM x3 x16 x17 x18 ox16 r (h : Z9H x3 x16 x17 x18 = some r) := Z1g h ox16
def Zhq (x1 z1K : Int) : Option Int := pick fun r => ∀ (z1R z2i z1X : Int) (z1U : List ZA) (zD : Own), RRun (Zhf z1R z2i z1X z1U zD) (EE 49 [(.ptr 0 0), (iv x1)] [(Z2F z1K z1R z2i z1X z1U zD)]) r
def Zvn x1 z1K z1R z2i z1X z1U zD r (h : Zhq x1 z1K = some r) := Z1g h z1R z2i z1X z1U zD
def Zd9 (x1 z1R : Int) : Option Int := pick fun r => ∀ (z1K z2i z1X : Int) (z1U : List ZA) (zD : Own), RRun (ZcV z1K z2i z1X z1U zD) (EE 49 [(.ptr 0 1), (iv x1)] [(Z2F z1K z1R z2i z1X z1U zD)]) r
def ZqU x1 z1K z1R z2i z1X z1U zD r (h : Zd9 x1 z1R = some r) := Z1g h z1K z2i z1X z1U zD
def Zd8 (x1 z2i : Int) : Option Int := pick fun r => ∀ (z1K z1R z1X : Int) (z1U : List ZA) (zD : Own), RRun (ZcU z1K z1R z1X z1U zD) (EE 49 [(.ptr 0 2), (iv x1)] [(Z2F z1K z1R z2i z1X z1U zD)]) r
def ZqS x1 z1K z1R z2i z1X z1U zD r (h : Zd8 x1 z2i = some r) := Z1g h z1K z1R z1X z1U zD
def Zd7 (x1 z1X : Int) : Option Int := pick fun r => ∀ (z1K z1R z2i : Int) (z1U : List ZA) (zD : Own), RRun (ZcT z1K z1R z2i z1U zD) (EE 49 [(.ptr 0 3), (iv x1)] [(Z2F z1K z1R z2i z1X z1U zD)]) r
def ZqQ x1 z1K z1R z2i z1X z1U zD r (h : Zd7 x1 z1X = some r) := Z1g h z1K z1R z2i z1U zD
def Zc4 (x0 : List ZA) : Option Bool := pick fun r => ∀ (ox0 : Own), RRun Z11 (EE 50 [(ZL ox0 (x0.map ZG)), (.clo 27 [] [])] []) r
def Zos x0 ox0 r (h : Zc4 x0 = some r) := Z1g h ox0
def Z6S (x0 : List ZA) : Option Bool := pick fun r => ∀ (ox0 : Own), RRun Z6U (EE 57 [(ZL ox0 (x0.map ZG)), (.clo 73 [] [(.ptr 0 0)])] [[(.clo 27 [] [])]]) r
def ZgU x0 ox0 r (h : Z6S x0 = some r) := Z1g h ox0
def Z7Z (x0 : List ZA) : Option Int := pick fun r => ∀ (ox0 : Own), RRun Z3x (EE 83 [(ZL ox0 (x0.map ZG)), (.clo 73 [] [(.ptr 0 0)])] [[(.clo 27 [] [])]]) r
def Zja x0 ox0 r (h : Z7Z x0 = some r) := Z1g h ox0
def Z5u (x0 : List ZA) (x7 x8 : Int) : Option Int := pick fun r => ∀ (ox0 : Own), RRun Z3x (ZiR 1 (ZL ox0 (x0.map ZG)) (.clo 73 [] [(.ptr 0 0)]) (iv x7) (iv x8) [[(.clo 27 [] [])]]) r
def Zba x0 x7 x8 ox0 r (h : Z5u x0 x7 x8 = some r) := Z1g h ox0
def Z8K (x0 : ZA) : Option Bool := pick fun r => RRun Z6U (EE 73 [(pA_ (Z1Y x0)), (.ptr 0 0)] [[(.clo 27 [] [])]]) r
def ZmZ x0 r (h : Z8K x0 = some r) := Z1g h
def Zcz (x0 : Z1i) : Option Bool := pick fun r => ∀ (z84 z6B : Own), RRun Z11 (EE 51 [(pA_ (Z4S x0 z84 z6B))] []) r
def Zpr x0 z84 z6B r (h : Zcz x0 = some r) := Z1g h z84 z6B
def Z6T (x0 : List ZA) (z16 : List (Int × Bool)) : Option (Bool × (List (Int × Bool))) := pick fun r => ∀ (ox0 : Own), RRun Z5Q (EE 57 [(ZL ox0 (x0.map ZG)), (.clo 75 [] [(.ptr 0 0)])] [[(.clo 74 [] [(.ptr 1 0)])], [(.mp 2)], (rM_ eB z16)]) r
def ZgW x0 z16 ox0 r (h : Z6T x0 z16 = some r) := Z1g h ox0
def Z80 (x0 : List ZA) (z16 : List (Int × Bool)) : Option (Int × (List (Int × Bool))) := pick fun r => ∀ (ox0 : Own), RRun Z3y (EE 83 [(ZL ox0 (x0.map ZG)), (.clo 75 [] [(.ptr 0 0)])] [[(.clo 74 [] [(.ptr 1 0)])], [(.mp 2)], (rM_ eB z16)]) r
def Zjc x0 z16 ox0 r (h : Z80 x0 z16 = some r) := Z1g h ox0
def Z5v (x0 : List ZA) (x7 x8 : Int) (z16 : List (Int × Bool)) : Option (Int × (List (Int × Bool))) := pick fun r => ∀ (ox0 : Own), RRun Z3y (ZiR 3 (ZL ox0 (x0.map ZG)) (.clo 75 [] [(.ptr 0 0)]) (iv x7) (iv x8) [[(.clo 74 [] [(.ptr 1 0)])], [(.mp 2)], (rM_ eB z16)]) r
def Zbb x0 x7 x8 z16 ox0 r (h : Z5v x0 x7 x8 z16 = some r) := Z1g h ox0
def Z9f (x0 : ZA) (z16 : List (Int × Bool)) : Option (Bool × (List (Int × Bool))) := pick fun r => RRun Z5Q (EE 75 [(pA_ (Z1Y x0)), (.ptr 0 0)] [[(.clo 74 [] [(.ptr 1 0)])], [(.mp 2)], (rM_ eB z16)]) r
def Zl5 x0 z16 r (h : Z9f x0 z16 = some r) := Z1g h
def Z7l (x0 : Int) (zZ : List (Int × Bool)) : Option (Bool × (List (Int × Bool))) := pick fun r => RRun Z5P (EE 74 [(iv x0), (.ptr 0 0)] [[(.mp 1)], (rM_ eB zZ)]) r
def Zdy x0 zZ r (h : Z7l x0 zZ = some r) := Z1g h
def Z7d (x0 : List Int) (zZ : List (Int × Bool)) : Option (Bool × (List (Int × Bool))) := pick fun r => ∀ (ox0 : Own), RRun Z5P (EE 59 [(ZL ox0 (x0.map (eI .i64))), (.clo 74 [] [(.ptr 0 0)])] [[(.mp 1)], (rM_ eB zZ)]) r
def ZhJ x0 zZ ox0 r (h : Z7d x0 zZ = some r) := Z1g h ox0
def Z8f (x0 : List Int) (zZ : List (Int × Bool)) : Option (Int × (List (Int × Bool))) := pick fun r => ∀ (ox0 : Own), RRun Z3G (EE 84 [(ZL ox0 (x0.map (eI .i64))), (.clo 74 [] [(.ptr 0 0)])] [[(.mp 1)], (rM_ eB zZ)]) r
def Zjy x0 zZ ox0 r (h : Z8f x0 zZ = some r) := Z1g h ox0
def Z5H (x0 : List Int) (x7 x8 : Int) (zZ : List (Int × Bool)) : Option (Int × (List (Int × Bool))) := pick fun r => ∀ (ox0 : Own), RRun Z3G (ZmK 2 (ZL ox0 (x0.map (eI .i64))) (.clo 74 [] [(.ptr 0 0)]) (iv x7) (iv x8) [[(.mp 1)], (rM_ eB zZ)]) r
def ZbE x0 x7 x8 zZ ox0 r (h : Z5H x0 x7 x8 zZ = some r) := Z1g h ox0
def Zby (x54 : List ZA) (x55 x56 : Int) (b1 : Z1i) (zK zT z12 zW : Int) (z1B : List (Int × ZA)) : Option (ZE × Int) := pick fun r => ∀ (b0 b2 : ZE) (z1c : List ZA) (ox54 zD z17 z13 zN z18 : Own) (z1u : ZV zN = true), RRun Z2T (Zp3 0 (.ptr 1 0) (.ptr 2 0) (.ptr 3 0) (.mp 4) (ZL ox54 (x54.map ZG)) (iv x55) (iv x56) [(ZB b0 zD), (ZJ b1 z17 z13), (ZB b2 zN), (Z2F zK zT z12 zW z1c z18), (rM_ ZG z1B)]) r
def ZjF x54 x55 x56 b0 b1 b2 zK zT z12 zW z1c z1B ox54 zD z17 z13 zN z18 z1u r (h : Zby x54 x55 x56 b1 zK zT z12 zW z1B = some r) := Z1g h b0 b2 z1c ox54 zD z17 z13 zN z18 z1u
def Zbz (x66 : List Int) (x67 x68 : Int) (b1 : Z1i) (zK zT z12 zW : Int) (z1B : List (Int × ZA)) : Option (ZE × Int) := pick fun r => ∀ (b0 b2 : ZE) (z1c : List ZA) (ox66 zD z17 z13 zN z18 : Own) (z1u : ZV zN = true), RRun Z2T (Zp4 0 (.ptr 1 0) (.ptr 2 0) (.ptr 3 0) (.mp 4) (ZL ox66 (x66.map (eI .i64))) (iv x67) (iv x68) [(ZB b0 zD), (ZJ b1 z17 z13), (ZB b2 zN), (Z2F zK zT z12 zW z1c z18), (rM_ ZG z1B)]) r
def ZjH x66 x67 x68 b0 b1 b2 zK zT z12 zW z1c z1B ox66 zD z17 z13 zN z18 z1u r (h : Zbz x66 x67 x68 b1 zK zT z12 zW z1B = some r) := Z1g h b0 b2 z1c ox66 zD z17 z13 zN z18 z1u
def ZbA (x85 : List ZA) (x86 x87 zK zT z12 zW : Int) (z1B : List (Int × ZA)) : Option (ZE × Int) := pick fun r => ∀ (b0 : ZE) (b1 : Z1i) (b2 : ZE) (z1c : List ZA) (ox85 zD z17 z13 zN z18 : Own) (z1u : ZV zN = true), RRun Z2T (Zp5 0 (.ptr 2 0) (.ptr 3 0) (.mp 4) (ZL ox85 (x85.map ZG)) (iv x86) (iv x87) [(ZB b0 zD), (ZJ b1 z17 z13), (ZB b2 zN), (Z2F zK zT z12 zW z1c z18), (rM_ ZG z1B)]) r
def ZjJ x85 x86 x87 b0 b1 b2 zK zT z12 zW z1c z1B ox85 zD z17 z13 zN z18 z1u r (h : ZbA x85 x86 x87 zK zT z12 zW z1B = some r) := Z1g h b0 b1 b2 z1c ox85 zD z17 z13 zN z18 z1u
def ZaX : Option Unit := pick fun r => ∀ (zU : List (Int × ZA)), RRun (ZaQ zU) (EE 53 [(.mp 0)] [(rM_ ZG zU)]) r
def Zno zU r (h : ZaX = some r) := Z1g h zU
def Zc7 (zZ : List (Int × ZA)) : Option (List Int) := pick fun r => RRun (Zc5 zZ) (EE 52 [(.clo 78 [] [(.ptr 0 0)])] [[(.mp 1)], (rM_ ZG zZ)]) r
def Zlz zZ r (h : Zc7 zZ = some r) := Z1g h
def ZbB (x103 : List Int) (x104 x105 zK zT z12 zW : Int) (z1c : List ZA) (z1B : List (Int × ZA)) : Option (ZE × Int) := pick fun r => ∀ (b0 : ZE) (b1 : Z1i) (b2 : ZE) (ox103 zD z17 z13 zN z18 : Own) (z1u : ZV zN = true) (za7 : ZV z18 = true), RRun Z2T (Zp6 0 (.ptr 2 0) (.ptr 3 0) (.mp 4) (ZL ox103 (x103.map (eI .i64))) (iv x104) (iv x105) [(ZB b0 zD), (ZJ b1 z17 z13), (ZB b2 zN), (Z2F zK zT z12 zW z1c z18), (rM_ ZG z1B)]) r
def ZjL x103 x104 x105 b0 b1 b2 zK zT z12 zW z1c z1B ox103 zD z17 z13 zN z18 z1u za7 r (h : ZbB x103 x104 x105 zK zT z12 zW z1c z1B = some r) := Z1g h b0 b1 b2 ox103 zD z17 z13 zN z18 z1u za7
def ZeH (x0 : ZE) : Option ZY := pick fun r => ∀ (z1a : Own), RRun Z3Z (EE 16 [(pA_ (Z1C x0 z1a))] []) r
def ZsU x0 z1a r (h : ZeH x0 = some r) := Z1g h z1a
def Zai (x11 : List ZA) (x12 x13 : Int) : Option ZY := pick fun r => ∀ (b0 : ZE) (b1 : ZY) (ox11 zD : Own), RRun Z3Z (Zse 0 (.ptr 1 0) (ZL ox11 (x11.map ZG)) (iv x12) (iv x13) [(ZB b0 zD), (Z1d b1)]) r
def Zii x11 x12 x13 b0 b1 ox11 zD r (h : Zai x11 x12 x13 = some r) := Z1g h b0 b1 ox11 zD
def Z6x (x0 : ByteArray) : Option ZY := pick fun r => RRun Z3Z (EE 21 [(.p (.v (.string x0)))] []) r
def Zr3 x0 r (h : Z6x x0 = some r) := Z1g h
def Zho (x0 : ByteArray) : Option (Z1P × Z1q) := pick fun r => RRun Z5d (EE 47 [(.p (.v (.string x0)))] []) r
def Zvf x0 r (h : Zho x0 = some r) := Z1g h
def Z2n (x1 : ByteArray) (zl : List Int) (zn : Int) : Option (Bool × Int) := pick fun r => ∀ (z7 zd : Int) (zh : List Zz) (z2 z6 : Int) (zu zb : Own) (zy : ZV zb = true), RRun (Z82 zl z7 zd zh z2 z6 zu zb) (EE 68 [(.ptr 0 0), (.p (.v (.string x1)))] [(ZX zl zn z7 zd zh z2 z6 zu zb)]) r
def Z2y x1 zl zn z7 zd zh z2 z6 zu zb zy r (h : Z2n x1 zl zn = some r) := Z1g h z7 zd zh z2 z6 zu zb zy
def Z5q (zl : List Int) (zn z7 zd : Int) (zh : List Zz) (z2 z6 : Int) : Option (Zj × Int × Int × Int × (List Zz) × Int × Int) := pick fun r => ∀ (zu zb : Own) (zy : ZV zb = true), RRun (Z3g zl zu) (EE 69 [(.ptr 0 0)] [(ZX zl zn z7 zd zh z2 z6 zu zb)]) r
def Zic zl zn z7 zd zh z2 z6 zu zb zy r (h : Z5q zl zn z7 zd zh z2 z6 = some r) := Z1g h zu zb zy
def Z8H (zl : List Int) (zn z7 zd : Int) (zh : List Zz) (z2 z6 : Int) : Option (Zj × Int × Int × Int × (List Zz) × Int × Int) := pick fun r => ∀ (zu zb : Own) (zy : ZV zb = true), RRun (Z3g zl zu) (EE 91 [(.ptr 0 0)] [(ZX zl zn z7 zd zh z2 z6 zu zb)]) r
def Zie zl zn z7 zd zh z2 z6 zu zb zy r (h : Z8H zl zn z7 zd zh z2 z6 = some r) := Z1g h zu zb zy
def Z70 (x3 : List Zj) (zl : List Int) (zn z7 zd : Int) (zh : List Zz) (z2 z6 : Int) : Option (Zj × Int × Int × Int × (List Zz) × Int × Int) := pick fun r => ∀ (b1 : Zj) (ox3 zu zb zP zI : Own) (hox3 : ZV ox3 = true) (zy : ZV zb = true) (z1w : ZV zP = true) (z1k : ZV zI = true), RRun (Z3g zl zu) (ZsA 1 (.ptr 0 0) (.ptr 1 0) (ZL ox3 (x3.map Z15)) [(ZX zl zn z7 zd zh z2 z6 zu zb), (Zv b1 zP zI)]) r
def ZeX x3 zl zn z7 zd zh z2 z6 b1 ox3 zu zb zP zI hox3 zy z1w z1k r (h : Z70 x3 zl zn z7 zd zh z2 z6 = some r) := Z1g h b1 ox3 zu zb zP zI hox3 zy z1w z1k
def Z3q (b0 : Z2f) : Option Int := pick fun r => ∀ (zu zb : Own) (zy : ZV zb = true), RRun (Z9y b0 zu zb) (EE 104 [(.ptr 0 0)] [(Z4V b0 zu zb)]) r
def Z3D b0 zu zb zy r (h : Z3q b0 = some r) := Z1g h zu zb zy
def Zh8 (x0 : List Int) (x1 : Int) : Option (Int × Int) := pick fun r => ∀ (ox0 : Own), RRun Z49 (EE 126 [(ZL ox0 (x0.map (eI .u8))), (iv x1)] []) r
def ZpE x0 x1 ox0 r (h : Zh8 x0 x1 = some r) := Z1g h ox0
def Zb2 (x0 : List Int) : Option (Int × Int) := pick fun r => ∀ (ox0 : Own), RRun ZaS (EE 146 [(ZL ox0 (x0.map (eI .u8)))] []) r
def Zkg x0 ox0 r (h : Zb2 x0 = some r) := Z1g h ox0
def Zdm (x0 : Int) (x1 : List Zj) : Option Zj := pick fun r => ∀ (ox1 : Own), RRun Z8p (EE 92 [(iv x0), (ZL ox1 (x1.map Z15))] []) r
def ZlJ x0 x1 ox1 r (h : Zdm x0 x1 = some r) := Z1g h ox1
def Zc3 (zl : List Int) (zn z7 zd : Int) (zh : List Zz) (z2 z6 : Int) : Option (Zj × Bool × Int × Int × Int × (List Zz) × Int × Int) := pick fun r => ∀ (zu zb : Own) (zy : ZV zb = true), RRun (Z3F zl zu) (EE 105 [(.ptr 0 0)] [(ZX zl zn z7 zd zh z2 z6 zu zb)]) r
def Zoj zl zn z7 zd zh z2 z6 zu zb zy r (h : Zc3 zl zn z7 zd zh z2 z6 = some r) := Z1g h zu zb zy
def Z4b (zl : List Int) (zn : Int) : Option (Int × Int) := pick fun r => ∀ (z7 zd : Int) (zh : List Zz) (z2 z6 : Int) (zu zb : Own) (zy : ZV zb = true), RRun (Z2Q zl z7 zd zh z2 z6 zu zb) (EE 127 [(.ptr 0 0)] [(ZX zl zn z7 zd zh z2 z6 zu zb)]) r
def Z4J zl zn z7 zd zh z2 z6 zu zb zy r (h : Z4b zl zn = some r) := Z1g h z7 zd zh z2 z6 zu zb zy
def Z3c (x0 : Int) : Option Zi := pick fun r => RRun Zkx (EE 129 [(iv x0)] []) r
def Z30 x0 r (h : Z3c x0 = some r) := Z1g h
def Z54 (x0 : Bool) (x1 : List Zi) : Option Zj := pick fun r => ∀ (ox1 : Own), RRun Z8p (EE 128 [(bv x0), (ZL ox1 (x1.map ZC))] []) r
def Z5j x0 x1 ox1 r (h : Z54 x0 x1 = some r) := Z1g h ox1
def ZiS (x0 : List Zi) : Option ((List Zi) × Int) := pick fun r => ∀ (ox0 : Own), RRun Z6b (EE 147 [(ZL ox0 (x0.map ZC))] []) r
def ZwU x0 ox0 r (h : ZiS x0 = some r) := Z1g h ox0
def Z6q (x0 : List Zi) : Option Bool := pick fun r => ∀ (ox0 : Own), RRun Z11 (EE 166 [(ZL ox0 (x0.map ZC)), (.clo 167 [] [])] []) r
def Zgd x0 ox0 r (h : Z6q x0 = some r) := Z1g h ox0
def Z7E (x0 : List Zi) : Option Int := pick fun r => ∀ (ox0 : Own), RRun ZO (EE 179 [(ZL ox0 (x0.map ZC)), (.clo 167 [] [])] []) r
def ZiA x0 ox0 r (h : Z7E x0 = some r) := Z1g h ox0
def Z5a (x0 : List Zi) (x7 x8 : Int) : Option Int := pick fun r => ∀ (ox0 : Own), RRun ZO (ZoZ 0 (ZL ox0 (x0.map ZC)) (.clo 167 [] []) (iv x7) (iv x8) []) r
def ZaP x0 x7 x8 ox0 r (h : Z5a x0 x7 x8 = some r) := Z1g h ox0
def ZfA (x0 : Zi) : Option Bool := pick fun r => RRun Z11 (EE 167 [(pA_ (Z1b x0))] []) r
def Zuk x0 r (h : ZfA x0 = some r) := Z1g h
def Z9F (x0 : Zi) : Option Bool := pick fun r => RRun Z11 (EE 168 [(pA_ (Z1b x0))] []) r
def ZgF x0 r (h : Z9F x0 = some r) := Z1g h
def ZfC (x0 : List Zi) : Option (List Zi) := pick fun r => ∀ (ox0 : Own), RRun Z4M (EE 169 [(ZL ox0 (x0.map ZC))] []) r
def ZlI x0 ox0 r (h : ZfC x0 = some r) := Z1g h ox0
def Zcv (x0 : List Zi) : Option ((List Zi) × Int) := pick fun r => ∀ (ox0 : Own), RRun Z6b (EE 148 [(ZL ox0 (x0.map ZC))] []) r
def ZkT x0 ox0 r (h : Zcv x0 = some r) := Z1g h ox0
def Z8E (x0 : List Zi) : Option Bool := pick fun r => ∀ (ox0 : Own), RRun Z11 (EE 170 [(ZL ox0 (x0.map ZC))] []) r
def Zdj x0 ox0 r (h : Z8E x0 = some r) := Z1g h ox0
def Z8F (x3 : Int) (x6 : List Zi) (x7 x8 : Int) : Option Bool := pick fun r => ∀ (ox6 : Own), RRun Z11 (ZoW 0 (iv x3) (ZL ox6 (x6.map ZC)) (iv x7) (iv x8) []) r
def ZeO x3 x6 x7 x8 ox6 r (h : Z8F x3 x6 x7 x8 = some r) := Z1g h ox6
def ZeF (x0 : List Zi) : Option (List Zi) := pick fun r => ∀ (ox0 : Own), RRun Z4M (EE 171 [(ZL ox0 (x0.map ZC))] []) r
def ZsL x0 ox0 r (h : ZeF x0 = some r) := Z1g h ox0
def Zaf (x3 : List Zi) (x4 : Int) (x7 : List Zi) (x8 x9 : Int) : Option (List Zi) := pick fun r => ∀ (ox3 ox7 : Own) (hox3 : ZV ox3 = true), RRun Z4M (ZoX 0 (ZL ox3 (x3.map ZC)) (iv x4) (ZL ox7 (x7.map ZC)) (iv x8) (iv x9) []) r
def Zi8 x3 x4 x7 x8 x9 ox3 ox7 hox3 r (h : Zaf x3 x4 x7 x8 x9 = some r) := Z1g h ox3 ox7 hox3
def Z5W (x1 : Int) (zl : List Int) (zn z7 zd : Int) (zh : List Zz) (z2 z6 : Int) : Option (Zj × Int × (List Zz) × Int × Int) := pick fun r => ∀ (zu zb : Own) (zy : ZV zb = true), RRun (Z5N zl z7 zd zu) (EE 130 [(.ptr 0 0), (iv x1)] [(ZX zl zn z7 zd zh z2 z6 zu zb)]) r
def ZmS x1 zl zn z7 zd zh z2 z6 zu zb zy r (h : Z5W x1 zl zn z7 zd zh z2 z6 = some r) := Z1g h zu zb zy
def Z1D (x1 x2 : Int) (zl : List Int) (z2 z6 : Int) : Option (Int × Int × Int) := pick fun r => ∀ (zn z7 zd : Int) (zh : List Zz) (zu zb : Own) (zy : ZV zb = true), RRun (Z9x zl z7 zd zh zu zb) (EE 70 [(.ptr 0 0), (iv x1), (iv x2)] [(ZX zl zn z7 zd zh z2 z6 zu zb)]) r
def Z1J x1 x2 zl zn z7 zd zh z2 z6 zu zb zy r (h : Z1D x1 x2 zl z2 z6 = some r) := Z1g h zn z7 zd zh zu zb zy
def Z9n (x0 : Int) : Option (Own × (List Zi)) := pick fun r => RRun ZaD (EE 149 [(iv x0)] []) r
def Ze1 x0 r (h : Z9n x0 = some r) := Z1g h
def Z9e (x1 x2 : Int) (zl : List Int) (zn z7 zd : Int) (zh : List Zz) (z2 z6 : Int) : Option (Int × Int × Int × Int) := pick fun r => ∀ (zu zb : Own) (zy : ZV zb = true), RRun (Z7q zl z7 zd zh zu zb) (EE 150 [(.ptr 0 0), (iv x1), (iv x2)] [(ZX zl zn z7 zd zh z2 z6 zu zb)]) r
def Zg3 x1 x2 zl zn z7 zd zh z2 z6 zu zb zy r (h : Z9e x1 x2 zl zn z7 zd zh z2 z6 = some r) := Z1g h zu zb zy
def ZgJ (x0 : Int) : Option Int := pick fun r => RRun ZO (EE 172 [(iv x0)] []) r
def Zpn x0 r (h : ZgJ x0 = some r) := Z1g h
def Zcu (x0 : List Zi) (x1 : Int) : Option Bool := pick fun r => ∀ (ox0 : Own), RRun Z11 (EE 173 [(ZL ox0 (x0.map ZC)), (iv x1)] []) r
def ZsH x0 x1 ox0 r (h : Zcu x0 x1 = some r) := Z1g h ox0
def Z6p (x0 : List Zi) (zU : Int) : Option Bool := pick fun r => ∀ (ox0 : Own), RRun (Z9j zU) (EE 184 [(ZL ox0 (x0.map ZC)), (.clo 185 [] [(.ptr 0 0)])] [[(iv zU)]]) r
def Zgb x0 zU ox0 r (h : Z6p x0 zU = some r) := Z1g h ox0
def Z7D (x0 : List Zi) (zU : Int) : Option Int := pick fun r => ∀ (ox0 : Own), RRun (Z3s zU) (EE 191 [(ZL ox0 (x0.map ZC)), (.clo 185 [] [(.ptr 0 0)])] [[(iv zU)]]) r
def Ziy x0 zU ox0 r (h : Z7D x0 zU = some r) := Z1g h ox0
def Z59 (x0 : List Zi) (x7 x8 zU : Int) : Option Int := pick fun r => ∀ (ox0 : Own), RRun (Z3s zU) (Zp0 1 (ZL ox0 (x0.map ZC)) (.clo 185 [] [(.ptr 0 0)]) (iv x7) (iv x8) [[(iv zU)]]) r
def ZaN x0 x7 x8 zU ox0 r (h : Z59 x0 x7 x8 zU = some r) := Z1g h ox0
def Zd6 (x0 : Zi) (zU : Int) : Option Bool := pick fun r => RRun (Z9j zU) (EE 185 [(pA_ (Z1b x0)), (.ptr 0 0)] [[(iv zU)]]) r
def Zqn x0 zU r (h : Zd6 x0 zU = some r) := Z1g h
def Zb1 (x1 : Int) (zl : List Int) (zn z7 zd : Int) (zh : List Zz) (z2 z6 : Int) : Option (Zj × Int × Int × Int) := pick fun r => ∀ (zu zb : Own) (zy : ZV zb = true), RRun (Z2m zl z7 zd zh zu zb) (EE 131 [(.ptr 0 0), (iv x1)] [(ZX zl zn z7 zd zh z2 z6 zu zb)]) r
def Znv x1 zl zn z7 zd zh z2 z6 zu zb zy r (h : Zb1 x1 zl zn z7 zd zh z2 z6 = some r) := Z1g h zu zb zy
def Z5b (x1 : Int) (x5 : Bool) (x8 : Int) (zl : List Int) (zn z7 zd : Int) (zh : List Zz) (z2 z6 : Int) (z16 : List Zi) : Option (Zj × Int × Int × Int) := pick fun r => ∀ (b1 : Zj) (zu zb zP zI z2D : Own) (zy : ZV zb = true) (z1w : ZV zP = true) (z1k : ZV zI = true), RRun (Z2m zl z7 zd zh zu zb) (ZoQ 1 (.ptr 0 0) (iv x1) (.ptr 1 0) (bv x5) (.ptr 2 0) (.clo 151 [] [(.ptr 2 0)]) (iv x8) [(ZX zl zn z7 zd zh z2 z6 zu zb), (Zv b1 zP zI), [(ZL z2D (z16.map ZC))]]) r
def Zed x1 x5 x8 zl zn z7 zd zh z2 z6 b1 z16 zu zb zP zI z2D zy z1w z1k r (h : Z5b x1 x5 x8 zl zn z7 zd zh z2 z6 z16 = some r) := Z1g h b1 zu zb zP zI z2D zy z1w z1k
def Z71 (zl : List Int) (zn z7 zd : Int) (zh : List Zz) (z2 z6 : Int) : Option (Int × (Own × (List Zi)) × Bool × Int × Int × Int) := pick fun r => ∀ (zu zb : Own) (zy : ZV zb = true), RRun (Z5O zl z7 zd zh zu zb) (EE 153 [(.ptr 0 0)] [(ZX zl zn z7 zd zh z2 z6 zu zb)]) r
def Zf0 zl zn z7 zd zh z2 z6 zu zb zy r (h : Z71 zl zn z7 zd zh z2 z6 = some r) := Z1g h zu zb zy
def Z85 (x0 zU : List Zi) : Option (List Zi) := pick fun r => ∀ (ox0 z1E : Own), RRun Z9Z (EE 151 [(ZL ox0 (x0.map ZC)), (.ptr 0 0)] [[(ZL z1E (zU.map ZC))]]) r
def ZeG x0 zU ox0 z1E r (h : Z85 x0 zU = some r) := Z1g h ox0 z1E
def ZfB (x0 x1 : List Zi) : Option ((List Zi) × Int) := pick fun r => ∀ (ox0 ox1 : Own), RRun Z6b (EE 152 [(ZL ox0 (x0.map ZC)), (ZL ox1 (x1.map ZC))] []) r
def Zum x0 x1 ox0 ox1 r (h : ZfB x0 x1 = some r) := Z1g h ox0 ox1
def Zds (x0 : List (List Zi)) : Option (List Zi) := pick fun r => ∀ (ox0 : Own), RRun Z4M (EE 174 [(ZL ox0 (x0.map (eL ZC)))] []) r
def Zn0 x0 ox0 r (h : Zds x0 = some r) := Z1g h ox0
def Z6a (x1 : Int) (zl : List Int) (zn z7 zd : Int) (zh : List Zz) (z2 z6 : Int) : Option (Zj × Bool × Int × Int × Int × (List Zz) × Int × Int) := pick fun r => ∀ (zu zb : Own) (zy : ZV zb = true), RRun (Z3F zl zu) (EE 132 [(.ptr 0 0), (iv x1)] [(ZX zl zn z7 zd zh z2 z6 zu zb)]) r
def Znx x1 zl zn z7 zd zh z2 z6 zu zb zy r (h : Z6a x1 zl zn z7 zd zh z2 z6 = some r) := Z1g h zu zb zy
def Zhp : Option (List ByteArray) := pick fun r => RRun Zhe (EE 155 [] []) r
def Zvh r (h : Zhp = some r) := Z1g h
def Z7f (x0 : List ByteArray) (zl : List Int) (zn : Int) : Option (Int × Int) := pick fun r => ∀ (z7 zd : Int) (zh : List Zz) (z2 z6 : Int) (ox0 zu zb : Own) (zy : ZV zb = true), RRun (Z2Q zl z7 zd zh z2 z6 zu zb) (EE 154 [(ZL ox0 (x0.map eS)), (.clo 68 [(.ptr 0 0)] [])] [(ZX zl zn z7 zd zh z2 z6 zu zb)]) r
def ZhR x0 zl zn z7 zd zh z2 z6 ox0 zu zb zy r (h : Z7f x0 zl zn = some r) := Z1g h z7 zd zh z2 z6 ox0 zu zb zy
def Z32 (x0 : List ByteArray) (x7 x8 : Int) (zl : List Int) (zn : Int) : Option (Int × Int) := pick fun r => ∀ (z7 zd : Int) (zh : List Zz) (z2 z6 : Int) (ox0 zu zb : Own) (zy : ZV zb = true), RRun (Z2Q zl z7 zd zh z2 z6 zu zb) (ZoS 1 (ZL ox0 (x0.map eS)) (.clo 68 [(.ptr 0 0)] []) (iv x7) (iv x8) [(ZX zl zn z7 zd zh z2 z6 zu zb)]) r
def Zaz x0 x7 x8 zl zn z7 zd zh z2 z6 ox0 zu zb zy r (h : Z32 x0 x7 x8 zl zn = some r) := Z1g h z7 zd zh z2 z6 ox0 zu zb zy
def Z8J (x1 : Zj) (x2 : Bool) (zl : List Int) (zn z7 zd : Int) (zh : List Zz) (z2 z6 : Int) : Option (Zj × Int × Int × Int) := pick fun r => ∀ (z4o z3R zu zb : Own) (zy : ZV zb = true), RRun (Z2m zl z7 zd zh zu zb) (EE 106 [(.ptr 0 0), (pA_ (ZQ x1 z4o z3R)), (bv x2)] [(ZX zl zn z7 zd zh z2 z6 zu zb)]) r
def ZmW x1 x2 zl zn z7 zd zh z2 z6 z4o z3R zu zb zy r (h : Z8J x1 x2 zl zn z7 zd zh z2 z6 = some r) := Z1g h z4o z3R zu zb zy
def Z8I (x1 : Int) (zl : List Int) (zn z7 zd : Int) (zh : List Zz) (z2 z6 : Int) : Option (Int × Int × Int × Int × Int) := pick fun r => ∀ (zu zb : Own) (zy : ZV zb = true), RRun (Z48 zl z7 zd zh zu zb) (EE 133 [(.ptr 0 0), (iv x1)] [(ZX zl zn z7 zd zh z2 z6 zu zb)]) r
def ZmQ x1 zl zn z7 zd zh z2 z6 zu zb zy r (h : Z8I x1 zl zn z7 zd zh z2 z6 = some r) := Z1g h zu zb zy
def Z72 (zl : List Int) (zn z7 zd : Int) (zh : List Zz) (z2 z6 : Int) : Option (Int × Int) := pick fun r => ∀ (zu zb : Own) (zy : ZV zb = true), RRun (Z2Q zl z7 zd zh z2 z6 zu zb) (EE 156 [(.ptr 0 0)] [(ZX zl zn z7 zd zh z2 z6 zu zb)]) r
def Zf1 zl zn z7 zd zh z2 z6 zu zb zy r (h : Z72 zl zn z7 zd zh z2 z6 = some r) := Z1g h zu zb zy
def Z51 (x3 x4 : Int) (zl : List Int) (zn z7 zd : Int) (zh : List Zz) (z2 z6 : Int) : Option (Int × Int) := pick fun r => ∀ (zu zb : Own) (zy : ZV zb = true), RRun (Z2Q zl z7 zd zh z2 z6 zu zb) (ZoT 1 (.ptr 0 0) (iv x3) (iv x4) [(ZX zl zn z7 zd zh z2 z6 zu zb)]) r
def Zdx x3 x4 zl zn z7 zd zh z2 z6 zu zb zy r (h : Z51 x3 x4 zl zn z7 zd zh z2 z6 = some r) := Z1g h zu zb zy
def Z6Z (x3 : List Zj) (zl : List Int) (zn z7 zd : Int) (zh : List Zz) (z2 z6 : Int) : Option (Zj × Int × Int × Int × (List Zz) × Int × Int) := pick fun r => ∀ (b1 : Zj) (ox3 zu zb zP zI : Own) (hox3 : ZV ox3 = true) (zy : ZV zb = true) (z1w : ZV zP = true) (z1k : ZV zI = true), RRun (Z3g zl zu) (Zsq 1 (.ptr 0 0) (.ptr 1 0) (ZL ox3 (x3.map Z15)) [(ZX zl zn z7 zd zh z2 z6 zu zb), (Zv b1 zP zI)]) r
def ZeV x3 zl zn z7 zd zh z2 z6 b1 ox3 zu zb zP zI hox3 zy z1w z1k r (h : Z6Z x3 zl zn z7 zd zh z2 z6 = some r) := Z1g h b1 ox3 zu zb zP zI hox3 zy z1w z1k
def Z9Q (x50 : List Zz) (x51 x52 : Int) (z3U : List Int) (z1A z1h z1F z1o z1H z1G z1p z1x : Int) (z1y : List Zi) (z1n : List Zj) (z2g : Bool) : Option (Z1P × Z1q) := pick fun r => ∀ (b0 : Z1P) (b1 : Z1q) (z3N z3n : Int) (z2G : List Zz) (z34 : Int) (ox50 z1N z1I z4B z2s z29 z1V : Own) (z37 : ZV z1N = true) (z2U : ZV z1I = true) (z4K : ZV z2s = true), RRun Z5d (Zso 0 (.ptr 0 0) (.ptr 1 0) (.ptr 2 0) (.ptr 3 0) (ZL ox50 (x50.map Z3M)) (iv x51) (iv x52) [(Z1v b0 z1N z1I), (Z2d b1), (ZX z3U z3N z1A z3n z2G z1h z1F z4B z2s), (ZbH z1o z1H z1G z1p z1x z1y z1n z34 z2g z29 z1V)]) r
def ZjD x50 x51 x52 b0 b1 z3U z3N z1A z3n z2G z1h z1F z1o z1H z1G z1p z1x z1y z1n z34 z2g ox50 z1N z1I z4B z2s z29 z1V z37 z2U z4K r (h : Z9Q x50 x51 x52 z3U z1A z1h z1F z1o z1H z1G z1p z1x z1y z1n z2g = some r) := Z1g h b0 b1 z3N z3n z2G z34 ox50 z1N z1I z4B z2s z29 z1V z37 z2U z4K
def Zhr (x0 : Z1P) : Option Int := pick fun r => ∀ (z5x z4T : Own), RRun ZO (EE 48 [(pA_ (Z4h x0 z5x z4T))] []) r
def Zvp x0 z5x z4T r (h : Zhr x0 = some r) := Z1g h z5x z4T
def Z5r (x0 : Zj) : Option Bool := pick fun r => ∀ (z2K z1Z : Own), RRun Z11 (EE 71 [(pA_ (ZQ x0 z2K z1Z))] []) r
def Zl8 x0 z2K z1Z r (h : Z5r x0 = some r) := Z1g h z2K z1Z
def Z4y (x0 : Zj) : Option (Int × Int) := pick fun r => ∀ (z2K z1Z : Own), RRun Z49 (EE 93 [(pA_ (ZQ x0 z2K z1Z))] []) r
def Z9U x0 z2K z1Z r (h : Z4y x0 = some r) := Z1g h z2K z1Z
def ZbD (x2 x3 : Int) (x23 : List Zj) (x24 x25 : Int) : Option (Int × Int) := pick fun r => ∀ (ox23 : Own), RRun Z49 (ZsD 0 (iv x2) (iv x3) (ZL ox23 (x23.map Z15)) (iv x24) (iv x25) []) r
def ZjP x2 x3 x23 x24 x25 ox23 r (h : ZbD x2 x3 x23 x24 x25 = some r) := Z1g h ox23
def ZaM (x2 x3 : Int) (x45 : List Zj) (x46 x47 : Int) : Option (Int × Int) := pick fun r => ∀ (ox45 : Own), RRun Z49 (Zpc 0 (iv x2) (iv x3) (ZL ox45 (x45.map Z15)) (iv x46) (iv x47) []) r
def Zj2 x2 x3 x45 x46 x47 ox45 r (h : ZaM x2 x3 x45 x46 x47 = some r) := Z1g h ox45
def Zeg (x0 x1 : Int) : Option Int := pick fun r => RRun ZO (EE 108 [(iv x0), (iv x1)] []) r
def Zvu x0 x1 r (h : Zeg x0 x1 = some r) := Z1g h
def Zf7 (x0 : Int) : Option Int := pick fun r => RRun ZO (EE 134 [(iv x0)] []) r
def ZnQ x0 r (h : Zf7 x0 = some r) := Z1g h
def ZkE (x0 x1 : Int) : Option Int := pick fun r => RRun ZO (EE 107 [(iv x0), (iv x1)] []) r
def ZzC x0 x1 r (h : ZkE x0 x1 = some r) := Z1g h
def Z6Q (x0 : List Zj) : Option Bool := pick fun r => ∀ (ox0 : Own), RRun Z11 (EE 94 [(ZL ox0 (x0.map Z15)), (.clo 95 [] [])] []) r
def ZgQ x0 ox0 r (h : Z6Q x0 = some r) := Z1g h ox0
def Z7X (x0 : List Zj) : Option Int := pick fun r => ∀ (ox0 : Own), RRun ZO (EE 109 [(ZL ox0 (x0.map Z15)), (.clo 95 [] [])] []) r
def Zj6 x0 ox0 r (h : Z7X x0 = some r) := Z1g h ox0
def Z5s (x0 : List Zj) (x7 x8 : Int) : Option Int := pick fun r => ∀ (ox0 : Own), RRun ZO (ZoO 0 (ZL ox0 (x0.map Z15)) (.clo 95 [] []) (iv x7) (iv x8) []) r
def Zb8 x0 x7 x8 ox0 r (h : Z5s x0 x7 x8 = some r) := Z1g h ox0
def Zda (x0 : Zj) : Option Bool := pick fun r => ∀ (z2K z1Z : Own), RRun Z11 (EE 95 [(pA_ (ZQ x0 z2K z1Z))] []) r
def ZqZ x0 z2K z1Z r (h : Zda x0 = some r) := Z1g h z2K z1Z
def Z7m (x0 : Zj) : Option Int := pick fun r => ∀ (z2K z1Z : Own), RRun ZO (EE 72 [(pA_ (ZQ x0 z2K z1Z))] []) r
def ZnP x0 z2K z1Z r (h : Z7m x0 = some r) := Z1g h z2K z1Z
def Z7W (x3 : Int) (x8 : List Zj) (x9 x10 : Int) (b0 : Zj) : Option Int := pick fun r => ∀ (ox8 z2C z2c : Own), RRun ZO (Zss 0 (.ptr 0 0) (iv x3) (ZL ox8 (x8.map Z15)) (iv x9) (iv x10) [(Zv b0 z2C z2c)]) r
def Zl7 x3 x8 x9 x10 b0 ox8 z2C z2c r (h : Z7W x3 x8 x9 x10 b0 = some r) := Z1g h ox8 z2C z2c
def Z3E (zU : List ZE) : Option Int := pick fun r => ∀ (z1W : Int) (zZ : List (Int × Z14)) (z1E : Own) (z3K : ZV z1E = true), RRun (Z73 zU z1W zZ z1E) (EE 35 [(.ptr 0 0)] [[(ZL z1E (zU.map ZH)), (.mp 1), (iv z1W)], (rM_ ZF zZ)]) r
def Z50 zU z1W zZ z1E z3K r (h : Z3E zU = some r) := Z1g h z1W zZ z1E z3K
def Z9w (x0 : List Z10) : Option Bool := pick fun r => ∀ (ox0 : Own), RRun Z11 (EE 30 [(ZL ox0 (x0.map Z1S))] []) r
def Zlv x0 ox0 r (h : Z9w x0 = some r) := Z1g h ox0
def Z5i (x0 x7 : List Z10) (x8 x9 : Int) : Option Bool := pick fun r => ∀ (ox0 ox7 : Own), RRun Z11 (Zsm 0 (ZL ox0 (x0.map Z1S)) (ZL ox7 (x7.map Z1S)) (iv x8) (iv x9) []) r
def ZcO x0 x7 x8 x9 ox0 ox7 r (h : Z5i x0 x7 x8 x9 = some r) := Z1g h ox0 ox7
def Z6d (x0 x7 : List Z10) (x8 x9 : Int) (x27 : List ZA) (x28 x29 : Int) : Option Bool := pick fun r => ∀ (ox0 ox7 ox27 : Own), RRun Z11 (Zsn 0 (ZL ox0 (x0.map Z1S)) (ZL ox7 (x7.map Z1S)) (iv x8) (iv x9) (ZL ox27 (x27.map ZG)) (iv x28) (iv x29) []) r
def ZcP x0 x7 x8 x9 x27 x28 x29 ox0 ox7 ox27 r (h : Z6d x0 x7 x8 x9 x27 x28 x29 = some r) := Z1g h ox0 ox7 ox27
def Z58 (x0 : List Z10) (x1 : List Int) (x36 : List Z10) (x37 x38 : Int) (zU : List (Int × Z14)) (zZ : List ZE) (z3h : Int) (z16 : List (Int × Z14)) (z3a : List ZE) (z3t : Int) : Option Bool := pick fun r => ∀ (ox0 ox1 ox36 z3f z3r : Own) (z7n : ZV z3f = true) (z7M : ZV z3r = true), RRun Z11 (Zsb 0 (ZL ox0 (x0.map Z1S)) (ZL ox1 (x1.map (eI .i64))) (.ptr 1 0) (.ptr 3 0) (ZL ox36 (x36.map Z1S)) (iv x37) (iv x38) [(rM_ ZF zU), [(ZL z3f (zZ.map ZH)), (.mp 0), (iv z3h)], (rM_ ZF z16), [(ZL z3r (z3a.map ZH)), (.mp 2), (iv z3t)]]) r
def ZaL x0 x1 x36 x37 x38 zU zZ z3h z16 z3a z3t ox0 ox1 ox36 z3f z3r z7n z7M r (h : Z58 x0 x1 x36 x37 x38 zU zZ z3h z16 z3a z3t = some r) := Z1g h ox0 ox1 ox36 z3f z3r z7n z7M
def Z6P (x1 : Int) (zU : List ZE) : Option (ZE × Bool) := pick fun r => ∀ (z1W : Int) (zZ : List (Int × Z14)) (z1E : Own) (z3K : ZV z1E = true), RRun (Z5B zU z1W zZ z1E) (EE 36 [(.ptr 0 0), (iv x1)] [[(ZL z1E (zU.map ZH)), (.mp 1), (iv z1W)], (rM_ ZF zZ)]) r
def Zdl x1 zU z1W zZ z1E z3K r (h : Z6P x1 zU = some r) := Z1g h z1W zZ z1E z3K
def Zes (x0 : List ZA) : Option (List ZA) := pick fun r => ∀ (ox0 : Own), RRun Zep (EE 62 [(ZL ox0 (x0.map ZG))] []) r
def Zou x0 ox0 r (h : Zes x0 = some r) := Z1g h ox0
def Zah (x0 : ZE) : Option Z1e := pick fun r => ∀ (z1a : Own), RRun Z60 (EE 19 [(pA_ (Z1C x0 z1a))] []) r
def Zi9 x0 z1a r (h : Zah x0 = some r) := Z1g h z1a
def Z8G (x16 : List ZA) (x17 x18 z2H z2W z3J z3d : Int) (z3i : List ZA) : Option Z1e := pick fun r => ∀ (b0 : ZE) (b1 : Z1e) (ox16 zD z2z zN : Own) (za6 : ZV z2z = true) (z1u : ZV zN = true), RRun Z60 (Zsg 0 (.ptr 1 0) (.ptr 2 0) (ZL ox16 (x16.map ZG)) (iv x17) (iv x18) [(ZB b0 zD), (Z1T b1 z2z), (Zkj z2H z2W z3J z3d z3i zN)]) r
def ZeT x16 x17 x18 b0 b1 z2H z2W z3J z3d z3i ox16 zD z2z zN za6 z1u r (h : Z8G x16 x17 x18 z2H z2W z3J z3d z3i = some r) := Z1g h b0 b1 ox16 zD z2z zN za6 z1u
def Zf3 (x0 x1 : Z1e) : Option Bool := pick fun r => ∀ (z1a zak : Own), RRun Z11 (EE 26 [(pA_ (Z4k x0 z1a)), (pA_ (Z4k x1 zak))] []) r
def ZwY x0 x1 z1a zak r (h : Zf3 x0 x1 = some r) := Z1g h z1a zak
def Zcy (x5 : Int) (b0 b1 : Z1e) : Option Bool := pick fun r => ∀ (zD z2z : Own), RRun Z11 (Zsk 0 (.ptr 0 0) (.ptr 1 0) (iv x5) [(Z1T b0 zD), (Z1T b1 z2z)]) r
def Zl2 x5 b0 b1 zD z2z r (h : Zcy x5 b0 b1 = some r) := Z1g h zD z2z
end Go.Proofs.YteoeggbihfnbfaaGreatDoor.N2
end
