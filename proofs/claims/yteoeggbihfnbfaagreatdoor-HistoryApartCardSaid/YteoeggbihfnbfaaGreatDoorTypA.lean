/- The functions, read typed: their types, and what they stand for. No condition. -/
import Derived.Test.YteoeggbihfnbfaaGreatDoorSim
import Derived.Test.YteoeggbihfnbfaaGreatDoorEqs

set_option linter.unusedSimpArgs false
set_option linter.unusedVariables false
set_option linter.defProp false
noncomputable section
namespace Go.Proofs.YteoeggbihfnbfaaGreatDoor.N2
open Go Go.Abs
set_option maxRecDepth 100000
theorem gj_ (n : Nat) {l k : List PV} (h : l = k) : l.getD n .junk = k.getD n .junk := congrArg (fun l => l.getD n .junk) h
structure ZA where
 ID : Int
 Priority : Int
 Action : Int
 Scope : Int
 Pattern : ByteArray
 deriving Inhabited
def Z5S (a : ZA) : List PV := [(eI .i64) a.ID, (eI .i64) a.Priority, (eI .i64) a.Action, (eI .i64) a.Scope, eS a.Pattern]
def ZG (a : ZA) : PV := .agg (Z5S a)
def Z2m (a : ZA) : List PV := [(eI .i64) a.ID, (eI .i64) a.Priority, (eI .i64) a.Action, (eI .i64) a.Scope, eS a.Pattern]
def Z1P (a : ZA) : Row := [.p ((eI .i64) a.ID), .p ((eI .i64) a.Priority), .p ((eI .i64) a.Action), .p ((eI .i64) a.Scope), .p (eS a.Pattern)]
theorem Zty {a b : ZA} (h : Z5S a = Z5S b) : a = b := by
 have h0 : a.ID = b.ID := Z4g _ _ (gj_ 0 h)
 have h1 : a.Priority = b.Priority := Z4g _ _ (gj_ 1 h)
 have h2 : a.Action = b.Action := Z4g _ _ (gj_ 2 h)
 have h3 : a.Scope = b.Scope := Z4g _ _ (gj_ 3 h)
 have h4 : a.Pattern = b.Pattern := ZFJ _ _ (gj_ 4 h)
 cases a; cases b
 cases h0
 cases h1
 cases h2
 cases h3
 cases h4
 rfl
theorem ZlA (a b : ZA) (h : ZG a = ZG b) : a = b := Zty (congrArg pC h)
structure Z1e where
 Default : Int
 Closed : Int
 Fuel : Int
 Stack : Int
 Put : (List ZA)
 Drop : (List Int)
 deriving Inhabited
def Zkr (a : Z1e) : List PV := [(eI .i64) a.Default, (eI .i64) a.Closed, (eI .i64) a.Fuel, (eI .i64) a.Stack, (eL ZG) a.Put, (eL (eI .i64)) a.Drop]
def Z4D (a : Z1e) (o0 o1 : Own) : List PV := [(eI .i64) a.Default, (eI .i64) a.Closed, (eI .i64) a.Fuel, (eI .i64) a.Stack, .lst o0 (a.Put.map ZG), .lst o1 (a.Drop.map (eI .i64))]
def ZI (a : Z1e) (o0 o1 : Own) : Row := [.p ((eI .i64) a.Default), .p ((eI .i64) a.Closed), .p ((eI .i64) a.Fuel), .p ((eI .i64) a.Stack), .p (.lst o0 (a.Put.map ZG)), .p (.lst o1 (a.Drop.map (eI .i64)))]
theorem ZsX {a b : Z1e} (h : Zkr a = Zkr b) : a = b := by
 have h0 : a.Default = b.Default := Z4g _ _ (gj_ 0 h)
 have h1 : a.Closed = b.Closed := Z4g _ _ (gj_ 1 h)
 have h2 : a.Fuel = b.Fuel := Z4g _ _ (gj_ 2 h)
 have h3 : a.Stack = b.Stack := Z4g _ _ (gj_ 3 h)
 have h4 : a.Put = b.Put := (ZuL ZlA) _ _ (gj_ 4 h)
 have h5 : a.Drop = b.Drop := (ZuL Z4g) _ _ (gj_ 5 h)
 cases a; cases b
 cases h0
 cases h1
 cases h2
 cases h3
 cases h4
 cases h5
 rfl
structure ZX where
 View : Int
 Client : Int
 Request : Int
 Delta : Z1e
 deriving Inhabited
def ZbA (a : ZX) : List PV := [(eI .i64) a.View, (eI .i64) a.Client, (eI .i64) a.Request, (eI .i64) a.Delta.Default, (eI .i64) a.Delta.Closed, (eI .i64) a.Delta.Fuel, (eI .i64) a.Delta.Stack, (eL ZG) a.Delta.Put, (eL (eI .i64)) a.Delta.Drop]
def Z1X (a : ZX) : PV := .agg (ZbA a)
def Z3e (a : ZX) (o0 o1 : Own) : List PV := [(eI .i64) a.View, (eI .i64) a.Client, (eI .i64) a.Request, (eI .i64) a.Delta.Default, (eI .i64) a.Delta.Closed, (eI .i64) a.Delta.Fuel, (eI .i64) a.Delta.Stack, .lst o0 (a.Delta.Put.map ZG), .lst o1 (a.Delta.Drop.map (eI .i64))]
def Z10 (a : ZX) (o0 o1 : Own) : Row := [.p ((eI .i64) a.View), .p ((eI .i64) a.Client), .p ((eI .i64) a.Request), .p ((eI .i64) a.Delta.Default), .p ((eI .i64) a.Delta.Closed), .p ((eI .i64) a.Delta.Fuel), .p ((eI .i64) a.Delta.Stack), .p (.lst o0 (a.Delta.Put.map ZG)), .p (.lst o1 (a.Delta.Drop.map (eI .i64)))]
theorem ZsW {a b : ZX} (h : ZbA a = ZbA b) : a = b := by
 have h0 : a.View = b.View := Z4g _ _ (gj_ 0 h)
 have h1 : a.Client = b.Client := Z4g _ _ (gj_ 1 h)
 have h2 : a.Request = b.Request := Z4g _ _ (gj_ 2 h)
 have h3 : a.Delta = b.Delta := ZsX (congrArg (fun l => (l.drop 3).take 6) h)
 cases a; cases b
 cases h0
 cases h1
 cases h2
 cases h3
 rfl
structure ZE where
 Default : Int
 Closed : Int
 Fuel : Int
 Stack : Int
 Rules : (List ZA)
 deriving Inhabited
def ZjD (a : ZE) : List PV := [(eI .i64) a.Default, (eI .i64) a.Closed, (eI .i64) a.Fuel, (eI .i64) a.Stack, (eL ZG) a.Rules]
def ZU (a : ZE) : PV := .agg (ZjD a)
def Z1V (a : ZE) (o0 : Own) : List PV := [(eI .i64) a.Default, (eI .i64) a.Closed, (eI .i64) a.Fuel, (eI .i64) a.Stack, .lst o0 (a.Rules.map ZG)]
def ZC (a : ZE) (o0 : Own) : Row := [.p ((eI .i64) a.Default), .p ((eI .i64) a.Closed), .p ((eI .i64) a.Fuel), .p ((eI .i64) a.Stack), .p (.lst o0 (a.Rules.map ZG))]
theorem ZdX {a b : ZE} (h : ZjD a = ZjD b) : a = b := by
 have h0 : a.Default = b.Default := Z4g _ _ (gj_ 0 h)
 have h1 : a.Closed = b.Closed := Z4g _ _ (gj_ 1 h)
 have h2 : a.Fuel = b.Fuel := Z4g _ _ (gj_ 2 h)
 have h3 : a.Stack = b.Stack := Z4g _ _ (gj_ 3 h)
 have h4 : a.Rules = b.Rules := (ZuL ZlA) _ _ (gj_ 4 h)
 cases a; cases b
 cases h0
 cases h1
 cases h2
 cases h3
 cases h4
 rfl
theorem ZhP (a b : ZE) (h : ZU a = ZU b) : a = b := ZdX (congrArg pC h)
structure ZR where
 Code : Int
 Rule : Int
 At : Int
 deriving Inhabited
def ZjO (a : ZR) : List PV := [(eI .i64) a.Code, (eI .i64) a.Rule, (eI .i64) a.At]
def Z1U (a : ZR) : List PV := [(eI .i64) a.Code, (eI .i64) a.Rule, (eI .i64) a.At]
def Z1b (a : ZR) : Row := [.p ((eI .i64) a.Code), .p ((eI .i64) a.Rule), .p ((eI .i64) a.At)]
theorem Zc1 {a b : ZR} (h : ZjO a = ZjO b) : a = b := by
 have h0 : a.Code = b.Code := Z4g _ _ (gj_ 0 h)
 have h1 : a.Rule = b.Rule := Z4g _ _ (gj_ 1 h)
 have h2 : a.At = b.At := Z4g _ _ (gj_ 2 h)
 cases a; cases b
 cases h0
 cases h1
 cases h2
 rfl
structure Z1c where
 Version : Int
 Verdict : ZR
 deriving Inhabited
def ZjN (a : Z1c) : List PV := [(eI .i64) a.Version, (eI .i64) a.Verdict.Code, (eI .i64) a.Verdict.Rule, (eI .i64) a.Verdict.At]
def Z1q (a : Z1c) : List PV := [(eI .i64) a.Version, (eI .i64) a.Verdict.Code, (eI .i64) a.Verdict.Rule, (eI .i64) a.Verdict.At]
def ZF (a : Z1c) : Row := [.p ((eI .i64) a.Version), .p ((eI .i64) a.Verdict.Code), .p ((eI .i64) a.Verdict.Rule), .p ((eI .i64) a.Verdict.At)]
theorem Z9B {a b : Z1c} (h : ZjN a = ZjN b) : a = b := by
 have h0 : a.Version = b.Version := Z4g _ _ (gj_ 0 h)
 have h1 : a.Verdict = b.Verdict := Zc1 (congrArg (fun l => (l.drop 1).take 3) h)
 cases a; cases b
 cases h0
 cases h1
 rfl
structure ZT where
 request : Int
 Outcome : Z1c
 deriving Inhabited
def ZhO (a : ZT) : List PV := [(eI .i64) a.request, (eI .i64) a.Outcome.Version, (eI .i64) a.Outcome.Verdict.Code, (eI .i64) a.Outcome.Verdict.Rule, (eI .i64) a.Outcome.Verdict.At]
def ZK (a : ZT) : PV := .agg (ZhO a)
def Za1 (a : ZT) : List PV := [(eI .i64) a.request, (eI .i64) a.Outcome.Version, (eI .i64) a.Outcome.Verdict.Code, (eI .i64) a.Outcome.Verdict.Rule, (eI .i64) a.Outcome.Verdict.At]
def Za2 (a : ZT) : Row := [.p ((eI .i64) a.request), .p ((eI .i64) a.Outcome.Version), .p ((eI .i64) a.Outcome.Verdict.Code), .p ((eI .i64) a.Outcome.Verdict.Rule), .p ((eI .i64) a.Outcome.Verdict.At)]
theorem ZqC {a b : ZT} (h : ZhO a = ZhO b) : a = b := by
 have h0 : a.request = b.request := Z4g _ _ (gj_ 0 h)
 have h1 : a.Outcome = b.Outcome := Z9B (congrArg (fun l => (l.drop 1).take 4) h)
 cases a; cases b
 cases h0
 cases h1
 rfl
theorem ZiG (a b : ZT) (h : ZK a = ZK b) : a = b := ZqC (congrArg pC h)
structure Zi where
 Lo : Int
 Hi : Int
 deriving Inhabited
def Z9l (a : Zi) : List PV := [(eI .i64) a.Lo, (eI .i64) a.Hi]
def ZB (a : Zi) : PV := .agg (Z9l a)
def Z18 (a : Zi) : List PV := [(eI .i64) a.Lo, (eI .i64) a.Hi]
def Z36 (a : Zi) : Row := [.p ((eI .i64) a.Lo), .p ((eI .i64) a.Hi)]
theorem ZjM {a b : Zi} (h : Z9l a = Z9l b) : a = b := by
 have h0 : a.Lo = b.Lo := Z4g _ _ (gj_ 0 h)
 have h1 : a.Hi = b.Hi := Z4g _ _ (gj_ 1 h)
 cases a; cases b
 cases h0
 cases h1
 rfl
theorem Z8h (a b : Zi) (h : ZB a = ZB b) : a = b := ZjM (congrArg pC h)
structure Zj where
 Kind : Int
 Lo : Int
 Hi : Int
 Mode : Int
 Ref : Int
 Set : (List Zi)
 Kids : (List Zj)
instance : Inhabited Zj := ⟨⟨default, default, default, default, default, default, default⟩⟩
mutual
def Z13 : Zj → PV
 | ⟨Kind_, Lo_, Hi_, Mode_, Ref_, Set_, Kids_⟩ => .agg [(eI .i64) Kind_, (eI .i64) Lo_, (eI .i64) Hi_, (eI .i64) Mode_, (eI .i64) Ref_, (eL ZB) Set_, .lst .sh (Z7b Kids_)]
def Z7b : List Zj → List PV
 | [] => []
 | x :: r => Z13 x :: Z7b r
end
theorem ZkH : ∀ l, Z7b l = l.map Z13
 | [] => rfl
 | x :: r => by rw [Z7b, ZkH r]; rfl
def Z3D (a : Zj) : List PV := [(eI .i64) a.Kind, (eI .i64) a.Lo, (eI .i64) a.Hi, (eI .i64) a.Mode, (eI .i64) a.Ref, (eL ZB) a.Set, (eL Z13) a.Kids]
theorem Z5O (a : Zj) : Z13 a = .agg (Z3D a) := by
 cases a; rw [Z13, ZkH]; rfl
theorem Z7l (a : Zj) : Z2n (Z13 a) = Z3D a := by rw [Z5O]; rfl
theorem ZoA (a : Zj) : (Z2n (Z13 a)).length = 7 := by rw [Z5O]; rfl
def ZN (a : Zj) (o0 o1 : Own) : List PV := [(eI .i64) a.Kind, (eI .i64) a.Lo, (eI .i64) a.Hi, (eI .i64) a.Mode, (eI .i64) a.Ref, .lst o0 (a.Set.map ZB), .lst o1 (a.Kids.map Z13)]
def Zv (a : Zj) (o0 o1 : Own) : Row := [.p ((eI .i64) a.Kind), .p ((eI .i64) a.Lo), .p ((eI .i64) a.Hi), .p ((eI .i64) a.Mode), .p ((eI .i64) a.Ref), .p (.lst o0 (a.Set.map ZB)), .p (.lst o1 (a.Kids.map Z13))]
mutual
theorem ZkG : ∀ a b : Zj, Z13 a = Z13 b → a = b
 | ⟨Kind_, Lo_, Hi_, Mode_, Ref_, Set_, Kids_⟩, ⟨Kind_2, Lo_2, Hi_2, Mode_2, Ref_2, Set_2, Kids_2⟩, h => by
  rw [Z13, Z13] at h
  have h0 : Kind_ = Kind_2 := Z4g _ _ (congrArg (fun l => (pC l).getD 0 .junk) h)
  have h1 : Lo_ = Lo_2 := Z4g _ _ (congrArg (fun l => (pC l).getD 1 .junk) h)
  have h2 : Hi_ = Hi_2 := Z4g _ _ (congrArg (fun l => (pC l).getD 2 .junk) h)
  have h3 : Mode_ = Mode_2 := Z4g _ _ (congrArg (fun l => (pC l).getD 3 .junk) h)
  have h4 : Ref_ = Ref_2 := Z4g _ _ (congrArg (fun l => (pC l).getD 4 .junk) h)
  have h5 : Set_ = Set_2 := (ZuL Z8h) _ _ (congrArg (fun l => (pC l).getD 5 .junk) h)
  have h6 : Kids_ = Kids_2 := ZjP Kids_ Kids_2 (congrArg (fun l => pL ((pC l).getD 6 .junk)) h)
  subst h0
  subst h1
  subst h2
  subst h3
  subst h4
  subst h5
  subst h6
  rfl
theorem ZjP : ∀ a b : List Zj, Z7b a = Z7b b → a = b
 | [], [], _ => rfl
 | [], _ :: _, h => by simp [Z7b] at h
 | _ :: _, [], h => by simp [Z7b] at h
 | x :: r, y :: t, h => by
  simp only [Z7b, Zqh] at h
  rw [ZkG x y h.1, ZjP r t h.2]
end
theorem Z8U {a b : Zj} (h : Z3D a = Z3D b) : a = b := ZkG a b (by rw [Z5O, Z5O, h])
structure Z1M where
 Root : Zj
 Groups : Int
 Fold : Bool
 deriving Inhabited
def Zly (a : Z1M) : List PV := [(eI .i64) a.Root.Kind, (eI .i64) a.Root.Lo, (eI .i64) a.Root.Hi, (eI .i64) a.Root.Mode, (eI .i64) a.Root.Ref, (eL ZB) a.Root.Set, (eL Z13) a.Root.Kids, (eI .i64) a.Groups, eB a.Fold]
def Z43 (a : Z1M) (o0 o1 : Own) : List PV := [(eI .i64) a.Root.Kind, (eI .i64) a.Root.Lo, (eI .i64) a.Root.Hi, (eI .i64) a.Root.Mode, (eI .i64) a.Root.Ref, .lst o0 (a.Root.Set.map ZB), .lst o1 (a.Root.Kids.map Z13), (eI .i64) a.Groups, eB a.Fold]
def Z1r (a : Z1M) (o0 o1 : Own) : Row := [.p ((eI .i64) a.Root.Kind), .p ((eI .i64) a.Root.Lo), .p ((eI .i64) a.Root.Hi), .p ((eI .i64) a.Root.Mode), .p ((eI .i64) a.Root.Ref), .p (.lst o0 (a.Root.Set.map ZB)), .p (.lst o1 (a.Root.Kids.map Z13)), .p ((eI .i64) a.Groups), .p (eB a.Fold)]
theorem Zp0 {a b : Z1M} (h : Zly a = Zly b) : a = b := by
 have h0 : a.Root = b.Root := Z8U (congrArg (fun l => (l.drop 0).take 7) h)
 have h1 : a.Groups = b.Groups := Z4g _ _ (gj_ 7 h)
 have h2 : a.Fold = b.Fold := ZqW _ _ (gj_ 8 h)
 cases a; cases b
 cases h0
 cases h1
 cases h2
 rfl
structure Z1n where
 Code : Int
 At : Int
 deriving Inhabited
def ZnE (a : Z1n) : List PV := [(eI .i64) a.Code, (eI .i64) a.At]
def Z6a (a : Z1n) : List PV := [(eI .i64) a.Code, (eI .i64) a.At]
def Z2a (a : Z1n) : Row := [.p ((eI .i64) a.Code), .p ((eI .i64) a.At)]
theorem ZqV {a b : Z1n} (h : ZnE a = ZnE b) : a = b := by
 have h0 : a.Code = b.Code := Z4g _ _ (gj_ 0 h)
 have h1 : a.At = b.At := Z4g _ _ (gj_ 1 h)
 cases a; cases b
 cases h0
 cases h1
 rfl
structure Zz where
 group : Int
 at_ : Int
 deriving Inhabited
def Zdh (a : Zz) : List PV := [(eI .i64) a.group, (eI .i64) a.at_]
def Z3u (a : Zz) : PV := .agg (Zdh a)
def Zh2 (a : Zz) : List PV := [(eI .i64) a.group, (eI .i64) a.at_]
def Zh7 (a : Zz) : Row := [.p ((eI .i64) a.group), .p ((eI .i64) a.at_)]
theorem Zp1 {a b : Zz} (h : Zdh a = Zdh b) : a = b := by
 have h0 : a.group = b.group := Z4g _ _ (gj_ 0 h)
 have h1 : a.at_ = b.at_ := Z4g _ _ (gj_ 1 h)
 cases a; cases b
 cases h0
 cases h1
 rfl
theorem Zdi (a b : Zz) (h : Z3u a = Z3u b) : a = b := Zp1 (congrArg pC h)
structure Z2c where
 b : (List Int)
 at_ : Int
 groups : Int
 deep : Int
 refs : (List Zz)
 fault : Z1n
 deriving Inhabited
def ZvJ (a : Z2c) (o0 o1 : Own) : List PV := [.lst o0 (a.b.map (eI .u8)), (eI .i64) a.at_, (eI .i64) a.groups, (eI .i64) a.deep, .lst o1 (a.refs.map Z3u), (eI .i64) a.fault.Code, (eI .i64) a.fault.At]
def Z4F (a : Z2c) (o0 o1 : Own) : Row := [.p (.lst o0 (a.b.map (eI .u8))), .p ((eI .i64) a.at_), .p ((eI .i64) a.groups), .p ((eI .i64) a.deep), .p (.lst o1 (a.refs.map Z3u)), .p ((eI .i64) a.fault.Code), .p ((eI .i64) a.fault.At)]
end Go.Proofs.YteoeggbihfnbfaaGreatDoor.N2
end
noncomputable section
namespace Go.Proofs.YteoeggbihfnbfaaGreatDoor.N2
open Go Go.Abs
set_option maxRecDepth 100000
theorem et_ {α : Type} {a b c : α} (h : b = c) (g : a = b := by kernel_rfl) : a = c := g.trans h
theorem ru_ {R : Type} {Q : R → Res → Prop} {e : Option Res} {a b : R} (u : ∀ a b q, Q a q → Q b q → a = b) (h : RRun Q e a) (g : RRun Q e b) : a = b := RRun.uniq u h g
abbrev ZJ4 := ZX.mk 0 0 0 (Z1e.mk 0 0 0 0 ([] : List ZA) ([] : List Int))
abbrev Z3y := Z1c.mk 0 (ZR.mk 0 0 0)
abbrev Z7o := ZR.mk 0 0 0
abbrev Z5i := ZE.mk 0 0 0 0 ([] : List ZA)
abbrev ZfO := Z1M.mk (Zj.mk 0 0 0 0 0 ([] : List Zi) ([] : List Zj)) 0 false
abbrev Ziw := Z1n.mk 0 0
abbrev Z2g := Zj.mk 0 0 0 0 0 ([] : List Zi) ([] : List Zj)
abbrev Z2G a0 a1 a2 a3 a4 o0 := ZC (ZE.mk a0 a1 a2 a3 a4) o0
abbrev ZS a0 a1 a2 a3 a4 a5 a6 o0 o1 := Z4F (Z2c.mk a0 a1 a2 a3 a4 (Z1n.mk a5 a6)) o0 o1
abbrev Zb9 a0 a1 a2 a3 a4 a5 a6 a7 a8 o0 o1 := Z1r (Z1M.mk (Zj.mk a0 a1 a2 a3 a4 a5 a6) a7 a8) o0 o1
abbrev Zy6 a0 a1 a2 a3 := ZF (Z1c.mk a0 (ZR.mk a1 a2 a3))
abbrev Zjm a0 a1 a2 := Z1b (ZR.mk a0 a1 a2)
abbrev Z3n a0 a1 a2 a3 a4 a5 a6 o0 o1 := Zv (Zj.mk a0 a1 a2 a3 a4 a5 a6) o0 o1
abbrev ZP (o : Own) (l : List PV) : AV := .p (.lst o l)
abbrev pA_ (l : List PV) : AV := .p (.agg l)
abbrev rM_ {α : Type} (e : α → PV) (l : List (Int × α)) : Row := [.md (l.map (encM e))]
abbrev ZhK : ZE → Res → Prop := fun r q => ∃ (ex : List Row), q = ((pA_ (Z1V r .sh)), ex)
theorem Zw8 : ∀ a b q, ZhK a q → ZhK b q → a = b := by
 rintro a b q ⟨_, e1⟩ ⟨_, e2⟩
 have e := e1.symm.trans e2
 exact ZdX (congrArg (fun q : Res => pC (pA q.1)) e)
abbrev Zgp : ((List (Int × ZT)) × (List ZE) × Int) → Res → Prop := fun r q => ∃ (n1_0 : Own) (ex : List Row), ZW n1_0 = true ∧ q = ((.ptr 1 0), [(rM_ ZK r.1), [(ZP n1_0 (r.2.1.map ZU)), (.mp 0), (iv r.2.2)]]) ∧ ex = []
theorem ZuC : ∀ a b q, Zgp a q → Zgp b q → a = b := by
 rintro a b q ⟨_, _, _, e1, _⟩ ⟨_, _, _, e2, _⟩
 have e := e1.symm.trans e2
 exact Z3J (Z5j (ZiW ZiG) (congrArg (fun q : Res => pM (cellAt q 0 0)) e)) (Z3J (Z5j ZhP (congrArg (fun q : Res => pL (pA (cellAt q 1 0))) e)) (congrArg (fun q : Res => pI (pA (cellAt q 1 2))) e))
abbrev Zbf : ZX → Res → Prop := fun r q => ∃ (ex : List Row), q = ((pA_ (Z3e r .sh .sh)), ex)
theorem Znz : ∀ a b q, Zbf a q → Zbf b q → a = b := by
 rintro a b q ⟨_, e1⟩ ⟨_, e2⟩
 have e := e1.symm.trans e2
 exact ZsW (congrArg (fun q : Res => pC (pA q.1)) e)
abbrev Z12 : Bool → Res → Prop := fun r q => ∃ (ex : List Row), q = ((bv r), ex)
theorem Z2o : ∀ a b q, Z12 a q → Z12 b q → a = b := by
 rintro a b q ⟨_, e1⟩ ⟨_, e2⟩
 have e := e1.symm.trans e2
 exact congrArg (fun q : Res => pB (pA q.1)) e
abbrev ZL : Int → Res → Prop := fun r q => ∃ (ex : List Row), q = ((iv r), ex)
theorem Z2h : ∀ a b q, ZL a q → ZL b q → a = b := by
 rintro a b q ⟨_, e1⟩ ⟨_, e2⟩
 have e := e1.symm.trans e2
 exact congrArg (fun q : Res => pI (pA q.1)) e
abbrev Zgr (z1N z2f z1T : Int) (z1Q : List ZA) (zD : Own) : Int → Res → Prop := fun r q => ∃ (ex : List Row), q = ((.p (.tup [])), [(Z2G r z1N z2f z1T z1Q zD)] ++ ex)
theorem ZuE (z1N z2f z1T : Int) (z1Q : List ZA) (zD : Own) : ∀ a b q, Zgr z1N z2f z1T z1Q zD a q → Zgr z1N z2f z1T z1Q zD b q → a = b := by
 rintro a b q ⟨_, e1⟩ ⟨_, e2⟩
 have e := e1.symm.trans e2
 exact congrArg (fun q : Res => pI (pA (cellAt q 0 0))) e
abbrev Zci (z1G z2f z1T : Int) (z1Q : List ZA) (zD : Own) : Int → Res → Prop := fun r q => ∃ (ex : List Row), q = ((.p (.tup [])), [(Z2G z1G r z2f z1T z1Q zD)] ++ ex)
theorem ZqB (z1G z2f z1T : Int) (z1Q : List ZA) (zD : Own) : ∀ a b q, Zci z1G z2f z1T z1Q zD a q → Zci z1G z2f z1T z1Q zD b q → a = b := by
 rintro a b q ⟨_, e1⟩ ⟨_, e2⟩
 have e := e1.symm.trans e2
 exact congrArg (fun q : Res => pI (pA (cellAt q 0 1))) e
abbrev Zch (z1G z1N z1T : Int) (z1Q : List ZA) (zD : Own) : Int → Res → Prop := fun r q => ∃ (ex : List Row), q = ((.p (.tup [])), [(Z2G z1G z1N r z1T z1Q zD)] ++ ex)
theorem ZqA (z1G z1N z1T : Int) (z1Q : List ZA) (zD : Own) : ∀ a b q, Zch z1G z1N z1T z1Q zD a q → Zch z1G z1N z1T z1Q zD b q → a = b := by
 rintro a b q ⟨_, e1⟩ ⟨_, e2⟩
 have e := e1.symm.trans e2
 exact congrArg (fun q : Res => pI (pA (cellAt q 0 2))) e
abbrev Zcg (z1G z1N z2f : Int) (z1Q : List ZA) (zD : Own) : Int → Res → Prop := fun r q => ∃ (ex : List Row), q = ((.p (.tup [])), [(Z2G z1G z1N z2f r z1Q zD)] ++ ex)
theorem Zqz (z1G z1N z2f : Int) (z1Q : List ZA) (zD : Own) : ∀ a b q, Zcg z1G z1N z2f z1Q zD a q → Zcg z1G z1N z2f z1Q zD b q → a = b := by
 rintro a b q ⟨_, e1⟩ ⟨_, e2⟩
 have e := e1.symm.trans e2
 exact congrArg (fun q : Res => pI (pA (cellAt q 0 3))) e
abbrev Z6A : Bool → Res → Prop := fun r q => ∃ (ex : List Row), q = ((bv r), [[(.clo 27 [] [])]] ++ ex)
theorem Zfh : ∀ a b q, Z6A a q → Z6A b q → a = b := by
 rintro a b q ⟨_, e1⟩ ⟨_, e2⟩
 have e := e1.symm.trans e2
 exact congrArg (fun q : Res => pB (pA q.1)) e
abbrev Z3k : Int → Res → Prop := fun r q => ∃ (ex : List Row), q = ((iv r), [[(.clo 27 [] [])]] ++ ex)
theorem Zc8 : ∀ a b q, Z3k a q → Z3k b q → a = b := by
 rintro a b q ⟨_, e1⟩ ⟨_, e2⟩
 have e := e1.symm.trans e2
 exact congrArg (fun q : Res => pI (pA q.1)) e
abbrev Z5x : (Bool × (List (Int × Bool))) → Res → Prop := fun r q => ∃ (ex : List Row), q = ((bv r.1), [[(.mp 1)], (rM_ eB r.2)] ++ ex)
theorem Zds : ∀ a b q, Z5x a q → Z5x b q → a = b := by
 rintro a b q ⟨_, e1⟩ ⟨_, e2⟩
 have e := e1.symm.trans e2
 exact Z3J (congrArg (fun q : Res => pB (pA q.1)) e) (Z5j (ZiW ZqW) (congrArg (fun q : Res => pM (cellAt q 1 0)) e))
abbrev Z5y : (Bool × (List (Int × Bool))) → Res → Prop := fun r q => ∃ (ex : List Row), q = ((bv r.1), [[(.clo 74 [] [(.ptr 1 0)])], [(.mp 2)], (rM_ eB r.2)] ++ ex)
theorem Zdt : ∀ a b q, Z5y a q → Z5y b q → a = b := by
 rintro a b q ⟨_, e1⟩ ⟨_, e2⟩
 have e := e1.symm.trans e2
 exact Z3J (congrArg (fun q : Res => pB (pA q.1)) e) (Z5j (ZiW ZqW) (congrArg (fun q : Res => pM (cellAt q 2 0)) e))
abbrev Z3l : (Int × (List (Int × Bool))) → Res → Prop := fun r q => ∃ (ex : List Row), q = ((iv r.1), [[(.clo 74 [] [(.ptr 1 0)])], [(.mp 2)], (rM_ eB r.2)] ++ ex)
theorem Zc9 : ∀ a b q, Z3l a q → Z3l b q → a = b := by
 rintro a b q ⟨_, e1⟩ ⟨_, e2⟩
 have e := e1.symm.trans e2
 exact Z3J (congrArg (fun q : Res => pI (pA q.1)) e) (Z5j (ZiW ZqW) (congrArg (fun q : Res => pM (cellAt q 2 0)) e))
abbrev Z3s : (Int × (List (Int × Bool))) → Res → Prop := fun r q => ∃ (ex : List Row), q = ((iv r.1), [[(.mp 1)], (rM_ eB r.2)] ++ ex)
theorem Zcz : ∀ a b q, Z3s a q → Z3s b q → a = b := by
 rintro a b q ⟨_, e1⟩ ⟨_, e2⟩
 have e := e1.symm.trans e2
 exact Z3J (congrArg (fun q : Res => pI (pA q.1)) e) (Z5j (ZiW ZqW) (congrArg (fun q : Res => pM (cellAt q 1 0)) e))
abbrev Zak (z14 : List (Int × ZA)) : Unit → Res → Prop := fun r q => ∃ (ex : List Row), q = ((.clo 78 [] [(.ptr 1 0)]), [(rM_ ZG z14), [(.mp 0)]]) ∧ ex = []
theorem Zn0 (z14 : List (Int × ZA)) : ∀ a b q, Zak z14 a q → Zak z14 b q → a = b := by
 rintro a b q ⟨_, e1, _⟩ ⟨_, e2, _⟩
 have e := e1.symm.trans e2
 exact rfl
abbrev Zbx (zY : List (Int × ZA)) : (List Int) → Res → Prop := fun r q => ∃ (ex : List Row), q = ((ZP .sh (r.map (eI .i64))), [[(.mp 1)], (rM_ ZG zY)] ++ ex)
theorem ZkK (zY : List (Int × ZA)) : ∀ a b q, Zbx zY a q → Zbx zY b q → a = b := by
 rintro a b q ⟨_, e1⟩ ⟨_, e2⟩
 have e := e1.symm.trans e2
 exact Z5j Z4g (congrArg (fun q : Res => pL (pA q.1)) e)
abbrev Z2O : (ZE × Int) → Res → Prop := fun r q => ∃ (ex : List Row), q = ((.p (.tup [(.agg (Z1V r.1 .sh)), (.v (.int .i64 r.2))])), ex)
theorem Zcy : ∀ a b q, Z2O a q → Z2O b q → a = b := by
 rintro a b q ⟨_, e1⟩ ⟨_, e2⟩
 have e := e1.symm.trans e2
 exact Z3J (ZdX (congrArg (fun q : Res => pC ((pT (pA q.1)).getD 0 .junk)) e)) (congrArg (fun q : Res => pI ((pT (pA q.1)).getD 1 .junk)) e)
abbrev Z7I (zl : List Int) (z7 zd : Int) (zh : List Zz) (z2 z6 : Int) (zu zb : Own) : (Bool × Int) → Res → Prop := fun r q => ∃ (ex : List Row), q = ((bv r.1), [(ZS zl r.2 z7 zd zh z2 z6 zu zb)] ++ ex)
theorem ZnC (zl : List Int) (z7 zd : Int) (zh : List Zz) (z2 z6 : Int) (zu zb : Own) : ∀ a b q, Z7I zl z7 zd zh z2 z6 zu zb a q → Z7I zl z7 zd zh z2 z6 zu zb b q → a = b := by
 rintro a b q ⟨_, e1⟩ ⟨_, e2⟩
 have e := e1.symm.trans e2
 exact Z3J (congrArg (fun q : Res => pB (pA q.1)) e) (congrArg (fun q : Res => pI (pA (cellAt q 0 1))) e)
abbrev Zam : (Int × Int) → Res → Prop := fun r q => ∃ (ex : List Row), q = ((.p (.tup [(.v (.int .i32 r.1)), (.v (.int .i64 r.2))])), ex)
theorem ZjK : ∀ a b q, Zam a q → Zam b q → a = b := by
 rintro a b q ⟨_, e1⟩ ⟨_, e2⟩
 have e := e1.symm.trans e2
 exact Z3J (congrArg (fun q : Res => pI ((pT (pA q.1)).getD 0 .junk)) e) (congrArg (fun q : Res => pI ((pT (pA q.1)).getD 1 .junk)) e)
abbrev Z3S : (Int × Int) → Res → Prop := fun r q => ∃ (ex : List Row), q = ((.p (.tup [(.v (.int .i64 r.1)), (.v (.int .i64 r.2))])), ex)
theorem Zgs : ∀ a b q, Z3S a q → Z3S b q → a = b := by
 rintro a b q ⟨_, e1⟩ ⟨_, e2⟩
 have e := e1.symm.trans e2
 exact Z3J (congrArg (fun q : Res => pI ((pT (pA q.1)).getD 0 .junk)) e) (congrArg (fun q : Res => pI ((pT (pA q.1)).getD 1 .junk)) e)
abbrev Z97 (b0 : Z2c) (zu zb : Own) : Int → Res → Prop := fun r q => ∃ (ex : List Row), q = ((iv r), [(Z4F b0 zu zb)] ++ ex)
theorem ZnB (b0 : Z2c) (zu zb : Own) : ∀ a b q, Z97 b0 zu zb a q → Z97 b0 zu zb b q → a = b := by
 rintro a b q ⟨_, e1⟩ ⟨_, e2⟩
 have e := e1.symm.trans e2
 exact congrArg (fun q : Res => pI (pA q.1)) e
abbrev Z85 : Zj → Res → Prop := fun r q => ∃ (ex : List Row), q = ((pA_ (ZN r .sh .sh)), ex)
theorem Zlt : ∀ a b q, Z85 a q → Z85 b q → a = b := by
 rintro a b q ⟨_, e1⟩ ⟨_, e2⟩
 have e := e1.symm.trans e2
 exact Z8U (congrArg (fun q : Res => pC (pA q.1)) e)
abbrev Z2L (zl : List Int) (z7 zd : Int) (zh : List Zz) (z2 z6 : Int) (zu zb : Own) : (Int × Int) → Res → Prop := fun r q => ∃ (ex : List Row), q = ((iv r.1), [(ZS zl r.2 z7 zd zh z2 z6 zu zb)] ++ ex)
theorem Z86 (zl : List Int) (z7 zd : Int) (zh : List Zz) (z2 z6 : Int) (zu zb : Own) : ∀ a b q, Z2L zl z7 zd zh z2 z6 zu zb a q → Z2L zl z7 zd zh z2 z6 zu zb b q → a = b := by
 rintro a b q ⟨_, e1⟩ ⟨_, e2⟩
 have e := e1.symm.trans e2
 exact Z3J (congrArg (fun q : Res => pI (pA q.1)) e) (congrArg (fun q : Res => pI (pA (cellAt q 0 1))) e)
abbrev Zjy : Zi → Res → Prop := fun r q => ∃ (ex : List Row), q = ((pA_ (Z18 r)), ex)
theorem ZyH : ∀ a b q, Zjy a q → Zjy b q → a = b := by
 rintro a b q ⟨_, e1⟩ ⟨_, e2⟩
 have e := e1.symm.trans e2
 exact ZjM (congrArg (fun q : Res => pC (pA q.1)) e)
abbrev Z4x : (List Zi) → Res → Prop := fun r q => ∃ (ex : List Row), q = ((ZP .sh (r.map ZB)), ex)
theorem ZcX : ∀ a b q, Z4x a q → Z4x b q → a = b := by
 rintro a b q ⟨_, e1⟩ ⟨_, e2⟩
 have e := e1.symm.trans e2
 exact Z5j Z8h (congrArg (fun q : Res => pL (pA q.1)) e)
abbrev Z5Q : ((List Zi) × Int) → Res → Prop := fun r q => ∃ (ex : List Row), q = ((.p (.tup [(.lst .sh (r.1.map ZB)), (.v (.int .i64 r.2))])), ex)
theorem ZiU : ∀ a b q, Z5Q a q → Z5Q b q → a = b := by
 rintro a b q ⟨_, e1⟩ ⟨_, e2⟩
 have e := e1.symm.trans e2
 exact Z3J (Z5j Z8h (congrArg (fun q : Res => pL ((pT (pA q.1)).getD 0 .junk)) e)) (congrArg (fun q : Res => pI ((pT (pA q.1)).getD 1 .junk)) e)
abbrev Z96 (zl : List Int) (z7 zd : Int) (zh : List Zz) (zu zb : Own) : (Int × Int × Int) → Res → Prop := fun r q => ∃ (ex : List Row), q = ((.p (.tup [])), [(ZS zl r.1 z7 zd zh r.2.1 r.2.2 zu zb)] ++ ex)
theorem ZnA (zl : List Int) (z7 zd : Int) (zh : List Zz) (zu zb : Own) : ∀ a b q, Z96 zl z7 zd zh zu zb a q → Z96 zl z7 zd zh zu zb b q → a = b := by
 rintro a b q ⟨_, e1⟩ ⟨_, e2⟩
 have e := e1.symm.trans e2
 exact Z3J (congrArg (fun q : Res => pI (pA (cellAt q 0 1))) e) (Z3J (congrArg (fun q : Res => pI (pA (cellAt q 0 5))) e) (congrArg (fun q : Res => pI (pA (cellAt q 0 6))) e))
abbrev Za7 : (Own × (List Zi)) → Res → Prop := fun r q => ∃ (ex : List Row), q = ((ZP r.1 (r.2.map ZB)), ex)
theorem Zqy : ∀ a b q, Za7 a q → Za7 b q → a = b := by
 rintro a b q ⟨_, e1⟩ ⟨_, e2⟩
 have e := e1.symm.trans e2
 exact Z3J (congrArg (fun q : Res => pOwn (pA q.1)) e) (Z5j Z8h (congrArg (fun q : Res => pL (pA q.1)) e))
abbrev Z8S (z14 : Int) : Bool → Res → Prop := fun r q => ∃ (ex : List Row), q = ((bv r), [[(iv z14)]] ++ ex)
theorem ZiF (z14 : Int) : ∀ a b q, Z8S z14 a q → Z8S z14 b q → a = b := by
 rintro a b q ⟨_, e1⟩ ⟨_, e2⟩
 have e := e1.symm.trans e2
 exact congrArg (fun q : Res => pB (pA q.1)) e
abbrev Z3i (z14 : Int) : Int → Res → Prop := fun r q => ∃ (ex : List Row), q = ((iv r), [[(iv z14)]] ++ ex)
theorem ZbF (z14 : Int) : ∀ a b q, Z3i z14 a q → Z3i z14 b q → a = b := by
 rintro a b q ⟨_, e1⟩ ⟨_, e2⟩
 have e := e1.symm.trans e2
 exact congrArg (fun q : Res => pI (pA q.1)) e
abbrev Z75 (zl : List Int) (z7 zd : Int) (zh : List Zz) (zu zb : Own) : (Int × Int × Int × Int) → Res → Prop := fun r q => ∃ (ex : List Row), q = ((iv r.1), [(ZS zl r.2.1 z7 zd zh r.2.2.1 r.2.2.2 zu zb)] ++ ex)
theorem Zn1 (zl : List Int) (z7 zd : Int) (zh : List Zz) (zu zb : Own) : ∀ a b q, Z75 zl z7 zd zh zu zb a q → Z75 zl z7 zd zh zu zb b q → a = b := by
 rintro a b q ⟨_, e1⟩ ⟨_, e2⟩
 have e := e1.symm.trans e2
 exact Z3J (congrArg (fun q : Res => pI (pA q.1)) e) (Z3J (congrArg (fun q : Res => pI (pA (cellAt q 0 1))) e) (Z3J (congrArg (fun q : Res => pI (pA (cellAt q 0 5))) e) (congrArg (fun q : Res => pI (pA (cellAt q 0 6))) e)))
abbrev Z5v (zl : List Int) (z7 zd : Int) (zu : Own) : (Zj × Int × (List Zz) × Int × Int) → Res → Prop := fun r q => ∃ (p0_4 : Own) (ex : List Row), ZW p0_4 = true ∧ q = ((pA_ (ZN r.1 .sh .sh)), [(ZS zl r.2.1 z7 zd r.2.2.1 r.2.2.2.1 r.2.2.2.2 zu p0_4)] ++ ex)
theorem Zmc (zl : List Int) (z7 zd : Int) (zu : Own) : ∀ a b q, Z5v zl z7 zd zu a q → Z5v zl z7 zd zu b q → a = b := by
 rintro a b q ⟨_, _, _, e1⟩ ⟨_, _, _, e2⟩
 have e := e1.symm.trans e2
 exact Z3J (Z8U (congrArg (fun q : Res => pC (pA q.1)) e)) (Z3J (congrArg (fun q : Res => pI (pA (cellAt q 0 1))) e) (Z3J (Z5j Zdi (congrArg (fun q : Res => pL (pA (cellAt q 0 4))) e)) (Z3J (congrArg (fun q : Res => pI (pA (cellAt q 0 5))) e) (congrArg (fun q : Res => pI (pA (cellAt q 0 6))) e))))
abbrev Z5w (zl : List Int) (z7 zd : Int) (zh : List Zz) (zu zb : Own) : (Int × (Own × (List Zi)) × Bool × Int × Int × Int) → Res → Prop := fun r q => ∃ (ex : List Row), q = ((.p (.tup [(.v (.int .i64 r.1)), (.lst r.2.1.1 (r.2.1.2.map ZB)), (.v (.bool r.2.2.1))])), [(ZS zl r.2.2.2.1 z7 zd zh r.2.2.2.2.1 r.2.2.2.2.2 zu zb)] ++ ex)
theorem Zmd (zl : List Int) (z7 zd : Int) (zh : List Zz) (zu zb : Own) : ∀ a b q, Z5w zl z7 zd zh zu zb a q → Z5w zl z7 zd zh zu zb b q → a = b := by
 rintro a b q ⟨_, e1⟩ ⟨_, e2⟩
 have e := e1.symm.trans e2
 exact Z3J (congrArg (fun q : Res => pI ((pT (pA q.1)).getD 0 .junk)) e) (Z3J (Z3J (congrArg (fun q : Res => pOwn ((pT (pA q.1)).getD 1 .junk)) e) (Z5j Z8h (congrArg (fun q : Res => pL ((pT (pA q.1)).getD 1 .junk)) e))) (Z3J (congrArg (fun q : Res => pB ((pT (pA q.1)).getD 2 .junk)) e) (Z3J (congrArg (fun q : Res => pI (pA (cellAt q 0 1))) e) (Z3J (congrArg (fun q : Res => pI (pA (cellAt q 0 5))) e) (congrArg (fun q : Res => pI (pA (cellAt q 0 6))) e)))))
abbrev Z9v : (List Zi) → Res → Prop := fun r q => ∃ (p0_0 : Own) (ex : List Row), q = ((.p (.tup [])), [[(ZP p0_0 (r.map ZB))]] ++ ex)
theorem Zlu : ∀ a b q, Z9v a q → Z9v b q → a = b := by
 rintro a b q ⟨_, _, e1⟩ ⟨_, _, e2⟩
 have e := e1.symm.trans e2
 exact Z5j Z8h (congrArg (fun q : Res => pL (pA (cellAt q 0 0))) e)
abbrev Z2i (zl : List Int) (z7 zd : Int) (zh : List Zz) (zu zb : Own) : (Zj × Int × Int × Int) → Res → Prop := fun r q => ∃ (ex : List Row), q = ((pA_ (ZN r.1 .sh .sh)), [(ZS zl r.2.1 z7 zd zh r.2.2.1 r.2.2.2 zu zb)] ++ ex)
theorem Zc0 (zl : List Int) (z7 zd : Int) (zh : List Zz) (zu zb : Own) : ∀ a b q, Z2i zl z7 zd zh zu zb a q → Z2i zl z7 zd zh zu zb b q → a = b := by
 rintro a b q ⟨_, e1⟩ ⟨_, e2⟩
 have e := e1.symm.trans e2
 exact Z3J (Z8U (congrArg (fun q : Res => pC (pA q.1)) e)) (Z3J (congrArg (fun q : Res => pI (pA (cellAt q 0 1))) e) (Z3J (congrArg (fun q : Res => pI (pA (cellAt q 0 5))) e) (congrArg (fun q : Res => pI (pA (cellAt q 0 6))) e)))
abbrev Zgq : (List ByteArray) → Res → Prop := fun r q => ∃ (ex : List Row), q = ((ZP .sh (r.map eS)), ex)
theorem ZuD : ∀ a b q, Zgq a q → Zgq b q → a = b := by
 rintro a b q ⟨_, e1⟩ ⟨_, e2⟩
 have e := e1.symm.trans e2
 exact Z5j ZFJ (congrArg (fun q : Res => pL (pA q.1)) e)
abbrev Z3r (zl : List Int) (zu : Own) : (Zj × Bool × Int × Int × Int × (List Zz) × Int × Int) → Res → Prop := fun r q => ∃ (p0_4 : Own) (ex : List Row), ZW p0_4 = true ∧ q = ((.p (.tup [(.agg (ZN r.1 .sh .sh)), (.v (.bool r.2.1))])), [(ZS zl r.2.2.1 r.2.2.2.1 r.2.2.2.2.1 r.2.2.2.2.2.1 r.2.2.2.2.2.2.1 r.2.2.2.2.2.2.2 zu p0_4)] ++ ex)
theorem ZfP (zl : List Int) (zu : Own) : ∀ a b q, Z3r zl zu a q → Z3r zl zu b q → a = b := by
 rintro a b q ⟨_, _, _, e1⟩ ⟨_, _, _, e2⟩
 have e := e1.symm.trans e2
 exact Z3J (Z8U (congrArg (fun q : Res => pC ((pT (pA q.1)).getD 0 .junk)) e)) (Z3J (congrArg (fun q : Res => pB ((pT (pA q.1)).getD 1 .junk)) e) (Z3J (congrArg (fun q : Res => pI (pA (cellAt q 0 1))) e) (Z3J (congrArg (fun q : Res => pI (pA (cellAt q 0 2))) e) (Z3J (congrArg (fun q : Res => pI (pA (cellAt q 0 3))) e) (Z3J (Z5j Zdi (congrArg (fun q : Res => pL (pA (cellAt q 0 4))) e)) (Z3J (congrArg (fun q : Res => pI (pA (cellAt q 0 5))) e) (congrArg (fun q : Res => pI (pA (cellAt q 0 6))) e)))))))
abbrev Z3R (zl : List Int) (z7 zd : Int) (zh : List Zz) (zu zb : Own) : (Int × Int × Int × Int × Int) → Res → Prop := fun r q => ∃ (ex : List Row), q = ((.p (.tup [(.v (.int .i64 r.1)), (.v (.int .i64 r.2.1))])), [(ZS zl r.2.2.1 z7 zd zh r.2.2.2.1 r.2.2.2.2 zu zb)] ++ ex)
theorem Zmb (zl : List Int) (z7 zd : Int) (zh : List Zz) (zu zb : Own) : ∀ a b q, Z3R zl z7 zd zh zu zb a q → Z3R zl z7 zd zh zu zb b q → a = b := by
 rintro a b q ⟨_, e1⟩ ⟨_, e2⟩
 have e := e1.symm.trans e2
 exact Z3J (congrArg (fun q : Res => pI ((pT (pA q.1)).getD 0 .junk)) e) (Z3J (congrArg (fun q : Res => pI ((pT (pA q.1)).getD 1 .junk)) e) (Z3J (congrArg (fun q : Res => pI (pA (cellAt q 0 1))) e) (Z3J (congrArg (fun q : Res => pI (pA (cellAt q 0 5))) e) (congrArg (fun q : Res => pI (pA (cellAt q 0 6))) e))))
abbrev Z37 (zl : List Int) (zu : Own) : (Zj × Int × Int × Int × (List Zz) × Int × Int) → Res → Prop := fun r q => ∃ (p0_4 : Own) (ex : List Row), ZW p0_4 = true ∧ q = ((pA_ (ZN r.1 .sh .sh)), [(ZS zl r.2.1 r.2.2.1 r.2.2.2.1 r.2.2.2.2.1 r.2.2.2.2.2.1 r.2.2.2.2.2.2 zu p0_4)] ++ ex)
theorem Zal (zl : List Int) (zu : Own) : ∀ a b q, Z37 zl zu a q → Z37 zl zu b q → a = b := by
 rintro a b q ⟨_, _, _, e1⟩ ⟨_, _, _, e2⟩
 have e := e1.symm.trans e2
 exact Z3J (Z8U (congrArg (fun q : Res => pC (pA q.1)) e)) (Z3J (congrArg (fun q : Res => pI (pA (cellAt q 0 1))) e) (Z3J (congrArg (fun q : Res => pI (pA (cellAt q 0 2))) e) (Z3J (congrArg (fun q : Res => pI (pA (cellAt q 0 3))) e) (Z3J (Z5j Zdi (congrArg (fun q : Res => pL (pA (cellAt q 0 4))) e)) (Z3J (congrArg (fun q : Res => pI (pA (cellAt q 0 5))) e) (congrArg (fun q : Res => pI (pA (cellAt q 0 6))) e))))))
abbrev Z4U : (Z1M × Z1n) → Res → Prop := fun r q => ∃ (ex : List Row), q = ((.p (.tup [(.agg (Z43 r.1 .sh .sh)), (.agg (Z6a r.2))])), ex)
theorem ZmH : ∀ a b q, Z4U a q → Z4U b q → a = b := by
 rintro a b q ⟨_, e1⟩ ⟨_, e2⟩
 have e := e1.symm.trans e2
 exact Z3J (Zp0 (congrArg (fun q : Res => pC ((pT (pA q.1)).getD 0 .junk)) e)) (ZqV (congrArg (fun q : Res => pC ((pT (pA q.1)).getD 1 .junk)) e))
abbrev Z3L : ZR → Res → Prop := fun r q => ∃ (ex : List Row), q = ((pA_ (Z1U r)), ex)
theorem ZdL : ∀ a b q, Z3L a q → Z3L b q → a = b := by
 rintro a b q ⟨_, e1⟩ ⟨_, e2⟩
 have e := e1.symm.trans e2
 exact Zc1 (congrArg (fun q : Res => pC (pA q.1)) e)
abbrev Z9j : (ZE × ZR) → Res → Prop := fun r q => ∃ (ex : List Row), q = ((.p (.tup [(.agg (Z1V r.1 .sh)), (.agg (Z1U r.2))])), ex)
theorem ZqS : ∀ a b q, Z9j a q → Z9j b q → a = b := by
 rintro a b q ⟨_, e1⟩ ⟨_, e2⟩
 have e := e1.symm.trans e2
 exact Z3J (ZdX (congrArg (fun q : Res => pC ((pT (pA q.1)).getD 0 .junk)) e)) (Zc1 (congrArg (fun q : Res => pC ((pT (pA q.1)).getD 1 .junk)) e))
abbrev Z5u (z29 : Int) (zY : List (Int × ZT)) : (Z1c × (List ZE)) → Res → Prop := fun r q => ∃ (p0_0 : Own) (ex : List Row), ZW p0_0 = true ∧ q = ((pA_ (Z1q r.1)), [[(ZP p0_0 (r.2.map ZU)), (.mp 1), (iv z29)], (rM_ ZK zY)] ++ ex)
theorem ZhJ (z29 : Int) (zY : List (Int × ZT)) : ∀ a b q, Z5u z29 zY a q → Z5u z29 zY b q → a = b := by
 rintro a b q ⟨_, _, _, e1⟩ ⟨_, _, _, e2⟩
 have e := e1.symm.trans e2
 exact Z3J (Z9B (congrArg (fun q : Res => pC (pA q.1)) e)) (Z5j ZhP (congrArg (fun q : Res => pL (pA (cellAt q 0 0))) e))
abbrev Z4r : (Z1c × Int × (List ZE) × Int × (List (Int × ZT))) → Res → Prop := fun r q => ∃ (p0_0 : Own) (ex : List Row), ZW p0_0 = true ∧ q = ((.p (.tup [(.agg (Z1q r.1)), (.v (.int .i64 r.2.1))])), [[(ZP p0_0 (r.2.2.1.map ZU)), (.mp 1), (iv r.2.2.2.1)], (rM_ ZK r.2.2.2.2)] ++ ex)
theorem ZjJ : ∀ a b q, Z4r a q → Z4r b q → a = b := by
 rintro a b q ⟨_, _, _, e1⟩ ⟨_, _, _, e2⟩
 have e := e1.symm.trans e2
 exact Z3J (Z9B (congrArg (fun q : Res => pC ((pT (pA q.1)).getD 0 .junk)) e)) (Z3J (congrArg (fun q : Res => pI ((pT (pA q.1)).getD 1 .junk)) e) (Z3J (Z5j ZhP (congrArg (fun q : Res => pL (pA (cellAt q 0 0))) e)) (Z3J (congrArg (fun q : Res => pI (pA (cellAt q 0 2))) e) (Z5j (ZiW ZiG) (congrArg (fun q : Res => pM (cellAt q 1 0)) e)))))
abbrev Z6J (z14 : List ZE) (z29 : Int) (zY : List (Int × ZT)) (z1O : Own) : Int → Res → Prop := fun r q => ∃ (ex : List Row), q = ((iv r), [[(ZP z1O (z14.map ZU)), (.mp 1), (iv z29)], (rM_ ZK zY)] ++ ex)
theorem Zhs (z14 : List ZE) (z29 : Int) (zY : List (Int × ZT)) (z1O : Own) : ∀ a b q, Z6J z14 z29 zY z1O a q → Z6J z14 z29 zY z1O b q → a = b := by
 rintro a b q ⟨_, e1⟩ ⟨_, e2⟩
 have e := e1.symm.trans e2
 exact congrArg (fun q : Res => pI (pA q.1)) e
abbrev Z7S (z14 : List ZE) (z29 : Int) (zY : List (Int × ZT)) (z1O : Own) : (Int × Z1c × Bool) → Res → Prop := fun r q => ∃ (ex : List Row), q = ((.p (.tup [(.v (.int .i64 r.1)), (.agg (Z1q r.2.1)), (.v (.bool r.2.2))])), [[(ZP z1O (z14.map ZU)), (.mp 1), (iv z29)], (rM_ ZK zY)] ++ ex)
theorem ZiV (z14 : List ZE) (z29 : Int) (zY : List (Int × ZT)) (z1O : Own) : ∀ a b q, Z7S z14 z29 zY z1O a q → Z7S z14 z29 zY z1O b q → a = b := by
 rintro a b q ⟨_, e1⟩ ⟨_, e2⟩
 have e := e1.symm.trans e2
 exact Z3J (congrArg (fun q : Res => pI ((pT (pA q.1)).getD 0 .junk)) e) (Z3J (Z9B (congrArg (fun q : Res => pC ((pT (pA q.1)).getD 1 .junk)) e)) (congrArg (fun q : Res => pB ((pT (pA q.1)).getD 2 .junk)) e))
def Z9m (x0 : List ZX) (x1 : ZX) : Option Bool := pick fun r => ∀ (ox0 z2J z2z : Own), RRun Z12 (EE 8 [(ZP ox0 (x0.map Z1X)), (pA_ (Z3e x1 z2J z2z))] []) r
def Zhu x0 x1 ox0 z2J z2z r (h : Z9m x0 x1 = some r) := Z1h h ox0 z2J z2z
def Z9C : Option Bool := pick fun r => RRun Z12 (EE 29 [] []) r
def ZkU r (h : Z9C = some r) := Z1h h
def Zdv : Option ((List (Int × ZT)) × (List ZE) × Int) := pick fun r => RRun Zgp (EE 32 [] []) r
def ZlF r (h : Zdv = some r) := Z1h h
def ZhZ : Option ZE := pick fun r => RRun ZhK (EE 43 [] []) r
def ZvA r (h : ZhZ = some r) := Z1h h
def Z6g (x0 x1 x2 : Int) (x3 : ByteArray) : Option ZX := pick fun r => RRun Zbf (EE 55 [(iv x0), (iv x1), (iv x2), (.p (.v (.string x3)))] []) r
def Zc5 x0 x1 x2 x3 r (h : Z6g x0 x1 x2 x3 = some r) := Z1h h
def Z3A (x1 : ZX) (z14 : List ZE) (z29 : Int) (zY : List (Int × ZT)) : Option (Z1c × Int × (List ZE) × Int × (List (Int × ZT))) := pick fun r => ∀ (z2J z2z z1O : Own) (z3V : ZW z1O = true), RRun Z4r (EE 33 [(.ptr 0 0), (pA_ (Z3e x1 z2J z2z))] [[(ZP z1O (z14.map ZU)), (.mp 1), (iv z29)], (rM_ ZK zY)]) r
def Z5D x1 z14 z29 zY z2J z2z z1O z3V r (h : Z3A x1 z14 z29 zY = some r) := Z1h h z2J z2z z1O z3V
def Z9N (x0 : ZX) : Option Bool := pick fun r => ∀ (z1x z1p : Own), RRun Z12 (EE 31 [(pA_ (Z3e x0 z1x z1p))] []) r
def Zhe x0 z1x z1p r (h : Z9N x0 = some r) := Z1h h z1x z1p
def Z5V (x0 x1 : Int) : Option Bool := pick fun r => RRun Z12 (EE 56 [(iv x0), (iv x1)] []) r
def Z71 x0 x1 r (h : Z5V x0 x1 = some r) := Z1h h
def Z6w (x0 : List ZA) : Option Bool := pick fun r => ∀ (ox0 : Own), RRun Z12 (EE 57 [(ZP ox0 (x0.map ZG)), (.clo 58 [] [])] []) r
def Zg5 x0 ox0 r (h : Z6w x0 = some r) := Z1h h ox0
def Z7D (x0 : List ZA) : Option Int := pick fun r => ∀ (ox0 : Own), RRun ZL (EE 83 [(ZP ox0 (x0.map ZG)), (.clo 58 [] [])] []) r
def Zi9 x0 ox0 r (h : Z7D x0 = some r) := Z1h h ox0
def Z5b (x0 : List ZA) (x7 x8 : Int) : Option Int := pick fun r => ∀ (ox0 : Own), RRun ZL (ZhR 0 (ZP ox0 (x0.map ZG)) (.clo 58 [] []) (iv x7) (iv x8) []) r
def ZaC x0 x7 x8 ox0 r (h : Z5b x0 x7 x8 = some r) := Z1h h ox0
def Zas (x0 : ZA) : Option Bool := pick fun r => RRun Z12 (EE 58 [(pA_ (Z2m x0))] []) r
def Zmk x0 r (h : Zas x0 = some r) := Z1h h
def Z8X (x0 : ZA) : Option Bool := pick fun r => RRun Z12 (EE 27 [(pA_ (Z2m x0))] []) r
def Zdl x0 r (h : Z8X x0 = some r) := Z1h h
def Z6V (x0 : List Int) : Option Bool := pick fun r => ∀ (ox0 : Own), RRun Z12 (EE 59 [(ZP ox0 (x0.map (eI .i64))), (.clo 60 [] [])] []) r
def ZgT x0 ox0 r (h : Z6V x0 = some r) := Z1h h ox0
def Z7X (x0 : List Int) : Option Int := pick fun r => ∀ (ox0 : Own), RRun ZL (EE 84 [(ZP ox0 (x0.map (eI .i64))), (.clo 60 [] [])] []) r
def ZiE x0 ox0 r (h : Z7X x0 = some r) := Z1h h ox0
def Z5q (x0 : List Int) (x7 x8 : Int) : Option Int := pick fun r => ∀ (ox0 : Own), RRun ZL (ZlE 0 (ZP ox0 (x0.map (eI .i64))) (.clo 60 [] []) (iv x7) (iv x8) []) r
def Zb7 x0 x7 x8 ox0 r (h : Z5q x0 x7 x8 = some r) := Z1h h ox0
def Zat (x0 : Int) : Option Bool := pick fun r => RRun Z12 (EE 60 [(iv x0)] []) r
def Zmm x0 r (h : Zat x0 = some r) := Z1h h
def Z7d (x1 : Z1e) (z14 : List ZE) : Option (Z1c × (List ZE)) := pick fun r => ∀ (z29 : Int) (zY : List (Int × ZT)) (z2E z2q z1O : Own) (z3V : ZW z1O = true), RRun (Z5u z29 zY) (EE 61 [(.ptr 0 0), (pA_ (Z4D x1 z2E z2q))] [[(ZP z1O (z14.map ZU)), (.mp 1), (iv z29)], (rM_ ZK zY)]) r
def Zhz x1 z14 z29 zY z2E z2q z1O z3V r (h : Z7d x1 z14 = some r) := Z1h h z29 zY z2E z2q z1O z3V
def Zdm (x0 : ZE) (x1 : Z1e) : Option (ZE × ZR) := pick fun r => ∀ (z1w z2E z2q : Own), RRun Z9j (EE 23 [(pA_ (Z1V x0 z1w)), (pA_ (Z4D x1 z2E z2q))] []) r
def ZqP x0 x1 z1w z2E z2q r (h : Zdm x0 x1 = some r) := Z1h h z1w z2E z2q
def Zek (x0 : ZE) (x1 : Z1e) : Option (ZE × Int) := pick fun r => ∀ (z1w z2E z2q : Own), RRun Z2O (EE 22 [(pA_ (Z1V x0 z1w)), (pA_ (Z4D x1 z2E z2q))] []) r
def Zvy x0 x1 z1w z2E z2q r (h : Zek x0 x1 = some r) := Z1h h z1w z2E z2q
def Zb4 (x0 : ZE) : Option Bool := pick fun r => ∀ (z1w : Own), RRun Z12 (EE 20 [(pA_ (Z1V x0 z1w))] []) r
def ZiR x0 z1w r (h : Zb4 x0 = some r) := Z1h h z1w
def Z9g (x0 : ZE) : Option Bool := pick fun r => ∀ (z1w : Own), RRun Z12 (EE 46 [(pA_ (Z1V x0 z1w))] []) r
def Zg0 x0 z1w r (h : Z9g x0 = some r) := Z1h h z1w
def Z9f (x3 : Int) (x16 : List ZA) (x17 x18 : Int) : Option Bool := pick fun r => ∀ (ox16 : Own), RRun Z12 (ZqZ 0 (iv x3) (ZP ox16 (x16.map ZG)) (iv x17) (iv x18) []) r
def ZfZ x3 x16 x17 x18 ox16 r (h : Z9f x3 x16 x17 x18 = some r) := Z1h h ox16
def ZgC (x1 z1G : Int) : Option Int := pick fun r => ∀ (z1N z2f z1T : Int) (z1Q : List ZA) (zD : Own), RRun (Zgr z1N z2f z1T z1Q zD) (EE 49 [(.ptr 0 0), (iv x1)] [(Z2G z1G z1N z2f z1T z1Q zD)]) r
def ZtW x1 z1G z1N z2f z1T z1Q zD r (h : ZgC x1 z1G = some r) := Z1h h z1N z2f z1T z1Q zD
def Zcw (x1 z1N : Int) : Option Int := pick fun r => ∀ (z1G z2f z1T : Int) (z1Q : List ZA) (zD : Own), RRun (Zci z1G z2f z1T z1Q zD) (EE 49 [(.ptr 0 1), (iv x1)] [(Z2G z1G z1N z2f z1T z1Q zD)]) r
def ZpO x1 z1G z1N z2f z1T z1Q zD r (h : Zcw x1 z1N = some r) := Z1h h z1G z2f z1T z1Q zD
def Zcv (x1 z2f : Int) : Option Int := pick fun r => ∀ (z1G z1N z1T : Int) (z1Q : List ZA) (zD : Own), RRun (Zch z1G z1N z1T z1Q zD) (EE 49 [(.ptr 0 2), (iv x1)] [(Z2G z1G z1N z2f z1T z1Q zD)]) r
def ZpM x1 z1G z1N z2f z1T z1Q zD r (h : Zcv x1 z2f = some r) := Z1h h z1G z1N z1T z1Q zD
def Zcu (x1 z1T : Int) : Option Int := pick fun r => ∀ (z1G z1N z2f : Int) (z1Q : List ZA) (zD : Own), RRun (Zcg z1G z1N z2f z1Q zD) (EE 49 [(.ptr 0 3), (iv x1)] [(Z2G z1G z1N z2f z1T z1Q zD)]) r
def ZpK x1 z1G z1N z2f z1T z1Q zD r (h : Zcu x1 z1T = some r) := Z1h h z1G z1N z2f z1Q zD
def Zbw (x0 : List ZA) : Option Bool := pick fun r => ∀ (ox0 : Own), RRun Z12 (EE 50 [(ZP ox0 (x0.map ZG)), (.clo 27 [] [])] []) r
def Znl x0 ox0 r (h : Zbw x0 = some r) := Z1h h ox0
def Z6x (x0 : List ZA) : Option Bool := pick fun r => ∀ (ox0 : Own), RRun Z6A (EE 57 [(ZP ox0 (x0.map ZG)), (.clo 73 [] [(.ptr 0 0)])] [[(.clo 27 [] [])]]) r
def Zg7 x0 ox0 r (h : Z6x x0 = some r) := Z1h h ox0
def Z7E (x0 : List ZA) : Option Int := pick fun r => ∀ (ox0 : Own), RRun Z3k (EE 83 [(ZP ox0 (x0.map ZG)), (.clo 73 [] [(.ptr 0 0)])] [[(.clo 27 [] [])]]) r
def Zib x0 ox0 r (h : Z7E x0 = some r) := Z1h h ox0
def Z5c (x0 : List ZA) (x7 x8 : Int) : Option Int := pick fun r => ∀ (ox0 : Own), RRun Z3k (ZhR 1 (ZP ox0 (x0.map ZG)) (.clo 73 [] [(.ptr 0 0)]) (iv x7) (iv x8) [[(.clo 27 [] [])]]) r
def ZaD x0 x7 x8 ox0 r (h : Z5c x0 x7 x8 = some r) := Z1h h ox0
def Z8o (x0 : ZA) : Option Bool := pick fun r => RRun Z6A (EE 73 [(pA_ (Z2m x0)), (.ptr 0 0)] [[(.clo 27 [] [])]]) r
def ZlU x0 r (h : Z8o x0 = some r) := Z1h h
def ZbV (x0 : Z1e) : Option Bool := pick fun r => ∀ (z7K z6h : Own), RRun Z12 (EE 51 [(pA_ (Z4D x0 z7K z6h))] []) r
def Zoh x0 z7K z6h r (h : ZbV x0 = some r) := Z1h h z7K z6h
def Z6y (x0 : List ZA) (z16 : List (Int × Bool)) : Option (Bool × (List (Int × Bool))) := pick fun r => ∀ (ox0 : Own), RRun Z5y (EE 57 [(ZP ox0 (x0.map ZG)), (.clo 75 [] [(.ptr 0 0)])] [[(.clo 74 [] [(.ptr 1 0)])], [(.mp 2)], (rM_ eB z16)]) r
def Zg9 x0 z16 ox0 r (h : Z6y x0 z16 = some r) := Z1h h ox0
def Z7F (x0 : List ZA) (z16 : List (Int × Bool)) : Option (Int × (List (Int × Bool))) := pick fun r => ∀ (ox0 : Own), RRun Z3l (EE 83 [(ZP ox0 (x0.map ZG)), (.clo 75 [] [(.ptr 0 0)])] [[(.clo 74 [] [(.ptr 1 0)])], [(.mp 2)], (rM_ eB z16)]) r
def Zid x0 z16 ox0 r (h : Z7F x0 z16 = some r) := Z1h h ox0
def Z5d (x0 : List ZA) (x7 x8 : Int) (z16 : List (Int × Bool)) : Option (Int × (List (Int × Bool))) := pick fun r => ∀ (ox0 : Own), RRun Z3l (ZhR 3 (ZP ox0 (x0.map ZG)) (.clo 75 [] [(.ptr 0 0)]) (iv x7) (iv x8) [[(.clo 74 [] [(.ptr 1 0)])], [(.mp 2)], (rM_ eB z16)]) r
def ZaE x0 x7 x8 z16 ox0 r (h : Z5d x0 x7 x8 z16 = some r) := Z1h h ox0
def Z8P (x0 : ZA) (z16 : List (Int × Bool)) : Option (Bool × (List (Int × Bool))) := pick fun r => RRun Z5y (EE 75 [(pA_ (Z2m x0)), (.ptr 0 0)] [[(.clo 74 [] [(.ptr 1 0)])], [(.mp 2)], (rM_ eB z16)]) r
def Zk4 x0 z16 r (h : Z8P x0 z16 = some r) := Z1h h
def Z72 (x0 : Int) (zY : List (Int × Bool)) : Option (Bool × (List (Int × Bool))) := pick fun r => RRun Z5x (EE 74 [(iv x0), (.ptr 0 0)] [[(.mp 1)], (rM_ eB zY)]) r
def ZcR x0 zY r (h : Z72 x0 zY = some r) := Z1h h
def Z6U (x0 : List Int) (zY : List (Int × Bool)) : Option (Bool × (List (Int × Bool))) := pick fun r => ∀ (ox0 : Own), RRun Z5x (EE 59 [(ZP ox0 (x0.map (eI .i64))), (.clo 74 [] [(.ptr 0 0)])] [[(.mp 1)], (rM_ eB zY)]) r
def ZgR x0 zY ox0 r (h : Z6U x0 zY = some r) := Z1h h ox0
def Z7W (x0 : List Int) (zY : List (Int × Bool)) : Option (Int × (List (Int × Bool))) := pick fun r => ∀ (ox0 : Own), RRun Z3s (EE 84 [(ZP ox0 (x0.map (eI .i64))), (.clo 74 [] [(.ptr 0 0)])] [[(.mp 1)], (rM_ eB zY)]) r
def ZiC x0 zY ox0 r (h : Z7W x0 zY = some r) := Z1h h ox0
def Z5p (x0 : List Int) (x7 x8 : Int) (zY : List (Int × Bool)) : Option (Int × (List (Int × Bool))) := pick fun r => ∀ (ox0 : Own), RRun Z3s (ZlE 2 (ZP ox0 (x0.map (eI .i64))) (.clo 74 [] [(.ptr 0 0)]) (iv x7) (iv x8) [[(.mp 1)], (rM_ eB zY)]) r
def Zb6 x0 x7 x8 zY ox0 r (h : Z5p x0 x7 x8 zY = some r) := Z1h h ox0
def Zb0 (x54 : List ZA) (x55 x56 : Int) (b1 : Z1e) (zJ zO zZ zQ : Int) (z1z : List (Int × ZA)) : Option (ZE × Int) := pick fun r => ∀ (b0 b2 : ZE) (z19 : List ZA) (ox54 zD z15 z11 zV z17 : Own) (z1I : ZW zV = true), RRun Z2O (ZnW 0 (.ptr 1 0) (.ptr 2 0) (.ptr 3 0) (.mp 4) (ZP ox54 (x54.map ZG)) (iv x55) (iv x56) [(ZC b0 zD), (ZI b1 z15 z11), (ZC b2 zV), (Z2G zJ zO zZ zQ z19 z17), (rM_ ZG z1z)]) r
def ZiJ x54 x55 x56 b0 b1 b2 zJ zO zZ zQ z19 z1z ox54 zD z15 z11 zV z17 z1I r (h : Zb0 x54 x55 x56 b1 zJ zO zZ zQ z1z = some r) := Z1h h b0 b2 z19 ox54 zD z15 z11 zV z17 z1I
def Zb1 (x66 : List Int) (x67 x68 : Int) (b1 : Z1e) (zJ zO zZ zQ : Int) (z1z : List (Int × ZA)) : Option (ZE × Int) := pick fun r => ∀ (b0 b2 : ZE) (z19 : List ZA) (ox66 zD z15 z11 zV z17 : Own) (z1I : ZW zV = true), RRun Z2O (ZnX 0 (.ptr 1 0) (.ptr 2 0) (.ptr 3 0) (.mp 4) (ZP ox66 (x66.map (eI .i64))) (iv x67) (iv x68) [(ZC b0 zD), (ZI b1 z15 z11), (ZC b2 zV), (Z2G zJ zO zZ zQ z19 z17), (rM_ ZG z1z)]) r
def ZiL x66 x67 x68 b0 b1 b2 zJ zO zZ zQ z19 z1z ox66 zD z15 z11 zV z17 z1I r (h : Zb1 x66 x67 x68 b1 zJ zO zZ zQ z1z = some r) := Z1h h b0 b2 z19 ox66 zD z15 z11 zV z17 z1I
def Zb2 (x85 : List ZA) (x86 x87 zJ zO zZ zQ : Int) (z1z : List (Int × ZA)) : Option (ZE × Int) := pick fun r => ∀ (b0 : ZE) (b1 : Z1e) (b2 : ZE) (z19 : List ZA) (ox85 zD z15 z11 zV z17 : Own) (z1I : ZW zV = true), RRun Z2O (ZnY 0 (.ptr 2 0) (.ptr 3 0) (.mp 4) (ZP ox85 (x85.map ZG)) (iv x86) (iv x87) [(ZC b0 zD), (ZI b1 z15 z11), (ZC b2 zV), (Z2G zJ zO zZ zQ z19 z17), (rM_ ZG z1z)]) r
def ZiN x85 x86 x87 b0 b1 b2 zJ zO zZ zQ z19 z1z ox85 zD z15 z11 zV z17 z1I r (h : Zb2 x85 x86 x87 zJ zO zZ zQ z1z = some r) := Z1h h b0 b1 b2 z19 ox85 zD z15 z11 zV z17 z1I
def Zar : Option Unit := pick fun r => ∀ (z14 : List (Int × ZA)), RRun (Zak z14) (EE 53 [(.mp 0)] [(rM_ ZG z14)]) r
def Zmi z14 r (h : Zar = some r) := Z1h h z14
def Zbz (zY : List (Int × ZA)) : Option (List Int) := pick fun r => RRun (Zbx zY) (EE 52 [(.clo 78 [] [(.ptr 0 0)])] [[(.mp 1)], (rM_ ZG zY)]) r
def Zky zY r (h : Zbz zY = some r) := Z1h h
def Zb3 (x103 : List Int) (x104 x105 zJ zO zZ zQ : Int) (z19 : List ZA) (z1z : List (Int × ZA)) : Option (ZE × Int) := pick fun r => ∀ (b0 : ZE) (b1 : Z1e) (b2 : ZE) (ox103 zD z15 z11 zV z17 : Own) (z1I : ZW zV = true) (z9D : ZW z17 = true), RRun Z2O (ZnZ 0 (.ptr 2 0) (.ptr 3 0) (.mp 4) (ZP ox103 (x103.map (eI .i64))) (iv x104) (iv x105) [(ZC b0 zD), (ZI b1 z15 z11), (ZC b2 zV), (Z2G zJ zO zZ zQ z19 z17), (rM_ ZG z1z)]) r
def ZiP x103 x104 x105 b0 b1 b2 zJ zO zZ zQ z19 z1z ox103 zD z15 z11 zV z17 z1I z9D r (h : Zb3 x103 x104 x105 zJ zO zZ zQ z19 z1z = some r) := Z1h h b0 b1 b2 ox103 zD z15 z11 zV z17 z1I z9D
def Ze1 (x0 : ZE) : Option ZR := pick fun r => ∀ (z1w : Own), RRun Z3L (EE 16 [(pA_ (Z1V x0 z1w))] []) r
def ZrA x0 z1w r (h : Ze1 x0 = some r) := Z1h h z1w
def Z9O (x11 : List ZA) (x12 x13 : Int) : Option ZR := pick fun r => ∀ (b0 : ZE) (b1 : ZR) (ox11 zD : Own), RRun Z3L (ZqX 0 (.ptr 1 0) (ZP ox11 (x11.map ZG)) (iv x12) (iv x13) [(ZC b0 zD), (Z1b b1)]) r
def Zhn x11 x12 x13 b0 b1 ox11 zD r (h : Z9O x11 x12 x13 = some r) := Z1h h b0 b1 ox11 zD
def Z6e (x0 : ByteArray) : Option ZR := pick fun r => RRun Z3L (EE 21 [(.p (.v (.string x0)))] []) r
def ZpX x0 r (h : Z6e x0 = some r) := Z1h h
def ZgA (x0 : ByteArray) : Option (Z1M × Z1n) := pick fun r => RRun Z4U (EE 47 [(.p (.v (.string x0)))] []) r
def ZtQ x0 r (h : ZgA x0 = some r) := Z1h h
def Z2j (x1 : ByteArray) (zl : List Int) (zn : Int) : Option (Bool × Int) := pick fun r => ∀ (z7 zd : Int) (zh : List Zz) (z2 z6 : Int) (zu zb : Own) (zy : ZW zb = true), RRun (Z7I zl z7 zd zh z2 z6 zu zb) (EE 68 [(.ptr 0 0), (.p (.v (.string x1)))] [(ZS zl zn z7 zd zh z2 z6 zu zb)]) r
def Z2u x1 zl zn z7 zd zh z2 z6 zu zb zy r (h : Z2j x1 zl zn = some r) := Z1h h z7 zd zh z2 z6 zu zb zy
def Z58 (zl : List Int) (zn z7 zd : Int) (zh : List Zz) (z2 z6 : Int) : Option (Zj × Int × Int × Int × (List Zz) × Int × Int) := pick fun r => ∀ (zu zb : Own) (zy : ZW zb = true), RRun (Z37 zl zu) (EE 69 [(.ptr 0 0)] [(ZS zl zn z7 zd zh z2 z6 zu zb)]) r
def Zhh zl zn z7 zd zh z2 z6 zu zb zy r (h : Z58 zl zn z7 zd zh z2 z6 = some r) := Z1h h zu zb zy
def Z8l (zl : List Int) (zn z7 zd : Int) (zh : List Zz) (z2 z6 : Int) : Option (Zj × Int × Int × Int × (List Zz) × Int × Int) := pick fun r => ∀ (zu zb : Own) (zy : ZW zb = true), RRun (Z37 zl zu) (EE 91 [(.ptr 0 0)] [(ZS zl zn z7 zd zh z2 z6 zu zb)]) r
def Zhj zl zn z7 zd zh z2 z6 zu zb zy r (h : Z8l zl zn z7 zd zh z2 z6 = some r) := Z1h h zu zb zy
def Z6G (x3 : List Zj) (zl : List Int) (zn z7 zd : Int) (zh : List Zz) (z2 z6 : Int) : Option (Zj × Int × Int × Int × (List Zz) × Int × Int) := pick fun r => ∀ (b1 : Zj) (ox3 zu zb zM zH : Own) (hox3 : ZW ox3 = true) (zy : ZW zb = true) (z1t : ZW zM = true) (z1f : ZW zH = true), RRun (Z37 zl zu) (Zrg 1 (.ptr 0 0) (.ptr 1 0) (ZP ox3 (x3.map Z13)) [(ZS zl zn z7 zd zh z2 z6 zu zb), (Zv b1 zM zH)]) r
def Zee x3 zl zn z7 zd zh z2 z6 b1 ox3 zu zb zM zH hox3 zy z1t z1f r (h : Z6G x3 zl zn z7 zd zh z2 z6 = some r) := Z1h h b1 ox3 zu zb zM zH hox3 zy z1t z1f
def Z3h (b0 : Z2c) : Option Int := pick fun r => ∀ (zu zb : Own) (zy : ZW zb = true), RRun (Z97 b0 zu zb) (EE 104 [(.ptr 0 0)] [(Z4F b0 zu zb)]) r
def Z3q b0 zu zb zy r (h : Z3h b0 = some r) := Z1h h zu zb zy
def Zgl (x0 : List Int) (x1 : Int) : Option (Int × Int) := pick fun r => ∀ (ox0 : Own), RRun Z3S (EE 126 [(ZP ox0 (x0.map (eI .u8))), (iv x1)] []) r
def Zou x0 x1 ox0 r (h : Zgl x0 x1 = some r) := Z1h h ox0
def Zaw (x0 : List Int) : Option (Int × Int) := pick fun r => ∀ (ox0 : Own), RRun Zam (EE 146 [(ZP ox0 (x0.map (eI .u8)))] []) r
def Zjk x0 ox0 r (h : Zaw x0 = some r) := Z1h h ox0
def ZcI (x0 : Int) (x1 : List Zj) : Option Zj := pick fun r => ∀ (ox1 : Own), RRun Z85 (EE 92 [(iv x0), (ZP ox1 (x1.map Z13))] []) r
def ZkJ x0 x1 ox1 r (h : ZcI x0 x1 = some r) := Z1h h ox1
def Zbv (zl : List Int) (zn z7 zd : Int) (zh : List Zz) (z2 z6 : Int) : Option (Zj × Bool × Int × Int × Int × (List Zz) × Int × Int) := pick fun r => ∀ (zu zb : Own) (zy : ZW zb = true), RRun (Z3r zl zu) (EE 105 [(.ptr 0 0)] [(ZS zl zn z7 zd zh z2 z6 zu zb)]) r
def Znc zl zn z7 zd zh z2 z6 zu zb zy r (h : Zbv zl zn z7 zd zh z2 z6 = some r) := Z1h h zu zb zy
def Z3U (zl : List Int) (zn : Int) : Option (Int × Int) := pick fun r => ∀ (z7 zd : Int) (zh : List Zz) (z2 z6 : Int) (zu zb : Own) (zy : ZW zb = true), RRun (Z2L zl z7 zd zh z2 z6 zu zb) (EE 127 [(.ptr 0 0)] [(ZS zl zn z7 zd zh z2 z6 zu zb)]) r
def Z4u zl zn z7 zd zh z2 z6 zu zb zy r (h : Z3U zl zn = some r) := Z1h h z7 zd zh z2 z6 zu zb zy
def Z35 (x0 : Int) : Option Zi := pick fun r => RRun Zjy (EE 129 [(iv x0)] []) r
def Z2U x0 r (h : Z35 x0 = some r) := Z1h h
def Z4M (x0 : Bool) (x1 : List Zi) : Option Zj := pick fun r => ∀ (ox1 : Own), RRun Z85 (EE 128 [(bv x0), (ZP ox1 (x1.map ZB))] []) r
def Z51 x0 x1 ox1 r (h : Z4M x0 x1 = some r) := Z1h h ox1
def ZhS (x0 : List Zi) : Option ((List Zi) × Int) := pick fun r => ∀ (ox0 : Own), RRun Z5Q (EE 147 [(ZP ox0 (x0.map ZB))] []) r
def Zvt x0 ox0 r (h : ZhS x0 = some r) := Z1h h ox0
def Z67 (x0 : List Zi) : Option Bool := pick fun r => ∀ (ox0 : Own), RRun Z12 (EE 166 [(ZP ox0 (x0.map ZB)), (.clo 167 [] [])] []) r
def Zft x0 ox0 r (h : Z67 x0 = some r) := Z1h h ox0
def Z7i (x0 : List Zi) : Option Int := pick fun r => ∀ (ox0 : Own), RRun ZL (EE 179 [(ZP ox0 (x0.map ZB)), (.clo 167 [] [])] []) r
def ZhE x0 ox0 r (h : Z7i x0 = some r) := Z1h h ox0
def Z4S (x0 : List Zi) (x7 x8 : Int) : Option Int := pick fun r => ∀ (ox0 : Own), RRun ZL (ZnS 0 (ZP ox0 (x0.map ZB)) (.clo 167 [] []) (iv x7) (iv x8) []) r
def Zaj x0 x7 x8 ox0 r (h : Z4S x0 x7 x8 = some r) := Z1h h ox0
def ZeR (x0 : Zi) : Option Bool := pick fun r => RRun Z12 (EE 167 [(pA_ (Z18 x0))] []) r
def ZsZ x0 r (h : ZeR x0 = some r) := Z1h h
def Z9e (x0 : Zi) : Option Bool := pick fun r => RRun Z12 (EE 168 [(pA_ (Z18 x0))] []) r
def ZfS x0 r (h : Z9e x0 = some r) := Z1h h
def ZeT (x0 : List Zi) : Option (List Zi) := pick fun r => ∀ (ox0 : Own), RRun Z4x (EE 169 [(ZP ox0 (x0.map ZB))] []) r
def ZkI x0 ox0 r (h : ZeT x0 = some r) := Z1h h ox0
def ZbT (x0 : List Zi) : Option ((List Zi) × Int) := pick fun r => ∀ (ox0 : Own), RRun Z5Q (EE 148 [(ZP ox0 (x0.map ZB))] []) r
def ZjT x0 ox0 r (h : ZbT x0 = some r) := Z1h h ox0
def Z8j (x0 : List Zi) : Option Bool := pick fun r => ∀ (ox0 : Own), RRun Z12 (EE 170 [(ZP ox0 (x0.map ZB))] []) r
def ZcG x0 ox0 r (h : Z8j x0 = some r) := Z1h h ox0
def Z8k (x3 : Int) (x6 : List Zi) (x7 x8 : Int) : Option Bool := pick fun r => ∀ (ox6 : Own), RRun Z12 (ZnP 0 (iv x3) (ZP ox6 (x6.map ZB)) (iv x7) (iv x8) []) r
def Ze8 x3 x6 x7 x8 ox6 r (h : Z8k x3 x6 x7 x8 = some r) := Z1h h ox6
def ZdZ (x0 : List Zi) : Option (List Zi) := pick fun r => ∀ (ox0 : Own), RRun Z4x (EE 171 [(ZP ox0 (x0.map ZB))] []) r
def Zrr x0 ox0 r (h : ZdZ x0 = some r) := Z1h h ox0
def Z9L (x3 : List Zi) (x4 : Int) (x7 : List Zi) (x8 x9 : Int) : Option (List Zi) := pick fun r => ∀ (ox3 ox7 : Own) (hox3 : ZW ox3 = true), RRun Z4x (ZnQ 0 (ZP ox3 (x3.map ZB)) (iv x4) (ZP ox7 (x7.map ZB)) (iv x8) (iv x9) []) r
def Zhd x3 x4 x7 x8 x9 ox3 ox7 hox3 r (h : Z9L x3 x4 x7 x8 x9 = some r) := Z1h h ox3 ox7 hox3
def Z5E (x1 : Int) (zl : List Int) (zn z7 zd : Int) (zh : List Zz) (z2 z6 : Int) : Option (Zj × Int × (List Zz) × Int × Int) := pick fun r => ∀ (zu zb : Own) (zy : ZW zb = true), RRun (Z5v zl z7 zd zu) (EE 130 [(.ptr 0 0), (iv x1)] [(ZS zl zn z7 zd zh z2 z6 zu zb)]) r
def ZlN x1 zl zn z7 zd zh z2 z6 zu zb zy r (h : Z5E x1 zl zn z7 zd zh z2 z6 = some r) := Z1h h zu zb zy
def Z1A (x1 x2 : Int) (zl : List Int) (z2 z6 : Int) : Option (Int × Int × Int) := pick fun r => ∀ (zn z7 zd : Int) (zh : List Zz) (zu zb : Own) (zy : ZW zb = true), RRun (Z96 zl z7 zd zh zu zb) (EE 70 [(.ptr 0 0), (iv x1), (iv x2)] [(ZS zl zn z7 zd zh z2 z6 zu zb)]) r
def Z1F x1 x2 zl zn z7 zd zh z2 z6 zu zb zy r (h : Z1A x1 x2 zl z2 z6 = some r) := Z1h h zn z7 zd zh zu zb zy
def Z8W (x0 : Int) : Option (Own × (List Zi)) := pick fun r => RRun Za7 (EE 149 [(iv x0)] []) r
def Zdk x0 r (h : Z8W x0 = some r) := Z1h h
def Z8O (x1 x2 : Int) (zl : List Int) (zn z7 zd : Int) (zh : List Zz) (z2 z6 : Int) : Option (Int × Int × Int × Int) := pick fun r => ∀ (zu zb : Own) (zy : ZW zb = true), RRun (Z75 zl z7 zd zh zu zb) (EE 150 [(.ptr 0 0), (iv x1), (iv x2)] [(ZS zl zn z7 zd zh z2 z6 zu zb)]) r
def Zfj x1 x2 zl zn z7 zd zh z2 z6 zu zb zy r (h : Z8O x1 x2 zl zn z7 zd zh z2 z6 = some r) := Z1h h zu zb zy
def ZfW (x0 : Int) : Option Int := pick fun r => RRun ZL (EE 172 [(iv x0)] []) r
def Zod x0 r (h : ZfW x0 = some r) := Z1h h
def ZbS (x0 : List Zi) (x1 : Int) : Option Bool := pick fun r => ∀ (ox0 : Own), RRun Z12 (EE 173 [(ZP ox0 (x0.map ZB)), (iv x1)] []) r
def Zrn x0 x1 ox0 r (h : ZbS x0 x1 = some r) := Z1h h ox0
def Z66 (x0 : List Zi) (z14 : Int) : Option Bool := pick fun r => ∀ (ox0 : Own), RRun (Z8S z14) (EE 184 [(ZP ox0 (x0.map ZB)), (.clo 185 [] [(.ptr 0 0)])] [[(iv z14)]]) r
def Zfr x0 z14 ox0 r (h : Z66 x0 z14 = some r) := Z1h h ox0
def Z7h (x0 : List Zi) (z14 : Int) : Option Int := pick fun r => ∀ (ox0 : Own), RRun (Z3i z14) (EE 191 [(ZP ox0 (x0.map ZB)), (.clo 185 [] [(.ptr 0 0)])] [[(iv z14)]]) r
def ZhC x0 z14 ox0 r (h : Z7h x0 z14 = some r) := Z1h h ox0
def Z4R (x0 : List Zi) (x7 x8 z14 : Int) : Option Int := pick fun r => ∀ (ox0 : Own), RRun (Z3i z14) (ZnT 1 (ZP ox0 (x0.map ZB)) (.clo 185 [] [(.ptr 0 0)]) (iv x7) (iv x8) [[(iv z14)]]) r
def Zah x0 x7 x8 z14 ox0 r (h : Z4R x0 x7 x8 z14 = some r) := Z1h h ox0
def Zct (x0 : Zi) (z14 : Int) : Option Bool := pick fun r => RRun (Z8S z14) (EE 185 [(pA_ (Z18 x0)), (.ptr 0 0)] [[(iv z14)]]) r
def Zph x0 z14 r (h : Zct x0 z14 = some r) := Z1h h
def Zav (x1 : Int) (zl : List Int) (zn z7 zd : Int) (zh : List Zz) (z2 z6 : Int) : Option (Zj × Int × Int × Int) := pick fun r => ∀ (zu zb : Own) (zy : ZW zb = true), RRun (Z2i zl z7 zd zh zu zb) (EE 131 [(.ptr 0 0), (iv x1)] [(ZS zl zn z7 zd zh z2 z6 zu zb)]) r
def Zmp x1 zl zn z7 zd zh z2 z6 zu zb zy r (h : Zav x1 zl zn z7 zd zh z2 z6 = some r) := Z1h h zu zb zy
def Z4T (x1 : Int) (x5 : Bool) (x8 : Int) (zl : List Int) (zn z7 zd : Int) (zh : List Zz) (z2 z6 : Int) (z16 : List Zi) : Option (Zj × Int × Int × Int) := pick fun r => ∀ (b1 : Zj) (zu zb zM zH z1R : Own) (zy : ZW zb = true) (z1t : ZW zM = true) (z1f : ZW zH = true), RRun (Z2i zl z7 zd zh zu zb) (ZnJ 1 (.ptr 0 0) (iv x1) (.ptr 1 0) (bv x5) (.ptr 2 0) (.clo 151 [] [(.ptr 2 0)]) (iv x8) [(ZS zl zn z7 zd zh z2 z6 zu zb), (Zv b1 zM zH), [(ZP z1R (z16.map ZB))]]) r
def Zdx x1 x5 x8 zl zn z7 zd zh z2 z6 b1 z16 zu zb zM zH z1R zy z1t z1f r (h : Z4T x1 x5 x8 zl zn z7 zd zh z2 z6 z16 = some r) := Z1h h b1 zu zb zM zH z1R zy z1t z1f
def Z6H (zl : List Int) (zn z7 zd : Int) (zh : List Zz) (z2 z6 : Int) : Option (Int × (Own × (List Zi)) × Bool × Int × Int × Int) := pick fun r => ∀ (zu zb : Own) (zy : ZW zb = true), RRun (Z5w zl z7 zd zh zu zb) (EE 153 [(.ptr 0 0)] [(ZS zl zn z7 zd zh z2 z6 zu zb)]) r
def Zeh zl zn z7 zd zh z2 z6 zu zb zy r (h : Z6H zl zn z7 zd zh z2 z6 = some r) := Z1h h zu zb zy
def Z7M (x0 z14 : List Zi) : Option (List Zi) := pick fun r => ∀ (ox0 z1O : Own), RRun Z9v (EE 151 [(ZP ox0 (x0.map ZB)), (.ptr 0 0)] [[(ZP z1O (z14.map ZB))]]) r
def Ze0 x0 z14 ox0 z1O r (h : Z7M x0 z14 = some r) := Z1h h ox0 z1O
def ZeS (x0 x1 : List Zi) : Option ((List Zi) × Int) := pick fun r => ∀ (ox0 ox1 : Own), RRun Z5Q (EE 152 [(ZP ox0 (x0.map ZB)), (ZP ox1 (x1.map ZB))] []) r
def Zt1 x0 x1 ox0 ox1 r (h : ZeS x0 x1 = some r) := Z1h h ox0 ox1
def ZcO (x0 : List (List Zi)) : Option (List Zi) := pick fun r => ∀ (ox0 : Own), RRun Z4x (EE 174 [(ZP ox0 (x0.map (eL ZB)))] []) r
def ZlV x0 ox0 r (h : ZcO x0 = some r) := Z1h h ox0
def Z5P (x1 : Int) (zl : List Int) (zn z7 zd : Int) (zh : List Zz) (z2 z6 : Int) : Option (Zj × Bool × Int × Int × Int × (List Zz) × Int × Int) := pick fun r => ∀ (zu zb : Own) (zy : ZW zb = true), RRun (Z3r zl zu) (EE 132 [(.ptr 0 0), (iv x1)] [(ZS zl zn z7 zd zh z2 z6 zu zb)]) r
def Zmr x1 zl zn z7 zd zh z2 z6 zu zb zy r (h : Z5P x1 zl zn z7 zd zh z2 z6 = some r) := Z1h h zu zb zy
def ZgB : Option (List ByteArray) := pick fun r => RRun Zgq (EE 155 [] []) r
def ZtS r (h : ZgB = some r) := Z1h h
def Z6W (x0 : List ByteArray) (zl : List Int) (zn : Int) : Option (Int × Int) := pick fun r => ∀ (z7 zd : Int) (zh : List Zz) (z2 z6 : Int) (ox0 zu zb : Own) (zy : ZW zb = true), RRun (Z2L zl z7 zd zh z2 z6 zu zb) (EE 154 [(ZP ox0 (x0.map eS)), (.clo 68 [(.ptr 0 0)] [])] [(ZS zl zn z7 zd zh z2 z6 zu zb)]) r
def ZgZ x0 zl zn z7 zd zh z2 z6 ox0 zu zb zy r (h : Z6W x0 zl zn = some r) := Z1h h z7 zd zh z2 z6 ox0 zu zb zy
def Z2V (x0 : List ByteArray) (x7 x8 : Int) (zl : List Int) (zn : Int) : Option (Int × Int) := pick fun r => ∀ (z7 zd : Int) (zh : List Zz) (z2 z6 : Int) (ox0 zu zb : Own) (zy : ZW zb = true), RRun (Z2L zl z7 zd zh z2 z6 zu zb) (ZnL 1 (ZP ox0 (x0.map eS)) (.clo 68 [(.ptr 0 0)] []) (iv x7) (iv x8) [(ZS zl zn z7 zd zh z2 z6 zu zb)]) r
def Za0 x0 x7 x8 zl zn z7 zd zh z2 z6 ox0 zu zb zy r (h : Z2V x0 x7 x8 zl zn = some r) := Z1h h z7 zd zh z2 z6 ox0 zu zb zy
def Z8n (x1 : Zj) (x2 : Bool) (zl : List Int) (zn z7 zd : Int) (zh : List Zz) (z2 z6 : Int) : Option (Zj × Int × Int × Int) := pick fun r => ∀ (z49 z3B zu zb : Own) (zy : ZW zb = true), RRun (Z2i zl z7 zd zh zu zb) (EE 106 [(.ptr 0 0), (pA_ (ZN x1 z49 z3B)), (bv x2)] [(ZS zl zn z7 zd zh z2 z6 zu zb)]) r
def ZlR x1 x2 zl zn z7 zd zh z2 z6 z49 z3B zu zb zy r (h : Z8n x1 x2 zl zn z7 zd zh z2 z6 = some r) := Z1h h z49 z3B zu zb zy
def Z8m (x1 : Int) (zl : List Int) (zn z7 zd : Int) (zh : List Zz) (z2 z6 : Int) : Option (Int × Int × Int × Int × Int) := pick fun r => ∀ (zu zb : Own) (zy : ZW zb = true), RRun (Z3R zl z7 zd zh zu zb) (EE 133 [(.ptr 0 0), (iv x1)] [(ZS zl zn z7 zd zh z2 z6 zu zb)]) r
def ZlL x1 zl zn z7 zd zh z2 z6 zu zb zy r (h : Z8m x1 zl zn z7 zd zh z2 z6 = some r) := Z1h h zu zb zy
def Z6I (zl : List Int) (zn z7 zd : Int) (zh : List Zz) (z2 z6 : Int) : Option (Int × Int) := pick fun r => ∀ (zu zb : Own) (zy : ZW zb = true), RRun (Z2L zl z7 zd zh z2 z6 zu zb) (EE 156 [(.ptr 0 0)] [(ZS zl zn z7 zd zh z2 z6 zu zb)]) r
def Zei zl zn z7 zd zh z2 z6 zu zb zy r (h : Z6I zl zn z7 zd zh z2 z6 = some r) := Z1h h zu zb zy
def Z4J (x3 x4 : Int) (zl : List Int) (zn z7 zd : Int) (zh : List Zz) (z2 z6 : Int) : Option (Int × Int) := pick fun r => ∀ (zu zb : Own) (zy : ZW zb = true), RRun (Z2L zl z7 zd zh z2 z6 zu zb) (ZnM 1 (.ptr 0 0) (iv x3) (iv x4) [(ZS zl zn z7 zd zh z2 z6 zu zb)]) r
def ZcQ x3 x4 zl zn z7 zd zh z2 z6 zu zb zy r (h : Z4J x3 x4 zl zn z7 zd zh z2 z6 = some r) := Z1h h zu zb zy
def Z6F (x3 : List Zj) (zl : List Int) (zn z7 zd : Int) (zh : List Zz) (z2 z6 : Int) : Option (Zj × Int × Int × Int × (List Zz) × Int × Int) := pick fun r => ∀ (b1 : Zj) (ox3 zu zb zM zH : Own) (hox3 : ZW ox3 = true) (zy : ZW zb = true) (z1t : ZW zM = true) (z1f : ZW zH = true), RRun (Z37 zl zu) (Zr6 1 (.ptr 0 0) (.ptr 1 0) (ZP ox3 (x3.map Z13)) [(ZS zl zn z7 zd zh z2 z6 zu zb), (Zv b1 zM zH)]) r
def Zec x3 zl zn z7 zd zh z2 z6 b1 ox3 zu zb zM zH hox3 zy z1t z1f r (h : Z6F x3 zl zn z7 zd zh z2 z6 = some r) := Z1h h b1 ox3 zu zb zM zH hox3 zy z1t z1f
def Z9n (x50 : List Zz) (x51 x52 : Int) (z3E : List Int) (z1y z1d z1B z1j z1D z1C z1k z1u : Int) (z1v : List Zi) (z1i : List Zj) (z2d : Bool) : Option (Z1M × Z1n) := pick fun r => ∀ (b0 : Z1M) (b1 : Z1n) (z3v z3d : Int) (z2A : List Zz) (z2W : Int) (ox50 z1L z1E z4m z2p z1Y z1S : Own) (z2Z : ZW z1L = true) (z2P : ZW z1E = true) (z4v : ZW z2p = true), RRun Z4U (Zr4 0 (.ptr 0 0) (.ptr 1 0) (.ptr 2 0) (.ptr 3 0) (ZP ox50 (x50.map Z3u)) (iv x51) (iv x52) [(Z1r b0 z1L z1E), (Z2a b1), (ZS z3E z3v z1y z3d z2A z1d z1B z4m z2p), (Zb9 z1j z1D z1C z1k z1u z1v z1i z2W z2d z1Y z1S)]) r
def ZiH x50 x51 x52 b0 b1 z3E z3v z1y z3d z2A z1d z1B z1j z1D z1C z1k z1u z1v z1i z2W z2d ox50 z1L z1E z4m z2p z1Y z1S z2Z z2P z4v r (h : Z9n x50 x51 x52 z3E z1y z1d z1B z1j z1D z1C z1k z1u z1v z1i z2d = some r) := Z1h h b0 b1 z3v z3d z2A z2W ox50 z1L z1E z4m z2p z1Y z1S z2Z z2P z4v
def ZgD (x0 : Z1M) : Option Int := pick fun r => ∀ (z5f z4E : Own), RRun ZL (EE 48 [(pA_ (Z43 x0 z5f z4E))] []) r
def ZtY x0 z5f z4E r (h : ZgD x0 = some r) := Z1h h z5f z4E
def Z59 (x0 : Zj) : Option Bool := pick fun r => ∀ (z2D z1W : Own), RRun Z12 (EE 71 [(pA_ (ZN x0 z2D z1W))] []) r
def Zk7 x0 z2D z1W r (h : Z59 x0 = some r) := Z1h h z2D z1W
def Z4j (x0 : Zj) : Option (Int × Int) := pick fun r => ∀ (z2D z1W : Own), RRun Z3S (EE 93 [(pA_ (ZN x0 z2D z1W))] []) r
def Z9r x0 z2D z1W r (h : Z4j x0 = some r) := Z1h h z2D z1W
def Zb5 (x2 x3 : Int) (x23 : List Zj) (x24 x25 : Int) : Option (Int × Int) := pick fun r => ∀ (ox23 : Own), RRun Z3S (Zrj 0 (iv x2) (iv x3) (ZP ox23 (x23.map Z13)) (iv x24) (iv x25) []) r
def ZiT x2 x3 x23 x24 x25 ox23 r (h : Zb5 x2 x3 x23 x24 x25 = some r) := Z1h h ox23
def Zag (x2 x3 : Int) (x45 : List Zj) (x46 x47 : Int) : Option (Int × Int) := pick fun r => ∀ (ox45 : Own), RRun Z3S (Zo4 0 (iv x2) (iv x3) (ZP ox45 (x45.map Z13)) (iv x46) (iv x47) []) r
def Zi3 x2 x3 x45 x46 x47 ox45 r (h : Zag x2 x3 x45 x46 x47 = some r) := Z1h h ox45
def ZdA (x0 x1 : Int) : Option Int := pick fun r => RRun ZL (EE 108 [(iv x0), (iv x1)] []) r
def Zu3 x0 x1 r (h : ZdA x0 x1 = some r) := Z1h h
def Zem (x0 : Int) : Option Int := pick fun r => RRun ZL (EE 134 [(iv x0)] []) r
def ZmL x0 r (h : Zem x0 = some r) := Z1h h
def ZjG (x0 x1 : Int) : Option Int := pick fun r => RRun ZL (EE 107 [(iv x0), (iv x1)] []) r
def Zy4 x0 x1 r (h : ZjG x0 x1 = some r) := Z1h h
def Z6v (x0 : List Zj) : Option Bool := pick fun r => ∀ (ox0 : Own), RRun Z12 (EE 94 [(ZP ox0 (x0.map Z13)), (.clo 95 [] [])] []) r
def Zg3 x0 ox0 r (h : Z6v x0 = some r) := Z1h h ox0
def Z7C (x0 : List Zj) : Option Int := pick fun r => ∀ (ox0 : Own), RRun ZL (EE 109 [(ZP ox0 (x0.map Z13)), (.clo 95 [] [])] []) r
def Zi7 x0 ox0 r (h : Z7C x0 = some r) := Z1h h ox0
def Z5a (x0 : List Zj) (x7 x8 : Int) : Option Int := pick fun r => ∀ (ox0 : Own), RRun ZL (ZnH 0 (ZP ox0 (x0.map Z13)) (.clo 95 [] []) (iv x7) (iv x8) []) r
def ZaB x0 x7 x8 ox0 r (h : Z5a x0 x7 x8 = some r) := Z1h h ox0
def Zcx (x0 : Zj) : Option Bool := pick fun r => ∀ (z2D z1W : Own), RRun Z12 (EE 95 [(pA_ (ZN x0 z2D z1W))] []) r
def ZpT x0 z2D z1W r (h : Zcx x0 = some r) := Z1h h z2D z1W
def Z73 (x0 : Zj) : Option Int := pick fun r => ∀ (z2D z1W : Own), RRun ZL (EE 72 [(pA_ (ZN x0 z2D z1W))] []) r
def ZmK x0 z2D z1W r (h : Z73 x0 = some r) := Z1h h z2D z1W
def Z7B (x3 : Int) (x8 : List Zj) (x9 x10 : Int) (b0 : Zj) : Option Int := pick fun r => ∀ (ox8 z2x z20 : Own), RRun ZL (Zr8 0 (.ptr 0 0) (iv x3) (ZP ox8 (x8.map Z13)) (iv x9) (iv x10) [(Zv b0 z2x z20)]) r
def Zk6 x3 x8 x9 x10 b0 ox8 z2x z20 r (h : Z7B x3 x8 x9 x10 b0 = some r) := Z1h h ox8 z2x z20
def Z6R (z14 : List ZE) : Option Int := pick fun r => ∀ (z29 : Int) (zY : List (Int × ZT)) (z1O : Own) (z3V : ZW z1O = true), RRun (Z6J z14 z29 zY z1O) (EE 35 [(.ptr 0 0)] [[(ZP z1O (z14.map ZU)), (.mp 1), (iv z29)], (rM_ ZK zY)]) r
def ZgO z14 z29 zY z1O z3V r (h : Z6R z14 = some r) := Z1h h z29 zY z1O z3V
def Z95 (x0 : List ZX) : Option Bool := pick fun r => ∀ (ox0 : Own), RRun Z12 (EE 30 [(ZP ox0 (x0.map Z1X))] []) r
def Zku x0 ox0 r (h : Z95 x0 = some r) := Z1h h ox0
def Z50 (x0 x7 : List ZX) (x8 x9 : Int) : Option Bool := pick fun r => ∀ (ox0 ox7 : Own), RRun Z12 (Zr2 0 (ZP ox0 (x0.map Z1X)) (ZP ox7 (x7.map Z1X)) (iv x8) (iv x9) []) r
def Zca x0 x7 x8 x9 ox0 ox7 r (h : Z50 x0 x7 x8 x9 = some r) := Z1h h ox0 ox7
def Z5T (x0 x7 : List ZX) (x8 x9 : Int) (x27 : List ZA) (x28 x29 : Int) : Option Bool := pick fun r => ∀ (ox0 ox7 ox27 : Own), RRun Z12 (Zr3 0 (ZP ox0 (x0.map Z1X)) (ZP ox7 (x7.map Z1X)) (iv x8) (iv x9) (ZP ox27 (x27.map ZG)) (iv x28) (iv x29) []) r
def Zcb x0 x7 x8 x9 x27 x28 x29 ox0 ox7 ox27 r (h : Z5T x0 x7 x8 x9 x27 x28 x29 = some r) := Z1h h ox0 ox7 ox27
def Z4Q (x35 : List ZX) (x36 x37 : Int) (b0 : ZX) (zY : List (Int × ZT)) (z16 : List ZE) (z4y : Int) : Option Bool := pick fun r => ∀ (ox35 z1o z1m z1R : Own) (z9P : ZW z1R = true), RRun Z12 (Zvl 0 (.ptr 0 0) (.ptr 2 0) (ZP ox35 (x35.map Z1X)) (iv x36) (iv x37) [(Z10 b0 z1o z1m), (rM_ ZK zY), [(ZP z1R (z16.map ZU)), (.mp 1), (iv z4y)]]) r
def Zaf x35 x36 x37 b0 zY z16 z4y ox35 z1o z1m z1R z9P r (h : Z4Q x35 x36 x37 b0 zY z16 z4y = some r) := Z1h h ox35 z1o z1m z1R z9P
def Z5U (x1 : Int) (zY : List (Int × ZT)) : Option (Int × Z1c × Bool) := pick fun r => ∀ (z14 : List ZE) (z29 : Int) (z1O : Own) (z3V : ZW z1O = true), RRun (Z7S z14 z29 zY z1O) (EE 34 [(.ptr 0 0), (iv x1)] [[(ZP z1O (z14.map ZU)), (.mp 1), (iv z29)], (rM_ ZK zY)]) r
def Zcc x1 z14 z29 zY z1O z3V r (h : Z5U x1 zY = some r) := Z1h h z14 z29 z1O z3V
end Go.Proofs.YteoeggbihfnbfaaGreatDoor.N2
end
