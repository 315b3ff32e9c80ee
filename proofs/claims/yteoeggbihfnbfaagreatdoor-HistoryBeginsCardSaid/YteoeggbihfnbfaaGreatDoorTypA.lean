/- The functions, read typed: their types, and what they stand for. No condition. -/
import Derived.Test.YteoeggbihfnbfaaGreatDoorSim
import Derived.Test.YteoeggbihfnbfaaGreatDoorEqs

set_option linter.unusedSimpArgs false
set_option linter.unusedVariables false
set_option linter.defProp false
noncomputable section
namespace Go.Proofs.YteoeggbihfnbfaaGreatDoor.N2
open Go Go.Abs
set_option maxRecDepth 100000
theorem gj_ (n : Nat) {l k : List PV} (h : l = k) : l.getD n .junk = k.getD n .junk := congrArg (fun l => l.getD n .junk) h
structure Zw where
 ID : Int
 Priority : Int
 Action : Int
 Scope : Int
 Pattern : ByteArray
 deriving Inhabited
def Z4Z (a : Zw) : List PV := [(eI .i64) a.ID, (eI .i64) a.Priority, (eI .i64) a.Action, (eI .i64) a.Scope, eS a.Pattern]
def ZE (a : Zw) : PV := .agg (Z4Z a)
def Z1U (a : Zw) : List PV := [(eI .i64) a.ID, (eI .i64) a.Priority, (eI .i64) a.Action, (eI .i64) a.Scope, eS a.Pattern]
def Z1L (a : Zw) : Row := [.p ((eI .i64) a.ID), .p ((eI .i64) a.Priority), .p ((eI .i64) a.Action), .p ((eI .i64) a.Scope), .p (eS a.Pattern)]
theorem Zv9 {a b : Zw} (h : Z4Z a = Z4Z b) : a = b := by
 have h0 : a.ID = b.ID := Z3Y _ _ (gj_ 0 h)
 have h1 : a.Priority = b.Priority := Z3Y _ _ (gj_ 1 h)
 have h2 : a.Action = b.Action := Z3Y _ _ (gj_ 2 h)
 have h3 : a.Scope = b.Scope := Z3Y _ _ (gj_ 3 h)
 have h4 : a.Pattern = b.Pattern := ZHR _ _ (gj_ 4 h)
 cases a; cases b
 cases h0
 cases h1
 cases h2
 cases h3
 cases h4
 rfl
theorem Ze8 (a b : Zw) (h : ZE a = ZE b) : a = b := Zv9 (congrArg pC h)
structure Z1f where
 Default : Int
 Closed : Int
 Fuel : Int
 Stack : Int
 Put : (List Zw)
 Drop : (List Int)
 deriving Inhabited
def ZlC (a : Z1f) : List PV := [(eI .i64) a.Default, (eI .i64) a.Closed, (eI .i64) a.Fuel, (eI .i64) a.Stack, (eL ZE) a.Put, (eL (eI .i64)) a.Drop]
def Z4S (a : Z1f) (o0 o1 : Own) : List PV := [(eI .i64) a.Default, (eI .i64) a.Closed, (eI .i64) a.Fuel, (eI .i64) a.Stack, .lst o0 (a.Put.map ZE), .lst o1 (a.Drop.map (eI .i64))]
def ZH (a : Z1f) (o0 o1 : Own) : Row := [.p ((eI .i64) a.Default), .p ((eI .i64) a.Closed), .p ((eI .i64) a.Fuel), .p ((eI .i64) a.Stack), .p (.lst o0 (a.Put.map ZE)), .p (.lst o1 (a.Drop.map (eI .i64)))]
theorem Zuw {a b : Z1f} (h : ZlC a = ZlC b) : a = b := by
 have h0 : a.Default = b.Default := Z3Y _ _ (gj_ 0 h)
 have h1 : a.Closed = b.Closed := Z3Y _ _ (gj_ 1 h)
 have h2 : a.Fuel = b.Fuel := Z3Y _ _ (gj_ 2 h)
 have h3 : a.Stack = b.Stack := Z3Y _ _ (gj_ 3 h)
 have h4 : a.Put = b.Put := (Zso Ze8) _ _ (gj_ 4 h)
 have h5 : a.Drop = b.Drop := (Zso Z3Y) _ _ (gj_ 5 h)
 cases a; cases b
 cases h0
 cases h1
 cases h2
 cases h3
 cases h4
 cases h5
 rfl
structure Z13 where
 View : Int
 Client : Int
 Request : Int
 Delta : Z1f
 deriving Inhabited
def Zch (a : Z13) : List PV := [(eI .i64) a.View, (eI .i64) a.Client, (eI .i64) a.Request, (eI .i64) a.Delta.Default, (eI .i64) a.Delta.Closed, (eI .i64) a.Delta.Fuel, (eI .i64) a.Delta.Stack, (eL ZE) a.Delta.Put, (eL (eI .i64)) a.Delta.Drop]
def Z24 (a : Z13) : PV := .agg (Zch a)
def Z3Z (a : Z13) (o0 o1 : Own) : List PV := [(eI .i64) a.View, (eI .i64) a.Client, (eI .i64) a.Request, (eI .i64) a.Delta.Default, (eI .i64) a.Delta.Closed, (eI .i64) a.Delta.Fuel, (eI .i64) a.Delta.Stack, .lst o0 (a.Delta.Put.map ZE), .lst o1 (a.Delta.Drop.map (eI .i64))]
def Z1o (a : Z13) (o0 o1 : Own) : Row := [.p ((eI .i64) a.View), .p ((eI .i64) a.Client), .p ((eI .i64) a.Request), .p ((eI .i64) a.Delta.Default), .p ((eI .i64) a.Delta.Closed), .p ((eI .i64) a.Delta.Fuel), .p ((eI .i64) a.Delta.Stack), .p (.lst o0 (a.Delta.Put.map ZE)), .p (.lst o1 (a.Delta.Drop.map (eI .i64)))]
theorem Zuv {a b : Z13} (h : Zch a = Zch b) : a = b := by
 have h0 : a.View = b.View := Z3Y _ _ (gj_ 0 h)
 have h1 : a.Client = b.Client := Z3Y _ _ (gj_ 1 h)
 have h2 : a.Request = b.Request := Z3Y _ _ (gj_ 2 h)
 have h3 : a.Delta = b.Delta := Zuw (congrArg (fun l => (l.drop 3).take 6) h)
 cases a; cases b
 cases h0
 cases h1
 cases h2
 cases h3
 rfl
structure ZC where
 Default : Int
 Closed : Int
 Fuel : Int
 Stack : Int
 Rules : (List Zw)
 deriving Inhabited
def ZgS (a : ZC) : List PV := [(eI .i64) a.Default, (eI .i64) a.Closed, (eI .i64) a.Fuel, (eI .i64) a.Stack, (eL ZE) a.Rules]
def ZF (a : ZC) : PV := .agg (ZgS a)
def Z1z (a : ZC) (o0 : Own) : List PV := [(eI .i64) a.Default, (eI .i64) a.Closed, (eI .i64) a.Fuel, (eI .i64) a.Stack, .lst o0 (a.Rules.map ZE)]
def Zx (a : ZC) (o0 : Own) : Row := [.p ((eI .i64) a.Default), .p ((eI .i64) a.Closed), .p ((eI .i64) a.Fuel), .p ((eI .i64) a.Stack), .p (.lst o0 (a.Rules.map ZE))]
theorem ZcB {a b : ZC} (h : ZgS a = ZgS b) : a = b := by
 have h0 : a.Default = b.Default := Z3Y _ _ (gj_ 0 h)
 have h1 : a.Closed = b.Closed := Z3Y _ _ (gj_ 1 h)
 have h2 : a.Fuel = b.Fuel := Z3Y _ _ (gj_ 2 h)
 have h3 : a.Stack = b.Stack := Z3Y _ _ (gj_ 3 h)
 have h4 : a.Rules = b.Rules := (Zso Ze8) _ _ (gj_ 4 h)
 cases a; cases b
 cases h0
 cases h1
 cases h2
 cases h3
 cases h4
 rfl
theorem Zj1 (a b : ZC) (h : ZF a = ZF b) : a = b := ZcB (congrArg pC h)
structure ZX where
 Code : Int
 Rule : Int
 At : Int
 deriving Inhabited
def ZkX (a : ZX) : List PV := [(eI .i64) a.Code, (eI .i64) a.Rule, (eI .i64) a.At]
def Z1W (a : ZX) : List PV := [(eI .i64) a.Code, (eI .i64) a.Rule, (eI .i64) a.At]
def Z1a (a : ZX) : Row := [.p ((eI .i64) a.Code), .p ((eI .i64) a.Rule), .p ((eI .i64) a.At)]
theorem ZcN {a b : ZX} (h : ZkX a = ZkX b) : a = b := by
 have h0 : a.Code = b.Code := Z3Y _ _ (gj_ 0 h)
 have h1 : a.Rule = b.Rule := Z3Y _ _ (gj_ 1 h)
 have h2 : a.At = b.At := Z3Y _ _ (gj_ 2 h)
 cases a; cases b
 cases h0
 cases h1
 cases h2
 rfl
structure Z1j where
 Version : Int
 Verdict : ZX
 deriving Inhabited
def ZkW (a : Z1j) : List PV := [(eI .i64) a.Version, (eI .i64) a.Verdict.Code, (eI .i64) a.Verdict.Rule, (eI .i64) a.Verdict.At]
def Z1O (a : Z1j) : List PV := [(eI .i64) a.Version, (eI .i64) a.Verdict.Code, (eI .i64) a.Verdict.Rule, (eI .i64) a.Verdict.At]
def ZL (a : Z1j) : Row := [.p ((eI .i64) a.Version), .p ((eI .i64) a.Verdict.Code), .p ((eI .i64) a.Verdict.Rule), .p ((eI .i64) a.Verdict.At)]
theorem ZcM {a b : Z1j} (h : ZkW a = ZkW b) : a = b := by
 have h0 : a.Version = b.Version := Z3Y _ _ (gj_ 0 h)
 have h1 : a.Verdict = b.Verdict := ZcN (congrArg (fun l => (l.drop 1).take 3) h)
 cases a; cases b
 cases h0
 cases h1
 rfl
structure ZZ where
 request : Int
 Outcome : Z1j
 deriving Inhabited
def Zj0 (a : ZZ) : List PV := [(eI .i64) a.request, (eI .i64) a.Outcome.Version, (eI .i64) a.Outcome.Verdict.Code, (eI .i64) a.Outcome.Verdict.Rule, (eI .i64) a.Outcome.Verdict.At]
def ZD (a : ZZ) : PV := .agg (Zj0 a)
def ZeR (a : ZZ) : List PV := [(eI .i64) a.request, (eI .i64) a.Outcome.Version, (eI .i64) a.Outcome.Verdict.Code, (eI .i64) a.Outcome.Verdict.Rule, (eI .i64) a.Outcome.Verdict.At]
def Zo7 (a : ZZ) : Row := [.p ((eI .i64) a.request), .p ((eI .i64) a.Outcome.Version), .p ((eI .i64) a.Outcome.Verdict.Code), .p ((eI .i64) a.Outcome.Verdict.Rule), .p ((eI .i64) a.Outcome.Verdict.At)]
theorem ZrY {a b : ZZ} (h : Zj0 a = Zj0 b) : a = b := by
 have h0 : a.request = b.request := Z3Y _ _ (gj_ 0 h)
 have h1 : a.Outcome = b.Outcome := ZcM (congrArg (fun l => (l.drop 1).take 4) h)
 cases a; cases b
 cases h0
 cases h1
 rfl
theorem ZjO (a b : ZZ) (h : ZD a = ZD b) : a = b := ZrY (congrArg pC h)
structure Zi where
 Lo : Int
 Hi : Int
 deriving Inhabited
def Z9W (a : Zi) : List PV := [(eI .i64) a.Lo, (eI .i64) a.Hi]
def Zy (a : Zi) : PV := .agg (Z9W a)
def Z18 (a : Zi) : List PV := [(eI .i64) a.Lo, (eI .i64) a.Hi]
def Z3e (a : Zi) : Row := [.p ((eI .i64) a.Lo), .p ((eI .i64) a.Hi)]
theorem ZkV {a b : Zi} (h : Z9W a = Z9W b) : a = b := by
 have h0 : a.Lo = b.Lo := Z3Y _ _ (gj_ 0 h)
 have h1 : a.Hi = b.Hi := Z3Y _ _ (gj_ 1 h)
 cases a; cases b
 cases h0
 cases h1
 rfl
theorem Z8H (a b : Zi) (h : Zy a = Zy b) : a = b := ZkV (congrArg pC h)
structure Zj where
 Kind : Int
 Lo : Int
 Hi : Int
 Mode : Int
 Ref : Int
 Set : (List Zi)
 Kids : (List Zj)
instance : Inhabited Zj := ⟨⟨default, default, default, default, default, default, default⟩⟩
mutual
def Z12 : Zj → PV
 | ⟨Kind_, Lo_, Hi_, Mode_, Ref_, Set_, Kids_⟩ => .agg [(eI .i64) Kind_, (eI .i64) Lo_, (eI .i64) Hi_, (eI .i64) Mode_, (eI .i64) Ref_, (eL Zy) Set_, .lst .sh (Z7D Kids_)]
def Z7D : List Zj → List PV
 | [] => []
 | x :: r => Z12 x :: Z7D r
end
theorem ZlQ : ∀ l, Z7D l = l.map Z12
 | [] => rfl
 | x :: r => by rw [Z7D, ZlQ r]; rfl
def Z3M (a : Zj) : List PV := [(eI .i64) a.Kind, (eI .i64) a.Lo, (eI .i64) a.Hi, (eI .i64) a.Mode, (eI .i64) a.Ref, (eL Zy) a.Set, (eL Z12) a.Kids]
theorem Z6f (a : Zj) : Z12 a = .agg (Z3M a) := by
 cases a; rw [Z12, ZlQ]; rfl
theorem Z7M (a : Zj) : Z2j (Z12 a) = Z3M a := by rw [Z6f]; rfl
theorem ZpU (a : Zj) : (Z2j (Z12 a)).length = 7 := by rw [Z6f]; rfl
def ZO (a : Zj) (o0 o1 : Own) : List PV := [(eI .i64) a.Kind, (eI .i64) a.Lo, (eI .i64) a.Hi, (eI .i64) a.Mode, (eI .i64) a.Ref, .lst o0 (a.Set.map Zy), .lst o1 (a.Kids.map Z12)]
def Zq (a : Zj) (o0 o1 : Own) : Row := [.p ((eI .i64) a.Kind), .p ((eI .i64) a.Lo), .p ((eI .i64) a.Hi), .p ((eI .i64) a.Mode), .p ((eI .i64) a.Ref), .p (.lst o0 (a.Set.map Zy)), .p (.lst o1 (a.Kids.map Z12))]
mutual
theorem ZlP : ∀ a b : Zj, Z12 a = Z12 b → a = b
 | ⟨Kind_, Lo_, Hi_, Mode_, Ref_, Set_, Kids_⟩, ⟨Kind_2, Lo_2, Hi_2, Mode_2, Ref_2, Set_2, Kids_2⟩, h => by
  rw [Z12, Z12] at h
  have h0 : Kind_ = Kind_2 := Z3Y _ _ (congrArg (fun l => (pC l).getD 0 .junk) h)
  have h1 : Lo_ = Lo_2 := Z3Y _ _ (congrArg (fun l => (pC l).getD 1 .junk) h)
  have h2 : Hi_ = Hi_2 := Z3Y _ _ (congrArg (fun l => (pC l).getD 2 .junk) h)
  have h3 : Mode_ = Mode_2 := Z3Y _ _ (congrArg (fun l => (pC l).getD 3 .junk) h)
  have h4 : Ref_ = Ref_2 := Z3Y _ _ (congrArg (fun l => (pC l).getD 4 .junk) h)
  have h5 : Set_ = Set_2 := (Zso Z8H) _ _ (congrArg (fun l => (pC l).getD 5 .junk) h)
  have h6 : Kids_ = Kids_2 := ZkY Kids_ Kids_2 (congrArg (fun l => pL ((pC l).getD 6 .junk)) h)
  subst h0
  subst h1
  subst h2
  subst h3
  subst h4
  subst h5
  subst h6
  rfl
theorem ZkY : ∀ a b : List Zj, Z7D a = Z7D b → a = b
 | [], [], _ => rfl
 | [], _ :: _, h => by simp [Z7D] at h
 | _ :: _, [], h => by simp [Z7D] at h
 | x :: r, y :: t, h => by
  simp only [Z7D, Zts] at h
  rw [ZlP x y h.1, ZkY r t h.2]
end
theorem Z9p {a b : Zj} (h : Z3M a = Z3M b) : a = b := ZlP a b (by rw [Z6f, Z6f, h])
structure Z1M where
 Root : Zj
 Groups : Int
 Fold : Bool
 deriving Inhabited
def ZmI (a : Z1M) : List PV := [(eI .i64) a.Root.Kind, (eI .i64) a.Root.Lo, (eI .i64) a.Root.Hi, (eI .i64) a.Root.Mode, (eI .i64) a.Root.Ref, (eL Zy) a.Root.Set, (eL Z12) a.Root.Kids, (eI .i64) a.Groups, eB a.Fold]
def Z4g (a : Z1M) (o0 o1 : Own) : List PV := [(eI .i64) a.Root.Kind, (eI .i64) a.Root.Lo, (eI .i64) a.Root.Hi, (eI .i64) a.Root.Mode, (eI .i64) a.Root.Ref, .lst o0 (a.Root.Set.map Zy), .lst o1 (a.Root.Kids.map Z12), (eI .i64) a.Groups, eB a.Fold]
def Z1s (a : Z1M) (o0 o1 : Own) : Row := [.p ((eI .i64) a.Root.Kind), .p ((eI .i64) a.Root.Lo), .p ((eI .i64) a.Root.Hi), .p ((eI .i64) a.Root.Mode), .p ((eI .i64) a.Root.Ref), .p (.lst o0 (a.Root.Set.map Zy)), .p (.lst o1 (a.Root.Kids.map Z12)), .p ((eI .i64) a.Groups), .p (eB a.Fold)]
theorem Zql {a b : Z1M} (h : ZmI a = ZmI b) : a = b := by
 have h0 : a.Root = b.Root := Z9p (congrArg (fun l => (l.drop 0).take 7) h)
 have h1 : a.Groups = b.Groups := Z3Y _ _ (gj_ 7 h)
 have h2 : a.Fold = b.Fold := Zsn _ _ (gj_ 8 h)
 cases a; cases b
 cases h0
 cases h1
 cases h2
 rfl
structure Z1n where
 Code : Int
 At : Int
 deriving Inhabited
def ZoT (a : Z1n) : List PV := [(eI .i64) a.Code, (eI .i64) a.At]
def Z6y (a : Z1n) : List PV := [(eI .i64) a.Code, (eI .i64) a.At]
def Z21 (a : Z1n) : Row := [.p ((eI .i64) a.Code), .p ((eI .i64) a.At)]
theorem Zsm {a b : Z1n} (h : ZoT a = ZoT b) : a = b := by
 have h0 : a.Code = b.Code := Z3Y _ _ (gj_ 0 h)
 have h1 : a.At = b.At := Z3Y _ _ (gj_ 1 h)
 cases a; cases b
 cases h0
 cases h1
 rfl
structure Zv where
 group : Int
 at_ : Int
 deriving Inhabited
def Ze6 (a : Zv) : List PV := [(eI .i64) a.group, (eI .i64) a.at_]
def Z3C (a : Zv) : PV := .agg (Ze6 a)
def Zia (a : Zv) : List PV := [(eI .i64) a.group, (eI .i64) a.at_]
def Zif (a : Zv) : Row := [.p ((eI .i64) a.group), .p ((eI .i64) a.at_)]
theorem Zqm {a b : Zv} (h : Ze6 a = Ze6 b) : a = b := by
 have h0 : a.group = b.group := Z3Y _ _ (gj_ 0 h)
 have h1 : a.at_ = b.at_ := Z3Y _ _ (gj_ 1 h)
 cases a; cases b
 cases h0
 cases h1
 rfl
theorem Ze7 (a b : Zv) (h : Z3C a = Z3C b) : a = b := Zqm (congrArg pC h)
structure Z23 where
 b : (List Int)
 at_ : Int
 groups : Int
 deep : Int
 refs : (List Zv)
 fault : Z1n
 deriving Inhabited
def Zxo (a : Z23) (o0 o1 : Own) : List PV := [.lst o0 (a.b.map (eI .u8)), (eI .i64) a.at_, (eI .i64) a.groups, (eI .i64) a.deep, .lst o1 (a.refs.map Z3C), (eI .i64) a.fault.Code, (eI .i64) a.fault.At]
def Z4V (a : Z23) (o0 o1 : Own) : Row := [.p (.lst o0 (a.b.map (eI .u8))), .p ((eI .i64) a.at_), .p ((eI .i64) a.groups), .p ((eI .i64) a.deep), .p (.lst o1 (a.refs.map Z3C)), .p ((eI .i64) a.fault.Code), .p ((eI .i64) a.fault.At)]
structure Z1b where
 Default : Int
 Closed : Int
 Fuel : Int
 Stack : Int
 Rules : (List Zw)
 deriving Inhabited
def ZiZ (a : Z1b) : List PV := [(eI .i64) a.Default, (eI .i64) a.Closed, (eI .i64) a.Fuel, (eI .i64) a.Stack, (eL ZE) a.Rules]
def Z4j (a : Z1b) (o0 : Own) : List PV := [(eI .i64) a.Default, (eI .i64) a.Closed, (eI .i64) a.Fuel, (eI .i64) a.Stack, .lst o0 (a.Rules.map ZE)]
def Z1P (a : Z1b) (o0 : Own) : Row := [.p ((eI .i64) a.Default), .p ((eI .i64) a.Closed), .p ((eI .i64) a.Fuel), .p ((eI .i64) a.Stack), .p (.lst o0 (a.Rules.map ZE))]
theorem ZmH {a b : Z1b} (h : ZiZ a = ZiZ b) : a = b := by
 have h0 : a.Default = b.Default := Z3Y _ _ (gj_ 0 h)
 have h1 : a.Closed = b.Closed := Z3Y _ _ (gj_ 1 h)
 have h2 : a.Fuel = b.Fuel := Z3Y _ _ (gj_ 2 h)
 have h3 : a.Stack = b.Stack := Z3Y _ _ (gj_ 3 h)
 have h4 : a.Rules = b.Rules := (Zso Ze8) _ _ (gj_ 4 h)
 cases a; cases b
 cases h0
 cases h1
 cases h2
 cases h3
 cases h4
 rfl
end Go.Proofs.YteoeggbihfnbfaaGreatDoor.N2
end
noncomputable section
namespace Go.Proofs.YteoeggbihfnbfaaGreatDoor.N2
open Go Go.Abs
set_option maxRecDepth 100000
theorem et_ {α : Type} {a b c : α} (h : b = c) (g : a = b := by kernel_rfl) : a = c := g.trans h
abbrev Z9B := Z1j.mk 0 (ZX.mk 0 0 0)
abbrev ZLo := Z13.mk 0 0 0 (Z1f.mk 0 0 0 0 ([] : List Zw) ([] : List Int))
abbrev Z4i := ZC.mk 0 0 0 0 ([] : List Zw)
abbrev Z7O := ZX.mk 0 0 0
abbrev ZgP := Z1M.mk (Zj.mk 0 0 0 0 0 ([] : List Zi) ([] : List Zj)) 0 false
abbrev ZjE := Z1n.mk 0 0
abbrev Z2c := Zj.mk 0 0 0 0 0 ([] : List Zi) ([] : List Zj)
abbrev ZDk := Z1b.mk 0 0 0 0 ([] : List Zw)
abbrev Z2z a0 a1 a2 a3 a4 o0 := Zx (ZC.mk a0 a1 a2 a3 a4) o0
abbrev ZU a0 a1 a2 a3 a4 a5 a6 o0 o1 := Z4V (Z23.mk a0 a1 a2 a3 a4 (Z1n.mk a5 a6)) o0 o1
abbrev ZbP a0 a1 a2 a3 a4 a5 a6 a7 a8 o0 o1 := Z1s (Z1M.mk (Zj.mk a0 a1 a2 a3 a4 a5 a6) a7 a8) o0 o1
abbrev Zkt a0 a1 a2 a3 a4 o0 := Z1P (Z1b.mk a0 a1 a2 a3 a4) o0
abbrev Zku a0 a1 a2 := Z1a (ZX.mk a0 a1 a2)
abbrev Z3t a0 a1 a2 a3 a4 a5 a6 o0 o1 := Zq (Zj.mk a0 a1 a2 a3 a4 a5 a6) o0 o1
abbrev ZK (o : Own) (l : List PV) : AV := .p (.lst o l)
abbrev pA_ (l : List PV) : AV := .p (.agg l)
abbrev rM_ {α : Type} (e : α → PV) (l : List (Int × α)) : Row := [.md (l.map (encM e))]
abbrev ZiT  : (ZC) → Res → Prop := fun r q => ∃ (ex : List Row), q = ((pA_ (Z1z r .sh)), ex)
theorem ZxQ  : ∀ a b q, ZiT  a q → ZiT  b q → a = b := by
 rintro a b q ⟨_, e1⟩ ⟨_, e2⟩
 have e := e1.symm.trans e2
 exact ZcB (congrArg (fun q : Res => pC (pA q.1)) e)
abbrev Zht  : ((List (Int × ZZ)) × (List ZC) × Int) → Res → Prop := fun r q => ∃ (n1_0 : Own) (ex : List Row), ZR n1_0 = true ∧ q = ((.ptr 1 0), [(rM_ ZD (r.1)), [(ZK n1_0 (r.2.1.map ZF)), (.mp 0), (iv r.2.2)]]) ∧ ex = []
theorem Zwf  : ∀ a b q, Zht  a q → Zht  b q → a = b := by
 rintro a b q ⟨_, _, _, e1, _⟩ ⟨_, _, _, e2, _⟩
 have e := e1.symm.trans e2
 exact Z3V (Z5b (Zk3 ZjO) (congrArg (fun q : Res => pM (cellAt q 0 0)) e)) (Z3V (Z5b Zj1 (congrArg (fun q : Res => pL (pA (cellAt q 1 0))) e)) (congrArg (fun q : Res => pI (pA (cellAt q 1 2))) e))
abbrev ZbW  : (Z13) → Res → Prop := fun r q => ∃ (ex : List Row), q = ((pA_ (Z3Z r .sh .sh)), ex)
theorem ZoN  : ∀ a b q, ZbW  a q → ZbW  b q → a = b := by
 rintro a b q ⟨_, e1⟩ ⟨_, e2⟩
 have e := e1.symm.trans e2
 exact Zuv (congrArg (fun q : Res => pC (pA q.1)) e)
abbrev ZW  : (Bool) → Res → Prop := fun r q => ∃ (ex : List Row), q = ((bv r), ex)
theorem Z2d  : ∀ a b q, ZW  a q → ZW  b q → a = b := by
 rintro a b q ⟨_, e1⟩ ⟨_, e2⟩
 have e := e1.symm.trans e2
 exact congrArg (fun q : Res => pB (pA q.1)) e
abbrev ZM  : (Int) → Res → Prop := fun r q => ∃ (ex : List Row), q = ((iv r), ex)
theorem Z2e  : ∀ a b q, ZM  a q → ZM  b q → a = b := by
 rintro a b q ⟨_, e1⟩ ⟨_, e2⟩
 have e := e1.symm.trans e2
 exact congrArg (fun q : Res => pI (pA q.1)) e
abbrev Zhv (z1N z2b z1T : Int) (z1Q : List Zw) (zB : Own) : (Int) → Res → Prop := fun r q => ∃ (ex : List Row), q = ((.p (.tup [])), [(Z2z r z1N z2b z1T z1Q zB)] ++ ex)
theorem Zwh (z1N z2b z1T : Int) (z1Q : List Zw) (zB : Own) : ∀ a b q, Zhv z1N z2b z1T z1Q zB a q → Zhv z1N z2b z1T z1Q zB b q → a = b := by
 rintro a b q ⟨_, e1⟩ ⟨_, e2⟩
 have e := e1.symm.trans e2
 exact congrArg (fun q : Res => pI (pA (cellAt q 0 0))) e
abbrev Zd4 (z1H z2b z1T : Int) (z1Q : List Zw) (zB : Own) : (Int) → Res → Prop := fun r q => ∃ (ex : List Row), q = ((.p (.tup [])), [(Z2z z1H r z2b z1T z1Q zB)] ++ ex)
theorem ZrX (z1H z2b z1T : Int) (z1Q : List Zw) (zB : Own) : ∀ a b q, Zd4 z1H z2b z1T z1Q zB a q → Zd4 z1H z2b z1T z1Q zB b q → a = b := by
 rintro a b q ⟨_, e1⟩ ⟨_, e2⟩
 have e := e1.symm.trans e2
 exact congrArg (fun q : Res => pI (pA (cellAt q 0 1))) e
abbrev Zd3 (z1H z1N z1T : Int) (z1Q : List Zw) (zB : Own) : (Int) → Res → Prop := fun r q => ∃ (ex : List Row), q = ((.p (.tup [])), [(Z2z z1H z1N r z1T z1Q zB)] ++ ex)
theorem ZrW (z1H z1N z1T : Int) (z1Q : List Zw) (zB : Own) : ∀ a b q, Zd3 z1H z1N z1T z1Q zB a q → Zd3 z1H z1N z1T z1Q zB b q → a = b := by
 rintro a b q ⟨_, e1⟩ ⟨_, e2⟩
 have e := e1.symm.trans e2
 exact congrArg (fun q : Res => pI (pA (cellAt q 0 2))) e
abbrev Zd2 (z1H z1N z2b : Int) (z1Q : List Zw) (zB : Own) : (Int) → Res → Prop := fun r q => ∃ (ex : List Row), q = ((.p (.tup [])), [(Z2z z1H z1N z2b r z1Q zB)] ++ ex)
theorem ZrV (z1H z1N z2b : Int) (z1Q : List Zw) (zB : Own) : ∀ a b q, Zd2 z1H z1N z2b z1Q zB a q → Zd2 z1H z1N z2b z1Q zB b q → a = b := by
 rintro a b q ⟨_, e1⟩ ⟨_, e2⟩
 have e := e1.symm.trans e2
 exact congrArg (fun q : Res => pI (pA (cellAt q 0 3))) e
abbrev Z70  : (Bool) → Res → Prop := fun r q => ∃ (ex : List Row), q = ((bv r), [[(.clo 27 [] [])]] ++ ex)
theorem Zgf  : ∀ a b q, Z70  a q → Z70  b q → a = b := by
 rintro a b q ⟨_, e1⟩ ⟨_, e2⟩
 have e := e1.symm.trans e2
 exact congrArg (fun q : Res => pB (pA q.1)) e
abbrev Z3q  : (Int) → Res → Prop := fun r q => ∃ (ex : List Row), q = ((iv r), [[(.clo 27 [] [])]] ++ ex)
theorem ZcU  : ∀ a b q, Z3q  a q → Z3q  b q → a = b := by
 rintro a b q ⟨_, e1⟩ ⟨_, e2⟩
 have e := e1.symm.trans e2
 exact congrArg (fun q : Res => pI (pA q.1)) e
abbrev Z5O  : (Bool × (List (Int × Bool))) → Res → Prop := fun r q => ∃ (ex : List Row), q = ((bv r.1), [[(.mp 1)], (rM_ eB (r.2))] ++ ex)
theorem Zei  : ∀ a b q, Z5O  a q → Z5O  b q → a = b := by
 rintro a b q ⟨_, e1⟩ ⟨_, e2⟩
 have e := e1.symm.trans e2
 exact Z3V (congrArg (fun q : Res => pB (pA q.1)) e) (Z5b (Zk3 Zsn) (congrArg (fun q : Res => pM (cellAt q 1 0)) e))
abbrev Z5P  : (Bool × (List (Int × Bool))) → Res → Prop := fun r q => ∃ (ex : List Row), q = ((bv r.1), [[(.clo 74 [] [(.ptr 1 0)])], [(.mp 2)], (rM_ eB (r.2))] ++ ex)
theorem Zej  : ∀ a b q, Z5P  a q → Z5P  b q → a = b := by
 rintro a b q ⟨_, e1⟩ ⟨_, e2⟩
 have e := e1.symm.trans e2
 exact Z3V (congrArg (fun q : Res => pB (pA q.1)) e) (Z5b (Zk3 Zsn) (congrArg (fun q : Res => pM (cellAt q 2 0)) e))
abbrev Z3r  : (Int × (List (Int × Bool))) → Res → Prop := fun r q => ∃ (ex : List Row), q = ((iv r.1), [[(.clo 74 [] [(.ptr 1 0)])], [(.mp 2)], (rM_ eB (r.2))] ++ ex)
theorem ZcV  : ∀ a b q, Z3r  a q → Z3r  b q → a = b := by
 rintro a b q ⟨_, e1⟩ ⟨_, e2⟩
 have e := e1.symm.trans e2
 exact Z3V (congrArg (fun q : Res => pI (pA q.1)) e) (Z5b (Zk3 Zsn) (congrArg (fun q : Res => pM (cellAt q 2 0)) e))
abbrev Z3y  : (Int × (List (Int × Bool))) → Res → Prop := fun r q => ∃ (ex : List Row), q = ((iv r.1), [[(.mp 1)], (rM_ eB (r.2))] ++ ex)
theorem Zdl  : ∀ a b q, Z3y  a q → Z3y  b q → a = b := by
 rintro a b q ⟨_, e1⟩ ⟨_, e2⟩
 have e := e1.symm.trans e2
 exact Z3V (congrArg (fun q : Res => pI (pA q.1)) e) (Z5b (Zk3 Zsn) (congrArg (fun q : Res => pM (cellAt q 1 0)) e))
abbrev ZaY (zQ : List (Int × Zw)) : (Unit) → Res → Prop := fun r q => ∃ (ex : List Row), q = ((.clo 78 [] [(.ptr 1 0)]), [(rM_ ZE (zQ)), [(.mp 0)]]) ∧ ex = []
theorem Zob (zQ : List (Int × Zw)) : ∀ a b q, ZaY zQ a q → ZaY zQ b q → a = b := by
 rintro a b q ⟨_, e1, _⟩ ⟨_, e2, _⟩
 have e := e1.symm.trans e2
 exact rfl
abbrev Zce (zV : List (Int × Zw)) : (List Int) → Res → Prop := fun r q => ∃ (ex : List Row), q = ((ZK .sh (r.map (eI .i64))), [[(.mp 1)], (rM_ ZE (zV))] ++ ex)
theorem ZlT (zV : List (Int × Zw)) : ∀ a b q, Zce zV a q → Zce zV b q → a = b := by
 rintro a b q ⟨_, e1⟩ ⟨_, e2⟩
 have e := e1.symm.trans e2
 exact Z5b Z3Y (congrArg (fun q : Res => pL (pA q.1)) e)
abbrev Z2O  : (ZC × Int) → Res → Prop := fun r q => ∃ (ex : List Row), q = ((.p (.tup [(.agg (Z1z r.1 .sh)), (.v (.int .i64 r.2))])), ex)
theorem Zdk  : ∀ a b q, Z2O  a q → Z2O  b q → a = b := by
 rintro a b q ⟨_, e1⟩ ⟨_, e2⟩
 have e := e1.symm.trans e2
 exact Z3V (ZcB (congrArg (fun q : Res => pC ((pT (pA q.1)).getD 0 .junk)) e)) (congrArg (fun q : Res => pI ((pT (pA q.1)).getD 1 .junk)) e)
abbrev Z86 (zl : List Int) (z7 zd : Int) (zh : List Zv) (z2 z6 : Int) (zp zb : Own) : (Bool × Int) → Res → Prop := fun r q => ∃ (ex : List Row), q = ((bv r.1), [(ZU zl r.2 z7 zd zh z2 z6 zp zb)] ++ ex)
theorem ZoQ (zl : List Int) (z7 zd : Int) (zh : List Zv) (z2 z6 : Int) (zp zb : Own) : ∀ a b q, Z86 zl z7 zd zh z2 z6 zp zb a q → Z86 zl z7 zd zh z2 z6 zp zb b q → a = b := by
 rintro a b q ⟨_, e1⟩ ⟨_, e2⟩
 have e := e1.symm.trans e2
 exact Z3V (congrArg (fun q : Res => pB (pA q.1)) e) (congrArg (fun q : Res => pI (pA (cellAt q 0 1))) e)
abbrev Zb0  : (Int × Int) → Res → Prop := fun r q => ∃ (ex : List Row), q = ((.p (.tup [(.v (.int .i32 r.1)), (.v (.int .i64 r.2))])), ex)
theorem ZkT  : ∀ a b q, Zb0  a q → Zb0  b q → a = b := by
 rintro a b q ⟨_, e1⟩ ⟨_, e2⟩
 have e := e1.symm.trans e2
 exact Z3V (congrArg (fun q : Res => pI ((pT (pA q.1)).getD 0 .junk)) e) (congrArg (fun q : Res => pI ((pT (pA q.1)).getD 1 .junk)) e)
abbrev Z43  : (Int × Int) → Res → Prop := fun r q => ∃ (ex : List Row), q = ((.p (.tup [(.v (.int .i64 r.1)), (.v (.int .i64 r.2))])), ex)
theorem Zhw  : ∀ a b q, Z43  a q → Z43  b q → a = b := by
 rintro a b q ⟨_, e1⟩ ⟨_, e2⟩
 have e := e1.symm.trans e2
 exact Z3V (congrArg (fun q : Res => pI ((pT (pA q.1)).getD 0 .junk)) e) (congrArg (fun q : Res => pI ((pT (pA q.1)).getD 1 .junk)) e)
abbrev Z9G (b0 : Z23) (zp zb : Own) : (Int) → Res → Prop := fun r q => ∃ (ex : List Row), q = ((iv r), [(Z4V b0 zp zb)] ++ ex)
theorem ZoP (b0 : Z23) (zp zb : Own) : ∀ a b q, Z9G b0 zp zb a q → Z9G b0 zp zb b q → a = b := by
 rintro a b q ⟨_, e1⟩ ⟨_, e2⟩
 have e := e1.symm.trans e2
 exact congrArg (fun q : Res => pI (pA q.1)) e
abbrev Z8u  : (Zj) → Res → Prop := fun r q => ∃ (ex : List Row), q = ((pA_ (ZO r .sh .sh)), ex)
theorem ZmC  : ∀ a b q, Z8u  a q → Z8u  b q → a = b := by
 rintro a b q ⟨_, e1⟩ ⟨_, e2⟩
 have e := e1.symm.trans e2
 exact Z9p (congrArg (fun q : Res => pC (pA q.1)) e)
abbrev Z2L (zl : List Int) (z7 zd : Int) (zh : List Zv) (z2 z6 : Int) (zp zb : Own) : (Int × Int) → Res → Prop := fun r q => ∃ (ex : List Row), q = ((iv r.1), [(ZU zl r.2 z7 zd zh z2 z6 zp zb)] ++ ex)
theorem Z8v (zl : List Int) (z7 zd : Int) (zh : List Zv) (z2 z6 : Int) (zp zb : Own) : ∀ a b q, Z2L zl z7 zd zh z2 z6 zp zb a q → Z2L zl z7 zd zh z2 z6 zp zb b q → a = b := by
 rintro a b q ⟨_, e1⟩ ⟨_, e2⟩
 have e := e1.symm.trans e2
 exact Z3V (congrArg (fun q : Res => pI (pA q.1)) e) (congrArg (fun q : Res => pI (pA (cellAt q 0 1))) e)
abbrev ZkG  : (Zi) → Res → Prop := fun r q => ∃ (ex : List Row), q = ((pA_ (Z18 r)), ex)
theorem ZAw  : ∀ a b q, ZkG  a q → ZkG  b q → a = b := by
 rintro a b q ⟨_, e1⟩ ⟨_, e2⟩
 have e := e1.symm.trans e2
 exact ZkV (congrArg (fun q : Res => pC (pA q.1)) e)
abbrev Z4N  : (List Zi) → Res → Prop := fun r q => ∃ (ex : List Row), q = ((ZK .sh (r.map Zy)), ex)
theorem ZdM  : ∀ a b q, Z4N  a q → Z4N  b q → a = b := by
 rintro a b q ⟨_, e1⟩ ⟨_, e2⟩
 have e := e1.symm.trans e2
 exact Z5b Z8H (congrArg (fun q : Res => pL (pA q.1)) e)
abbrev Z6j  : ((List Zi) × Int) → Res → Prop := fun r q => ∃ (ex : List Row), q = ((.p (.tup [(.lst .sh (r.1.map Zy)), (.v (.int .i64 r.2))])), ex)
theorem Zk2  : ∀ a b q, Z6j  a q → Z6j  b q → a = b := by
 rintro a b q ⟨_, e1⟩ ⟨_, e2⟩
 have e := e1.symm.trans e2
 exact Z3V (Z5b Z8H (congrArg (fun q : Res => pL ((pT (pA q.1)).getD 0 .junk)) e)) (congrArg (fun q : Res => pI ((pT (pA q.1)).getD 1 .junk)) e)
abbrev Z9F (zl : List Int) (z7 zd : Int) (zh : List Zv) (zp zb : Own) : (Int × Int × Int) → Res → Prop := fun r q => ∃ (ex : List Row), q = ((.p (.tup [])), [(ZU zl r.1 z7 zd zh r.2.1 r.2.2 zp zb)] ++ ex)
theorem ZoO (zl : List Int) (z7 zd : Int) (zh : List Zv) (zp zb : Own) : ∀ a b q, Z9F zl z7 zd zh zp zb a q → Z9F zl z7 zd zh zp zb b q → a = b := by
 rintro a b q ⟨_, e1⟩ ⟨_, e2⟩
 have e := e1.symm.trans e2
 exact Z3V (congrArg (fun q : Res => pI (pA (cellAt q 0 1))) e) (Z3V (congrArg (fun q : Res => pI (pA (cellAt q 0 5))) e) (congrArg (fun q : Res => pI (pA (cellAt q 0 6))) e))
abbrev ZaN  : (Own × (List Zi)) → Res → Prop := fun r q => ∃ (ex : List Row), q = ((ZK r.1 (r.2.map Zy)), ex)
theorem ZrU  : ∀ a b q, ZaN  a q → ZaN  b q → a = b := by
 rintro a b q ⟨_, e1⟩ ⟨_, e2⟩
 have e := e1.symm.trans e2
 exact Z3V (congrArg (fun q : Res => pOwn (pA q.1)) e) (Z5b Z8H (congrArg (fun q : Res => pL (pA q.1)) e))
abbrev Z9n (zQ : Int) : (Bool) → Res → Prop := fun r q => ∃ (ex : List Row), q = ((bv r), [[(iv zQ)]] ++ ex)
theorem ZjN (zQ : Int) : ∀ a b q, Z9n zQ a q → Z9n zQ b q → a = b := by
 rintro a b q ⟨_, e1⟩ ⟨_, e2⟩
 have e := e1.symm.trans e2
 exact congrArg (fun q : Res => pB (pA q.1)) e
abbrev Z3o (zQ : Int) : (Int) → Res → Prop := fun r q => ∃ (ex : List Row), q = ((iv r), [[(iv zQ)]] ++ ex)
theorem Zcn (zQ : Int) : ∀ a b q, Z3o zQ a q → Z3o zQ b q → a = b := by
 rintro a b q ⟨_, e1⟩ ⟨_, e2⟩
 have e := e1.symm.trans e2
 exact congrArg (fun q : Res => pI (pA q.1)) e
abbrev Z7x (zl : List Int) (z7 zd : Int) (zh : List Zv) (zp zb : Own) : (Int × Int × Int × Int) → Res → Prop := fun r q => ∃ (ex : List Row), q = ((iv r.1), [(ZU zl r.2.1 z7 zd zh r.2.2.1 r.2.2.2 zp zb)] ++ ex)
theorem Zoc (zl : List Int) (z7 zd : Int) (zh : List Zv) (zp zb : Own) : ∀ a b q, Z7x zl z7 zd zh zp zb a q → Z7x zl z7 zd zh zp zb b q → a = b := by
 rintro a b q ⟨_, e1⟩ ⟨_, e2⟩
 have e := e1.symm.trans e2
 exact Z3V (congrArg (fun q : Res => pI (pA q.1)) e) (Z3V (congrArg (fun q : Res => pI (pA (cellAt q 0 1))) e) (Z3V (congrArg (fun q : Res => pI (pA (cellAt q 0 5))) e) (congrArg (fun q : Res => pI (pA (cellAt q 0 6))) e)))
abbrev Z5M (zl : List Int) (z7 zd : Int) (zp : Own) : (Zj × Int × (List Zv) × Int × Int) → Res → Prop := fun r q => ∃ (p0_4 : Own) (ex : List Row), ZR p0_4 = true ∧ q = ((pA_ (ZO r.1 .sh .sh)), [(ZU zl r.2.1 z7 zd r.2.2.1 r.2.2.2.1 r.2.2.2.2 zp p0_4)] ++ ex)
theorem Znn (zl : List Int) (z7 zd : Int) (zp : Own) : ∀ a b q, Z5M zl z7 zd zp a q → Z5M zl z7 zd zp b q → a = b := by
 rintro a b q ⟨_, _, _, e1⟩ ⟨_, _, _, e2⟩
 have e := e1.symm.trans e2
 exact Z3V (Z9p (congrArg (fun q : Res => pC (pA q.1)) e)) (Z3V (congrArg (fun q : Res => pI (pA (cellAt q 0 1))) e) (Z3V (Z5b Ze7 (congrArg (fun q : Res => pL (pA (cellAt q 0 4))) e)) (Z3V (congrArg (fun q : Res => pI (pA (cellAt q 0 5))) e) (congrArg (fun q : Res => pI (pA (cellAt q 0 6))) e))))
abbrev Z5N (zl : List Int) (z7 zd : Int) (zh : List Zv) (zp zb : Own) : (Int × (Own × (List Zi)) × Bool × Int × Int × Int) → Res → Prop := fun r q => ∃ (ex : List Row), q = ((.p (.tup [(.v (.int .i64 r.1)), (.lst r.2.1.1 (r.2.1.2.map Zy)), (.v (.bool r.2.2.1))])), [(ZU zl r.2.2.2.1 z7 zd zh r.2.2.2.2.1 r.2.2.2.2.2 zp zb)] ++ ex)
theorem Zno (zl : List Int) (z7 zd : Int) (zh : List Zv) (zp zb : Own) : ∀ a b q, Z5N zl z7 zd zh zp zb a q → Z5N zl z7 zd zh zp zb b q → a = b := by
 rintro a b q ⟨_, e1⟩ ⟨_, e2⟩
 have e := e1.symm.trans e2
 exact Z3V (congrArg (fun q : Res => pI ((pT (pA q.1)).getD 0 .junk)) e) (Z3V (Z3V (congrArg (fun q : Res => pOwn ((pT (pA q.1)).getD 1 .junk)) e) (Z5b Z8H (congrArg (fun q : Res => pL ((pT (pA q.1)).getD 1 .junk)) e))) (Z3V (congrArg (fun q : Res => pB ((pT (pA q.1)).getD 2 .junk)) e) (Z3V (congrArg (fun q : Res => pI (pA (cellAt q 0 1))) e) (Z3V (congrArg (fun q : Res => pI (pA (cellAt q 0 5))) e) (congrArg (fun q : Res => pI (pA (cellAt q 0 6))) e)))))
abbrev Za8  : (List Zi) → Res → Prop := fun r q => ∃ (p0_0 : Own) (ex : List Row), q = ((.p (.tup [])), [[(ZK p0_0 (r.map Zy))]] ++ ex)
theorem ZmD  : ∀ a b q, Za8  a q → Za8  b q → a = b := by
 rintro a b q ⟨_, _, e1⟩ ⟨_, _, e2⟩
 have e := e1.symm.trans e2
 exact Z5b Z8H (congrArg (fun q : Res => pL (pA (cellAt q 0 0))) e)
abbrev Z2g (zl : List Int) (z7 zd : Int) (zh : List Zv) (zp zb : Own) : (Zj × Int × Int × Int) → Res → Prop := fun r q => ∃ (ex : List Row), q = ((pA_ (ZO r.1 .sh .sh)), [(ZU zl r.2.1 z7 zd zh r.2.2.1 r.2.2.2 zp zb)] ++ ex)
theorem ZcL (zl : List Int) (z7 zd : Int) (zh : List Zv) (zp zb : Own) : ∀ a b q, Z2g zl z7 zd zh zp zb a q → Z2g zl z7 zd zh zp zb b q → a = b := by
 rintro a b q ⟨_, e1⟩ ⟨_, e2⟩
 have e := e1.symm.trans e2
 exact Z3V (Z9p (congrArg (fun q : Res => pC (pA q.1)) e)) (Z3V (congrArg (fun q : Res => pI (pA (cellAt q 0 1))) e) (Z3V (congrArg (fun q : Res => pI (pA (cellAt q 0 5))) e) (congrArg (fun q : Res => pI (pA (cellAt q 0 6))) e)))
abbrev Zhu  : (List ByteArray) → Res → Prop := fun r q => ∃ (ex : List Row), q = ((ZK .sh (r.map eS)), ex)
theorem Zwg  : ∀ a b q, Zhu  a q → Zhu  b q → a = b := by
 rintro a b q ⟨_, e1⟩ ⟨_, e2⟩
 have e := e1.symm.trans e2
 exact Z5b ZHR (congrArg (fun q : Res => pL (pA q.1)) e)
abbrev Z3x (zl : List Int) (zp : Own) : (Zj × Bool × Int × Int × Int × (List Zv) × Int × Int) → Res → Prop := fun r q => ∃ (p0_4 : Own) (ex : List Row), ZR p0_4 = true ∧ q = ((.p (.tup [(.agg (ZO r.1 .sh .sh)), (.v (.bool r.2.1))])), [(ZU zl r.2.2.1 r.2.2.2.1 r.2.2.2.2.1 r.2.2.2.2.2.1 r.2.2.2.2.2.2.1 r.2.2.2.2.2.2.2 zp p0_4)] ++ ex)
theorem ZgQ (zl : List Int) (zp : Own) : ∀ a b q, Z3x zl zp a q → Z3x zl zp b q → a = b := by
 rintro a b q ⟨_, _, _, e1⟩ ⟨_, _, _, e2⟩
 have e := e1.symm.trans e2
 exact Z3V (Z9p (congrArg (fun q : Res => pC ((pT (pA q.1)).getD 0 .junk)) e)) (Z3V (congrArg (fun q : Res => pB ((pT (pA q.1)).getD 1 .junk)) e) (Z3V (congrArg (fun q : Res => pI (pA (cellAt q 0 1))) e) (Z3V (congrArg (fun q : Res => pI (pA (cellAt q 0 2))) e) (Z3V (congrArg (fun q : Res => pI (pA (cellAt q 0 3))) e) (Z3V (Z5b Ze7 (congrArg (fun q : Res => pL (pA (cellAt q 0 4))) e)) (Z3V (congrArg (fun q : Res => pI (pA (cellAt q 0 5))) e) (congrArg (fun q : Res => pI (pA (cellAt q 0 6))) e)))))))
abbrev Z42 (zl : List Int) (z7 zd : Int) (zh : List Zv) (zp zb : Own) : (Int × Int × Int × Int × Int) → Res → Prop := fun r q => ∃ (ex : List Row), q = ((.p (.tup [(.v (.int .i64 r.1)), (.v (.int .i64 r.2.1))])), [(ZU zl r.2.2.1 z7 zd zh r.2.2.2.1 r.2.2.2.2 zp zb)] ++ ex)
theorem Znm (zl : List Int) (z7 zd : Int) (zh : List Zv) (zp zb : Own) : ∀ a b q, Z42 zl z7 zd zh zp zb a q → Z42 zl z7 zd zh zp zb b q → a = b := by
 rintro a b q ⟨_, e1⟩ ⟨_, e2⟩
 have e := e1.symm.trans e2
 exact Z3V (congrArg (fun q : Res => pI ((pT (pA q.1)).getD 0 .junk)) e) (Z3V (congrArg (fun q : Res => pI ((pT (pA q.1)).getD 1 .junk)) e) (Z3V (congrArg (fun q : Res => pI (pA (cellAt q 0 1))) e) (Z3V (congrArg (fun q : Res => pI (pA (cellAt q 0 5))) e) (congrArg (fun q : Res => pI (pA (cellAt q 0 6))) e))))
abbrev Z3f (zl : List Int) (zp : Own) : (Zj × Int × Int × Int × (List Zv) × Int × Int) → Res → Prop := fun r q => ∃ (p0_4 : Own) (ex : List Row), ZR p0_4 = true ∧ q = ((pA_ (ZO r.1 .sh .sh)), [(ZU zl r.2.1 r.2.2.1 r.2.2.2.1 r.2.2.2.2.1 r.2.2.2.2.2.1 r.2.2.2.2.2.2 zp p0_4)] ++ ex)
theorem ZaZ (zl : List Int) (zp : Own) : ∀ a b q, Z3f zl zp a q → Z3f zl zp b q → a = b := by
 rintro a b q ⟨_, _, _, e1⟩ ⟨_, _, _, e2⟩
 have e := e1.symm.trans e2
 exact Z3V (Z9p (congrArg (fun q : Res => pC (pA q.1)) e)) (Z3V (congrArg (fun q : Res => pI (pA (cellAt q 0 1))) e) (Z3V (congrArg (fun q : Res => pI (pA (cellAt q 0 2))) e) (Z3V (congrArg (fun q : Res => pI (pA (cellAt q 0 3))) e) (Z3V (Z5b Ze7 (congrArg (fun q : Res => pL (pA (cellAt q 0 4))) e)) (Z3V (congrArg (fun q : Res => pI (pA (cellAt q 0 5))) e) (congrArg (fun q : Res => pI (pA (cellAt q 0 6))) e))))))
abbrev Z5c  : (Z1M × Z1n) → Res → Prop := fun r q => ∃ (ex : List Row), q = ((.p (.tup [(.agg (Z4g r.1 .sh .sh)), (.agg (Z6y r.2))])), ex)
theorem ZnT  : ∀ a b q, Z5c  a q → Z5c  b q → a = b := by
 rintro a b q ⟨_, e1⟩ ⟨_, e2⟩
 have e := e1.symm.trans e2
 exact Z3V (Zql (congrArg (fun q : Res => pC ((pT (pA q.1)).getD 0 .junk)) e)) (Zsm (congrArg (fun q : Res => pC ((pT (pA q.1)).getD 1 .junk)) e))
abbrev Z3S  : (ZX) → Res → Prop := fun r q => ∃ (ex : List Row), q = ((pA_ (Z1W r)), ex)
theorem ZeA  : ∀ a b q, Z3S  a q → Z3S  b q → a = b := by
 rintro a b q ⟨_, e1⟩ ⟨_, e2⟩
 have e := e1.symm.trans e2
 exact ZcN (congrArg (fun q : Res => pC (pA q.1)) e)
abbrev Z9U  : (ZC × ZX) → Res → Prop := fun r q => ∃ (ex : List Row), q = ((.p (.tup [(.agg (Z1z r.1 .sh)), (.agg (Z1W r.2))])), ex)
theorem Zsj  : ∀ a b q, Z9U  a q → Z9U  b q → a = b := by
 rintro a b q ⟨_, e1⟩ ⟨_, e2⟩
 have e := e1.symm.trans e2
 exact Z3V (ZcB (congrArg (fun q : Res => pC ((pT (pA q.1)).getD 0 .junk)) e)) (ZcN (congrArg (fun q : Res => pC ((pT (pA q.1)).getD 1 .junk)) e))
abbrev Z5L (z1S : Int) (zV : List (Int × ZZ)) : (Z1j × (List ZC)) → Res → Prop := fun r q => ∃ (p0_0 : Own) (ex : List Row), ZR p0_0 = true ∧ q = ((pA_ (Z1O r.1)), [[(ZK p0_0 (r.2.map ZF)), (.mp 1), (iv z1S)], (rM_ ZD (zV))] ++ ex)
theorem ZiS (z1S : Int) (zV : List (Int × ZZ)) : ∀ a b q, Z5L z1S zV a q → Z5L z1S zV b q → a = b := by
 rintro a b q ⟨_, _, _, e1⟩ ⟨_, _, _, e2⟩
 have e := e1.symm.trans e2
 exact Z3V (ZcM (congrArg (fun q : Res => pC (pA q.1)) e)) (Z5b Zj1 (congrArg (fun q : Res => pL (pA (cellAt q 0 0))) e))
abbrev Z4D  : (Z1j × Int × (List ZC) × Int × (List (Int × ZZ))) → Res → Prop := fun r q => ∃ (p0_0 : Own) (ex : List Row), ZR p0_0 = true ∧ q = ((.p (.tup [(.agg (Z1O r.1)), (.v (.int .i64 r.2.1))])), [[(ZK p0_0 (r.2.2.1.map ZF)), (.mp 1), (iv r.2.2.2.1)], (rM_ ZD (r.2.2.2.2))] ++ ex)
theorem ZkR  : ∀ a b q, Z4D  a q → Z4D  b q → a = b := by
 rintro a b q ⟨_, _, _, e1⟩ ⟨_, _, _, e2⟩
 have e := e1.symm.trans e2
 exact Z3V (ZcM (congrArg (fun q : Res => pC ((pT (pA q.1)).getD 0 .junk)) e)) (Z3V (congrArg (fun q : Res => pI ((pT (pA q.1)).getD 1 .junk)) e) (Z3V (Z5b Zj1 (congrArg (fun q : Res => pL (pA (cellAt q 0 0))) e)) (Z3V (congrArg (fun q : Res => pI (pA (cellAt q 0 2))) e) (Z5b (Zk3 ZjO) (congrArg (fun q : Res => pM (cellAt q 1 0)) e)))))
abbrev Z79 (zQ : List ZC) (z1S : Int) (zV : List (Int × ZZ)) (z1B : Own) : (Int) → Res → Prop := fun r q => ∃ (ex : List Row), q = ((iv r), [[(ZK z1B (zQ.map ZF)), (.mp 1), (iv z1S)], (rM_ ZD (zV))] ++ ex)
theorem ZiC (zQ : List ZC) (z1S : Int) (zV : List (Int × ZZ)) (z1B : Own) : ∀ a b q, Z79 zQ z1S zV z1B a q → Z79 zQ z1S zV z1B b q → a = b := by
 rintro a b q ⟨_, e1⟩ ⟨_, e2⟩
 have e := e1.symm.trans e2
 exact congrArg (fun q : Res => pI (pA q.1)) e
abbrev Zez  : (List Zw) → Res → Prop := fun r q => ∃ (ex : List Row), q = ((ZK .sh (r.map ZE)), ex)
theorem ZoR  : ∀ a b q, Zez  a q → Zez  b q → a = b := by
 rintro a b q ⟨_, e1⟩ ⟨_, e2⟩
 have e := e1.symm.trans e2
 exact Z5b Ze8 (congrArg (fun q : Res => pL (pA q.1)) e)
abbrev Z5A (zQ : List ZC) (z1S : Int) (zV : List (Int × ZZ)) (z1B : Own) : (ZC × Bool) → Res → Prop := fun r q => ∃ (ex : List Row), q = ((.p (.tup [(.agg (Z1z r.1 .sh)), (.v (.bool r.2))])), [[(ZK z1B (zQ.map ZF)), (.mp 1), (iv z1S)], (rM_ ZD (zV))] ++ ex)
theorem ZkS (zQ : List ZC) (z1S : Int) (zV : List (Int × ZZ)) (z1B : Own) : ∀ a b q, Z5A zQ z1S zV z1B a q → Z5A zQ z1S zV z1B b q → a = b := by
 rintro a b q ⟨_, e1⟩ ⟨_, e2⟩
 have e := e1.symm.trans e2
 exact Z3V (ZcB (congrArg (fun q : Res => pC ((pT (pA q.1)).getD 0 .junk)) e)) (congrArg (fun q : Res => pB ((pT (pA q.1)).getD 1 .junk)) e)
abbrev Z66  : (Z1b) → Res → Prop := fun r q => ∃ (ex : List Row), q = ((pA_ (Z4j r .sh)), ex)
theorem ZiR  : ∀ a b q, Z66  a q → Z66  b q → a = b := by
 rintro a b q ⟨_, e1⟩ ⟨_, e2⟩
 have e := e1.symm.trans e2
 exact ZmH (congrArg (fun q : Res => pC (pA q.1)) e)
def Z9y (x0 : List Z13) (x1 : Int) : Option (Bool) := pick fun r => ∀ (ox0 : Own), RRun (ZW) (EE 12 [(ZK ox0 (x0.map Z24)), (iv x1)] []) r
def ZhR x0 x1 ox0 r (h : Z9y x0 x1 = some r) := Z1d h ox0
def Zae  : Option (Bool) := pick fun r => RRun (ZW) (EE 29 [] []) r
def Zm3  r (h : Zae = some r) := Z1d h
def Zci  : Option ((List (Int × ZZ)) × (List ZC) × Int) := pick fun r => RRun (Zht) (EE 32 [] []) r
def ZhX  r (h : Zci = some r) := Z1d h
def Zja  : Option (ZC) := pick fun r => RRun (ZiT) (EE 43 [] []) r
def Zxf  r (h : Zja = some r) := Z1d h
def Z6F (x0 x1 x2 : Int) (x3 : ByteArray) : Option (Z13) := pick fun r => RRun (ZbW) (EE 55 [(iv x0), (iv x1), (iv x2), (.p (.v (.string x3)))] []) r
def ZcR x0 x1 x2 x3 r (h : Z6F x0 x1 x2 x3 = some r) := Z1d h
def Z3I (x1 : Z13) (zQ : List ZC) (z1S : Int) (zV : List (Int × ZZ)) : Option (Z1j × Int × (List ZC) × Int × (List (Int × ZZ))) := pick fun r => ∀ (z4U z4t z1B : Own) (z3B : ZR z1B = true), RRun (Z4D) (EE 33 [(.ptr 0 0), (pA_ (Z3Z x1 z4U z4t))] [[(ZK z1B (zQ.map ZF)), (.mp 1), (iv z1S)], (rM_ ZD (zV))]) r
def Z5V x1 zQ z1S zV z4U z4t z1B z3B r (h : Z3I x1 zQ z1S zV = some r) := Z1d h z4U z4t z1B z3B
def ZcG (x0 : Z13) : Option (Bool) := pick fun r => ∀ (z1w z1p : Own), RRun (ZW) (EE 31 [(pA_ (Z3Z x0 z1w z1p))] []) r
def Zpu x0 z1w z1p r (h : ZcG x0 = some r) := Z1d h z1w z1p
def Z6m (x0 x1 : Int) : Option (Bool) := pick fun r => RRun (ZW) (EE 56 [(iv x0), (iv x1)] []) r
def Z7s x0 x1 r (h : Z6m x0 x1 = some r) := Z1d h
def Z6W (x0 : List Zw) : Option (Bool) := pick fun r => ∀ (ox0 : Own), RRun (ZW) (EE 57 [(ZK ox0 (x0.map ZE)), (.clo 58 [] [])] []) r
def Zh9 x0 ox0 r (h : Z6W x0 = some r) := Z1d h ox0
def Z82 (x0 : List Zw) : Option (Int) := pick fun r => ∀ (ox0 : Own), RRun (ZM) (EE 83 [(ZK ox0 (x0.map ZE)), (.clo 58 [] [])] []) r
def Zjk x0 ox0 r (h : Z82 x0 = some r) := Z1d h ox0
def Z5s (x0 : List Zw) (x7 x8 : Int) : Option (Int) := pick fun r => ∀ (ox0 : Own), RRun (ZM) (Zj3 0 (ZK ox0 (x0.map ZE)) (.clo 58 [] []) (iv x7) (iv x8) []) r
def Zbh x0 x7 x8 ox0 r (h : Z5s x0 x7 x8 = some r) := Z1d h ox0
def Zb6 (x0 : Zw) : Option (Bool) := pick fun r => RRun (ZW) (EE 58 [(pA_ (Z1U x0))] []) r
def Znw x0 r (h : Zb6 x0 = some r) := Z1d h
def Z9s (x0 : Zw) : Option (Bool) := pick fun r => RRun (ZW) (EE 27 [(pA_ (Z1U x0))] []) r
def Zeb x0 r (h : Z9s x0 = some r) := Z1d h
def Z7l (x0 : List Int) : Option (Bool) := pick fun r => ∀ (ox0 : Own), RRun (ZW) (EE 59 [(ZK ox0 (x0.map (eI .i64))), (.clo 60 [] [])] []) r
def Zi1 x0 ox0 r (h : Z7l x0 = some r) := Z1d h ox0
def Z8l (x0 : List Int) : Option (Int) := pick fun r => ∀ (ox0 : Own), RRun (ZM) (EE 84 [(ZK ox0 (x0.map (eI .i64))), (.clo 60 [] [])] []) r
def ZjM x0 ox0 r (h : Z8l x0 = some r) := Z1d h ox0
def Z5H (x0 : List Int) (x7 x8 : Int) : Option (Int) := pick fun r => ∀ (ox0 : Own), RRun (ZM) (ZmQ 0 (ZK ox0 (x0.map (eI .i64))) (.clo 60 [] []) (iv x7) (iv x8) []) r
def ZbN x0 x7 x8 ox0 r (h : Z5H x0 x7 x8 = some r) := Z1d h ox0
def Zb7 (x0 : Int) : Option (Bool) := pick fun r => RRun (ZW) (EE 60 [(iv x0)] []) r
def Zny x0 r (h : Zb7 x0 = some r) := Z1d h
def Z7E (x1 : Z1f) (zQ : List ZC) : Option (Z1j × (List ZC)) := pick fun r => ∀ (z1S : Int) (zV : List (Int × ZZ)) (z2F z2m z1B : Own) (z3B : ZR z1B = true), RRun (Z5L z1S zV) (EE 61 [(.ptr 0 0), (pA_ (Z4S x1 z2F z2m))] [[(ZK z1B (zQ.map ZF)), (.mp 1), (iv z1S)], (rM_ ZD (zV))]) r
def ZiH x1 zQ z1S zV z2F z2m z1B z3B r (h : Z7E x1 zQ = some r) := Z1d h z1S zV z2F z2m z1B z3B
def Zec (x0 : ZC) (x1 : Z1f) : Option (ZC × ZX) := pick fun r => ∀ (z17 z2F z2m : Own), RRun (Z9U) (EE 23 [(pA_ (Z1z x0 z17)), (pA_ (Z4S x1 z2F z2m))] []) r
def Zsg x0 x1 z17 z2F z2m r (h : Zec x0 x1 = some r) := Z1d h z17 z2F z2m
def Zfl (x0 : ZC) (x1 : Z1f) : Option (ZC × Int) := pick fun r => ∀ (z17 z2F z2m : Own), RRun (Z2O) (EE 22 [(pA_ (Z1z x0 z17)), (pA_ (Z4S x1 z2F z2m))] []) r
def Zxd x0 x1 z17 z2F z2m r (h : Zfl x0 x1 = some r) := Z1d h z17 z2F z2m
def ZbK (x0 : ZC) : Option (Bool) := pick fun r => ∀ (z17 : Own), RRun (ZW) (EE 20 [(pA_ (Z1z x0 z17))] []) r
def ZjZ x0 z17 r (h : ZbK x0 = some r) := Z1d h z17
def Z9Q (x0 : ZC) : Option (Bool) := pick fun r => ∀ (z17 : Own), RRun (ZW) (EE 46 [(pA_ (Z1z x0 z17))] []) r
def Zh4 x0 z17 r (h : Z9Q x0 = some r) := Z1d h z17
def Z9P (x3 : Int) (x16 : List Zw) (x17 x18 : Int) : Option (Bool) := pick fun r => ∀ (ox16 : Own), RRun (ZW) (Zsv 0 (iv x3) (ZK ox16 (x16.map ZE)) (iv x17) (iv x18) []) r
def Zh3 x3 x16 x17 x18 ox16 r (h : Z9P x3 x16 x17 x18 = some r) := Z1d h ox16
def ZhG (x1 z1H : Int) : Option (Int) := pick fun r => ∀ (z1N z2b z1T : Int) (z1Q : List Zw) (zB : Own), RRun (Zhv z1N z2b z1T z1Q zB) (EE 49 [(.ptr 0 0), (iv x1)] [(Z2z z1H z1N z2b z1T z1Q zB)]) r
def Zvz x1 z1H z1N z2b z1T z1Q zB r (h : ZhG x1 z1H = some r) := Z1d h z1N z2b z1T z1Q zB
def Zdi (x1 z1N : Int) : Option (Int) := pick fun r => ∀ (z1H z2b z1T : Int) (z1Q : List Zw) (zB : Own), RRun (Zd4 z1H z2b z1T z1Q zB) (EE 49 [(.ptr 0 1), (iv x1)] [(Z2z z1H z1N z2b z1T z1Q zB)]) r
def Zr8 x1 z1H z1N z2b z1T z1Q zB r (h : Zdi x1 z1N = some r) := Z1d h z1H z2b z1T z1Q zB
def Zdh (x1 z2b : Int) : Option (Int) := pick fun r => ∀ (z1H z1N z1T : Int) (z1Q : List Zw) (zB : Own), RRun (Zd3 z1H z1N z1T z1Q zB) (EE 49 [(.ptr 0 2), (iv x1)] [(Z2z z1H z1N z2b z1T z1Q zB)]) r
def Zr6 x1 z1H z1N z2b z1T z1Q zB r (h : Zdh x1 z2b = some r) := Z1d h z1H z1N z1T z1Q zB
def Zdg (x1 z1T : Int) : Option (Int) := pick fun r => ∀ (z1H z1N z2b : Int) (z1Q : List Zw) (zB : Own), RRun (Zd2 z1H z1N z2b z1Q zB) (EE 49 [(.ptr 0 3), (iv x1)] [(Z2z z1H z1N z2b z1T z1Q zB)]) r
def Zr4 x1 z1H z1N z2b z1T z1Q zB r (h : Zdg x1 z1T = some r) := Z1d h z1H z1N z2b z1Q zB
def Zcd (x0 : List Zw) : Option (Bool) := pick fun r => ∀ (ox0 : Own), RRun (ZW) (EE 50 [(ZK ox0 (x0.map ZE)), (.clo 27 [] [])] []) r
def Zoy x0 ox0 r (h : Zcd x0 = some r) := Z1d h ox0
def Z6X (x0 : List Zw) : Option (Bool) := pick fun r => ∀ (ox0 : Own), RRun (Z70) (EE 57 [(ZK ox0 (x0.map ZE)), (.clo 73 [] [(.ptr 0 0)])] [[(.clo 27 [] [])]]) r
def Zhb x0 ox0 r (h : Z6X x0 = some r) := Z1d h ox0
def Z83 (x0 : List Zw) : Option (Int) := pick fun r => ∀ (ox0 : Own), RRun (Z3q) (EE 83 [(ZK ox0 (x0.map ZE)), (.clo 73 [] [(.ptr 0 0)])] [[(.clo 27 [] [])]]) r
def Zjm x0 ox0 r (h : Z83 x0 = some r) := Z1d h ox0
def Z5t (x0 : List Zw) (x7 x8 : Int) : Option (Int) := pick fun r => ∀ (ox0 : Own), RRun (Z3q) (Zj3 1 (ZK ox0 (x0.map ZE)) (.clo 73 [] [(.ptr 0 0)]) (iv x7) (iv x8) [[(.clo 27 [] [])]]) r
def Zbi x0 x7 x8 ox0 r (h : Z5t x0 x7 x8 = some r) := Z1d h ox0
def Z8P (x0 : Zw) : Option (Bool) := pick fun r => RRun (Z70) (EE 73 [(pA_ (Z1U x0)), (.ptr 0 0)] [[(.clo 27 [] [])]]) r
def Zn5 x0 r (h : Z8P x0 = some r) := Z1d h
def ZcI (x0 : Z1f) : Option (Bool) := pick fun r => ∀ (z88 z6G : Own), RRun (ZW) (EE 51 [(pA_ (Z4S x0 z88 z6G))] []) r
def ZpC x0 z88 z6G r (h : ZcI x0 = some r) := Z1d h z88 z6G
def Z6Y (x0 : List Zw) (z11 : List (Int × Bool)) : Option (Bool × (List (Int × Bool))) := pick fun r => ∀ (ox0 : Own), RRun (Z5P) (EE 57 [(ZK ox0 (x0.map ZE)), (.clo 75 [] [(.ptr 0 0)])] [[(.clo 74 [] [(.ptr 1 0)])], [(.mp 2)], (rM_ eB (z11))]) r
def Zhd x0 z11 ox0 r (h : Z6Y x0 z11 = some r) := Z1d h ox0
def Z84 (x0 : List Zw) (z11 : List (Int × Bool)) : Option (Int × (List (Int × Bool))) := pick fun r => ∀ (ox0 : Own), RRun (Z3r) (EE 83 [(ZK ox0 (x0.map ZE)), (.clo 75 [] [(.ptr 0 0)])] [[(.clo 74 [] [(.ptr 1 0)])], [(.mp 2)], (rM_ eB (z11))]) r
def Zjo x0 z11 ox0 r (h : Z84 x0 z11 = some r) := Z1d h ox0
def Z5u (x0 : List Zw) (x7 x8 : Int) (z11 : List (Int × Bool)) : Option (Int × (List (Int × Bool))) := pick fun r => ∀ (ox0 : Own), RRun (Z3r) (Zj3 3 (ZK ox0 (x0.map ZE)) (.clo 75 [] [(.ptr 0 0)]) (iv x7) (iv x8) [[(.clo 74 [] [(.ptr 1 0)])], [(.mp 2)], (rM_ eB (z11))]) r
def Zbj x0 x7 x8 z11 ox0 r (h : Z5u x0 x7 x8 z11 = some r) := Z1d h ox0
def Z9k (x0 : Zw) (z11 : List (Int × Bool)) : Option (Bool × (List (Int × Bool))) := pick fun r => RRun (Z5P) (EE 75 [(pA_ (Z1U x0)), (.ptr 0 0)] [[(.clo 74 [] [(.ptr 1 0)])], [(.mp 2)], (rM_ eB (z11))]) r
def Zlf x0 z11 r (h : Z9k x0 z11 = some r) := Z1d h
def Z7t (x0 : Int) (zV : List (Int × Bool)) : Option (Bool × (List (Int × Bool))) := pick fun r => RRun (Z5O) (EE 74 [(iv x0), (.ptr 0 0)] [[(.mp 1)], (rM_ eB (zV))]) r
def ZdH x0 zV r (h : Z7t x0 zV = some r) := Z1d h
def Z7k (x0 : List Int) (zV : List (Int × Bool)) : Option (Bool × (List (Int × Bool))) := pick fun r => ∀ (ox0 : Own), RRun (Z5O) (EE 59 [(ZK ox0 (x0.map (eI .i64))), (.clo 74 [] [(.ptr 0 0)])] [[(.mp 1)], (rM_ eB (zV))]) r
def ZhZ x0 zV ox0 r (h : Z7k x0 zV = some r) := Z1d h ox0
def Z8k (x0 : List Int) (zV : List (Int × Bool)) : Option (Int × (List (Int × Bool))) := pick fun r => ∀ (ox0 : Own), RRun (Z3y) (EE 84 [(ZK ox0 (x0.map (eI .i64))), (.clo 74 [] [(.ptr 0 0)])] [[(.mp 1)], (rM_ eB (zV))]) r
def ZjK x0 zV ox0 r (h : Z8k x0 zV = some r) := Z1d h ox0
def Z5G (x0 : List Int) (x7 x8 : Int) (zV : List (Int × Bool)) : Option (Int × (List (Int × Bool))) := pick fun r => ∀ (ox0 : Own), RRun (Z3y) (ZmQ 2 (ZK ox0 (x0.map (eI .i64))) (.clo 74 [] [(.ptr 0 0)]) (iv x7) (iv x8) [[(.mp 1)], (rM_ eB (zV))]) r
def ZbM x0 x7 x8 zV ox0 r (h : Z5G x0 x7 x8 zV = some r) := Z1d h ox0
def ZbG (x54 : List Zw) (x55 x56 : Int) (b1 : Z1f) (zI zP zY zT : Int) (z1y : List (Int × Zw)) : Option (ZC × Int) := pick fun r => ∀ (b0 b2 : ZC) (z19 : List Zw) (ox54 zB z14 z10 zJ z15 : Own) (z1q : ZR zJ = true), RRun (Z2O) (Zpe 0 (.ptr 1 0) (.ptr 2 0) (.ptr 3 0) (.mp 4) (ZK ox54 (x54.map ZE)) (iv x55) (iv x56) [(Zx b0 zB), (ZH b1 z14 z10), (Zx b2 zJ), (Z2z zI zP zY zT z19 z15), (rM_ ZE (z1y))]) r
def ZjR x54 x55 x56 b0 b1 b2 zI zP zY zT z19 z1y ox54 zB z14 z10 zJ z15 z1q r (h : ZbG x54 x55 x56 b1 zI zP zY zT z1y = some r) := Z1d h b0 b2 z19 ox54 zB z14 z10 zJ z15 z1q
def ZbH (x66 : List Int) (x67 x68 : Int) (b1 : Z1f) (zI zP zY zT : Int) (z1y : List (Int × Zw)) : Option (ZC × Int) := pick fun r => ∀ (b0 b2 : ZC) (z19 : List Zw) (ox66 zB z14 z10 zJ z15 : Own) (z1q : ZR zJ = true), RRun (Z2O) (Zpf 0 (.ptr 1 0) (.ptr 2 0) (.ptr 3 0) (.mp 4) (ZK ox66 (x66.map (eI .i64))) (iv x67) (iv x68) [(Zx b0 zB), (ZH b1 z14 z10), (Zx b2 zJ), (Z2z zI zP zY zT z19 z15), (rM_ ZE (z1y))]) r
def ZjT x66 x67 x68 b0 b1 b2 zI zP zY zT z19 z1y ox66 zB z14 z10 zJ z15 z1q r (h : ZbH x66 x67 x68 b1 zI zP zY zT z1y = some r) := Z1d h b0 b2 z19 ox66 zB z14 z10 zJ z15 z1q
def ZbI (x85 : List Zw) (x86 x87 zI zP zY zT : Int) (z1y : List (Int × Zw)) : Option (ZC × Int) := pick fun r => ∀ (b0 : ZC) (b1 : Z1f) (b2 : ZC) (z19 : List Zw) (ox85 zB z14 z10 zJ z15 : Own) (z1q : ZR zJ = true), RRun (Z2O) (Zpg 0 (.ptr 2 0) (.ptr 3 0) (.mp 4) (ZK ox85 (x85.map ZE)) (iv x86) (iv x87) [(Zx b0 zB), (ZH b1 z14 z10), (Zx b2 zJ), (Z2z zI zP zY zT z19 z15), (rM_ ZE (z1y))]) r
def ZjV x85 x86 x87 b0 b1 b2 zI zP zY zT z19 z1y ox85 zB z14 z10 zJ z15 z1q r (h : ZbI x85 x86 x87 zI zP zY zT z1y = some r) := Z1d h b0 b1 b2 z19 ox85 zB z14 z10 zJ z15 z1q
def Zb5  : Option (Unit) := pick fun r => ∀ (zQ : List (Int × Zw)), RRun (ZaY zQ) (EE 53 [(.mp 0)] [(rM_ ZE (zQ))]) r
def Znu zQ r (h : Zb5 = some r) := Z1d h zQ
def Zcg (zV : List (Int × Zw)) : Option (List Int) := pick fun r => RRun (Zce zV) (EE 52 [(.clo 78 [] [(.ptr 0 0)])] [[(.mp 1)], (rM_ ZE (zV))]) r
def ZlJ zV r (h : Zcg zV = some r) := Z1d h
def ZbJ (x103 : List Int) (x104 x105 zI zP zY zT : Int) (z19 : List Zw) (z1y : List (Int × Zw)) : Option (ZC × Int) := pick fun r => ∀ (b0 : ZC) (b1 : Z1f) (b2 : ZC) (ox103 zB z14 z10 zJ z15 : Own) (z1q : ZR zJ = true) (zag : ZR z15 = true), RRun (Z2O) (Zph 0 (.ptr 2 0) (.ptr 3 0) (.mp 4) (ZK ox103 (x103.map (eI .i64))) (iv x104) (iv x105) [(Zx b0 zB), (ZH b1 z14 z10), (Zx b2 zJ), (Z2z zI zP zY zT z19 z15), (rM_ ZE (z1y))]) r
def ZjX x103 x104 x105 b0 b1 b2 zI zP zY zT z19 z1y ox103 zB z14 z10 zJ z15 z1q zag r (h : ZbJ x103 x104 x105 zI zP zY zT z19 z1y = some r) := Z1d h b0 b1 b2 ox103 zB z14 z10 zJ z15 z1q zag
def ZeQ (x0 : ZC) : Option (ZX) := pick fun r => ∀ (z17 : Own), RRun (Z3S) (EE 16 [(pA_ (Z1z x0 z17))] []) r
def Zt8 x0 z17 r (h : ZeQ x0 = some r) := Z1d h z17
def Zar (x11 : List Zw) (x12 x13 : Int) : Option (ZX) := pick fun r => ∀ (b0 : ZC) (b1 : ZX) (ox11 zB : Own), RRun (Z3S) (Zss 0 (.ptr 1 0) (ZK ox11 (x11.map ZE)) (iv x12) (iv x13) [(Zx b0 zB), (Z1a b1)]) r
def Zix x11 x12 x13 b0 b1 ox11 zB r (h : Zar x11 x12 x13 = some r) := Z1d h b0 b1 ox11 zB
def Z6C (x0 : ByteArray) : Option (ZX) := pick fun r => RRun (Z3S) (EE 21 [(.p (.v (.string x0)))] []) r
def Zrh x0 r (h : Z6C x0 = some r) := Z1d h
def ZhE (x0 : ByteArray) : Option (Z1M × Z1n) := pick fun r => RRun (Z5c) (EE 47 [(.p (.v (.string x0)))] []) r
def Zvr x0 r (h : ZhE x0 = some r) := Z1d h
def Z2h (x1 : ByteArray) (zl : List Int) (zn : Int) : Option (Bool × Int) := pick fun r => ∀ (z7 zd : Int) (zh : List Zv) (z2 z6 : Int) (zp zb : Own) (zu : ZR zb = true), RRun (Z86 zl z7 zd zh z2 z6 zp zb) (EE 68 [(.ptr 0 0), (.p (.v (.string x1)))] [(ZU zl zn z7 zd zh z2 z6 zp zb)]) r
def Z2q x1 zl zn z7 zd zh z2 z6 zp zb zu r (h : Z2h x1 zl zn = some r) := Z1d h z7 zd zh z2 z6 zp zb zu
def Z5p (zl : List Int) (zn z7 zd : Int) (zh : List Zv) (z2 z6 : Int) : Option (Zj × Int × Int × Int × (List Zv) × Int × Int) := pick fun r => ∀ (zp zb : Own) (zu : ZR zb = true), RRun (Z3f zl zp) (EE 69 [(.ptr 0 0)] [(ZU zl zn z7 zd zh z2 z6 zp zb)]) r
def Zir zl zn z7 zd zh z2 z6 zp zb zu r (h : Z5p zl zn z7 zd zh z2 z6 = some r) := Z1d h zp zb zu
def Z8M (zl : List Int) (zn z7 zd : Int) (zh : List Zv) (z2 z6 : Int) : Option (Zj × Int × Int × Int × (List Zv) × Int × Int) := pick fun r => ∀ (zp zb : Own) (zu : ZR zb = true), RRun (Z3f zl zp) (EE 91 [(.ptr 0 0)] [(ZU zl zn z7 zd zh z2 z6 zp zb)]) r
def Zit zl zn z7 zd zh z2 z6 zp zb zu r (h : Z8M zl zn z7 zd zh z2 z6 = some r) := Z1d h zp zb zu
def Z76 (x3 : List Zj) (zl : List Int) (zn z7 zd : Int) (zh : List Zv) (z2 z6 : Int) : Option (Zj × Int × Int × Int × (List Zv) × Int × Int) := pick fun r => ∀ (b1 : Zj) (ox3 zp zb zN zG : Own) (hox3 : ZR ox3 = true) (zu : ZR zb = true) (z1t : ZR zN = true) (z1h : ZR zG = true), RRun (Z3f zl zp) (ZsO 1 (.ptr 0 0) (.ptr 1 0) (ZK ox3 (x3.map Z12)) [(ZU zl zn z7 zd zh z2 z6 zp zb), (Zq b1 zN zG)]) r
def Zfd x3 zl zn z7 zd zh z2 z6 b1 ox3 zp zb zN zG hox3 zu z1t z1h r (h : Z76 x3 zl zn z7 zd zh z2 z6 = some r) := Z1d h b1 ox3 zp zb zN zG hox3 zu z1t z1h
def Z3n (b0 : Z23) : Option (Int) := pick fun r => ∀ (zp zb : Own) (zu : ZR zb = true), RRun (Z9G b0 zp zb) (EE 104 [(.ptr 0 0)] [(Z4V b0 zp zb)]) r
def Z3w b0 zp zb zu r (h : Z3n b0 = some r) := Z1d h zp zb zu
def Zhp (x0 : List Int) (x1 : Int) : Option (Int × Int) := pick fun r => ∀ (ox0 : Own), RRun (Z43) (EE 126 [(ZK ox0 (x0.map (eI .u8))), (iv x1)] []) r
def ZpP x0 x1 ox0 r (h : Zhp x0 x1 = some r) := Z1d h ox0
def Zba (x0 : List Int) : Option (Int × Int) := pick fun r => ∀ (ox0 : Own), RRun (Zb0) (EE 146 [(ZK ox0 (x0.map (eI .u8)))] []) r
def Zkr x0 ox0 r (h : Zba x0 = some r) := Z1d h ox0
def Zdv (x0 : Int) (x1 : List Zj) : Option (Zj) := pick fun r => ∀ (ox1 : Own), RRun (Z8u) (EE 92 [(iv x0), (ZK ox1 (x1.map Z12))] []) r
def ZlS x0 x1 ox1 r (h : Zdv x0 x1 = some r) := Z1d h ox1
def Zcc (zl : List Int) (zn z7 zd : Int) (zh : List Zv) (z2 z6 : Int) : Option (Zj × Bool × Int × Int × Int × (List Zv) × Int × Int) := pick fun r => ∀ (zp zb : Own) (zu : ZR zb = true), RRun (Z3x zl zp) (EE 105 [(.ptr 0 0)] [(ZU zl zn z7 zd zh z2 z6 zp zb)]) r
def Zop zl zn z7 zd zh z2 z6 zp zb zu r (h : Zcc zl zn z7 zd zh z2 z6 = some r) := Z1d h zp zb zu
def Z49 (zl : List Int) (zn : Int) : Option (Int × Int) := pick fun r => ∀ (z7 zd : Int) (zh : List Zv) (z2 z6 : Int) (zp zb : Own) (zu : ZR zb = true), RRun (Z2L zl z7 zd zh z2 z6 zp zb) (EE 127 [(.ptr 0 0)] [(ZU zl zn z7 zd zh z2 z6 zp zb)]) r
def Z4J zl zn z7 zd zh z2 z6 zp zb zu r (h : Z49 zl zn = some r) := Z1d h z7 zd zh z2 z6 zp zb zu
def Z3b (x0 : Int) : Option (Zi) := pick fun r => RRun (ZkG) (EE 129 [(iv x0)] []) r
def Z2W x0 r (h : Z3b x0 = some r) := Z1d h
def Z54 (x0 : Bool) (x1 : List Zi) : Option (Zj) := pick fun r => ∀ (ox1 : Own), RRun (Z8u) (EE 128 [(bv x0), (ZK ox1 (x1.map Zy))] []) r
def Z5i x0 x1 ox1 r (h : Z54 x0 x1 = some r) := Z1d h ox1
def Zj4 (x0 : List Zi) : Option ((List Zi) × Int) := pick fun r => ∀ (ox0 : Own), RRun (Z6j) (EE 147 [(ZK ox0 (x0.map Zy))] []) r
def Zx7 x0 ox0 r (h : Zj4 x0 = some r) := Z1d h ox0
def Z6v (x0 : List Zi) : Option (Bool) := pick fun r => ∀ (ox0 : Own), RRun (ZW) (EE 166 [(ZK ox0 (x0.map Zy)), (.clo 167 [] [])] []) r
def Zgr x0 ox0 r (h : Z6v x0 = some r) := Z1d h ox0
def Z7J (x0 : List Zi) : Option (Int) := pick fun r => ∀ (ox0 : Own), RRun (ZM) (EE 179 [(ZK ox0 (x0.map Zy)), (.clo 167 [] [])] []) r
def ZiM x0 ox0 r (h : Z7J x0 = some r) := Z1d h ox0
def Z58 (x0 : List Zi) (x7 x8 : Int) : Option (Int) := pick fun r => ∀ (ox0 : Own), RRun (ZM) (Zpa 0 (ZK ox0 (x0.map Zy)) (.clo 167 [] []) (iv x7) (iv x8) []) r
def ZaX x0 x7 x8 ox0 r (h : Z58 x0 x7 x8 = some r) := Z1d h ox0
def ZfR (x0 : Zi) : Option (Bool) := pick fun r => RRun (ZW) (EE 167 [(pA_ (Z18 x0))] []) r
def Zuy x0 r (h : ZfR x0 = some r) := Z1d h
def Z9N (x0 : Zi) : Option (Bool) := pick fun r => RRun (ZW) (EE 168 [(pA_ (Z18 x0))] []) r
def ZgV x0 r (h : Z9N x0 = some r) := Z1d h
def ZfT (x0 : List Zi) : Option (List Zi) := pick fun r => ∀ (ox0 : Own), RRun (Z4N) (EE 169 [(ZK ox0 (x0.map Zy))] []) r
def ZlR x0 ox0 r (h : ZfT x0 = some r) := Z1d h ox0
def ZcE (x0 : List Zi) : Option ((List Zi) × Int) := pick fun r => ∀ (ox0 : Own), RRun (Z6j) (EE 148 [(ZK ox0 (x0.map Zy))] []) r
def Zl3 x0 ox0 r (h : ZcE x0 = some r) := Z1d h ox0
def Z8J (x0 : List Zi) : Option (Bool) := pick fun r => ∀ (ox0 : Own), RRun (ZW) (EE 170 [(ZK ox0 (x0.map Zy))] []) r
def Zds x0 ox0 r (h : Z8J x0 = some r) := Z1d h ox0
def Z8K (x3 : Int) (x6 : List Zi) (x7 x8 : Int) : Option (Bool) := pick fun r => ∀ (ox6 : Own), RRun (ZW) (Zp7 0 (iv x3) (ZK ox6 (x6.map Zy)) (iv x7) (iv x8) []) r
def Zf3 x3 x6 x7 x8 ox6 r (h : Z8K x3 x6 x7 x8 = some r) := Z1d h ox6
def ZeO (x0 : List Zi) : Option (List Zi) := pick fun r => ∀ (ox0 : Own), RRun (Z4N) (EE 171 [(ZK ox0 (x0.map Zy))] []) r
def ZsZ x0 ox0 r (h : ZeO x0 = some r) := Z1d h ox0
def Zan (x3 : List Zi) (x4 : Int) (x7 : List Zi) (x8 x9 : Int) : Option (List Zi) := pick fun r => ∀ (ox3 ox7 : Own) (hox3 : ZR ox3 = true), RRun (Z4N) (Zp8 0 (ZK ox3 (x3.map Zy)) (iv x4) (ZK ox7 (x7.map Zy)) (iv x8) (iv x9) []) r
def Zin x3 x4 x7 x8 x9 ox3 ox7 hox3 r (h : Zan x3 x4 x7 x8 x9 = some r) := Z1d h ox3 ox7 hox3
def Z5W (x1 : Int) (zl : List Int) (zn z7 zd : Int) (zh : List Zv) (z2 z6 : Int) : Option (Zj × Int × (List Zv) × Int × Int) := pick fun r => ∀ (zp zb : Own) (zu : ZR zb = true), RRun (Z5M zl z7 zd zp) (EE 130 [(.ptr 0 0), (iv x1)] [(ZU zl zn z7 zd zh z2 z6 zp zb)]) r
def ZmY x1 zl zn z7 zd zh z2 z6 zp zb zu r (h : Z5W x1 zl zn z7 zd zh z2 z6 = some r) := Z1d h zp zb zu
def Z1A (x1 x2 : Int) (zl : List Int) (z2 z6 : Int) : Option (Int × Int × Int) := pick fun r => ∀ (zn z7 zd : Int) (zh : List Zv) (zp zb : Own) (zu : ZR zb = true), RRun (Z9F zl z7 zd zh zp zb) (EE 70 [(.ptr 0 0), (iv x1), (iv x2)] [(ZU zl zn z7 zd zh z2 z6 zp zb)]) r
def Z1G x1 x2 zl zn z7 zd zh z2 z6 zp zb zu r (h : Z1A x1 x2 zl z2 z6 = some r) := Z1d h zn z7 zd zh zp zb zu
def Z9r (x0 : Int) : Option (Own × (List Zi)) := pick fun r => RRun (ZaN) (EE 149 [(iv x0)] []) r
def Zea x0 r (h : Z9r x0 = some r) := Z1d h
def Z9j (x1 x2 : Int) (zl : List Int) (zn z7 zd : Int) (zh : List Zv) (z2 z6 : Int) : Option (Int × Int × Int × Int) := pick fun r => ∀ (zp zb : Own) (zu : ZR zb = true), RRun (Z7x zl z7 zd zh zp zb) (EE 150 [(.ptr 0 0), (iv x1), (iv x2)] [(ZU zl zn z7 zd zh z2 z6 zp zb)]) r
def Zgh x1 x2 zl zn z7 zd zh z2 z6 zp zb zu r (h : Z9j x1 x2 zl zn z7 zd zh z2 z6 = some r) := Z1d h zp zb zu
def Zh0 (x0 : Int) : Option (Int) := pick fun r => RRun (ZM) (EE 172 [(iv x0)] []) r
def Zpy x0 r (h : Zh0 x0 = some r) := Z1d h
def ZcD (x0 : List Zi) (x1 : Int) : Option (Bool) := pick fun r => ∀ (ox0 : Own), RRun (ZW) (EE 173 [(ZK ox0 (x0.map Zy)), (iv x1)] []) r
def ZsV x0 x1 ox0 r (h : ZcD x0 x1 = some r) := Z1d h ox0
def Z6u (x0 : List Zi) (zQ : Int) : Option (Bool) := pick fun r => ∀ (ox0 : Own), RRun (Z9n zQ) (EE 184 [(ZK ox0 (x0.map Zy)), (.clo 185 [] [(.ptr 0 0)])] [[(iv zQ)]]) r
def Zgp x0 zQ ox0 r (h : Z6u x0 zQ = some r) := Z1d h ox0
def Z7I (x0 : List Zi) (zQ : Int) : Option (Int) := pick fun r => ∀ (ox0 : Own), RRun (Z3o zQ) (EE 191 [(ZK ox0 (x0.map Zy)), (.clo 185 [] [(.ptr 0 0)])] [[(iv zQ)]]) r
def ZiK x0 zQ ox0 r (h : Z7I x0 zQ = some r) := Z1d h ox0
def Z57 (x0 : List Zi) (x7 x8 zQ : Int) : Option (Int) := pick fun r => ∀ (ox0 : Own), RRun (Z3o zQ) (Zpb 1 (ZK ox0 (x0.map Zy)) (.clo 185 [] [(.ptr 0 0)]) (iv x7) (iv x8) [[(iv zQ)]]) r
def ZaV x0 x7 x8 zQ ox0 r (h : Z57 x0 x7 x8 zQ = some r) := Z1d h ox0
def Zdf (x0 : Zi) (zQ : Int) : Option (Bool) := pick fun r => RRun (Z9n zQ) (EE 185 [(pA_ (Z18 x0)), (.ptr 0 0)] [[(iv zQ)]]) r
def ZqB x0 zQ r (h : Zdf x0 zQ = some r) := Z1d h
def Zb9 (x1 : Int) (zl : List Int) (zn z7 zd : Int) (zh : List Zv) (z2 z6 : Int) : Option (Zj × Int × Int × Int) := pick fun r => ∀ (zp zb : Own) (zu : ZR zb = true), RRun (Z2g zl z7 zd zh zp zb) (EE 131 [(.ptr 0 0), (iv x1)] [(ZU zl zn z7 zd zh z2 z6 zp zb)]) r
def ZnB x1 zl zn z7 zd zh z2 z6 zp zb zu r (h : Zb9 x1 zl zn z7 zd zh z2 z6 = some r) := Z1d h zp zb zu
def Z5a (x1 : Int) (x5 : Bool) (x8 : Int) (zl : List Int) (zn z7 zd : Int) (zh : List Zv) (z2 z6 : Int) (z11 : List Zi) : Option (Zj × Int × Int × Int) := pick fun r => ∀ (b1 : Zj) (zp zb zN zG z2w : Own) (zu : ZR zb = true) (z1t : ZR zN = true) (z1h : ZR zG = true), RRun (Z2g zl z7 zd zh zp zb) (Zp1 1 (.ptr 0 0) (iv x1) (.ptr 1 0) (bv x5) (.ptr 2 0) (.clo 151 [] [(.ptr 2 0)]) (iv x8) [(ZU zl zn z7 zd zh z2 z6 zp zb), (Zq b1 zN zG), [(ZK z2w (z11.map Zy))]]) r
def Zem x1 x5 x8 zl zn z7 zd zh z2 z6 b1 z11 zp zb zN zG z2w zu z1t z1h r (h : Z5a x1 x5 x8 zl zn z7 zd zh z2 z6 z11 = some r) := Z1d h b1 zp zb zN zG z2w zu z1t z1h
def Z77 (zl : List Int) (zn z7 zd : Int) (zh : List Zv) (z2 z6 : Int) : Option (Int × (Own × (List Zi)) × Bool × Int × Int × Int) := pick fun r => ∀ (zp zb : Own) (zu : ZR zb = true), RRun (Z5N zl z7 zd zh zp zb) (EE 153 [(.ptr 0 0)] [(ZU zl zn z7 zd zh z2 z6 zp zb)]) r
def Zfg zl zn z7 zd zh z2 z6 zp zb zu r (h : Z77 zl zn z7 zd zh z2 z6 = some r) := Z1d h zp zb zu
def Z89 (x0 zQ : List Zi) : Option (List Zi) := pick fun r => ∀ (ox0 z1B : Own), RRun (Za8) (EE 151 [(ZK ox0 (x0.map Zy)), (.ptr 0 0)] [[(ZK z1B (zQ.map Zy))]]) r
def ZeP x0 zQ ox0 z1B r (h : Z89 x0 zQ = some r) := Z1d h ox0 z1B
def ZfS (x0 x1 : List Zi) : Option ((List Zi) × Int) := pick fun r => ∀ (ox0 ox1 : Own), RRun (Z6j) (EE 152 [(ZK ox0 (x0.map Zy)), (ZK ox1 (x1.map Zy))] []) r
def ZuA x0 x1 ox0 ox1 r (h : ZfS x0 x1 = some r) := Z1d h ox0 ox1
def ZdB (x0 : List (List Zi)) : Option (List Zi) := pick fun r => ∀ (ox0 : Own), RRun (Z4N) (EE 174 [(ZK ox0 (x0.map (eL Zy)))] []) r
def Zn6 x0 ox0 r (h : ZdB x0 = some r) := Z1d h ox0
def Z6h (x1 : Int) (zl : List Int) (zn z7 zd : Int) (zh : List Zv) (z2 z6 : Int) : Option (Zj × Bool × Int × Int × Int × (List Zv) × Int × Int) := pick fun r => ∀ (zp zb : Own) (zu : ZR zb = true), RRun (Z3x zl zp) (EE 132 [(.ptr 0 0), (iv x1)] [(ZU zl zn z7 zd zh z2 z6 zp zb)]) r
def ZnD x1 zl zn z7 zd zh z2 z6 zp zb zu r (h : Z6h x1 zl zn z7 zd zh z2 z6 = some r) := Z1d h zp zb zu
def ZhF  : Option (List ByteArray) := pick fun r => RRun (Zhu) (EE 155 [] []) r
def Zvt  r (h : ZhF = some r) := Z1d h
def Z7m (x0 : List ByteArray) (zl : List Int) (zn : Int) : Option (Int × Int) := pick fun r => ∀ (z7 zd : Int) (zh : List Zv) (z2 z6 : Int) (ox0 zp zb : Own) (zu : ZR zb = true), RRun (Z2L zl z7 zd zh z2 z6 zp zb) (EE 154 [(ZK ox0 (x0.map eS)), (.clo 68 [(.ptr 0 0)] [])] [(ZU zl zn z7 zd zh z2 z6 zp zb)]) r
def Zi7 x0 zl zn z7 zd zh z2 z6 ox0 zp zb zu r (h : Z7m x0 zl zn = some r) := Z1d h z7 zd zh z2 z6 ox0 zp zb zu
def Z2X (x0 : List ByteArray) (x7 x8 : Int) (zl : List Int) (zn : Int) : Option (Int × Int) := pick fun r => ∀ (z7 zd : Int) (zh : List Zv) (z2 z6 : Int) (ox0 zp zb : Own) (zu : ZR zb = true), RRun (Z2L zl z7 zd zh z2 z6 zp zb) (Zp3 1 (ZK ox0 (x0.map eS)) (.clo 68 [(.ptr 0 0)] []) (iv x7) (iv x8) [(ZU zl zn z7 zd zh z2 z6 zp zb)]) r
def ZaK x0 x7 x8 zl zn z7 zd zh z2 z6 ox0 zp zb zu r (h : Z2X x0 x7 x8 zl zn = some r) := Z1d h z7 zd zh z2 z6 ox0 zp zb zu
def Z8O (x1 : Zj) (x2 : Bool) (zl : List Int) (zn z7 zd : Int) (zh : List Zv) (z2 z6 : Int) : Option (Zj × Int × Int × Int) := pick fun r => ∀ (z4m z3K zp zb : Own) (zu : ZR zb = true), RRun (Z2g zl z7 zd zh zp zb) (EE 106 [(.ptr 0 0), (pA_ (ZO x1 z4m z3K)), (bv x2)] [(ZU zl zn z7 zd zh z2 z6 zp zb)]) r
def Zn2 x1 x2 zl zn z7 zd zh z2 z6 z4m z3K zp zb zu r (h : Z8O x1 x2 zl zn z7 zd zh z2 z6 = some r) := Z1d h z4m z3K zp zb zu
def Z8N (x1 : Int) (zl : List Int) (zn z7 zd : Int) (zh : List Zv) (z2 z6 : Int) : Option (Int × Int × Int × Int × Int) := pick fun r => ∀ (zp zb : Own) (zu : ZR zb = true), RRun (Z42 zl z7 zd zh zp zb) (EE 133 [(.ptr 0 0), (iv x1)] [(ZU zl zn z7 zd zh z2 z6 zp zb)]) r
def ZmW x1 zl zn z7 zd zh z2 z6 zp zb zu r (h : Z8N x1 zl zn z7 zd zh z2 z6 = some r) := Z1d h zp zb zu
def Z78 (zl : List Int) (zn z7 zd : Int) (zh : List Zv) (z2 z6 : Int) : Option (Int × Int) := pick fun r => ∀ (zp zb : Own) (zu : ZR zb = true), RRun (Z2L zl z7 zd zh z2 z6 zp zb) (EE 156 [(.ptr 0 0)] [(ZU zl zn z7 zd zh z2 z6 zp zb)]) r
def Zfh zl zn z7 zd zh z2 z6 zp zb zu r (h : Z78 zl zn z7 zd zh z2 z6 = some r) := Z1d h zp zb zu
def Z51 (x3 x4 : Int) (zl : List Int) (zn z7 zd : Int) (zh : List Zv) (z2 z6 : Int) : Option (Int × Int) := pick fun r => ∀ (zp zb : Own) (zu : ZR zb = true), RRun (Z2L zl z7 zd zh z2 z6 zp zb) (Zp4 1 (.ptr 0 0) (iv x3) (iv x4) [(ZU zl zn z7 zd zh z2 z6 zp zb)]) r
def ZdG x3 x4 zl zn z7 zd zh z2 z6 zp zb zu r (h : Z51 x3 x4 zl zn z7 zd zh z2 z6 = some r) := Z1d h zp zb zu
def Z75 (x3 : List Zj) (zl : List Int) (zn z7 zd : Int) (zh : List Zv) (z2 z6 : Int) : Option (Zj × Int × Int × Int × (List Zv) × Int × Int) := pick fun r => ∀ (b1 : Zj) (ox3 zp zb zN zG : Own) (hox3 : ZR ox3 = true) (zu : ZR zb = true) (z1t : ZR zN = true) (z1h : ZR zG = true), RRun (Z3f zl zp) (ZsE 1 (.ptr 0 0) (.ptr 1 0) (ZK ox3 (x3.map Z12)) [(ZU zl zn z7 zd zh z2 z6 zp zb), (Zq b1 zN zG)]) r
def Zfb x3 zl zn z7 zd zh z2 z6 b1 ox3 zp zb zN zG hox3 zu z1t z1h r (h : Z75 x3 zl zn z7 zd zh z2 z6 = some r) := Z1d h b1 ox3 zp zb zN zG hox3 zu z1t z1h
def Z9X (x50 : List Zv) (x51 x52 : Int) (z3N : List Int) (z1x z1e z1C z1l z1E z1D z1m z1u : Int) (z1v : List Zi) (z1k : List Zj) (z29 : Bool) : Option (Z1M × Z1n) := pick fun r => ∀ (b0 : Z1M) (b1 : Z1n) (z3D z3k : Int) (z2A : List Zv) (z2Y : Int) (ox50 z1K z1F z4y z2l z1X z1R : Own) (z31 : ZR z1K = true) (z2P : ZR z1F = true) (z4L : ZR z2l = true), RRun (Z5c) (ZsC 0 (.ptr 0 0) (.ptr 1 0) (.ptr 2 0) (.ptr 3 0) (ZK ox50 (x50.map Z3C)) (iv x51) (iv x52) [(Z1s b0 z1K z1F), (Z21 b1), (ZU z3N z3D z1x z3k z2A z1e z1C z4y z2l), (ZbP z1l z1E z1D z1m z1u z1v z1k z2Y z29 z1X z1R)]) r
def ZjP x50 x51 x52 b0 b1 z3N z3D z1x z3k z2A z1e z1C z1l z1E z1D z1m z1u z1v z1k z2Y z29 ox50 z1K z1F z4y z2l z1X z1R z31 z2P z4L r (h : Z9X x50 x51 x52 z3N z1x z1e z1C z1l z1E z1D z1m z1u z1v z1k z29 = some r) := Z1d h b0 b1 z3D z3k z2A z2Y ox50 z1K z1F z4y z2l z1X z1R z31 z2P z4L
def ZhH (x0 : Z1M) : Option (Int) := pick fun r => ∀ (z5w z4T : Own), RRun (ZM) (EE 48 [(pA_ (Z4g x0 z5w z4T))] []) r
def ZvB x0 z5w z4T r (h : ZhH x0 = some r) := Z1d h z5w z4T
def Z5q (x0 : Zj) : Option (Bool) := pick fun r => ∀ (z2E z1V : Own), RRun (ZW) (EE 71 [(pA_ (ZO x0 z2E z1V))] []) r
def Zli x0 z2E z1V r (h : Z5q x0 = some r) := Z1d h z2E z1V
def Z4v (x0 : Zj) : Option (Int × Int) := pick fun r => ∀ (z2E z1V : Own), RRun (Z43) (EE 93 [(pA_ (ZO x0 z2E z1V))] []) r
def Za1 x0 z2E z1V r (h : Z4v x0 = some r) := Z1d h z2E z1V
def ZbL (x2 x3 : Int) (x23 : List Zj) (x24 x25 : Int) : Option (Int × Int) := pick fun r => ∀ (ox23 : Own), RRun (Z43) (ZsR 0 (iv x2) (iv x3) (ZK ox23 (x23.map Z12)) (iv x24) (iv x25) []) r
def Zk1 x2 x3 x23 x24 x25 ox23 r (h : ZbL x2 x3 x23 x24 x25 = some r) := Z1d h ox23
def ZaU (x2 x3 : Int) (x45 : List Zj) (x46 x47 : Int) : Option (Int × Int) := pick fun r => ∀ (ox45 : Own), RRun (Z43) (Zpn 0 (iv x2) (iv x3) (ZK ox45 (x45.map Z12)) (iv x46) (iv x47) []) r
def Zje x2 x3 x45 x46 x47 ox45 r (h : ZaU x2 x3 x45 x46 x47 = some r) := Z1d h ox45
def Zep (x0 x1 : Int) : Option (Int) := pick fun r => RRun (ZM) (EE 108 [(iv x0), (iv x1)] []) r
def ZvG x0 x1 r (h : Zep x0 x1 = some r) := Z1d h
def Zfn (x0 : Int) : Option (Int) := pick fun r => RRun (ZM) (EE 134 [(iv x0)] []) r
def ZnW x0 r (h : Zfn x0 = some r) := Z1d h
def ZkN (x0 x1 : Int) : Option (Int) := pick fun r => RRun (ZM) (EE 107 [(iv x0), (iv x1)] []) r
def ZzR x0 x1 r (h : ZkN x0 x1 = some r) := Z1d h
def Z6V (x0 : List Zj) : Option (Bool) := pick fun r => ∀ (ox0 : Own), RRun (ZW) (EE 94 [(ZK ox0 (x0.map Z12)), (.clo 95 [] [])] []) r
def Zh7 x0 ox0 r (h : Z6V x0 = some r) := Z1d h ox0
def Z81 (x0 : List Zj) : Option (Int) := pick fun r => ∀ (ox0 : Own), RRun (ZM) (EE 109 [(ZK ox0 (x0.map Z12)), (.clo 95 [] [])] []) r
def Zji x0 ox0 r (h : Z81 x0 = some r) := Z1d h ox0
def Z5r (x0 : List Zj) (x7 x8 : Int) : Option (Int) := pick fun r => ∀ (ox0 : Own), RRun (ZM) (ZoX 0 (ZK ox0 (x0.map Z12)) (.clo 95 [] []) (iv x7) (iv x8) []) r
def Zbg x0 x7 x8 ox0 r (h : Z5r x0 x7 x8 = some r) := Z1d h ox0
def Zdj (x0 : Zj) : Option (Bool) := pick fun r => ∀ (z2E z1V : Own), RRun (ZW) (EE 95 [(pA_ (ZO x0 z2E z1V))] []) r
def Zrd x0 z2E z1V r (h : Zdj x0 = some r) := Z1d h z2E z1V
def Z7u (x0 : Zj) : Option (Int) := pick fun r => ∀ (z2E z1V : Own), RRun (ZM) (EE 72 [(pA_ (ZO x0 z2E z1V))] []) r
def ZnV x0 z2E z1V r (h : Z7u x0 = some r) := Z1d h z2E z1V
def Z80 (x3 : Int) (x8 : List Zj) (x9 x10 : Int) (b0 : Zj) : Option (Int) := pick fun r => ∀ (ox8 z2v z20 : Own), RRun (ZM) (ZsG 0 (.ptr 0 0) (iv x3) (ZK ox8 (x8.map Z12)) (iv x9) (iv x10) [(Zq b0 z2v z20)]) r
def Zlh x3 x8 x9 x10 b0 ox8 z2v z20 r (h : Z80 x3 x8 x9 x10 b0 = some r) := Z1d h ox8 z2v z20
def Z41 (zQ : List ZC) : Option (Int) := pick fun r => ∀ (z1S : Int) (zV : List (Int × ZZ)) (z1B : Own) (z3B : ZR z1B = true), RRun (Z79 zQ z1S zV z1B) (EE 35 [(.ptr 0 0)] [[(ZK z1B (zQ.map ZF)), (.mp 1), (iv z1S)], (rM_ ZD (zV))]) r
def Z6g zQ z1S zV z1B z3B r (h : Z41 zQ = some r) := Z1d h z1S zV z1B z3B
def Z9D (x0 : List Z13) : Option (Bool) := pick fun r => ∀ (ox0 : Own), RRun (ZW) (EE 30 [(ZK ox0 (x0.map Z24))] []) r
def ZlF x0 ox0 r (h : Z9D x0 = some r) := Z1d h ox0
def Z5h (x0 x7 : List Z13) (x8 x9 : Int) : Option (Bool) := pick fun r => ∀ (ox0 ox7 : Own), RRun (ZW) (ZsA 0 (ZK ox0 (x0.map Z24)) (ZK ox7 (x7.map Z24)) (iv x8) (iv x9) []) r
def ZcW x0 x7 x8 x9 ox0 ox7 r (h : Z5h x0 x7 x8 x9 = some r) := Z1d h ox0 ox7
def Z6l (x0 x7 : List Z13) (x8 x9 : Int) (x27 : List Zw) (x28 x29 : Int) : Option (Bool) := pick fun r => ∀ (ox0 ox7 ox27 : Own), RRun (ZW) (ZsB 0 (ZK ox0 (x0.map Z24)) (ZK ox7 (x7.map Z24)) (iv x8) (iv x9) (ZK ox27 (x27.map ZE)) (iv x28) (iv x29) []) r
def ZcX x0 x7 x8 x9 x27 x28 x29 ox0 ox7 ox27 r (h : Z6l x0 x7 x8 x9 x27 x28 x29 = some r) := Z1d h ox0 ox7 ox27
def Z50 (x5 : Int) (x40 : List Z13) (x41 x42 : Int) (zQ : List (Int × ZZ)) (zV : List ZC) (z37 : Int) (z11 : List (Int × ZZ)) (z2y : List ZC) (z3d : Int) : Option (Bool) := pick fun r => ∀ (ox40 z2D z2G : Own) (z4K : ZR z2D = true) (z59 : ZR z2G = true), RRun (ZW) (Zsp 0 (iv x5) (.ptr 1 0) (.ptr 3 0) (ZK ox40 (x40.map Z24)) (iv x41) (iv x42) [(rM_ ZD (zQ)), [(ZK z2D (zV.map ZF)), (.mp 0), (iv z37)], (rM_ ZD (z11)), [(ZK z2G (z2y.map ZF)), (.mp 2), (iv z3d)]]) r
def ZaG x5 x40 x41 x42 zQ zV z37 z11 z2y z3d ox40 z2D z2G z4K z59 r (h : Z50 x5 x40 x41 x42 zQ zV z37 z11 z2y z3d = some r) := Z1d h ox40 z2D z2G z4K z59
def Z4I (x14 : Int) (zV z2y : List ZC) : Option (Bool) := pick fun r => ∀ (zQ : List (Int × ZZ)) (z37 : Int) (z11 : List (Int × ZZ)) (z3d : Int) (z2D z2G : Own) (z4K : ZR z2D = true) (z59 : ZR z2G = true), RRun (ZW) (ZoZ 0 (.ptr 1 0) (.ptr 3 0) (iv x14) [(rM_ ZD (zQ)), [(ZK z2D (zV.map ZF)), (.mp 0), (iv z37)], (rM_ ZD (z11)), [(ZK z2G (z2y.map ZF)), (.mp 2), (iv z3d)]]) r
def Zap x14 zQ zV z37 z11 z2y z3d z2D z2G z4K z59 r (h : Z4I x14 zV z2y = some r) := Z1d h zQ z37 z11 z3d z2D z2G z4K z59
def Z6U (x1 : Int) (zQ : List ZC) : Option (ZC × Bool) := pick fun r => ∀ (z1S : Int) (zV : List (Int × ZZ)) (z1B : Own) (z3B : ZR z1B = true), RRun (Z5A zQ z1S zV z1B) (EE 36 [(.ptr 0 0), (iv x1)] [[(ZK z1B (zQ.map ZF)), (.mp 1), (iv z1S)], (rM_ ZD (zV))]) r
def Zdu x1 zQ z1S zV z1B z3B r (h : Z6U x1 zQ = some r) := Z1d h z1S zV z1B z3B
def ZeC (x0 : List Zw) : Option (List Zw) := pick fun r => ∀ (ox0 : Own), RRun (Zez) (EE 62 [(ZK ox0 (x0.map ZE))] []) r
def ZoA x0 ox0 r (h : ZeC x0 = some r) := Z1d h ox0
def Zaq (x0 : ZC) : Option (Z1b) := pick fun r => ∀ (z17 : Own), RRun (Z66) (EE 19 [(pA_ (Z1z x0 z17))] []) r
def Zio x0 z17 r (h : Zaq x0 = some r) := Z1d h z17
def Z8L (x16 : List Zw) (x17 x18 z2B z2R z3A z3c : Int) (z3g : List Zw) : Option (Z1b) := pick fun r => ∀ (b0 : ZC) (b1 : Z1b) (ox16 zB z2r zJ : Own) (zaf : ZR z2r = true) (z1q : ZR zJ = true), RRun (Z66) (Zsu 0 (.ptr 1 0) (.ptr 2 0) (ZK ox16 (x16.map ZE)) (iv x17) (iv x18) [(Zx b0 zB), (Z1P b1 z2r), (Zkt z2B z2R z3A z3c z3g zJ)]) r
def Zf9 x16 x17 x18 b0 b1 z2B z2R z3A z3c z3g ox16 zB z2r zJ zaf z1q r (h : Z8L x16 x17 x18 z2B z2R z3A z3c z3g = some r) := Z1d h b0 b1 ox16 zB z2r zJ zaf z1q
def Zfj (x0 x1 : Z1b) : Option (Bool) := pick fun r => ∀ (z17 zat : Own), RRun (ZW) (EE 26 [(pA_ (Z4j x0 z17)), (pA_ (Z4j x1 zat))] []) r
def Zxb x0 x1 z17 zat r (h : Zfj x0 x1 = some r) := Z1d h z17 zat
def ZcH (x5 : Int) (b0 b1 : Z1b) : Option (Bool) := pick fun r => ∀ (zB z2r : Own), RRun (ZW) (Zsy 0 (.ptr 0 0) (.ptr 1 0) (iv x5) [(Z1P b0 zB), (Z1P b1 z2r)]) r
def Zlc x5 b0 b1 zB z2r r (h : ZcH x5 b0 b1 = some r) := Z1d h zB z2r
end Go.Proofs.YteoeggbihfnbfaaGreatDoor.N2
end
