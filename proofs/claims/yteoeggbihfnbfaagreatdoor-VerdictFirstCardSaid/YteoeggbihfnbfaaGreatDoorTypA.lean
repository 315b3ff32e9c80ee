/- The functions, read typed: their types, and what they stand for. No condition. -/
import Derived.Test.YteoeggbihfnbfaaGreatDoorSim
import Derived.Test.YteoeggbihfnbfaaGreatDoorEqs

noncomputable section
set_option linter.unusedSimpArgs false
set_option linter.unusedVariables false
namespace Go.Proofs.YteoeggbihfnbfaaGreatDoor.N2
open Go Go.Abs
set_option linter.unusedVariables false
set_option maxRecDepth 100000
structure Zw where
 ID : Int
 Priority : Int
 Action : Int
 Scope : Int
 Pattern : ByteArray
 deriving Inhabited
def Z5U (a : Zw) : List PV := [(eI .i64) a.ID, (eI .i64) a.Priority, (eI .i64) a.Action, (eI .i64) a.Scope, eS a.Pattern]
def ZD (a : Zw) : PV := .agg (Z5U a)
def Z1J (a : Zw) : List PV := [(eI .i64) a.ID, (eI .i64) a.Priority, (eI .i64) a.Action, (eI .i64) a.Scope, eS a.Pattern]
def Z1v (a : Zw) : Row := [.p ((eI .i64) a.ID), .p ((eI .i64) a.Priority), .p ((eI .i64) a.Action), .p ((eI .i64) a.Scope), .p (eS a.Pattern)]
theorem Zq5 {a b : Zw} (h : Z5U a = Z5U b) : a = b := by
 have h0 : a.ID = b.ID := Z5s _ _ (congrArg (fun l => l.getD 0 .junk) h)
 have h1 : a.Priority = b.Priority := Z5s _ _ (congrArg (fun l => l.getD 1 .junk) h)
 have h2 : a.Action = b.Action := Z5s _ _ (congrArg (fun l => l.getD 2 .junk) h)
 have h3 : a.Scope = b.Scope := Z5s _ _ (congrArg (fun l => l.getD 3 .junk) h)
 have h4 : a.Pattern = b.Pattern := ZAN _ _ (congrArg (fun l => l.getD 4 .junk) h)
 cases a; cases b
 cases h0
 cases h1
 cases h2
 cases h3
 cases h4
 rfl
theorem Zq7 (a b : Zw) (h : ZD a = ZD b) : a = b := Zq5 (congrArg pC h)
structure ZC where
 Default : Int
 Closed : Int
 Fuel : Int
 Stack : Int
 Rules : (List Zw)
 deriving Inhabited
def Zky (a : ZC) : List PV := [(eI .i64) a.Default, (eI .i64) a.Closed, (eI .i64) a.Fuel, (eI .i64) a.Stack, (eL ZD) a.Rules]
def Z1w (a : ZC) (o0 : Own) : List PV := [(eI .i64) a.Default, (eI .i64) a.Closed, (eI .i64) a.Fuel, (eI .i64) a.Stack, .lst o0 (a.Rules.map ZD)]
def Zx (a : ZC) (o0 : Own) : Row := [.p ((eI .i64) a.Default), .p ((eI .i64) a.Closed), .p ((eI .i64) a.Fuel), .p ((eI .i64) a.Stack), .p (.lst o0 (a.Rules.map ZD))]
theorem Zk8 {a b : ZC} (h : Zky a = Zky b) : a = b := by
 have h0 : a.Default = b.Default := Z5s _ _ (congrArg (fun l => l.getD 0 .junk) h)
 have h1 : a.Closed = b.Closed := Z5s _ _ (congrArg (fun l => l.getD 1 .junk) h)
 have h2 : a.Fuel = b.Fuel := Z5s _ _ (congrArg (fun l => l.getD 2 .junk) h)
 have h3 : a.Stack = b.Stack := Z5s _ _ (congrArg (fun l => l.getD 3 .junk) h)
 have h4 : a.Rules = b.Rules := (ZAM Zq7) _ _ (congrArg (fun l => l.getD 4 .junk) h)
 cases a; cases b
 cases h0
 cases h1
 cases h2
 cases h3
 cases h4
 rfl
structure ZO where
 Code : Int
 Rule : Int
 At : Int
 deriving Inhabited
def Zhd (a : ZO) : List PV := [(eI .i64) a.Code, (eI .i64) a.Rule, (eI .i64) a.At]
def Z1u (a : ZO) : List PV := [(eI .i64) a.Code, (eI .i64) a.Rule, (eI .i64) a.At]
def ZY (a : ZO) : Row := [.p ((eI .i64) a.Code), .p ((eI .i64) a.Rule), .p ((eI .i64) a.At)]
theorem Ze0 {a b : ZO} (h : Zhd a = Zhd b) : a = b := by
 have h0 : a.Code = b.Code := Z5s _ _ (congrArg (fun l => l.getD 0 .junk) h)
 have h1 : a.Rule = b.Rule := Z5s _ _ (congrArg (fun l => l.getD 1 .junk) h)
 have h2 : a.At = b.At := Z5s _ _ (congrArg (fun l => l.getD 2 .junk) h)
 cases a; cases b
 cases h0
 cases h1
 cases h2
 rfl
structure Zc where
 Lo : Int
 Hi : Int
 deriving Inhabited
def Z7V (a : Zc) : List PV := [(eI .i64) a.Lo, (eI .i64) a.Hi]
def Zz (a : Zc) : PV := .agg (Z7V a)
def ZW (a : Zc) : List PV := [(eI .i64) a.Lo, (eI .i64) a.Hi]
def Z2w (a : Zc) : Row := [.p ((eI .i64) a.Lo), .p ((eI .i64) a.Hi)]
theorem Zhc {a b : Zc} (h : Z7V a = Z7V b) : a = b := by
 have h0 : a.Lo = b.Lo := Z5s _ _ (congrArg (fun l => l.getD 0 .junk) h)
 have h1 : a.Hi = b.Hi := Z5s _ _ (congrArg (fun l => l.getD 1 .junk) h)
 cases a; cases b
 cases h0
 cases h1
 rfl
theorem Z3K (a b : Zc) (h : Zz a = Zz b) : a = b := Zhc (congrArg pC h)
structure Z7 where
 Kind : Int
 Lo : Int
 Hi : Int
 Mode : Int
 Ref : Int
 Set : (List Zc)
 Kids : (List Z7)
instance : Inhabited Z7 := ⟨⟨default, default, default, default, default, default, default⟩⟩
mutual
def ZR : Z7 → PV
 | ⟨Kind_, Lo_, Hi_, Mode_, Ref_, Set_, Kids_⟩ => .agg [(eI .i64) Kind_, (eI .i64) Lo_, (eI .i64) Hi_, (eI .i64) Mode_, (eI .i64) Ref_, (eL Zz) Set_, .lst .sh (Z64 Kids_)]
def Z64 : List Z7 → List PV
 | [] => []
 | x :: r => ZR x :: Z64 r
end
theorem Zi7 : ∀ l, Z64 l = l.map ZR
 | [] => rfl
 | x :: r => by rw [Z64, Zi7 r]; rfl
def Z2V (a : Z7) : List PV := [(eI .i64) a.Kind, (eI .i64) a.Lo, (eI .i64) a.Hi, (eI .i64) a.Mode, (eI .i64) a.Ref, (eL Zz) a.Set, (eL ZR) a.Kids]
theorem Z4W (a : Z7) : ZR a = .agg (Z2V a) := by
 cases a; rw [ZR, Zi7]; rfl
theorem Z6c (a : Z7) : Z2k (ZR a) = Z2V a := by rw [Z4W]; rfl
theorem ZlY (a : Z7) : (Z2k (ZR a)).length = 7 := by rw [Z4W]; rfl
def ZG (a : Z7) (o0 o1 : Own) : List PV := [(eI .i64) a.Kind, (eI .i64) a.Lo, (eI .i64) a.Hi, (eI .i64) a.Mode, (eI .i64) a.Ref, .lst o0 (a.Set.map Zz), .lst o1 (a.Kids.map ZR)]
def Zq (a : Z7) (o0 o1 : Own) : Row := [.p ((eI .i64) a.Kind), .p ((eI .i64) a.Lo), .p ((eI .i64) a.Hi), .p ((eI .i64) a.Mode), .p ((eI .i64) a.Ref), .p (.lst o0 (a.Set.map Zz)), .p (.lst o1 (a.Kids.map ZR))]
mutual
theorem Zi6 : ∀ a b : Z7, ZR a = ZR b → a = b
 | ⟨Kind_, Lo_, Hi_, Mode_, Ref_, Set_, Kids_⟩, ⟨Kind_2, Lo_2, Hi_2, Mode_2, Ref_2, Set_2, Kids_2⟩, h => by
  rw [ZR, ZR] at h
  have h0 : Kind_ = Kind_2 := Z5s _ _ (congrArg (fun l => (pC l).getD 0 .junk) h)
  have h1 : Lo_ = Lo_2 := Z5s _ _ (congrArg (fun l => (pC l).getD 1 .junk) h)
  have h2 : Hi_ = Hi_2 := Z5s _ _ (congrArg (fun l => (pC l).getD 2 .junk) h)
  have h3 : Mode_ = Mode_2 := Z5s _ _ (congrArg (fun l => (pC l).getD 3 .junk) h)
  have h4 : Ref_ = Ref_2 := Z5s _ _ (congrArg (fun l => (pC l).getD 4 .junk) h)
  have h5 : Set_ = Set_2 := (ZAM Z3K) _ _ (congrArg (fun l => (pC l).getD 5 .junk) h)
  have h6 : Kids_ = Kids_2 := Zhe Kids_ Kids_2 (congrArg (fun l => pL ((pC l).getD 6 .junk)) h)
  subst h0
  subst h1
  subst h2
  subst h3
  subst h4
  subst h5
  subst h6
  rfl
theorem Zhe : ∀ a b : List Z7, Z64 a = Z64 b → a = b
 | [], [], _ => rfl
 | [], _ :: _, h => by simp [Z64] at h
 | _ :: _, [], h => by simp [Z64] at h
 | x :: r, y :: t, h => by
  simp only [Z64, List.cons.injEq] at h
  rw [Zi6 x y h.1, Zhe r t h.2]
end
theorem Z41 {a b : Z7} (h : Z2V a = Z2V b) : a = b := Zi6 a b (by rw [Z4W, Z4W, h])
structure ZS where
 Root : Z7
 Groups : Int
 Fold : Bool
 deriving Inhabited
def Zjb (a : ZS) : List PV := [(eI .i64) a.Root.Kind, (eI .i64) a.Root.Lo, (eI .i64) a.Root.Hi, (eI .i64) a.Root.Mode, (eI .i64) a.Root.Ref, (eL Zz) a.Root.Set, (eL ZR) a.Root.Kids, (eI .i64) a.Groups, eB a.Fold]
def Z2Z (a : ZS) (o0 o1 : Own) : List PV := [(eI .i64) a.Root.Kind, (eI .i64) a.Root.Lo, (eI .i64) a.Root.Hi, (eI .i64) a.Root.Mode, (eI .i64) a.Root.Ref, .lst o0 (a.Root.Set.map Zz), .lst o1 (a.Root.Kids.map ZR), (eI .i64) a.Groups, eB a.Fold]
def ZT (a : ZS) (o0 o1 : Own) : Row := [.p ((eI .i64) a.Root.Kind), .p ((eI .i64) a.Root.Lo), .p ((eI .i64) a.Root.Hi), .p ((eI .i64) a.Root.Mode), .p ((eI .i64) a.Root.Ref), .p (.lst o0 (a.Root.Set.map Zz)), .p (.lst o1 (a.Root.Kids.map ZR)), .p ((eI .i64) a.Groups), .p (eB a.Fold)]
theorem Zmi {a b : ZS} (h : Zjb a = Zjb b) : a = b := by
 have h0 : a.Root = b.Root := Z41 (congrArg (fun l => (l.drop 0).take 7) h)
 have h1 : a.Groups = b.Groups := Z5s _ _ (congrArg (fun l => l.getD 7 .junk) h)
 have h2 : a.Fold = b.Fold := Zjc _ _ (congrArg (fun l => l.getD 8 .junk) h)
 cases a; cases b
 cases h0
 cases h1
 cases h2
 rfl
structure Zl where
 Code : Int
 At : Int
 deriving Inhabited
def Zlc (a : Zl) : List PV := [(eI .i64) a.Code, (eI .i64) a.At]
def Z5e (a : Zl) : List PV := [(eI .i64) a.Code, (eI .i64) a.At]
def Z1A (a : Zl) : Row := [.p ((eI .i64) a.Code), .p ((eI .i64) a.At)]
theorem Zo4 {a b : Zl} (h : Zlc a = Zlc b) : a = b := by
 have h0 : a.Code = b.Code := Z5s _ _ (congrArg (fun l => l.getD 0 .junk) h)
 have h1 : a.At = b.At := Z5s _ _ (congrArg (fun l => l.getD 1 .junk) h)
 cases a; cases b
 cases h0
 cases h1
 rfl
structure Zv where
 group : Int
 at_ : Int
 deriving Inhabited
def ZbB (a : Zv) : List PV := [(eI .i64) a.group, (eI .i64) a.at_]
def Z2H (a : Zv) : PV := .agg (ZbB a)
def ZeV (a : Zv) : List PV := [(eI .i64) a.group, (eI .i64) a.at_]
def ZeX (a : Zv) : Row := [.p ((eI .i64) a.group), .p ((eI .i64) a.at_)]
theorem Zmj {a b : Zv} (h : ZbB a = ZbB b) : a = b := by
 have h0 : a.group = b.group := Z5s _ _ (congrArg (fun l => l.getD 0 .junk) h)
 have h1 : a.at_ = b.at_ := Z5s _ _ (congrArg (fun l => l.getD 1 .junk) h)
 cases a; cases b
 cases h0
 cases h1
 rfl
theorem Z7t (a b : Zv) (h : Z2H a = Z2H b) : a = b := Zmj (congrArg pC h)
structure Zm where
 b : (List Int)
 at_ : Int
 groups : Int
 deep : Int
 refs : (List Zv)
 fault : Zl
 deriving Inhabited
def ZrJ (a : Zm) (o0 o1 : Own) : List PV := [.lst o0 (a.b.map (eI .u8)), (eI .i64) a.at_, (eI .i64) a.groups, (eI .i64) a.deep, .lst o1 (a.refs.map Z2H), (eI .i64) a.fault.Code, (eI .i64) a.fault.At]
def Zk (a : Zm) (o0 o1 : Own) : Row := [.p (.lst o0 (a.b.map (eI .u8))), .p ((eI .i64) a.at_), .p ((eI .i64) a.groups), .p ((eI .i64) a.deep), .p (.lst o1 (a.refs.map Z2H)), .p ((eI .i64) a.fault.Code), .p ((eI .i64) a.fault.At)]
structure ZU where
 Default : Int
 Closed : Int
 Fuel : Int
 Stack : Int
 Put : (List Zw)
 Drop : (List Int)
 deriving Inhabited
def Z4B (a : ZU) (o0 o1 : Own) : List PV := [(eI .i64) a.Default, (eI .i64) a.Closed, (eI .i64) a.Fuel, (eI .i64) a.Stack, .lst o0 (a.Put.map ZD), .lst o1 (a.Drop.map (eI .i64))]
def ZN (a : ZU) (o0 o1 : Own) : Row := [.p ((eI .i64) a.Default), .p ((eI .i64) a.Closed), .p ((eI .i64) a.Fuel), .p ((eI .i64) a.Stack), .p (.lst o0 (a.Put.map ZD)), .p (.lst o1 (a.Drop.map (eI .i64)))]
structure S91 where
 c0 : (List Zw)
 c1 : (List Zw)
 deriving Inhabited
def ZeA (a : S91) (o0 o1 : Own) : List PV := [.lst o0 (a.c0.map ZD), .lst o1 (a.c1.map ZD)]
end Go.Proofs.YteoeggbihfnbfaaGreatDoor.N2
end
noncomputable section
set_option linter.unusedSimpArgs false
set_option linter.unusedVariables false
namespace Go.Proofs.YteoeggbihfnbfaaGreatDoor.N2
open Go Go.Abs
set_option linter.unusedVariables false
set_option maxRecDepth 100000
abbrev Zch  : (ZC) → Res → Prop := fun r q => ∃ (ex : List Row), q = ((.p (.agg (Z1w r .sh))), ex)
theorem Zs7  : ∀ a b q, Zch  a q → Zch  b q → a = b := by
 rintro a b q ⟨_, e1⟩ ⟨_, e2⟩
 have e := e1.symm.trans e2
 exact Zk8 (congrArg (fun q : Res => pC (pA q.1)) e)
abbrev Z5h (zn : List Int) (zb zh : Int) (zj : List Zv) (z2 z6 : Int) (zp zd : Own) : (Bool × Int) → Res → Prop := fun r q => ∃ (ex : List Row), q = ((bv r.1), [(Zk (Zm.mk zn r.2 zb zh zj (Zl.mk z2 z6)) zp zd)] ++ ex)
theorem Zl6 (zn : List Int) (zb zh : Int) (zj : List Zv) (z2 z6 : Int) (zp zd : Own) : ∀ a b q, Z5h zn zb zh zj z2 z6 zp zd a q → Z5h zn zb zh zj z2 z6 zp zd b q → a = b := by
 rintro a b q ⟨_, e1⟩ ⟨_, e2⟩
 have e := e1.symm.trans e2
 exact Prod.ext (congrArg (fun q : Res => pB (pA q.1)) e) (congrArg (fun q : Res => pI (pA (cellAt q 0 1))) e)
abbrev Z74  : (Int × Int) → Res → Prop := fun r q => ∃ (ex : List Row), q = ((.p (.tup [(.v (.int .i32 r.1)), (.v (.int .i64 r.2))])), ex)
theorem Zha  : ∀ a b q, Z74  a q → Z74  b q → a = b := by
 rintro a b q ⟨_, e1⟩ ⟨_, e2⟩
 have e := e1.symm.trans e2
 exact Prod.ext (congrArg (fun q : Res => pI ((pT (pA q.1)).getD 0 .junk)) e) (congrArg (fun q : Res => pI ((pT (pA q.1)).getD 1 .junk)) e)
abbrev Z86  : (Int × Int) → Res → Prop := fun r q => ∃ (ex : List Row), q = ((.p (.tup [(.v (.int .i64 r.1)), (.v (.int .i64 r.2))])), ex)
theorem Zuo  : ∀ a b q, Z86  a q → Z86  b q → a = b := by
 rintro a b q ⟨_, e1⟩ ⟨_, e2⟩
 have e := e1.symm.trans e2
 exact Prod.ext (congrArg (fun q : Res => pI ((pT (pA q.1)).getD 0 .junk)) e) (congrArg (fun q : Res => pI ((pT (pA q.1)).getD 1 .junk)) e)
abbrev Z6s (b0 : Zm) (zp zd : Own) : (Int) → Res → Prop := fun r q => ∃ (ex : List Row), q = ((iv r), [(Zk b0 zp zd)] ++ ex)
theorem Zl4 (b0 : Zm) (zp zd : Own) : ∀ a b q, Z6s b0 zp zd a q → Z6s b0 zp zd b q → a = b := by
 rintro a b q ⟨_, e1⟩ ⟨_, e2⟩
 have e := e1.symm.trans e2
 exact congrArg (fun q : Res => pI (pA q.1)) e
abbrev Z9d  : (Z7) → Res → Prop := fun r q => ∃ (ex : List Row), q = ((.p (.agg (ZG r .sh .sh))), ex)
theorem Zq3  : ∀ a b q, Z9d  a q → Z9d  b q → a = b := by
 rintro a b q ⟨_, e1⟩ ⟨_, e2⟩
 have e := e1.symm.trans e2
 exact Z41 (congrArg (fun q : Res => pC (pA q.1)) e)
abbrev Z7I (zn : List Int) (zb zh : Int) (zj : List Zv) (z2 z6 : Int) (zp zd : Own) : (Int × Int) → Res → Prop := fun r q => ∃ (ex : List Row), q = ((iv r.1), [(Zk (Zm.mk zn r.2 zb zh zj (Zl.mk z2 z6)) zp zd)] ++ ex)
theorem Zl5 (zn : List Int) (zb zh : Int) (zj : List Zv) (z2 z6 : Int) (zp zd : Own) : ∀ a b q, Z7I zn zb zh zj z2 z6 zp zd a q → Z7I zn zb zh zj z2 z6 zp zd b q → a = b := by
 rintro a b q ⟨_, e1⟩ ⟨_, e2⟩
 have e := e1.symm.trans e2
 exact Prod.ext (congrArg (fun q : Res => pI (pA q.1)) e) (congrArg (fun q : Res => pI (pA (cellAt q 0 1))) e)
abbrev ZdU  : (Zc) → Res → Prop := fun r q => ∃ (ex : List Row), q = ((.p (.agg (ZW r))), ex)
theorem Zul  : ∀ a b q, ZdU  a q → ZdU  b q → a = b := by
 rintro a b q ⟨_, e1⟩ ⟨_, e2⟩
 have e := e1.symm.trans e2
 exact Zhc (congrArg (fun q : Res => pC (pA q.1)) e)
abbrev Z7H  : (Bool) → Res → Prop := fun r q => ∃ (ex : List Row), q = ((bv r), ex)
theorem Zl1  : ∀ a b q, Z7H  a q → Z7H  b q → a = b := by
 rintro a b q ⟨_, e1⟩ ⟨_, e2⟩
 have e := e1.symm.trans e2
 exact congrArg (fun q : Res => pB (pA q.1)) e
abbrev ZaR  : (Bool) → Res → Prop := fun r q => ∃ (ex : List Row), q = ((bv r), ex)
theorem Zq0  : ∀ a b q, ZaR  a q → ZaR  b q → a = b := by
 rintro a b q ⟨_, e1⟩ ⟨_, e2⟩
 have e := e1.symm.trans e2
 exact congrArg (fun q : Res => pB (pA q.1)) e
abbrev Z2c  : (Int) → Res → Prop := fun r q => ∃ (ex : List Row), q = ((iv r), ex)
theorem Za6  : ∀ a b q, Z2c  a q → Z2c  b q → a = b := by
 rintro a b q ⟨_, e1⟩ ⟨_, e2⟩
 have e := e1.symm.trans e2
 exact congrArg (fun q : Res => pI (pA q.1)) e
abbrev Z44  : (Bool) → Res → Prop := fun r q => ∃ (ex : List Row), q = ((bv r), ex)
theorem ZdX  : ∀ a b q, Z44  a q → Z44  b q → a = b := by
 rintro a b q ⟨_, e1⟩ ⟨_, e2⟩
 have e := e1.symm.trans e2
 exact congrArg (fun q : Res => pB (pA q.1)) e
abbrev ZcS  : (List Zc) → Res → Prop := fun r q => ∃ (ex : List Row), q = ((.p (.lst .sh (r.map Zz))), ex)
theorem Zq2  : ∀ a b q, ZcS  a q → ZcS  b q → a = b := by
 rintro a b q ⟨_, e1⟩ ⟨_, e2⟩
 have e := e1.symm.trans e2
 exact Z3H Z3K (congrArg (fun q : Res => pL (pA q.1)) e)
abbrev ZaQ  : ((List Zc) × Int) → Res → Prop := fun r q => ∃ (ex : List Row), q = ((.p (.tup [(.lst .sh (r.1.map Zz)), (.v (.int .i64 r.2))])), ex)
theorem Zs6  : ∀ a b q, ZaQ  a q → ZaQ  b q → a = b := by
 rintro a b q ⟨_, e1⟩ ⟨_, e2⟩
 have e := e1.symm.trans e2
 exact Prod.ext (Z3H Z3K (congrArg (fun q : Res => pL ((pT (pA q.1)).getD 0 .junk)) e)) (congrArg (fun q : Res => pI ((pT (pA q.1)).getD 1 .junk)) e)
abbrev Z2Q  : (Bool) → Res → Prop := fun r q => ∃ (ex : List Row), q = ((bv r), ex)
theorem Zfr  : ∀ a b q, Z2Q  a q → Z2Q  b q → a = b := by
 rintro a b q ⟨_, e1⟩ ⟨_, e2⟩
 have e := e1.symm.trans e2
 exact congrArg (fun q : Res => pB (pA q.1)) e
abbrev Z3o  : (List Zc) → Res → Prop := fun r q => ∃ (ex : List Row), q = ((.p (.lst .sh (r.map Zz))), ex)
theorem Zi4  : ∀ a b q, Z3o  a q → Z3o  b q → a = b := by
 rintro a b q ⟨_, e1⟩ ⟨_, e2⟩
 have e := e1.symm.trans e2
 exact Z3H Z3K (congrArg (fun q : Res => pL (pA q.1)) e)
abbrev Z8t  : ((List Zc) × Int) → Res → Prop := fun r q => ∃ (ex : List Row), q = ((.p (.tup [(.lst .sh (r.1.map Zz)), (.v (.int .i64 r.2))])), ex)
theorem Zpp  : ∀ a b q, Z8t  a q → Z8t  b q → a = b := by
 rintro a b q ⟨_, e1⟩ ⟨_, e2⟩
 have e := e1.symm.trans e2
 exact Prod.ext (Z3H Z3K (congrArg (fun q : Res => pL ((pT (pA q.1)).getD 0 .junk)) e)) (congrArg (fun q : Res => pI ((pT (pA q.1)).getD 1 .junk)) e)
abbrev ZbW  : (Z7) → Res → Prop := fun r q => ∃ (ex : List Row), q = ((.p (.agg (ZG r .sh .sh))), ex)
theorem Zum  : ∀ a b q, ZbW  a q → ZbW  b q → a = b := by
 rintro a b q ⟨_, e1⟩ ⟨_, e2⟩
 have e := e1.symm.trans e2
 exact Z41 (congrArg (fun q : Res => pC (pA q.1)) e)
abbrev Z6r (zn : List Int) (zb zh : Int) (zj : List Zv) (zp zd : Own) : (Int × Int × Int) → Res → Prop := fun r q => ∃ (ex : List Row), q = ((.p (.tup [])), [(Zk (Zm.mk zn r.1 zb zh zj (Zl.mk r.2.1 r.2.2)) zp zd)] ++ ex)
theorem Zl3 (zn : List Int) (zb zh : Int) (zj : List Zv) (zp zd : Own) : ∀ a b q, Z6r zn zb zh zj zp zd a q → Z6r zn zb zh zj zp zd b q → a = b := by
 rintro a b q ⟨_, e1⟩ ⟨_, e2⟩
 have e := e1.symm.trans e2
 exact Prod.ext (congrArg (fun q : Res => pI (pA (cellAt q 0 1))) e) (Prod.ext (congrArg (fun q : Res => pI (pA (cellAt q 0 5))) e) (congrArg (fun q : Res => pI (pA (cellAt q 0 6))) e))
abbrev Z7y  : (Own × (List Zc)) → Res → Prop := fun r q => ∃ (ex : List Row), q = ((.p (.lst r.1 (r.2.map Zz))), ex)
theorem ZnI  : ∀ a b q, Z7y  a q → Z7y  b q → a = b := by
 rintro a b q ⟨_, e1⟩ ⟨_, e2⟩
 have e := e1.symm.trans e2
 exact Prod.ext (congrArg (fun q : Res => pOwn (pA q.1)) e) (Z3H Z3K (congrArg (fun q : Res => pL (pA q.1)) e))
abbrev Z85  : (Int) → Res → Prop := fun r q => ∃ (ex : List Row), q = ((iv r), ex)
theorem Zuk  : ∀ a b q, Z85  a q → Z85  b q → a = b := by
 rintro a b q ⟨_, e1⟩ ⟨_, e2⟩
 have e := e1.symm.trans e2
 exact congrArg (fun q : Res => pI (pA q.1)) e
abbrev Z8I (z1p : Int) : (Bool) → Res → Prop := fun r q => ∃ (ex : List Row), q = ((bv r), [[(iv z1p)]] ++ ex)
theorem ZnH (z1p : Int) : ∀ a b q, Z8I z1p a q → Z8I z1p b q → a = b := by
 rintro a b q ⟨_, e1⟩ ⟨_, e2⟩
 have e := e1.symm.trans e2
 exact congrArg (fun q : Res => pB (pA q.1)) e
abbrev Z2b (z1p : Int) : (Int) → Res → Prop := fun r q => ∃ (ex : List Row), q = ((iv r), [[(iv z1p)]] ++ ex)
theorem Za5 (z1p : Int) : ∀ a b q, Z2b z1p a q → Z2b z1p b q → a = b := by
 rintro a b q ⟨_, e1⟩ ⟨_, e2⟩
 have e := e1.symm.trans e2
 exact congrArg (fun q : Res => pI (pA q.1)) e
abbrev Z43 (z1p : Int) : (Bool) → Res → Prop := fun r q => ∃ (ex : List Row), q = ((bv r), [[(iv z1p)]] ++ ex)
theorem ZdW (z1p : Int) : ∀ a b q, Z43 z1p a q → Z43 z1p b q → a = b := by
 rintro a b q ⟨_, e1⟩ ⟨_, e2⟩
 have e := e1.symm.trans e2
 exact congrArg (fun q : Res => pB (pA q.1)) e
abbrev Za3  : (Bool) → Res → Prop := fun r q => ∃ (ex : List Row), q = ((bv r), ex)
theorem Zpo  : ∀ a b q, Za3  a q → Za3  b q → a = b := by
 rintro a b q ⟨_, e1⟩ ⟨_, e2⟩
 have e := e1.symm.trans e2
 exact congrArg (fun q : Res => pB (pA q.1)) e
abbrev Z4P (zn : List Int) (zb zh : Int) (zj : List Zv) (zp zd : Own) : (Int × Int × Int × Int) → Res → Prop := fun r q => ∃ (ex : List Row), q = ((iv r.1), [(Zk (Zm.mk zn r.2.1 zb zh zj (Zl.mk r.2.2.1 r.2.2.2)) zp zd)] ++ ex)
theorem Zkw (zn : List Int) (zb zh : Int) (zj : List Zv) (zp zd : Own) : ∀ a b q, Z4P zn zb zh zj zp zd a q → Z4P zn zb zh zj zp zd b q → a = b := by
 rintro a b q ⟨_, e1⟩ ⟨_, e2⟩
 have e := e1.symm.trans e2
 exact Prod.ext (congrArg (fun q : Res => pI (pA q.1)) e) (Prod.ext (congrArg (fun q : Res => pI (pA (cellAt q 0 1))) e) (Prod.ext (congrArg (fun q : Res => pI (pA (cellAt q 0 5))) e) (congrArg (fun q : Res => pI (pA (cellAt q 0 6))) e)))
abbrev Z3W (zn : List Int) (zb zh : Int) (zp : Own) : (Z7 × Int × (List Zv) × Int × Int) → Res → Prop := fun r q => ∃ (p0_4 : Own) (ex : List Row), ZL p0_4 = true ∧ q = ((.p (.agg (ZG r.1 .sh .sh))), [(Zk (Zm.mk zn r.2.1 zb zh r.2.2.1 (Zl.mk r.2.2.2.1 r.2.2.2.2)) zp p0_4)] ++ ex)
theorem ZjG (zn : List Int) (zb zh : Int) (zp : Own) : ∀ a b q, Z3W zn zb zh zp a q → Z3W zn zb zh zp b q → a = b := by
 rintro a b q ⟨_, _, _, e1⟩ ⟨_, _, _, e2⟩
 have e := e1.symm.trans e2
 exact Prod.ext (Z41 (congrArg (fun q : Res => pC (pA q.1)) e)) (Prod.ext (congrArg (fun q : Res => pI (pA (cellAt q 0 1))) e) (Prod.ext (Z3H Z7t (congrArg (fun q : Res => pL (pA (cellAt q 0 4))) e)) (Prod.ext (congrArg (fun q : Res => pI (pA (cellAt q 0 5))) e) (congrArg (fun q : Res => pI (pA (cellAt q 0 6))) e))))
abbrev Z3X (zn : List Int) (zb zh : Int) (zj : List Zv) (zp zd : Own) : (Int × (Own × (List Zc)) × Bool × Int × Int × Int) → Res → Prop := fun r q => ∃ (ex : List Row), q = ((.p (.tup [(.v (.int .i64 r.1)), (.lst r.2.1.1 (r.2.1.2.map Zz)), (.v (.bool r.2.2.1))])), [(Zk (Zm.mk zn r.2.2.2.1 zb zh zj (Zl.mk r.2.2.2.2.1 r.2.2.2.2.2)) zp zd)] ++ ex)
theorem ZjH (zn : List Int) (zb zh : Int) (zj : List Zv) (zp zd : Own) : ∀ a b q, Z3X zn zb zh zj zp zd a q → Z3X zn zb zh zj zp zd b q → a = b := by
 rintro a b q ⟨_, e1⟩ ⟨_, e2⟩
 have e := e1.symm.trans e2
 exact Prod.ext (congrArg (fun q : Res => pI ((pT (pA q.1)).getD 0 .junk)) e) (Prod.ext (Prod.ext (congrArg (fun q : Res => pOwn ((pT (pA q.1)).getD 1 .junk)) e) (Z3H Z3K (congrArg (fun q : Res => pL ((pT (pA q.1)).getD 1 .junk)) e))) (Prod.ext (congrArg (fun q : Res => pB ((pT (pA q.1)).getD 2 .junk)) e) (Prod.ext (congrArg (fun q : Res => pI (pA (cellAt q 0 1))) e) (Prod.ext (congrArg (fun q : Res => pI (pA (cellAt q 0 5))) e) (congrArg (fun q : Res => pI (pA (cellAt q 0 6))) e)))))
abbrev Z8u  : (List Zc) → Res → Prop := fun r q => ∃ (ex : List Row), q = ((.p (.lst .sh (r.map Zz))), ex)
theorem ZjK  : ∀ a b q, Z8u  a q → Z8u  b q → a = b := by
 rintro a b q ⟨_, e1⟩ ⟨_, e2⟩
 have e := e1.symm.trans e2
 exact Z3H Z3K (congrArg (fun q : Res => pL (pA q.1)) e)
abbrev Z7U  : ((List Zc) × Int) → Res → Prop := fun r q => ∃ (ex : List Row), q = ((.p (.tup [(.lst .sh (r.1.map Zz)), (.v (.int .i64 r.2))])), ex)
theorem Zq1  : ∀ a b q, Z7U  a q → Z7U  b q → a = b := by
 rintro a b q ⟨_, e1⟩ ⟨_, e2⟩
 have e := e1.symm.trans e2
 exact Prod.ext (Z3H Z3K (congrArg (fun q : Res => pL ((pT (pA q.1)).getD 0 .junk)) e)) (congrArg (fun q : Res => pI ((pT (pA q.1)).getD 1 .junk)) e)
abbrev Z6v  : (List Zc) → Res → Prop := fun r q => ∃ (p0_0 : Own) (ex : List Row), q = ((.p (.tup [])), [[(.p (.lst p0_0 (r.map Zz)))]] ++ ex)
theorem Zj7  : ∀ a b q, Z6v  a q → Z6v  b q → a = b := by
 rintro a b q ⟨_, _, e1⟩ ⟨_, _, e2⟩
 have e := e1.symm.trans e2
 exact Z3H Z3K (congrArg (fun q : Res => pL (pA (cellAt q 0 0))) e)
abbrev Z1L (zn : List Int) (zb zh : Int) (zj : List Zv) (zp zd : Own) : (Z7 × Int × Int × Int) → Res → Prop := fun r q => ∃ (ex : List Row), q = ((.p (.agg (ZG r.1 .sh .sh))), [(Zk (Zm.mk zn r.2.1 zb zh zj (Zl.mk r.2.2.1 r.2.2.2)) zp zd)] ++ ex)
theorem ZdV (zn : List Int) (zb zh : Int) (zj : List Zv) (zp zd : Own) : ∀ a b q, Z1L zn zb zh zj zp zd a q → Z1L zn zb zh zj zp zd b q → a = b := by
 rintro a b q ⟨_, e1⟩ ⟨_, e2⟩
 have e := e1.symm.trans e2
 exact Prod.ext (Z41 (congrArg (fun q : Res => pC (pA q.1)) e)) (Prod.ext (congrArg (fun q : Res => pI (pA (cellAt q 0 1))) e) (Prod.ext (congrArg (fun q : Res => pI (pA (cellAt q 0 5))) e) (congrArg (fun q : Res => pI (pA (cellAt q 0 6))) e)))
abbrev ZbK  : (List ByteArray) → Res → Prop := fun r q => ∃ (ex : List Row), q = ((.p (.lst .sh (r.map eS))), ex)
theorem ZqY  : ∀ a b q, ZbK  a q → ZbK  b q → a = b := by
 rintro a b q ⟨_, e1⟩ ⟨_, e2⟩
 have e := e1.symm.trans e2
 exact Z3H ZAN (congrArg (fun q : Res => pL (pA q.1)) e)
abbrev Z24 (zn : List Int) (zb zh : Int) (zj : List Zv) (z2 z6 : Int) (zp zd : Own) : (Int × Int) → Res → Prop := fun r q => ∃ (ex : List Row), q = ((iv r.1), [(Zk (Zm.mk zn r.2 zb zh zj (Zl.mk z2 z6)) zp zd)] ++ ex)
theorem Z9T (zn : List Int) (zb zh : Int) (zj : List Zv) (z2 z6 : Int) (zp zd : Own) : ∀ a b q, Z24 zn zb zh zj z2 z6 zp zd a q → Z24 zn zb zh zj z2 z6 zp zd b q → a = b := by
 rintro a b q ⟨_, e1⟩ ⟨_, e2⟩
 have e := e1.symm.trans e2
 exact Prod.ext (congrArg (fun q : Res => pI (pA q.1)) e) (congrArg (fun q : Res => pI (pA (cellAt q 0 1))) e)
abbrev Z3j (zn : List Int) (zp : Own) : (Z7 × Bool × Int × Int × Int × (List Zv) × Int × Int) → Res → Prop := fun r q => ∃ (p0_4 : Own) (ex : List Row), ZL p0_4 = true ∧ q = ((.p (.tup [(.agg (ZG r.1 .sh .sh)), (.v (.bool r.2.1))])), [(Zk (Zm.mk zn r.2.2.1 r.2.2.2.1 r.2.2.2.2.1 r.2.2.2.2.2.1 (Zl.mk r.2.2.2.2.2.2.1 r.2.2.2.2.2.2.2)) zp p0_4)] ++ ex)
theorem Zkv (zn : List Int) (zp : Own) : ∀ a b q, Z3j zn zp a q → Z3j zn zp b q → a = b := by
 rintro a b q ⟨_, _, _, e1⟩ ⟨_, _, _, e2⟩
 have e := e1.symm.trans e2
 exact Prod.ext (Z41 (congrArg (fun q : Res => pC ((pT (pA q.1)).getD 0 .junk)) e)) (Prod.ext (congrArg (fun q : Res => pB ((pT (pA q.1)).getD 1 .junk)) e) (Prod.ext (congrArg (fun q : Res => pI (pA (cellAt q 0 1))) e) (Prod.ext (congrArg (fun q : Res => pI (pA (cellAt q 0 2))) e) (Prod.ext (congrArg (fun q : Res => pI (pA (cellAt q 0 3))) e) (Prod.ext (Z3H Z7t (congrArg (fun q : Res => pL (pA (cellAt q 0 4))) e)) (Prod.ext (congrArg (fun q : Res => pI (pA (cellAt q 0 5))) e) (congrArg (fun q : Res => pI (pA (cellAt q 0 6))) e)))))))
abbrev Z6q (zn : List Int) (zp : Own) : (Z7 × Bool × Int × Int × Int × (List Zv) × Int × Int) → Res → Prop := fun r q => ∃ (p0_4 : Own) (ex : List Row), ZL p0_4 = true ∧ q = ((.p (.tup [(.agg (ZG r.1 .sh .sh)), (.v (.bool r.2.1))])), [(Zk (Zm.mk zn r.2.2.1 r.2.2.2.1 r.2.2.2.2.1 r.2.2.2.2.2.1 (Zl.mk r.2.2.2.2.2.2.1 r.2.2.2.2.2.2.2)) zp p0_4)] ++ ex)
theorem Zl2 (zn : List Int) (zp : Own) : ∀ a b q, Z6q zn zp a q → Z6q zn zp b q → a = b := by
 rintro a b q ⟨_, _, _, e1⟩ ⟨_, _, _, e2⟩
 have e := e1.symm.trans e2
 exact Prod.ext (Z41 (congrArg (fun q : Res => pC ((pT (pA q.1)).getD 0 .junk)) e)) (Prod.ext (congrArg (fun q : Res => pB ((pT (pA q.1)).getD 1 .junk)) e) (Prod.ext (congrArg (fun q : Res => pI (pA (cellAt q 0 1))) e) (Prod.ext (congrArg (fun q : Res => pI (pA (cellAt q 0 2))) e) (Prod.ext (congrArg (fun q : Res => pI (pA (cellAt q 0 3))) e) (Prod.ext (Z3H Z7t (congrArg (fun q : Res => pL (pA (cellAt q 0 4))) e)) (Prod.ext (congrArg (fun q : Res => pI (pA (cellAt q 0 5))) e) (congrArg (fun q : Res => pI (pA (cellAt q 0 6))) e)))))))
abbrev Z3b (zn : List Int) (zb zh : Int) (zj : List Zv) (z2 z6 : Int) (zp zd : Own) : (Int × Int) → Res → Prop := fun r q => ∃ (ex : List Row), q = ((iv r.1), [(Zk (Zm.mk zn r.2 zb zh zj (Zl.mk z2 z6)) zp zd)] ++ ex)
theorem Zds (zn : List Int) (zb zh : Int) (zj : List Zv) (z2 z6 : Int) (zp zd : Own) : ∀ a b q, Z3b zn zb zh zj z2 z6 zp zd a q → Z3b zn zb zh zj z2 z6 zp zd b q → a = b := by
 rintro a b q ⟨_, e1⟩ ⟨_, e2⟩
 have e := e1.symm.trans e2
 exact Prod.ext (congrArg (fun q : Res => pI (pA q.1)) e) (congrArg (fun q : Res => pI (pA (cellAt q 0 1))) e)
abbrev Z2R (zn : List Int) (zb zh : Int) (zj : List Zv) (zp zd : Own) : (Int × Int × Int × Int × Int) → Res → Prop := fun r q => ∃ (ex : List Row), q = ((.p (.tup [(.v (.int .i64 r.1)), (.v (.int .i64 r.2.1))])), [(Zk (Zm.mk zn r.2.2.1 zb zh zj (Zl.mk r.2.2.2.1 r.2.2.2.2)) zp zd)] ++ ex)
theorem ZjF (zn : List Int) (zb zh : Int) (zj : List Zv) (zp zd : Own) : ∀ a b q, Z2R zn zb zh zj zp zd a q → Z2R zn zb zh zj zp zd b q → a = b := by
 rintro a b q ⟨_, e1⟩ ⟨_, e2⟩
 have e := e1.symm.trans e2
 exact Prod.ext (congrArg (fun q : Res => pI ((pT (pA q.1)).getD 0 .junk)) e) (Prod.ext (congrArg (fun q : Res => pI ((pT (pA q.1)).getD 1 .junk)) e) (Prod.ext (congrArg (fun q : Res => pI (pA (cellAt q 0 1))) e) (Prod.ext (congrArg (fun q : Res => pI (pA (cellAt q 0 5))) e) (congrArg (fun q : Res => pI (pA (cellAt q 0 6))) e))))
abbrev Z3Y (zn : List Int) (zb zh : Int) (zj : List Zv) (zp zd : Own) : (Z7 × Int × Int × Int) → Res → Prop := fun r q => ∃ (ex : List Row), q = ((.p (.agg (ZG r.1 .sh .sh))), [(Zk (Zm.mk zn r.2.1 zb zh zj (Zl.mk r.2.2.1 r.2.2.2)) zp zd)] ++ ex)
theorem ZjI (zn : List Int) (zb zh : Int) (zj : List Zv) (zp zd : Own) : ∀ a b q, Z3Y zn zb zh zj zp zd a q → Z3Y zn zb zh zj zp zd b q → a = b := by
 rintro a b q ⟨_, e1⟩ ⟨_, e2⟩
 have e := e1.symm.trans e2
 exact Prod.ext (Z41 (congrArg (fun q : Res => pC (pA q.1)) e)) (Prod.ext (congrArg (fun q : Res => pI (pA (cellAt q 0 1))) e) (Prod.ext (congrArg (fun q : Res => pI (pA (cellAt q 0 5))) e) (congrArg (fun q : Res => pI (pA (cellAt q 0 6))) e)))
abbrev Z3l (zn : List Int) (zp : Own) : (Z7 × Int × Int × Int × (List Zv) × Int × Int) → Res → Prop := fun r q => ∃ (p0_4 : Own) (ex : List Row), ZL p0_4 = true ∧ q = ((.p (.agg (ZG r.1 .sh .sh))), [(Zk (Zm.mk zn r.2.1 r.2.2.1 r.2.2.2.1 r.2.2.2.2.1 (Zl.mk r.2.2.2.2.2.1 r.2.2.2.2.2.2)) zp p0_4)] ++ ex)
theorem Zft (zn : List Int) (zp : Own) : ∀ a b q, Z3l zn zp a q → Z3l zn zp b q → a = b := by
 rintro a b q ⟨_, _, _, e1⟩ ⟨_, _, _, e2⟩
 have e := e1.symm.trans e2
 exact Prod.ext (Z41 (congrArg (fun q : Res => pC (pA q.1)) e)) (Prod.ext (congrArg (fun q : Res => pI (pA (cellAt q 0 1))) e) (Prod.ext (congrArg (fun q : Res => pI (pA (cellAt q 0 2))) e) (Prod.ext (congrArg (fun q : Res => pI (pA (cellAt q 0 3))) e) (Prod.ext (Z3H Z7t (congrArg (fun q : Res => pL (pA (cellAt q 0 4))) e)) (Prod.ext (congrArg (fun q : Res => pI (pA (cellAt q 0 5))) e) (congrArg (fun q : Res => pI (pA (cellAt q 0 6))) e))))))
abbrev Z3I (zn : List Int) (zp : Own) : (Z7 × Int × Int × Int × (List Zv) × Int × Int) → Res → Prop := fun r q => ∃ (p0_4 : Own) (ex : List Row), ZL p0_4 = true ∧ q = ((.p (.agg (ZG r.1 .sh .sh))), [(Zk (Zm.mk zn r.2.1 r.2.2.1 r.2.2.2.1 r.2.2.2.2.1 (Zl.mk r.2.2.2.2.2.1 r.2.2.2.2.2.2)) zp p0_4)] ++ ex)
theorem Zfs (zn : List Int) (zp : Own) : ∀ a b q, Z3I zn zp a q → Z3I zn zp b q → a = b := by
 rintro a b q ⟨_, _, _, e1⟩ ⟨_, _, _, e2⟩
 have e := e1.symm.trans e2
 exact Prod.ext (Z41 (congrArg (fun q : Res => pC (pA q.1)) e)) (Prod.ext (congrArg (fun q : Res => pI (pA (cellAt q 0 1))) e) (Prod.ext (congrArg (fun q : Res => pI (pA (cellAt q 0 2))) e) (Prod.ext (congrArg (fun q : Res => pI (pA (cellAt q 0 3))) e) (Prod.ext (Z3H Z7t (congrArg (fun q : Res => pL (pA (cellAt q 0 4))) e)) (Prod.ext (congrArg (fun q : Res => pI (pA (cellAt q 0 5))) e) (congrArg (fun q : Res => pI (pA (cellAt q 0 6))) e))))))
abbrev Z3v  : (ZS × Zl) → Res → Prop := fun r q => ∃ (ex : List Row), q = ((.p (.tup [(.agg (Z2Z r.1 .sh .sh)), (.agg (Z5e r.2))])), ex)
theorem Zk7  : ∀ a b q, Z3v  a q → Z3v  b q → a = b := by
 rintro a b q ⟨_, e1⟩ ⟨_, e2⟩
 have e := e1.symm.trans e2
 exact Prod.ext (Zmi (congrArg (fun q : Res => pC ((pT (pA q.1)).getD 0 .junk)) e)) (Zo4 (congrArg (fun q : Res => pC ((pT (pA q.1)).getD 1 .junk)) e))
abbrev ZaT  : (Int) → Res → Prop := fun r q => ∃ (ex : List Row), q = ((iv r), ex)
theorem Zs8  : ∀ a b q, ZaT  a q → ZaT  b q → a = b := by
 rintro a b q ⟨_, e1⟩ ⟨_, e2⟩
 have e := e1.symm.trans e2
 exact congrArg (fun q : Res => pI (pA q.1)) e
abbrev Z6D  : (Int) → Res → Prop := fun r q => ∃ (ex : List Row), q = ((iv r), ex)
theorem Zr1  : ∀ a b q, Z6D  a q → Z6D  b q → a = b := by
 rintro a b q ⟨_, e1⟩ ⟨_, e2⟩
 have e := e1.symm.trans e2
 exact congrArg (fun q : Res => pI (pA q.1)) e
abbrev Zao  : (Int) → Res → Prop := fun r q => ∃ (ex : List Row), q = ((iv r), ex)
theorem Zun  : ∀ a b q, Zao  a q → Zao  b q → a = b := by
 rintro a b q ⟨_, e1⟩ ⟨_, e2⟩
 have e := e1.symm.trans e2
 exact congrArg (fun q : Res => pI (pA q.1)) e
abbrev Z3a  : (Int × Int) → Res → Prop := fun r q => ∃ (ex : List Row), q = ((.p (.tup [(.v (.int .i64 r.1)), (.v (.int .i64 r.2))])), ex)
theorem Zfu  : ∀ a b q, Z3a  a q → Z3a  b q → a = b := by
 rintro a b q ⟨_, e1⟩ ⟨_, e2⟩
 have e := e1.symm.trans e2
 exact Prod.ext (congrArg (fun q : Res => pI ((pT (pA q.1)).getD 0 .junk)) e) (congrArg (fun q : Res => pI ((pT (pA q.1)).getD 1 .junk)) e)
abbrev Z8N  : (Bool) → Res → Prop := fun r q => ∃ (ex : List Row), q = ((bv r), ex)
theorem ZnN  : ∀ a b q, Z8N  a q → Z8N  b q → a = b := by
 rintro a b q ⟨_, e1⟩ ⟨_, e2⟩
 have e := e1.symm.trans e2
 exact congrArg (fun q : Res => pB (pA q.1)) e
abbrev Z2g  : (Int) → Res → Prop := fun r q => ∃ (ex : List Row), q = ((iv r), ex)
theorem Zas  : ∀ a b q, Z2g  a q → Z2g  b q → a = b := by
 rintro a b q ⟨_, e1⟩ ⟨_, e2⟩
 have e := e1.symm.trans e2
 exact congrArg (fun q : Res => pI (pA q.1)) e
abbrev Z4e  : (Bool) → Res → Prop := fun r q => ∃ (ex : List Row), q = ((bv r), ex)
theorem ZeE  : ∀ a b q, Z4e  a q → Z4e  b q → a = b := by
 rintro a b q ⟨_, e1⟩ ⟨_, e2⟩
 have e := e1.symm.trans e2
 exact congrArg (fun q : Res => pB (pA q.1)) e
abbrev Z6h  : (Bool) → Res → Prop := fun r q => ∃ (ex : List Row), q = ((bv r), ex)
theorem Zpq  : ∀ a b q, Z6h  a q → Z6h  b q → a = b := by
 rintro a b q ⟨_, e1⟩ ⟨_, e2⟩
 have e := e1.symm.trans e2
 exact congrArg (fun q : Res => pB (pA q.1)) e
abbrev Z4Z  : (Int) → Res → Prop := fun r q => ∃ (ex : List Row), q = ((iv r), ex)
theorem Zl9  : ∀ a b q, Z4Z  a q → Z4Z  b q → a = b := by
 rintro a b q ⟨_, e1⟩ ⟨_, e2⟩
 have e := e1.symm.trans e2
 exact congrArg (fun q : Res => pI (pA q.1)) e
abbrev Z9Y  : (Int) → Res → Prop := fun r q => ∃ (ex : List Row), q = ((iv r), ex)
theorem Zr0  : ∀ a b q, Z9Y  a q → Z9Y  b q → a = b := by
 rintro a b q ⟨_, e1⟩ ⟨_, e2⟩
 have e := e1.symm.trans e2
 exact congrArg (fun q : Res => pI (pA q.1)) e
abbrev Z7z  : (ZO) → Res → Prop := fun r q => ∃ (ex : List Row), q = ((.p (.agg (Z1u r))), ex)
theorem ZnO  : ∀ a b q, Z7z  a q → Z7z  b q → a = b := by
 rintro a b q ⟨_, e1⟩ ⟨_, e2⟩
 have e := e1.symm.trans e2
 exact Ze0 (congrArg (fun q : Res => pC (pA q.1)) e)
abbrev Z7J  : (Bool) → Res → Prop := fun r q => ∃ (ex : List Row), q = ((bv r), ex)
theorem Zl7  : ∀ a b q, Z7J  a q → Z7J  b q → a = b := by
 rintro a b q ⟨_, e1⟩ ⟨_, e2⟩
 have e := e1.symm.trans e2
 exact congrArg (fun q : Res => pB (pA q.1)) e
abbrev Z8J  : (Bool) → Res → Prop := fun r q => ∃ (ex : List Row), q = ((bv r), ex)
theorem ZnJ  : ∀ a b q, Z8J  a q → Z8J  b q → a = b := by
 rintro a b q ⟨_, e1⟩ ⟨_, e2⟩
 have e := e1.symm.trans e2
 exact congrArg (fun q : Res => pB (pA q.1)) e
abbrev Z2O  : (Bool) → Res → Prop := fun r q => ∃ (ex : List Row), q = ((bv r), ex)
theorem Zh9  : ∀ a b q, Z2O  a q → Z2O  b q → a = b := by
 rintro a b q ⟨_, e1⟩ ⟨_, e2⟩
 have e := e1.symm.trans e2
 exact congrArg (fun q : Res => pB (pA q.1)) e
abbrev Z3Q  : (ZO) → Res → Prop := fun r q => ∃ (ex : List Row), q = ((.p (.agg (Z1u r))), ex)
theorem Zi5  : ∀ a b q, Z3Q  a q → Z3Q  b q → a = b := by
 rintro a b q ⟨_, e1⟩ ⟨_, e2⟩
 have e := e1.symm.trans e2
 exact Ze0 (congrArg (fun q : Res => pC (pA q.1)) e)
abbrev Z6u  : (Bool) → Res → Prop := fun r q => ∃ (ex : List Row), q = ((bv r), ex)
theorem Zj6  : ∀ a b q, Z6u  a q → Z6u  b q → a = b := by
 rintro a b q ⟨_, e1⟩ ⟨_, e2⟩
 have e := e1.symm.trans e2
 exact congrArg (fun q : Res => pB (pA q.1)) e
abbrev Z1X  : (Bool) → Res → Prop := fun r q => ∃ (ex : List Row), q = ((bv r), ex)
theorem Z9U  : ∀ a b q, Z1X  a q → Z1X  b q → a = b := by
 rintro a b q ⟨_, e1⟩ ⟨_, e2⟩
 have e := e1.symm.trans e2
 exact congrArg (fun q : Res => pB (pA q.1)) e
abbrev ZbL (z1k z1y z1r : Int) (z1n : List Zw) (zB : Own) : (Int) → Res → Prop := fun r q => ∃ (ex : List Row), q = ((.p (.tup [])), [(Zx (ZC.mk r z1k z1y z1r z1n) zB)] ++ ex)
theorem ZqZ (z1k z1y z1r : Int) (z1n : List Zw) (zB : Own) : ∀ a b q, ZbL z1k z1y z1r z1n zB a q → ZbL z1k z1y z1r z1n zB b q → a = b := by
 rintro a b q ⟨_, e1⟩ ⟨_, e2⟩
 have e := e1.symm.trans e2
 exact congrArg (fun q : Res => pI (pA (cellAt q 0 0))) e
abbrev Z8M (z19 z1y z1r : Int) (z1n : List Zw) (zB : Own) : (Int) → Res → Prop := fun r q => ∃ (ex : List Row), q = ((.p (.tup [])), [(Zx (ZC.mk z19 r z1y z1r z1n) zB)] ++ ex)
theorem ZnM (z19 z1y z1r : Int) (z1n : List Zw) (zB : Own) : ∀ a b q, Z8M z19 z1y z1r z1n zB a q → Z8M z19 z1y z1r z1n zB b q → a = b := by
 rintro a b q ⟨_, e1⟩ ⟨_, e2⟩
 have e := e1.symm.trans e2
 exact congrArg (fun q : Res => pI (pA (cellAt q 0 1))) e
abbrev Z8L (z19 z1k z1r : Int) (z1n : List Zw) (zB : Own) : (Int) → Res → Prop := fun r q => ∃ (ex : List Row), q = ((.p (.tup [])), [(Zx (ZC.mk z19 z1k r z1r z1n) zB)] ++ ex)
theorem ZnL (z19 z1k z1r : Int) (z1n : List Zw) (zB : Own) : ∀ a b q, Z8L z19 z1k z1r z1n zB a q → Z8L z19 z1k z1r z1n zB b q → a = b := by
 rintro a b q ⟨_, e1⟩ ⟨_, e2⟩
 have e := e1.symm.trans e2
 exact congrArg (fun q : Res => pI (pA (cellAt q 0 2))) e
abbrev Z8K (z19 z1k z1y : Int) (z1n : List Zw) (zB : Own) : (Int) → Res → Prop := fun r q => ∃ (ex : List Row), q = ((.p (.tup [])), [(Zx (ZC.mk z19 z1k z1y r z1n) zB)] ++ ex)
theorem ZnK (z19 z1k z1y : Int) (z1n : List Zw) (zB : Own) : ∀ a b q, Z8K z19 z1k z1y z1n zB a q → Z8K z19 z1k z1y z1n zB b q → a = b := by
 rintro a b q ⟨_, e1⟩ ⟨_, e2⟩
 have e := e1.symm.trans e2
 exact congrArg (fun q : Res => pI (pA (cellAt q 0 3))) e
abbrev Z6O  : (Bool) → Res → Prop := fun r q => ∃ (ex : List Row), q = ((bv r), [[(.clo 27 [] [])]] ++ ex)
theorem ZjJ  : ∀ a b q, Z6O  a q → Z6O  b q → a = b := by
 rintro a b q ⟨_, e1⟩ ⟨_, e2⟩
 have e := e1.symm.trans e2
 exact congrArg (fun q : Res => pB (pA q.1)) e
abbrev Z2h  : (Int) → Res → Prop := fun r q => ∃ (ex : List Row), q = ((iv r), [[(.clo 27 [] [])]] ++ ex)
theorem Zat  : ∀ a b q, Z2h  a q → Z2h  b q → a = b := by
 rintro a b q ⟨_, e1⟩ ⟨_, e2⟩
 have e := e1.symm.trans e2
 exact congrArg (fun q : Res => pI (pA q.1)) e
abbrev Z4f  : (Bool) → Res → Prop := fun r q => ∃ (ex : List Row), q = ((bv r), [[(.clo 27 [] [])]] ++ ex)
theorem ZeF  : ∀ a b q, Z4f  a q → Z4f  b q → a = b := by
 rintro a b q ⟨_, e1⟩ ⟨_, e2⟩
 have e := e1.symm.trans e2
 exact congrArg (fun q : Res => pB (pA q.1)) e
abbrev Z7K  : (Bool) → Res → Prop := fun r q => ∃ (ex : List Row), q = ((bv r), ex)
theorem Zl8  : ∀ a b q, Z7K  a q → Z7K  b q → a = b := by
 rintro a b q ⟨_, e1⟩ ⟨_, e2⟩
 have e := e1.symm.trans e2
 exact congrArg (fun q : Res => pB (pA q.1)) e
abbrev Z5M  : (Bool × (List (Int × Bool))) → Res → Prop := fun r q => ∃ (ex : List Row), q = ((bv r.1), [[(.mp 1)], [(.md ((r.2).map (encM eB)))]] ++ ex)
theorem ZhR  : ∀ a b q, Z5M  a q → Z5M  b q → a = b := by
 rintro a b q ⟨_, e1⟩ ⟨_, e2⟩
 have e := e1.symm.trans e2
 exact Prod.ext (congrArg (fun q : Res => pB (pA q.1)) e) (Z3H (Zgm Zjc) (congrArg (fun q : Res => pM (cellAt q 1 0)) e))
abbrev Z5N  : (Bool × (List (Int × Bool))) → Res → Prop := fun r q => ∃ (ex : List Row), q = ((bv r.1), [[(.clo 74 [] [(.ptr 1 0)])], [(.mp 2)], [(.md ((r.2).map (encM eB)))]] ++ ex)
theorem ZhS  : ∀ a b q, Z5N  a q → Z5N  b q → a = b := by
 rintro a b q ⟨_, e1⟩ ⟨_, e2⟩
 have e := e1.symm.trans e2
 exact Prod.ext (congrArg (fun q : Res => pB (pA q.1)) e) (Z3H (Zgm Zjc) (congrArg (fun q : Res => pM (cellAt q 2 0)) e))
abbrev Z2i  : (Int × (List (Int × Bool))) → Res → Prop := fun r q => ∃ (ex : List Row), q = ((iv r.1), [[(.clo 74 [] [(.ptr 1 0)])], [(.mp 2)], [(.md ((r.2).map (encM eB)))]] ++ ex)
theorem Zau  : ∀ a b q, Z2i  a q → Z2i  b q → a = b := by
 rintro a b q ⟨_, e1⟩ ⟨_, e2⟩
 have e := e1.symm.trans e2
 exact Prod.ext (congrArg (fun q : Res => pI (pA q.1)) e) (Z3H (Zgm Zjc) (congrArg (fun q : Res => pM (cellAt q 2 0)) e))
abbrev Z4g  : (Bool × (List (Int × Bool))) → Res → Prop := fun r q => ∃ (ex : List Row), q = ((bv r.1), [[(.clo 74 [] [(.ptr 1 0)])], [(.mp 2)], [(.md ((r.2).map (encM eB)))]] ++ ex)
theorem ZeG  : ∀ a b q, Z4g  a q → Z4g  b q → a = b := by
 rintro a b q ⟨_, e1⟩ ⟨_, e2⟩
 have e := e1.symm.trans e2
 exact Prod.ext (congrArg (fun q : Res => pB (pA q.1)) e) (Z3H (Zgm Zjc) (congrArg (fun q : Res => pM (cellAt q 2 0)) e))
abbrev Z2p  : (Int × (List (Int × Bool))) → Res → Prop := fun r q => ∃ (ex : List Row), q = ((iv r.1), [[(.mp 1)], [(.md ((r.2).map (encM eB)))]] ++ ex)
theorem ZaU  : ∀ a b q, Z2p  a q → Z2p  b q → a = b := by
 rintro a b q ⟨_, e1⟩ ⟨_, e2⟩
 have e := e1.symm.trans e2
 exact Prod.ext (congrArg (fun q : Res => pI (pA q.1)) e) (Z3H (Zgm Zjc) (congrArg (fun q : Res => pM (cellAt q 1 0)) e))
abbrev Z4t  : (Bool × (List (Int × Bool))) → Res → Prop := fun r q => ∃ (ex : List Row), q = ((bv r.1), [[(.mp 1)], [(.md ((r.2).map (encM eB)))]] ++ ex)
theorem Zfg  : ∀ a b q, Z4t  a q → Z4t  b q → a = b := by
 rintro a b q ⟨_, e1⟩ ⟨_, e2⟩
 have e := e1.symm.trans e2
 exact Prod.ext (congrArg (fun q : Res => pB (pA q.1)) e) (Z3H (Zgm Zjc) (congrArg (fun q : Res => pM (cellAt q 1 0)) e))
abbrev Z8h  : (Bool) → Res → Prop := fun r q => ∃ (ex : List Row), q = ((bv r), ex)
theorem Zme  : ∀ a b q, Z8h  a q → Z8h  b q → a = b := by
 rintro a b q ⟨_, e1⟩ ⟨_, e2⟩
 have e := e1.symm.trans e2
 exact congrArg (fun q : Res => pB (pA q.1)) e
abbrev Z7e (z1p : List (Int × Zw)) : (Unit) → Res → Prop := fun r q => ∃ (ex : List Row), q = ((.clo 78 [] [(.ptr 1 0)]), [[(.md ((z1p).map (encM ZD)))], [(.mp 0)]]) ∧ ex = []
theorem Zku (z1p : List (Int × Zw)) : ∀ a b q, Z7e z1p a q → Z7e z1p b q → a = b := by
 rintro a b q ⟨_, e1, _⟩ ⟨_, e2, _⟩
 have e := e1.symm.trans e2
 exact rfl
abbrev Z7G (z1K : List (Int × Zw)) : (List Int) → Res → Prop := fun r q => ∃ (ex : List Row), q = ((.p (.lst .sh (r.map (eI .i64)))), [[(.mp 1)], [(.md ((z1K).map (encM ZD)))]] ++ ex)
theorem Zia (z1K : List (Int × Zw)) : ∀ a b q, Z7G z1K a q → Z7G z1K b q → a = b := by
 rintro a b q ⟨_, e1⟩ ⟨_, e2⟩
 have e := e1.symm.trans e2
 exact Z3H Z5s (congrArg (fun q : Res => pL (pA q.1)) e)
abbrev Z1O  : (ZC × Int) → Res → Prop := fun r q => ∃ (ex : List Row), q = ((.p (.tup [(.agg (Z1w r.1 .sh)), (.v (.int .i64 r.2))])), ex)
theorem ZaS  : ∀ a b q, Z1O  a q → Z1O  b q → a = b := by
 rintro a b q ⟨_, e1⟩ ⟨_, e2⟩
 have e := e1.symm.trans e2
 exact Prod.ext (Zk8 (congrArg (fun q : Res => pC ((pT (pA q.1)).getD 0 .junk)) e)) (congrArg (fun q : Res => pI ((pT (pA q.1)).getD 1 .junk)) e)
abbrev Z1C  : (Bool) → Res → Prop := fun r q => ∃ (ex : List Row), q = ((bv r), ex)
theorem Za4  : ∀ a b q, Z1C  a q → Z1C  b q → a = b := by
 rintro a b q ⟨_, e1⟩ ⟨_, e2⟩
 have e := e1.symm.trans e2
 exact congrArg (fun q : Res => pB (pA q.1)) e
def Z7W (x0 : ZC) : Option (Bool) := pick fun r => ∀ (z12 : Own), RRun (Z1C) (EE 4 [(.p (.agg (Z1w x0 z12)))] []) r
theorem Zfi (x0 : ZC) (z12 : Own) : Sim (Z1C) (Z7W x0) (EE 4 [(.p (.agg (Z1w x0 z12)))] []) := fun _ h => Z1b h z12
def Z8c  : Option (Bool) := pick fun r => RRun (Z6u) (EE 14 [] []) r
theorem Zil  : Sim (Z6u) (Z8c) (EE 14 [] []) := fun _ h => Z1b h
def ZcB  : Option (ZC) := pick fun r => RRun (Zch) (EE 43 [] []) r
theorem Zkd  : Sim (Zch) (ZcB) (EE 43 [] []) := fun _ h => Z1b h
def Z5g (x0 : ByteArray) : Option (ZO) := pick fun r => RRun (Z7z) (EE 21 [(.p (.v (.string x0)))] []) r
theorem ZfQ (x0 : ByteArray) : Sim (Z7z) (Z5g x0) (EE 21 [(.p (.v (.string x0)))] []) := fun _ h => Z1b h
def Zew (x0 : ByteArray) : Option (ZS × Zl) := pick fun r => RRun (Z3v) (EE 47 [(.p (.v (.string x0)))] []) r
theorem Zqq (x0 : ByteArray) : Sim (Z3v) (Zew x0) (EE 47 [(.p (.v (.string x0)))] []) := fun _ h => Z1b h
def Z1G (x1 : ByteArray) (zn : List Int) (zu : Int) : Option (Bool × Int) := pick fun r => ∀ (zb zh : Int) (zj : List Zv) (z2 z6 : Int) (zp zd : Own) (zy : ZL zd = true), RRun (Z5h zn zb zh zj z2 z6 zp zd) (EE 68 [(.ptr 0 0), (.p (.v (.string x1)))] [(Zk (Zm.mk zn zu zb zh zj (Zl.mk z2 z6)) zp zd)]) r
theorem Z1P (x1 : ByteArray) (zn : List Int) (zu zb zh : Int) (zj : List Zv) (z2 z6 : Int) (zp zd : Own) (zy : ZL zd = true) : Sim (Z5h zn zb zh zj z2 z6 zp zd) (Z1G x1 zn zu) (EE 68 [(.ptr 0 0), (.p (.v (.string x1)))] [(Zk (Zm.mk zn zu zb zh zj (Zl.mk z2 z6)) zp zd)]) := fun _ h => Z1b h zb zh zj z2 z6 zp zd zy
def Z4l (zn : List Int) (zu zb zh : Int) (zj : List Zv) (z2 z6 : Int) : Option (Z7 × Int × Int × Int × (List Zv) × Int × Int) := pick fun r => ∀ (zp zd : Own) (zy : ZL zd = true), RRun (Z3I zn zp) (EE 69 [(.ptr 0 0)] [(Zk (Zm.mk zn zu zb zh zj (Zl.mk z2 z6)) zp zd)]) r
theorem Zf7 (zn : List Int) (zu zb zh : Int) (zj : List Zv) (z2 z6 : Int) (zp zd : Own) (zy : ZL zd = true) : Sim (Z3I zn zp) (Z4l zn zu zb zh zj z2 z6) (EE 69 [(.ptr 0 0)] [(Zk (Zm.mk zn zu zb zh zj (Zl.mk z2 z6)) zp zd)]) := fun _ h => Z1b h zp zd zy
def Z70 (zn : List Int) (zu zb zh : Int) (zj : List Zv) (z2 z6 : Int) : Option (Z7 × Int × Int × Int × (List Zv) × Int × Int) := pick fun r => ∀ (zp zd : Own) (zy : ZL zd = true), RRun (Z3l zn zp) (EE 91 [(.ptr 0 0)] [(Zk (Zm.mk zn zu zb zh zj (Zl.mk z2 z6)) zp zd)]) r
theorem Zf9 (zn : List Int) (zu zb zh : Int) (zj : List Zv) (z2 z6 : Int) (zp zd : Own) (zy : ZL zd = true) : Sim (Z3l zn zp) (Z70 zn zu zb zh zj z2 z6) (EE 91 [(.ptr 0 0)] [(Zk (Zm.mk zn zu zb zh zj (Zl.mk z2 z6)) zp zd)]) := fun _ h => Z1b h zp zd zy
def Z5C (x3 : List Z7) (zn : List Int) (zu zb zh : Int) (zj : List Zv) (z2 z6 : Int) : Option (Z7 × Int × Int × Int × (List Zv) × Int × Int) := pick fun r => ∀ (b1 : Z7) (ox3 zp zd zH zE : Own) (hox3 : ZL ox3 = true) (zy : ZL zd = true) (z18 : ZL zH = true) (z10 : ZL zE = true), RRun (Z3l zn zp) (Zls 1 (.ptr 0 0) (.ptr 1 0) (.p (.lst ox3 (x3.map ZR))) [(Zk (Zm.mk zn zu zb zh zj (Zl.mk z2 z6)) zp zd), (Zq b1 zH zE)]) r
theorem Zcu (x3 : List Z7) (zn : List Int) (zu zb zh : Int) (zj : List Zv) (z2 z6 : Int) (b1 : Z7) (ox3 zp zd zH zE : Own) (hox3 : ZL ox3 = true) (zy : ZL zd = true) (z18 : ZL zH = true) (z10 : ZL zE = true) : Sim (Z3l zn zp) (Z5C x3 zn zu zb zh zj z2 z6) (Zls 1 (.ptr 0 0) (.ptr 1 0) (.p (.lst ox3 (x3.map ZR))) [(Zk (Zm.mk zn zu zb zh zj (Zl.mk z2 z6)) zp zd), (Zq b1 zH zE)]) := fun _ h => Z1b h b1 ox3 zp zd zH zE hox3 zy z18 z10
def Z2C (b0 : Zm) : Option (Int) := pick fun r => ∀ (zp zd : Own) (zy : ZL zd = true), RRun (Z6s b0 zp zd) (EE 104 [(.ptr 0 0)] [(Zk b0 zp zd)]) r
theorem Z2L (b0 : Zm) (zp zd : Own) (zy : ZL zd = true) : Sim (Z6s b0 zp zd) (Z2C b0) (EE 104 [(.ptr 0 0)] [(Zk b0 zp zd)]) := fun _ h => Z1b h zp zd zy
def Zen (x0 : List Int) (x1 : Int) : Option (Int × Int) := pick fun r => ∀ (ox0 : Own), RRun (Z86) (EE 126 [(.p (.lst ox0 (x0.map (eI .u8)))), (iv x1)] []) r
theorem ZlT (x0 : List Int) (x1 : Int) (ox0 : Own) : Sim (Z86) (Zen x0 x1) (EE 126 [(.p (.lst ox0 (x0.map (eI .u8)))), (iv x1)] []) := fun _ h => Z1b h ox0
def Z97 (x0 : List Int) : Option (Int × Int) := pick fun r => ∀ (ox0 : Own), RRun (Z74) (EE 146 [(.p (.lst ox0 (x0.map (eI .u8))))] []) r
theorem ZgP (x0 : List Int) (ox0 : Own) : Sim (Z74) (Z97 x0) (EE 146 [(.p (.lst ox0 (x0.map (eI .u8))))] []) := fun _ h => Z1b h ox0
def Zb2 (x0 : Int) (x1 : List Z7) : Option (Z7) := pick fun r => ∀ (ox1 : Own), RRun (Z9d) (EE 92 [(iv x0), (.p (.lst ox1 (x1.map ZR)))] []) r
theorem Zi9 (x0 : Int) (x1 : List Z7) (ox1 : Own) : Sim (Z9d) (Zb2 x0 x1) (EE 92 [(iv x0), (.p (.lst ox1 (x1.map ZR)))] []) := fun _ h => Z1b h ox1
def Z9R (zn : List Int) (zu zb zh : Int) (zj : List Zv) (z2 z6 : Int) : Option (Z7 × Bool × Int × Int × Int × (List Zv) × Int × Int) := pick fun r => ∀ (zp zd : Own) (zy : ZL zd = true), RRun (Z6q zn zp) (EE 105 [(.ptr 0 0)] [(Zk (Zm.mk zn zu zb zh zj (Zl.mk z2 z6)) zp zd)]) r
theorem ZkH (zn : List Int) (zu zb zh : Int) (zj : List Zv) (z2 z6 : Int) (zp zd : Own) (zy : ZL zd = true) : Sim (Z6q zn zp) (Z9R zn zu zb zh zj z2 z6) (EE 105 [(.ptr 0 0)] [(Zk (Zm.mk zn zu zb zh zj (Zl.mk z2 z6)) zp zd)]) := fun _ h => Z1b h zp zd zy
def Z3d (zn : List Int) (zu : Int) : Option (Int × Int) := pick fun r => ∀ (zb zh : Int) (zj : List Zv) (z2 z6 : Int) (zp zd : Own) (zy : ZL zd = true), RRun (Z7I zn zb zh zj z2 z6 zp zd) (EE 127 [(.ptr 0 0)] [(Zk (Zm.mk zn zu zb zh zj (Zl.mk z2 z6)) zp zd)]) r
theorem Z3L (zn : List Int) (zu zb zh : Int) (zj : List Zv) (z2 z6 : Int) (zp zd : Own) (zy : ZL zd = true) : Sim (Z7I zn zb zh zj z2 z6 zp zd) (Z3d zn zu) (EE 127 [(.ptr 0 0)] [(Zk (Zm.mk zn zu zb zh zj (Zl.mk z2 z6)) zp zd)]) := fun _ h => Z1b h zb zh zj z2 z6 zp zd zy
def Z2u (x0 : Int) : Option (Zc) := pick fun r => RRun (ZdU) (EE 129 [(iv x0)] []) r
theorem Z2m (x0 : Int) : Sim (ZdU) (Z2u x0) (EE 129 [(iv x0)] []) := fun _ h => Z1b h
def Z42 (x0 : Bool) (x1 : List Zc) : Option (Z7) := pick fun r => ∀ (ox1 : Own), RRun (ZbW) (EE 128 [(bv x0), (.p (.lst ox1 (x1.map Zz)))] []) r
theorem Z4d (x0 : Bool) (x1 : List Zc) (ox1 : Own) : Sim (ZbW) (Z42 x0 x1) (EE 128 [(bv x0), (.p (.lst ox1 (x1.map Zz)))] []) := fun _ h => Z1b h ox1
def ZfC (x0 : List Zc) : Option ((List Zc) × Int) := pick fun r => ∀ (ox0 : Own), RRun (ZaQ) (EE 147 [(.p (.lst ox0 (x0.map Zz)))] []) r
theorem Zru (x0 : List Zc) (ox0 : Own) : Sim (ZaQ) (ZfC x0) (EE 147 [(.p (.lst ox0 (x0.map Zz)))] []) := fun _ h => Z1b h ox0
def Z5b (x0 : List Zc) : Option (Bool) := pick fun r => ∀ (ox0 : Own), RRun (Z44) (EE 166 [(.p (.lst ox0 (x0.map Zz))), (.clo 167 [] [])] []) r
theorem ZdF (x0 : List Zc) (ox0 : Own) : Sim (Z44) (Z5b x0) (EE 166 [(.p (.lst ox0 (x0.map Zz))), (.clo 167 [] [])] []) := fun _ h => Z1b h ox0
def Z69 (x0 : List Zc) : Option (Int) := pick fun r => ∀ (ox0 : Own), RRun (Z2c) (EE 179 [(.p (.lst ox0 (x0.map Zz))), (.clo 167 [] [])] []) r
theorem Zfn (x0 : List Zc) (ox0 : Own) : Sim (Z2c) (Z69 x0) (EE 179 [(.p (.lst ox0 (x0.map Zz))), (.clo 167 [] [])] []) := fun _ h => Z1b h ox0
def Z4a (x0 : List Zc) (x7 x8 : Int) : Option (Int) := pick fun r => ∀ (ox0 : Own), RRun (Z2c) (ZiT 0 (.p (.lst ox0 (x0.map Zz))) (.clo 167 [] []) (iv x7) (iv x8) []) r
theorem Z8Z (x0 : List Zc) (x7 x8 : Int) (ox0 : Own) : Sim (Z2c) (Z4a x0 x7 x8) (ZiT 0 (.p (.lst ox0 (x0.map Zz))) (.clo 167 [] []) (iv x7) (iv x8) []) := fun _ h => Z1b h ox0
def Zd5 (x0 : Zc) : Option (Bool) := pick fun r => RRun (ZaR) (EE 167 [(.p (.agg (ZW x0)))] []) r
theorem Zps (x0 : Zc) : Sim (ZaR) (Zd5 x0) (EE 167 [(.p (.agg (ZW x0)))] []) := fun _ h => Z1b h
def Z7R (x0 : Zc) : Option (Bool) := pick fun r => RRun (Z7H) (EE 168 [(.p (.agg (ZW x0)))] []) r
theorem Ze3 (x0 : Zc) : Sim (Z7H) (Z7R x0) (EE 168 [(.p (.agg (ZW x0)))] []) := fun _ h => Z1b h
def Zd7 (x0 : List Zc) : Option (List Zc) := pick fun r => ∀ (ox0 : Own), RRun (ZcS) (EE 169 [(.p (.lst ox0 (x0.map Zz)))] []) r
theorem Zi8 (x0 : List Zc) (ox0 : Own) : Sim (ZcS) (Zd7 x0) (EE 169 [(.p (.lst ox0 (x0.map Zz)))] []) := fun _ h => Z1b h ox0
def Zaj (x0 : List Zc) : Option ((List Zc) × Int) := pick fun r => ∀ (ox0 : Own), RRun (Z8t) (EE 148 [(.p (.lst ox0 (x0.map Zz)))] []) r
theorem Zhm (x0 : List Zc) (ox0 : Own) : Sim (Z8t) (Zaj x0) (EE 148 [(.p (.lst ox0 (x0.map Zz)))] []) := fun _ h => Z1b h ox0
def Z6Y (x0 : List Zc) : Option (Bool) := pick fun r => ∀ (ox0 : Own), RRun (Z2Q) (EE 170 [(.p (.lst ox0 (x0.map Zz)))] []) r
theorem Zb1 (x0 : List Zc) (ox0 : Own) : Sim (Z2Q) (Z6Y x0) (EE 170 [(.p (.lst ox0 (x0.map Zz)))] []) := fun _ h => Z1b h ox0
def Z6Z (x3 : Int) (x6 : List Zc) (x7 x8 : Int) : Option (Bool) := pick fun r => ∀ (ox6 : Own), RRun (Z2Q) (ZiR 0 (iv x3) (.p (.lst ox6 (x6.map Zz))) (iv x7) (iv x8) []) r
theorem Zcl (x3 : Int) (x6 : List Zc) (x7 x8 : Int) (ox6 : Own) : Sim (Z2Q) (Z6Z x3 x6 x7 x8) (ZiR 0 (iv x3) (.p (.lst ox6 (x6.map Zz))) (iv x7) (iv x8) []) := fun _ h => Z1b h ox6
def Zcf (x0 : List Zc) : Option (List Zc) := pick fun r => ∀ (ox0 : Own), RRun (Z3o) (EE 171 [(.p (.lst ox0 (x0.map Zz)))] []) r
theorem Zog (x0 : List Zc) (ox0 : Own) : Sim (Z3o) (Zcf x0) (EE 171 [(.p (.lst ox0 (x0.map Zz)))] []) := fun _ h => Z1b h ox0
def Z8n (x3 : List Zc) (x4 : Int) (x7 : List Zc) (x8 x9 : Int) : Option (List Zc) := pick fun r => ∀ (ox3 ox7 : Own) (hox3 : ZL ox3 = true), RRun (Z3o) (ZiS 0 (.p (.lst ox3 (x3.map Zz))) (iv x4) (.p (.lst ox7 (x7.map Zz))) (iv x8) (iv x9) []) r
theorem Zf4 (x3 : List Zc) (x4 : Int) (x7 : List Zc) (x8 x9 : Int) (ox3 ox7 : Own) (hox3 : ZL ox3 = true) : Sim (Z3o) (Z8n x3 x4 x7 x8 x9) (ZiS 0 (.p (.lst ox3 (x3.map Zz))) (iv x4) (.p (.lst ox7 (x7.map Zz))) (iv x8) (iv x9) []) := fun _ h => Z1b h ox3 ox7 hox3
def Z4J (x1 : Int) (zn : List Int) (zu zb zh : Int) (zj : List Zv) (z2 z6 : Int) : Option (Z7 × Int × (List Zv) × Int × Int) := pick fun r => ∀ (zp zd : Own) (zy : ZL zd = true), RRun (Z3W zn zb zh zp) (EE 130 [(.ptr 0 0), (iv x1)] [(Zk (Zm.mk zn zu zb zh zj (Zl.mk z2 z6)) zp zd)]) r
theorem Zjo (x1 : Int) (zn : List Int) (zu zb zh : Int) (zj : List Zv) (z2 z6 : Int) (zp zd : Own) (zy : ZL zd = true) : Sim (Z3W zn zb zh zp) (Z4J x1 zn zu zb zh zj z2 z6) (EE 130 [(.ptr 0 0), (iv x1)] [(Zk (Zm.mk zn zu zb zh zj (Zl.mk z2 z6)) zp zd)]) := fun _ h => Z1b h zp zd zy
def Z1g (x1 x2 : Int) (zn : List Int) (z2 z6 : Int) : Option (Int × Int × Int) := pick fun r => ∀ (zu zb zh : Int) (zj : List Zv) (zp zd : Own) (zy : ZL zd = true), RRun (Z6r zn zb zh zj zp zd) (EE 70 [(.ptr 0 0), (iv x1), (iv x2)] [(Zk (Zm.mk zn zu zb zh zj (Zl.mk z2 z6)) zp zd)]) r
theorem Z1j (x1 x2 : Int) (zn : List Int) (zu zb zh : Int) (zj : List Zv) (z2 z6 : Int) (zp zd : Own) (zy : ZL zd = true) : Sim (Z6r zn zb zh zj zp zd) (Z1g x1 x2 zn z2 z6) (EE 70 [(.ptr 0 0), (iv x1), (iv x2)] [(Zk (Zm.mk zn zu zb zh zj (Zl.mk z2 z6)) zp zd)]) := fun _ h => Z1b h zu zb zh zj zp zd zy
def Z7C (x0 : Int) : Option (Own × (List Zc)) := pick fun r => RRun (Z7y) (EE 149 [(iv x0)] []) r
theorem ZbE (x0 : Int) : Sim (Z7y) (Z7C x0) (EE 149 [(iv x0)] []) := fun _ h => Z1b h
def Z7v (x1 x2 : Int) (zn : List Int) (zu zb zh : Int) (zj : List Zv) (z2 z6 : Int) : Option (Int × Int × Int × Int) := pick fun r => ∀ (zp zd : Own) (zy : ZL zd = true), RRun (Z4P zn zb zh zj zp zd) (EE 150 [(.ptr 0 0), (iv x1), (iv x2)] [(Zk (Zm.mk zn zu zb zh zj (Zl.mk z2 z6)) zp zd)]) r
theorem Zdu (x1 x2 : Int) (zn : List Int) (zu zb zh : Int) (zj : List Zv) (z2 z6 : Int) (zp zd : Own) (zy : ZL zd = true) : Sim (Z4P zn zb zh zj zp zd) (Z7v x1 x2 zn zu zb zh zj z2 z6) (EE 150 [(.ptr 0 0), (iv x1), (iv x2)] [(Zk (Zm.mk zn zu zb zh zj (Zl.mk z2 z6)) zp zd)]) := fun _ h => Z1b h zp zd zy
def Ze5 (x0 : Int) : Option (Int) := pick fun r => RRun (Z85) (EE 172 [(iv x0)] []) r
theorem ZlC (x0 : Int) : Sim (Z85) (Ze5 x0) (EE 172 [(iv x0)] []) := fun _ h => Z1b h
def Zai (x0 : List Zc) (x1 : Int) : Option (Bool) := pick fun r => ∀ (ox0 : Own), RRun (Za3) (EE 173 [(.p (.lst ox0 (x0.map Zz))), (iv x1)] []) r
theorem Zoc (x0 : List Zc) (x1 : Int) (ox0 : Own) : Sim (Za3) (Zai x0 x1) (EE 173 [(.p (.lst ox0 (x0.map Zz))), (iv x1)] []) := fun _ h => Z1b h ox0
def Z5a (x0 : List Zc) (z1p : Int) : Option (Bool) := pick fun r => ∀ (ox0 : Own), RRun (Z43 z1p) (EE 184 [(.p (.lst ox0 (x0.map Zz))), (.clo 185 [] [(.ptr 0 0)])] [[(iv z1p)]]) r
theorem ZdD (x0 : List Zc) (z1p : Int) (ox0 : Own) : Sim (Z43 z1p) (Z5a x0 z1p) (EE 184 [(.p (.lst ox0 (x0.map Zz))), (.clo 185 [] [(.ptr 0 0)])] [[(iv z1p)]]) := fun _ h => Z1b h ox0
def Z68 (x0 : List Zc) (z1p : Int) : Option (Int) := pick fun r => ∀ (ox0 : Own), RRun (Z2b z1p) (EE 191 [(.p (.lst ox0 (x0.map Zz))), (.clo 185 [] [(.ptr 0 0)])] [[(iv z1p)]]) r
theorem Zfl (x0 : List Zc) (z1p : Int) (ox0 : Own) : Sim (Z2b z1p) (Z68 x0 z1p) (EE 191 [(.p (.lst ox0 (x0.map Zz))), (.clo 185 [] [(.ptr 0 0)])] [[(iv z1p)]]) := fun _ h => Z1b h ox0
def Z49 (x0 : List Zc) (x7 x8 z1p : Int) : Option (Int) := pick fun r => ∀ (ox0 : Own), RRun (Z2b z1p) (ZiU 1 (.p (.lst ox0 (x0.map Zz))) (.clo 185 [] [(.ptr 0 0)]) (iv x7) (iv x8) [[(iv z1p)]]) r
theorem Z8X (x0 : List Zc) (x7 x8 z1p : Int) (ox0 : Own) : Sim (Z2b z1p) (Z49 x0 x7 x8 z1p) (ZiU 1 (.p (.lst ox0 (x0.map Zz))) (.clo 185 [] [(.ptr 0 0)]) (iv x7) (iv x8) [[(iv z1p)]]) := fun _ h => Z1b h ox0
def ZaK (x0 : Zc) (z1p : Int) : Option (Bool) := pick fun r => RRun (Z8I z1p) (EE 185 [(.p (.agg (ZW x0))), (.ptr 0 0)] [[(iv z1p)]]) r
theorem ZmA (x0 : Zc) (z1p : Int) : Sim (Z8I z1p) (ZaK x0 z1p) (EE 185 [(.p (.agg (ZW x0))), (.ptr 0 0)] [[(iv z1p)]]) := fun _ h => Z1b h
def Z96 (x1 : Int) (zn : List Int) (zu zb zh : Int) (zj : List Zv) (z2 z6 : Int) : Option (Z7 × Int × Int × Int) := pick fun r => ∀ (zp zd : Own) (zy : ZL zd = true), RRun (Z1L zn zb zh zj zp zd) (EE 131 [(.ptr 0 0), (iv x1)] [(Zk (Zm.mk zn zu zb zh zj (Zl.mk z2 z6)) zp zd)]) r
theorem ZjR (x1 : Int) (zn : List Int) (zu zb zh : Int) (zj : List Zv) (z2 z6 : Int) (zp zd : Own) (zy : ZL zd = true) : Sim (Z1L zn zb zh zj zp zd) (Z96 x1 zn zu zb zh zj z2 z6) (EE 131 [(.ptr 0 0), (iv x1)] [(Zk (Zm.mk zn zu zb zh zj (Zl.mk z2 z6)) zp zd)]) := fun _ h => Z1b h zp zd zy
def Z4b (x1 : Int) (x5 : Bool) (x8 : Int) (zn : List Int) (zu zb zh : Int) (zj : List Zv) (z2 z6 : Int) (z11 : List Zc) : Option (Z7 × Int × Int × Int) := pick fun r => ∀ (b1 : Z7) (zp zd zH zE z1U : Own) (zy : ZL zd = true) (z18 : ZL zH = true) (z10 : ZL zE = true), RRun (Z1L zn zb zh zj zp zd) (ZiL 1 (.ptr 0 0) (iv x1) (.ptr 1 0) (bv x5) (.ptr 2 0) (.clo 151 [] [(.ptr 2 0)]) (iv x8) [(Zk (Zm.mk zn zu zb zh zj (Zl.mk z2 z6)) zp zd), (Zq b1 zH zE), [(.p (.lst z1U (z11.map Zz)))]]) r
theorem ZbP (x1 : Int) (x5 : Bool) (x8 : Int) (zn : List Int) (zu zb zh : Int) (zj : List Zv) (z2 z6 : Int) (b1 : Z7) (z11 : List Zc) (zp zd zH zE z1U : Own) (zy : ZL zd = true) (z18 : ZL zH = true) (z10 : ZL zE = true) : Sim (Z1L zn zb zh zj zp zd) (Z4b x1 x5 x8 zn zu zb zh zj z2 z6 z11) (ZiL 1 (.ptr 0 0) (iv x1) (.ptr 1 0) (bv x5) (.ptr 2 0) (.clo 151 [] [(.ptr 2 0)]) (iv x8) [(Zk (Zm.mk zn zu zb zh zj (Zl.mk z2 z6)) zp zd), (Zq b1 zH zE), [(.p (.lst z1U (z11.map Zz)))]]) := fun _ h => Z1b h b1 zp zd zH zE z1U zy z18 z10
def Z5D (zn : List Int) (zu zb zh : Int) (zj : List Zv) (z2 z6 : Int) : Option (Int × (Own × (List Zc)) × Bool × Int × Int × Int) := pick fun r => ∀ (zp zd : Own) (zy : ZL zd = true), RRun (Z3X zn zb zh zj zp zd) (EE 153 [(.ptr 0 0)] [(Zk (Zm.mk zn zu zb zh zj (Zl.mk z2 z6)) zp zd)]) r
theorem Zcx (zn : List Int) (zu zb zh : Int) (zj : List Zv) (z2 z6 : Int) (zp zd : Own) (zy : ZL zd = true) : Sim (Z3X zn zb zh zj zp zd) (Z5D zn zu zb zh zj z2 z6) (EE 153 [(.ptr 0 0)] [(Zk (Zm.mk zn zu zb zh zj (Zl.mk z2 z6)) zp zd)]) := fun _ h => Z1b h zp zd zy
def Z6w (x0 z1p : List Zc) : Option (List Zc) := pick fun r => ∀ (ox0 zh8 : Own), RRun (Z6v) (EE 151 [(.p (.lst ox0 (x0.map Zz))), (.ptr 0 0)] [[(.p (.lst zh8 (z1p.map Zz)))]]) r
theorem Zcg (x0 z1p : List Zc) (ox0 zh8 : Own) : Sim (Z6v) (Z6w x0 z1p) (EE 151 [(.p (.lst ox0 (x0.map Zz))), (.ptr 0 0)] [[(.p (.lst zh8 (z1p.map Zz)))]]) := fun _ h => Z1b h ox0 zh8
def Zd6 (x0 x1 : List Zc) : Option ((List Zc) × Int) := pick fun r => ∀ (ox0 ox1 : Own), RRun (Z7U) (EE 152 [(.p (.lst ox0 (x0.map Zz))), (.p (.lst ox1 (x1.map Zz)))] []) r
theorem Zpu (x0 x1 : List Zc) (ox0 ox1 : Own) : Sim (Z7U) (Zd6 x0 x1) (EE 152 [(.p (.lst ox0 (x0.map Zz))), (.p (.lst ox1 (x1.map Zz)))] []) := fun _ h => Z1b h ox0 ox1
def Zb9 (x0 : List (List Zc)) : Option (List Zc) := pick fun r => ∀ (ox0 : Own), RRun (Z8u) (EE 174 [(.p (.lst ox0 (x0.map (eL Zz))))] []) r
theorem Zjw (x0 : List (List Zc)) (ox0 : Own) : Sim (Z8u) (Zb9 x0) (EE 174 [(.p (.lst ox0 (x0.map (eL Zz))))] []) := fun _ h => Z1b h ox0
def Z4X (x1 : Int) (zn : List Int) (zu zb zh : Int) (zj : List Zv) (z2 z6 : Int) : Option (Z7 × Bool × Int × Int × Int × (List Zv) × Int × Int) := pick fun r => ∀ (zp zd : Own) (zy : ZL zd = true), RRun (Z3j zn zp) (EE 132 [(.ptr 0 0), (iv x1)] [(Zk (Zm.mk zn zu zb zh zj (Zl.mk z2 z6)) zp zd)]) r
theorem ZjT (x1 : Int) (zn : List Int) (zu zb zh : Int) (zj : List Zv) (z2 z6 : Int) (zp zd : Own) (zy : ZL zd = true) : Sim (Z3j zn zp) (Z4X x1 zn zu zb zh zj z2 z6) (EE 132 [(.ptr 0 0), (iv x1)] [(Zk (Zm.mk zn zu zb zh zj (Zl.mk z2 z6)) zp zd)]) := fun _ h => Z1b h zp zd zy
def Zex  : Option (List ByteArray) := pick fun r => RRun (ZbK) (EE 155 [] []) r
theorem Zqs  : Sim (ZbK) (Zex) (EE 155 [] []) := fun _ h => Z1b h
def Z5L (x0 : List ByteArray) (zn : List Int) (zu : Int) : Option (Int × Int) := pick fun r => ∀ (zb zh : Int) (zj : List Zv) (z2 z6 : Int) (ox0 zp zd : Own) (zy : ZL zd = true), RRun (Z24 zn zb zh zj z2 z6 zp zd) (EE 154 [(.p (.lst ox0 (x0.map eS))), (.clo 68 [(.ptr 0 0)] [])] [(Zk (Zm.mk zn zu zb zh zj (Zl.mk z2 z6)) zp zd)]) r
theorem ZeS (x0 : List ByteArray) (zn : List Int) (zu zb zh : Int) (zj : List Zv) (z2 z6 : Int) (ox0 zp zd : Own) (zy : ZL zd = true) : Sim (Z24 zn zb zh zj z2 z6 zp zd) (Z5L x0 zn zu) (EE 154 [(.p (.lst ox0 (x0.map eS))), (.clo 68 [(.ptr 0 0)] [])] [(Zk (Zm.mk zn zu zb zh zj (Zl.mk z2 z6)) zp zd)]) := fun _ h => Z1b h zb zh zj z2 z6 ox0 zp zd zy
def Z2n (x0 : List ByteArray) (x7 x8 : Int) (zn : List Int) (zu : Int) : Option (Int × Int) := pick fun r => ∀ (zb zh : Int) (zj : List Zv) (z2 z6 : Int) (ox0 zp zd : Own) (zy : ZL zd = true), RRun (Z24 zn zb zh zj z2 z6 zp zd) (ZiP 1 (.p (.lst ox0 (x0.map eS))) (.clo 68 [(.ptr 0 0)] []) (iv x7) (iv x8) [(Zk (Zm.mk zn zu zb zh zj (Zl.mk z2 z6)) zp zd)]) r
theorem Z8E (x0 : List ByteArray) (x7 x8 : Int) (zn : List Int) (zu zb zh : Int) (zj : List Zv) (z2 z6 : Int) (ox0 zp zd : Own) (zy : ZL zd = true) : Sim (Z24 zn zb zh zj z2 z6 zp zd) (Z2n x0 x7 x8 zn zu) (ZiP 1 (.p (.lst ox0 (x0.map eS))) (.clo 68 [(.ptr 0 0)] []) (iv x7) (iv x8) [(Zk (Zm.mk zn zu zb zh zj (Zl.mk z2 z6)) zp zd)]) := fun _ h => Z1b h zb zh zj z2 z6 ox0 zp zd zy
def Z72 (x1 : Z7) (x2 : Bool) (zn : List Int) (zu zb zh : Int) (zj : List Zv) (z2 z6 : Int) : Option (Z7 × Int × Int × Int) := pick fun r => ∀ (z3i z2P zp zd : Own) (zy : ZL zd = true), RRun (Z3Y zn zb zh zj zp zd) (EE 106 [(.ptr 0 0), (.p (.agg (ZG x1 z3i z2P))), (bv x2)] [(Zk (Zm.mk zn zu zb zh zj (Zl.mk z2 z6)) zp zd)]) r
theorem Zjs (x1 : Z7) (x2 : Bool) (zn : List Int) (zu zb zh : Int) (zj : List Zv) (z2 z6 : Int) (z3i z2P zp zd : Own) (zy : ZL zd = true) : Sim (Z3Y zn zb zh zj zp zd) (Z72 x1 x2 zn zu zb zh zj z2 z6) (EE 106 [(.ptr 0 0), (.p (.agg (ZG x1 z3i z2P))), (bv x2)] [(Zk (Zm.mk zn zu zb zh zj (Zl.mk z2 z6)) zp zd)]) := fun _ h => Z1b h z3i z2P zp zd zy
def Z71 (x1 : Int) (zn : List Int) (zu zb zh : Int) (zj : List Zv) (z2 z6 : Int) : Option (Int × Int × Int × Int × Int) := pick fun r => ∀ (zp zd : Own) (zy : ZL zd = true), RRun (Z2R zn zb zh zj zp zd) (EE 133 [(.ptr 0 0), (iv x1)] [(Zk (Zm.mk zn zu zb zh zj (Zl.mk z2 z6)) zp zd)]) r
theorem Zjm (x1 : Int) (zn : List Int) (zu zb zh : Int) (zj : List Zv) (z2 z6 : Int) (zp zd : Own) (zy : ZL zd = true) : Sim (Z2R zn zb zh zj zp zd) (Z71 x1 zn zu zb zh zj z2 z6) (EE 133 [(.ptr 0 0), (iv x1)] [(Zk (Zm.mk zn zu zb zh zj (Zl.mk z2 z6)) zp zd)]) := fun _ h => Z1b h zp zd zy
def Z5E (zn : List Int) (zu zb zh : Int) (zj : List Zv) (z2 z6 : Int) : Option (Int × Int) := pick fun r => ∀ (zp zd : Own) (zy : ZL zd = true), RRun (Z3b zn zb zh zj z2 z6 zp zd) (EE 156 [(.ptr 0 0)] [(Zk (Zm.mk zn zu zb zh zj (Zl.mk z2 z6)) zp zd)]) r
theorem Zcy (zn : List Int) (zu zb zh : Int) (zj : List Zv) (z2 z6 : Int) (zp zd : Own) (zy : ZL zd = true) : Sim (Z3b zn zb zh zj z2 z6 zp zd) (Z5E zn zu zb zh zj z2 z6) (EE 156 [(.ptr 0 0)] [(Zk (Zm.mk zn zu zb zh zj (Zl.mk z2 z6)) zp zd)]) := fun _ h => Z1b h zp zd zy
def Z3T (x3 x4 : Int) (zn : List Int) (zu zb zh : Int) (zj : List Zv) (z2 z6 : Int) : Option (Int × Int) := pick fun r => ∀ (zp zd : Own) (zy : ZL zd = true), RRun (Z3b zn zb zh zj z2 z6 zp zd) (ZiQ 1 (.ptr 0 0) (iv x3) (iv x4) [(Zk (Zm.mk zn zu zb zh zj (Zl.mk z2 z6)) zp zd)]) r
theorem Zbe (x3 x4 : Int) (zn : List Int) (zu zb zh : Int) (zj : List Zv) (z2 z6 : Int) (zp zd : Own) (zy : ZL zd = true) : Sim (Z3b zn zb zh zj z2 z6 zp zd) (Z3T x3 x4 zn zu zb zh zj z2 z6) (ZiQ 1 (.ptr 0 0) (iv x3) (iv x4) [(Zk (Zm.mk zn zu zb zh zj (Zl.mk z2 z6)) zp zd)]) := fun _ h => Z1b h zp zd zy
def Z5B (x3 : List Z7) (zn : List Int) (zu zb zh : Int) (zj : List Zv) (z2 z6 : Int) : Option (Z7 × Int × Int × Int × (List Zv) × Int × Int) := pick fun r => ∀ (b1 : Z7) (ox3 zp zd zH zE : Own) (hox3 : ZL ox3 = true) (zy : ZL zd = true) (z18 : ZL zH = true) (z10 : ZL zE = true), RRun (Z3I zn zp) (Zlo 1 (.ptr 0 0) (.ptr 1 0) (.p (.lst ox3 (x3.map ZR))) [(Zk (Zm.mk zn zu zb zh zj (Zl.mk z2 z6)) zp zd), (Zq b1 zH zE)]) r
theorem Zcs (x3 : List Z7) (zn : List Int) (zu zb zh : Int) (zj : List Zv) (z2 z6 : Int) (b1 : Z7) (ox3 zp zd zH zE : Own) (hox3 : ZL ox3 = true) (zy : ZL zd = true) (z18 : ZL zH = true) (z10 : ZL zE = true) : Sim (Z3I zn zp) (Z5B x3 zn zu zb zh zj z2 z6) (Zlo 1 (.ptr 0 0) (.ptr 1 0) (.p (.lst ox3 (x3.map ZR))) [(Zk (Zm.mk zn zu zb zh zj (Zl.mk z2 z6)) zp zd), (Zq b1 zH zE)]) := fun _ h => Z1b h b1 ox3 zp zd zH zE hox3 zy z18 z10
def Z7X (x50 : List Zv) (x51 x52 : Int) (z2U : List Int) (z1c zZ z1f z14 z1i z1h z15 z16 : Int) (z17 : List Zc) (z13 : List Z7) (z1D : Bool) : Option (ZS × Zl) := pick fun r => ∀ (b0 : ZS) (b1 : Zl) (z2N z2v : Int) (z1Y : List Zv) (z2j : Int) (ox50 z1l z1e z3u z1I z1x z1s : Own) (z2r : ZL z1l = true) (z2d : ZL z1e = true) (z3M : ZL z1I = true), RRun (Z3v) (Zlm 0 (.ptr 0 0) (.ptr 1 0) (.ptr 2 0) (.ptr 3 0) (.p (.lst ox50 (x50.map Z2H))) (iv x51) (iv x52) [(ZT b0 z1l z1e), (Z1A b1), (Zk (Zm.mk z2U z2N z1c z2v z1Y (Zl.mk zZ z1f)) z3u z1I), (ZT (ZS.mk (Z7.mk z14 z1i z1h z15 z16 z17 z13) z2j z1D) z1x z1s)]) r
theorem Zg9 (x50 : List Zv) (x51 x52 : Int) (b0 : ZS) (b1 : Zl) (z2U : List Int) (z2N z1c z2v : Int) (z1Y : List Zv) (zZ z1f z14 z1i z1h z15 z16 : Int) (z17 : List Zc) (z13 : List Z7) (z2j : Int) (z1D : Bool) (ox50 z1l z1e z3u z1I z1x z1s : Own) (z2r : ZL z1l = true) (z2d : ZL z1e = true) (z3M : ZL z1I = true) : Sim (Z3v) (Z7X x50 x51 x52 z2U z1c zZ z1f z14 z1i z1h z15 z16 z17 z13 z1D) (Zlm 0 (.ptr 0 0) (.ptr 1 0) (.ptr 2 0) (.ptr 3 0) (.p (.lst ox50 (x50.map Z2H))) (iv x51) (iv x52) [(ZT b0 z1l z1e), (Z1A b1), (Zk (Zm.mk z2U z2N z1c z2v z1Y (Zl.mk zZ z1f)) z3u z1I), (ZT (ZS.mk (Z7.mk z14 z1i z1h z15 z16 z17 z13) z2j z1D) z1x z1s)]) := fun _ h => Z1b h b0 b1 z2N z2v z1Y z2j ox50 z1l z1e z3u z1I z1x z1s z2r z2d z3M
def Zez (x0 : ZS) : Option (Int) := pick fun r => ∀ (z3V z3y : Own), RRun (Z9Y) (EE 48 [(.p (.agg (Z2Z x0 z3V z3y)))] []) r
theorem Zqy (x0 : ZS) (z3V z3y : Own) : Sim (Z9Y) (Zez x0) (EE 48 [(.p (.agg (Z2Z x0 z3V z3y)))] []) := fun _ h => Z1b h z3V z3y
def Z4m (x0 : Z7) : Option (Bool) := pick fun r => ∀ (z1S z1t : Own), RRun (Z6h) (EE 71 [(.p (.agg (ZG x0 z1S z1t)))] []) r
theorem Zhz (x0 : Z7) (z1S z1t : Own) : Sim (Z6h) (Z4m x0) (EE 71 [(.p (.agg (ZG x0 z1S z1t)))] []) := fun _ h => Z1b h z1S z1t
def Z3w (x0 : Z7) : Option (Int × Int) := pick fun r => ∀ (z1S z1t : Own), RRun (Z3a) (EE 93 [(.p (.agg (ZG x0 z1S z1t)))] []) r
theorem Z82 (x0 : Z7) (z1S z1t : Own) : Sim (Z3a) (Z3w x0) (EE 93 [(.p (.agg (ZG x0 z1S z1t)))] []) := fun _ h => Z1b h z1S z1t
def Z9z (x2 x3 : Int) (x23 : List Z7) (x24 x25 : Int) : Option (Int × Int) := pick fun r => ∀ (ox23 : Own), RRun (Z3a) (Zlu 0 (iv x2) (iv x3) (.p (.lst ox23 (x23.map ZR))) (iv x24) (iv x25) []) r
theorem Zgk (x2 x3 : Int) (x23 : List Z7) (x24 x25 : Int) (ox23 : Own) : Sim (Z3a) (Z9z x2 x3 x23 x24 x25) (Zlu 0 (iv x2) (iv x3) (.p (.lst ox23 (x23.map ZR))) (iv x24) (iv x25) []) := fun _ h => Z1b h ox23
def Z8W (x2 x3 : Int) (x45 : List Z7) (x46 x47 : Int) : Option (Int × Int) := pick fun r => ∀ (ox45 : Own), RRun (Z3a) (Zj0 0 (iv x2) (iv x3) (.p (.lst ox45 (x45.map ZR))) (iv x46) (iv x47) []) r
theorem ZfG (x2 x3 : Int) (x45 : List Z7) (x46 x47 : Int) (ox45 : Own) : Sim (Z3a) (Z8W x2 x3 x45 x46 x47) (Zj0 0 (iv x2) (iv x3) (.p (.lst ox45 (x45.map ZR))) (iv x46) (iv x47) []) := fun _ h => Z1b h ox45
def ZbS (x0 x1 : Int) : Option (Int) := pick fun r => RRun (Z6D) (EE 108 [(iv x0), (iv x1)] []) r
theorem ZqD (x0 x1 : Int) : Sim (Z6D) (ZbS x0 x1) (EE 108 [(iv x0), (iv x1)] []) := fun _ h => Z1b h
def ZcD (x0 : Int) : Option (Int) := pick fun r => RRun (ZaT) (EE 134 [(iv x0)] []) r
theorem Zkf (x0 : Int) : Sim (ZaT) (ZcD x0) (EE 134 [(iv x0)] []) := fun _ h => Z1b h
def Zh6 (x0 x1 : Int) : Option (Int) := pick fun r => RRun (Zao) (EE 107 [(iv x0), (iv x1)] []) r
theorem ZtO (x0 x1 : Int) : Sim (Zao) (Zh6 x0 x1) (EE 107 [(iv x0), (iv x1)] []) := fun _ h => Z1b h
def Z5u (x0 : List Z7) : Option (Bool) := pick fun r => ∀ (ox0 : Own), RRun (Z4e) (EE 94 [(.p (.lst ox0 (x0.map ZR))), (.clo 95 [] [])] []) r
theorem Zec (x0 : List Z7) (ox0 : Own) : Sim (Z4e) (Z5u x0) (EE 94 [(.p (.lst ox0 (x0.map ZR))), (.clo 95 [] [])] []) := fun _ h => Z1b h ox0
def Z6m (x0 : List Z7) : Option (Int) := pick fun r => ∀ (ox0 : Own), RRun (Z2g) (EE 109 [(.p (.lst ox0 (x0.map ZR))), (.clo 95 [] [])] []) r
theorem ZfK (x0 : List Z7) (ox0 : Own) : Sim (Z2g) (Z6m x0) (EE 109 [(.p (.lst ox0 (x0.map ZR))), (.clo 95 [] [])] []) := fun _ h => Z1b h ox0
def Z4n (x0 : List Z7) (x7 x8 : Int) : Option (Int) := pick fun r => ∀ (ox0 : Own), RRun (Z2g) (ZiJ 0 (.p (.lst ox0 (x0.map ZR))) (.clo 95 [] []) (iv x7) (iv x8) []) r
theorem Z99 (x0 : List Z7) (x7 x8 : Int) (ox0 : Own) : Sim (Z2g) (Z4n x0 x7 x8) (ZiJ 0 (.p (.lst ox0 (x0.map ZR))) (.clo 95 [] []) (iv x7) (iv x8) []) := fun _ h => Z1b h ox0
def ZaO (x0 : Z7) : Option (Bool) := pick fun r => ∀ (z1S z1t : Own), RRun (Z8N) (EE 95 [(.p (.agg (ZG x0 z1S z1t)))] []) r
theorem Znc (x0 : Z7) (z1S z1t : Own) : Sim (Z8N) (ZaO x0) (EE 95 [(.p (.agg (ZG x0 z1S z1t)))] []) := fun _ h => Z1b h z1S z1t
def Z5X (x0 : Z7) : Option (Int) := pick fun r => ∀ (z1S z1t : Own), RRun (Z4Z) (EE 72 [(.p (.agg (ZG x0 z1S z1t)))] []) r
theorem Zke (x0 : Z7) (z1S z1t : Own) : Sim (Z4Z) (Z5X x0) (EE 72 [(.p (.agg (ZG x0 z1S z1t)))] []) := fun _ h => Z1b h z1S z1t
def Z6l (x3 : Int) (x8 : List Z7) (x9 x10 : Int) (b0 : Z7) : Option (Int) := pick fun r => ∀ (ox8 z1R z1z : Own), RRun (Z4Z) (Zlq 0 (.ptr 0 0) (iv x3) (.p (.lst ox8 (x8.map ZR))) (iv x9) (iv x10) [(Zq b0 z1R z1z)]) r
theorem Zhy (x3 : Int) (x8 : List Z7) (x9 x10 : Int) (b0 : Z7) (ox8 z1R z1z : Own) : Sim (Z4Z) (Z6l x3 x8 x9 x10 b0) (Zlq 0 (.ptr 0 0) (iv x3) (.p (.lst ox8 (x8.map ZR))) (iv x9) (iv x10) [(Zq b0 z1R z1z)]) := fun _ h => Z1b h ox8 z1R z1z
def Z8F (x0 : ZC) : Option (ZO) := pick fun r => ∀ (z12 : Own), RRun (Z3Q) (EE 16 [(.p (.agg (Z1w x0 z12)))] []) r
theorem ZcI (x0 : ZC) (z12 : Own) : Sim (Z3Q) (Z8F x0) (EE 16 [(.p (.agg (Z1w x0 z12)))] []) := fun _ h => Z1b h z12
def Z81 (x0 : ZC) : Option (Bool) := pick fun r => ∀ (z12 : Own), RRun (Z2O) (EE 20 [(.p (.agg (Z1w x0 z12)))] []) r
theorem Zc3 (x0 : ZC) (z12 : Own) : Sim (Z2O) (Z81 x0) (EE 20 [(.p (.agg (Z1w x0 z12)))] []) := fun _ h => Z1b h z12
def Z7T (x0 : ZC) : Option (Bool) := pick fun r => ∀ (z12 : Own), RRun (Z7J) (EE 46 [(.p (.agg (Z1w x0 z12)))] []) r
theorem Ze9 (x0 : ZC) (z12 : Own) : Sim (Z7J) (Z7T x0) (EE 46 [(.p (.agg (Z1w x0 z12)))] []) := fun _ h => Z1b h z12
def Z7S (x3 : Int) (x16 : List Zw) (x17 x18 : Int) : Option (Bool) := pick fun r => ∀ (ox16 : Own), RRun (Z2O) (Zll 0 (iv x3) (.p (.lst ox16 (x16.map ZD))) (iv x17) (iv x18) []) r
theorem Ze8 (x3 : Int) (x16 : List Zw) (x17 x18 : Int) (ox16 : Own) : Sim (Z2O) (Z7S x3 x16 x17 x18) (Zll 0 (iv x3) (.p (.lst ox16 (x16.map ZD))) (iv x17) (iv x18) []) := fun _ h => Z1b h ox16
def Z8V (x0 : Zw) : Option (Bool) := pick fun r => RRun (Z8J) (EE 27 [(.p (.agg (Z1J x0)))] []) r
theorem ZfD (x0 : Zw) : Sim (Z8J) (Z8V x0) (EE 27 [(.p (.agg (Z1J x0)))] []) := fun _ h => Z1b h
def Z8q (x11 : List Zw) (x12 x13 : Int) : Option (ZO) := pick fun r => ∀ (b0 : ZC) (b1 : ZO) (ox11 zB : Own), RRun (Z3Q) (Zli 0 (.ptr 1 0) (.p (.lst ox11 (x11.map ZD))) (iv x12) (iv x13) [(Zx b0 zB), (ZY b1)]) r
theorem Zfd (x11 : List Zw) (x12 x13 : Int) (b0 : ZC) (b1 : ZO) (ox11 zB : Own) : Sim (Z3Q) (Z8q x11 x12 x13) (Zli 0 (.ptr 1 0) (.p (.lst ox11 (x11.map ZD))) (iv x12) (iv x13) [(Zx b0 zB), (ZY b1)]) := fun _ h => Z1b h b0 b1 ox11 zB
def Z8C (x0 : ZC) (x1 : ZU) : Option (Bool) := pick fun r => ∀ (z12 z3E z3z : Own), RRun (Z1X) (EE 15 [(.p (.agg (Z1w x0 z12))), (.p (.agg (Z4B x1 z3E z3z)))] []) r
theorem Zji (x0 : ZC) (x1 : ZU) (z12 z3E z3z : Own) : Sim (Z1X) (Z8C x0 x1) (EE 15 [(.p (.agg (Z1w x0 z12))), (.p (.agg (Z4B x1 z3E z3z)))] []) := fun _ h => Z1b h z12 z3E z3z
def Z3n (x13 : S91) (x14 : Int) (b1 : ZU) : Option (Bool) := pick fun r => ∀ (b0 : ZC) (z2E z2F zB zQ zK : Own), RRun (Z1X) (Zlg 0 (.ptr 1 0) (.p (.agg (ZeA x13 z2E z2F))) (iv x14) [(Zx b0 zB), (ZN b1 zQ zK)]) r
theorem Zbc (x13 : S91) (x14 : Int) (b0 : ZC) (b1 : ZU) (z2E z2F zB zQ zK : Own) : Sim (Z1X) (Z3n x13 x14 b1) (Zlg 0 (.ptr 1 0) (.p (.agg (ZeA x13 z2E z2F))) (iv x14) [(Zx b0 zB), (ZN b1 zQ zK)]) := fun _ h => Z1b h b0 z2E z2F zB zQ zK
def Z5V (x13 : S91) (x14 : Int) (x20 : List Zw) (x21 x22 : Int) (b1 : ZU) : Option (Bool) := pick fun r => ∀ (b0 : ZC) (z2E z2F ox20 zB zQ zK : Own), RRun (Z1X) (Zlh 0 (.ptr 1 0) (.p (.agg (ZeA x13 z2E z2F))) (iv x14) (.p (.lst ox20 (x20.map ZD))) (iv x21) (iv x22) [(Zx b0 zB), (ZN b1 zQ zK)]) r
theorem Zbd (x13 : S91) (x14 : Int) (x20 : List Zw) (x21 x22 : Int) (b0 : ZC) (b1 : ZU) (z2E z2F ox20 zB zQ zK : Own) : Sim (Z1X) (Z5V x13 x14 x20 x21 x22 b1) (Zlh 0 (.ptr 1 0) (.p (.agg (ZeA x13 z2E z2F))) (iv x14) (.p (.lst ox20 (x20.map ZD))) (iv x21) (iv x22) [(Zx b0 zB), (ZN b1 zQ zK)]) := fun _ h => Z1b h b0 z2E z2F ox20 zB zQ zK
def Z48 (x3 x21 x22 : Int) (b0 : ZC) : Option (Bool) := pick fun r => ∀ (zB : Own), RRun (Z1C) (Zpb 0 (.ptr 0 0) (iv x3) (iv x21) (iv x22) [(Zx b0 zB)]) r
theorem Z8U (x3 x21 x22 : Int) (b0 : ZC) (zB : Own) : Sim (Z1C) (Z48 x3 x21 x22 b0) (Zpb 0 (.ptr 0 0) (iv x3) (iv x21) (iv x22) [(Zx b0 zB)]) := fun _ h => Z1b h zB
def ZcA (x0 : ZC) (x1 : ZU) : Option (ZC × Int) := pick fun r => ∀ (z12 z3E z3z : Own), RRun (Z1O) (EE 22 [(.p (.agg (Z1w x0 z12))), (.p (.agg (Z4B x1 z3E z3z)))] []) r
theorem Zrz (x0 : ZC) (x1 : ZU) (z12 z3E z3z : Own) : Sim (Z1O) (ZcA x0 x1) (EE 22 [(.p (.agg (Z1w x0 z12))), (.p (.agg (Z4B x1 z3E z3z)))] []) := fun _ h => Z1b h z12 z3E z3z
def Zey (x1 z19 : Int) : Option (Int) := pick fun r => ∀ (z1k z1y z1r : Int) (z1n : List Zw) (zB : Own), RRun (ZbL z1k z1y z1r z1n zB) (EE 49 [(.ptr 0 0), (iv x1)] [(Zx (ZC.mk z19 z1k z1y z1r z1n) zB)]) r
theorem Zqw (x1 z19 z1k z1y z1r : Int) (z1n : List Zw) (zB : Own) : Sim (ZbL z1k z1y z1r z1n zB) (Zey x1 z19) (EE 49 [(.ptr 0 0), (iv x1)] [(Zx (ZC.mk z19 z1k z1y z1r z1n) zB)]) := fun _ h => Z1b h z1k z1y z1r z1n zB
def ZaN (x1 z1k : Int) : Option (Int) := pick fun r => ∀ (z19 z1y z1r : Int) (z1n : List Zw) (zB : Own), RRun (Z8M z19 z1y z1r z1n zB) (EE 49 [(.ptr 0 1), (iv x1)] [(Zx (ZC.mk z19 z1k z1y z1r z1n) zB)]) r
theorem Zn7 (x1 z19 z1k z1y z1r : Int) (z1n : List Zw) (zB : Own) : Sim (Z8M z19 z1y z1r z1n zB) (ZaN x1 z1k) (EE 49 [(.ptr 0 1), (iv x1)] [(Zx (ZC.mk z19 z1k z1y z1r z1n) zB)]) := fun _ h => Z1b h z19 z1y z1r z1n zB
def ZaM (x1 z1y : Int) : Option (Int) := pick fun r => ∀ (z19 z1k z1r : Int) (z1n : List Zw) (zB : Own), RRun (Z8L z19 z1k z1r z1n zB) (EE 49 [(.ptr 0 2), (iv x1)] [(Zx (ZC.mk z19 z1k z1y z1r z1n) zB)]) r
theorem Zn5 (x1 z19 z1k z1y z1r : Int) (z1n : List Zw) (zB : Own) : Sim (Z8L z19 z1k z1r z1n zB) (ZaM x1 z1y) (EE 49 [(.ptr 0 2), (iv x1)] [(Zx (ZC.mk z19 z1k z1y z1r z1n) zB)]) := fun _ h => Z1b h z19 z1k z1r z1n zB
def ZaL (x1 z1r : Int) : Option (Int) := pick fun r => ∀ (z19 z1k z1y : Int) (z1n : List Zw) (zB : Own), RRun (Z8K z19 z1k z1y z1n zB) (EE 49 [(.ptr 0 3), (iv x1)] [(Zx (ZC.mk z19 z1k z1y z1r z1n) zB)]) r
theorem Zn3 (x1 z19 z1k z1y z1r : Int) (z1n : List Zw) (zB : Own) : Sim (Z8K z19 z1k z1y z1n zB) (ZaL x1 z1r) (EE 49 [(.ptr 0 3), (iv x1)] [(Zx (ZC.mk z19 z1k z1y z1r z1n) zB)]) := fun _ h => Z1b h z19 z1k z1y z1n zB
def Z9S (x0 : List Zw) : Option (Bool) := pick fun r => ∀ (ox0 : Own), RRun (Z7K) (EE 50 [(.p (.lst ox0 (x0.map ZD))), (.clo 27 [] [])] []) r
theorem ZkQ (x0 : List Zw) (ox0 : Own) : Sim (Z7K) (Z9S x0) (EE 50 [(.p (.lst ox0 (x0.map ZD))), (.clo 27 [] [])] []) := fun _ h => Z1b h ox0
def Z5v (x0 : List Zw) : Option (Bool) := pick fun r => ∀ (ox0 : Own), RRun (Z4f) (EE 57 [(.p (.lst ox0 (x0.map ZD))), (.clo 73 [] [(.ptr 0 0)])] [[(.clo 27 [] [])]]) r
theorem Zee (x0 : List Zw) (ox0 : Own) : Sim (Z4f) (Z5v x0) (EE 57 [(.p (.lst ox0 (x0.map ZD))), (.clo 73 [] [(.ptr 0 0)])] [[(.clo 27 [] [])]]) := fun _ h => Z1b h ox0
def Z6n (x0 : List Zw) : Option (Int) := pick fun r => ∀ (ox0 : Own), RRun (Z2h) (EE 83 [(.p (.lst ox0 (x0.map ZD))), (.clo 73 [] [(.ptr 0 0)])] [[(.clo 27 [] [])]]) r
theorem ZfM (x0 : List Zw) (ox0 : Own) : Sim (Z2h) (Z6n x0) (EE 83 [(.p (.lst ox0 (x0.map ZD))), (.clo 73 [] [(.ptr 0 0)])] [[(.clo 27 [] [])]]) := fun _ h => Z1b h ox0
def Z4o (x0 : List Zw) (x7 x8 : Int) : Option (Int) := pick fun r => ∀ (ox0 : Own), RRun (Z2h) (ZfB 1 (.p (.lst ox0 (x0.map ZD))) (.clo 73 [] [(.ptr 0 0)]) (iv x7) (iv x8) [[(.clo 27 [] [])]]) r
theorem Z9a (x0 : List Zw) (x7 x8 : Int) (ox0 : Own) : Sim (Z2h) (Z4o x0 x7 x8) (ZfB 1 (.p (.lst ox0 (x0.map ZD))) (.clo 73 [] [(.ptr 0 0)]) (iv x7) (iv x8) [[(.clo 27 [] [])]]) := fun _ h => Z1b h ox0
def Z73 (x0 : Zw) : Option (Bool) := pick fun r => RRun (Z6O) (EE 73 [(.p (.agg (Z1J x0))), (.ptr 0 0)] [[(.clo 27 [] [])]]) r
theorem Zjv (x0 : Zw) : Sim (Z6O) (Z73 x0) (EE 73 [(.p (.agg (Z1J x0))), (.ptr 0 0)] [[(.clo 27 [] [])]]) := fun _ h => Z1b h
def Zak (x0 : ZU) : Option (Bool) := pick fun r => ∀ (z6b z4Y : Own), RRun (Z8h) (EE 51 [(.p (.agg (Z4B x0 z6b z4Y)))] []) r
theorem ZlG (x0 : ZU) (z6b z4Y : Own) : Sim (Z8h) (Zak x0) (EE 51 [(.p (.agg (Z4B x0 z6b z4Y)))] []) := fun _ h => Z1b h z6b z4Y
def Z5w (x0 : List Zw) (z11 : List (Int × Bool)) : Option (Bool × (List (Int × Bool))) := pick fun r => ∀ (ox0 : Own), RRun (Z4g) (EE 57 [(.p (.lst ox0 (x0.map ZD))), (.clo 75 [] [(.ptr 0 0)])] [[(.clo 74 [] [(.ptr 1 0)])], [(.mp 2)], [(.md ((z11).map (encM eB)))]]) r
theorem Zeg (x0 : List Zw) (z11 : List (Int × Bool)) (ox0 : Own) : Sim (Z4g) (Z5w x0 z11) (EE 57 [(.p (.lst ox0 (x0.map ZD))), (.clo 75 [] [(.ptr 0 0)])] [[(.clo 74 [] [(.ptr 1 0)])], [(.mp 2)], [(.md ((z11).map (encM eB)))]]) := fun _ h => Z1b h ox0
def Z6o (x0 : List Zw) (z11 : List (Int × Bool)) : Option (Int × (List (Int × Bool))) := pick fun r => ∀ (ox0 : Own), RRun (Z2i) (EE 83 [(.p (.lst ox0 (x0.map ZD))), (.clo 75 [] [(.ptr 0 0)])] [[(.clo 74 [] [(.ptr 1 0)])], [(.mp 2)], [(.md ((z11).map (encM eB)))]]) r
theorem ZfO (x0 : List Zw) (z11 : List (Int × Bool)) (ox0 : Own) : Sim (Z2i) (Z6o x0 z11) (EE 83 [(.p (.lst ox0 (x0.map ZD))), (.clo 75 [] [(.ptr 0 0)])] [[(.clo 74 [] [(.ptr 1 0)])], [(.mp 2)], [(.md ((z11).map (encM eB)))]]) := fun _ h => Z1b h ox0
def Z4p (x0 : List Zw) (x7 x8 : Int) (z11 : List (Int × Bool)) : Option (Int × (List (Int × Bool))) := pick fun r => ∀ (ox0 : Own), RRun (Z2i) (ZfB 3 (.p (.lst ox0 (x0.map ZD))) (.clo 75 [] [(.ptr 0 0)]) (iv x7) (iv x8) [[(.clo 74 [] [(.ptr 1 0)])], [(.mp 2)], [(.md ((z11).map (encM eB)))]]) r
theorem Z9b (x0 : List Zw) (x7 x8 : Int) (z11 : List (Int × Bool)) (ox0 : Own) : Sim (Z2i) (Z4p x0 x7 x8 z11) (ZfB 3 (.p (.lst ox0 (x0.map ZD))) (.clo 75 [] [(.ptr 0 0)]) (iv x7) (iv x8) [[(.clo 74 [] [(.ptr 1 0)])], [(.mp 2)], [(.md ((z11).map (encM eB)))]]) := fun _ h => Z1b h ox0
def Z7w (x0 : Zw) (z11 : List (Int × Bool)) : Option (Bool × (List (Int × Bool))) := pick fun r => RRun (Z5N) (EE 75 [(.p (.agg (Z1J x0))), (.ptr 0 0)] [[(.clo 74 [] [(.ptr 1 0)])], [(.mp 2)], [(.md ((z11).map (encM eB)))]]) r
theorem Zhw (x0 : Zw) (z11 : List (Int × Bool)) : Sim (Z5N) (Z7w x0 z11) (EE 75 [(.p (.agg (Z1J x0))), (.ptr 0 0)] [[(.clo 74 [] [(.ptr 1 0)])], [(.mp 2)], [(.md ((z11).map (encM eB)))]]) := fun _ h => Z1b h
def Z5W (x0 : Int) (z1K : List (Int × Bool)) : Option (Bool × (List (Int × Bool))) := pick fun r => RRun (Z5M) (EE 74 [(iv x0), (.ptr 0 0)] [[(.mp 1)], [(.md ((z1K).map (encM eB)))]]) r
theorem Zbf (x0 : Int) (z1K : List (Int × Bool)) : Sim (Z5M) (Z5W x0 z1K) (EE 74 [(iv x0), (.ptr 0 0)] [[(.mp 1)], [(.md ((z1K).map (encM eB)))]]) := fun _ h => Z1b h
def Z5K (x0 : List Int) (z1K : List (Int × Bool)) : Option (Bool × (List (Int × Bool))) := pick fun r => ∀ (ox0 : Own), RRun (Z4t) (EE 59 [(.p (.lst ox0 (x0.map (eI .i64)))), (.clo 74 [] [(.ptr 0 0)])] [[(.mp 1)], [(.md ((z1K).map (encM eB)))]]) r
theorem ZeM (x0 : List Int) (z1K : List (Int × Bool)) (ox0 : Own) : Sim (Z4t) (Z5K x0 z1K) (EE 59 [(.p (.lst ox0 (x0.map (eI .i64)))), (.clo 74 [] [(.ptr 0 0)])] [[(.mp 1)], [(.md ((z1K).map (encM eB)))]]) := fun _ h => Z1b h ox0
def Z6F (x0 : List Int) (z1K : List (Int × Bool)) : Option (Int × (List (Int × Bool))) := pick fun r => ∀ (ox0 : Own), RRun (Z2p) (EE 84 [(.p (.lst ox0 (x0.map (eI .i64)))), (.clo 74 [] [(.ptr 0 0)])] [[(.mp 1)], [(.md ((z1K).map (encM eB)))]]) r
theorem Zg8 (x0 : List Int) (z1K : List (Int × Bool)) (ox0 : Own) : Sim (Z2p) (Z6F x0 z1K) (EE 84 [(.p (.lst ox0 (x0.map (eI .i64)))), (.clo 74 [] [(.ptr 0 0)])] [[(.mp 1)], [(.md ((z1K).map (encM eB)))]]) := fun _ h => Z1b h ox0
def Z4w (x0 : List Int) (x7 x8 : Int) (z1K : List (Int × Bool)) : Option (Int × (List (Int × Bool))) := pick fun r => ∀ (ox0 : Own), RRun (Z2p) (Zlr 2 (.p (.lst ox0 (x0.map (eI .i64)))) (.clo 74 [] [(.ptr 0 0)]) (iv x7) (iv x8) [[(.mp 1)], [(.md ((z1K).map (encM eB)))]]) r
theorem Z9A (x0 : List Int) (x7 x8 : Int) (z1K : List (Int × Bool)) (ox0 : Own) : Sim (Z2p) (Z4w x0 x7 x8 z1K) (Zlr 2 (.p (.lst ox0 (x0.map (eI .i64)))) (.clo 74 [] [(.ptr 0 0)]) (iv x7) (iv x8) [[(.mp 1)], [(.md ((z1K).map (encM eB)))]]) := fun _ h => Z1b h ox0
def Z9v (x54 : List Zw) (x55 x56 : Int) (b1 : ZU) (zF zI zP zJ : Int) (z1d : List (Int × Zw)) : Option (ZC × Int) := pick fun r => ∀ (b0 b2 : ZC) (zX : List Zw) (ox54 zB zQ zK zM zV : Own) (z1q : ZL zM = true), RRun (Z1O) (ZiV 0 (.ptr 1 0) (.ptr 2 0) (.ptr 3 0) (.mp 4) (.p (.lst ox54 (x54.map ZD))) (iv x55) (iv x56) [(Zx b0 zB), (ZN b1 zQ zK), (Zx b2 zM), (Zx (ZC.mk zF zI zP zJ zX) zV), [(.md ((z1d).map (encM ZD)))]]) r
theorem Zgb (x54 : List Zw) (x55 x56 : Int) (b0 : ZC) (b1 : ZU) (b2 : ZC) (zF zI zP zJ : Int) (zX : List Zw) (z1d : List (Int × Zw)) (ox54 zB zQ zK zM zV : Own) (z1q : ZL zM = true) : Sim (Z1O) (Z9v x54 x55 x56 b1 zF zI zP zJ z1d) (ZiV 0 (.ptr 1 0) (.ptr 2 0) (.ptr 3 0) (.mp 4) (.p (.lst ox54 (x54.map ZD))) (iv x55) (iv x56) [(Zx b0 zB), (ZN b1 zQ zK), (Zx b2 zM), (Zx (ZC.mk zF zI zP zJ zX) zV), [(.md ((z1d).map (encM ZD)))]]) := fun _ h => Z1b h b0 b2 zX ox54 zB zQ zK zM zV z1q
def Z9w (x66 : List Int) (x67 x68 : Int) (b1 : ZU) (zF zI zP zJ : Int) (z1d : List (Int × Zw)) : Option (ZC × Int) := pick fun r => ∀ (b0 b2 : ZC) (zX : List Zw) (ox66 zB zQ zK zM zV : Own) (z1q : ZL zM = true), RRun (Z1O) (ZiW 0 (.ptr 1 0) (.ptr 2 0) (.ptr 3 0) (.mp 4) (.p (.lst ox66 (x66.map (eI .i64)))) (iv x67) (iv x68) [(Zx b0 zB), (ZN b1 zQ zK), (Zx b2 zM), (Zx (ZC.mk zF zI zP zJ zX) zV), [(.md ((z1d).map (encM ZD)))]]) r
theorem Zgd (x66 : List Int) (x67 x68 : Int) (b0 : ZC) (b1 : ZU) (b2 : ZC) (zF zI zP zJ : Int) (zX : List Zw) (z1d : List (Int × Zw)) (ox66 zB zQ zK zM zV : Own) (z1q : ZL zM = true) : Sim (Z1O) (Z9w x66 x67 x68 b1 zF zI zP zJ z1d) (ZiW 0 (.ptr 1 0) (.ptr 2 0) (.ptr 3 0) (.mp 4) (.p (.lst ox66 (x66.map (eI .i64)))) (iv x67) (iv x68) [(Zx b0 zB), (ZN b1 zQ zK), (Zx b2 zM), (Zx (ZC.mk zF zI zP zJ zX) zV), [(.md ((z1d).map (encM ZD)))]]) := fun _ h => Z1b h b0 b2 zX ox66 zB zQ zK zM zV z1q
def Z9x (x85 : List Zw) (x86 x87 zF zI zP zJ : Int) (z1d : List (Int × Zw)) : Option (ZC × Int) := pick fun r => ∀ (b0 : ZC) (b1 : ZU) (b2 : ZC) (zX : List Zw) (ox85 zB zQ zK zM zV : Own) (z1q : ZL zM = true), RRun (Z1O) (ZiX 0 (.ptr 2 0) (.ptr 3 0) (.mp 4) (.p (.lst ox85 (x85.map ZD))) (iv x86) (iv x87) [(Zx b0 zB), (ZN b1 zQ zK), (Zx b2 zM), (Zx (ZC.mk zF zI zP zJ zX) zV), [(.md ((z1d).map (encM ZD)))]]) r
theorem Zgf (x85 : List Zw) (x86 x87 : Int) (b0 : ZC) (b1 : ZU) (b2 : ZC) (zF zI zP zJ : Int) (zX : List Zw) (z1d : List (Int × Zw)) (ox85 zB zQ zK zM zV : Own) (z1q : ZL zM = true) : Sim (Z1O) (Z9x x85 x86 x87 zF zI zP zJ z1d) (ZiX 0 (.ptr 2 0) (.ptr 3 0) (.mp 4) (.p (.lst ox85 (x85.map ZD))) (iv x86) (iv x87) [(Zx b0 zB), (ZN b1 zQ zK), (Zx b2 zM), (Zx (ZC.mk zF zI zP zJ zX) zV), [(.md ((z1d).map (encM ZD)))]]) := fun _ h => Z1b h b0 b1 b2 zX ox85 zB zQ zK zM zV z1q
def Z94  : Option (Unit) := pick fun r => ∀ (z1p : List (Int × Zw)), RRun (Z7e z1p) (EE 53 [(.mp 0)] [[(.md ((z1p).map (encM ZD)))]]) r
theorem ZjO (z1p : List (Int × Zw)) : Sim (Z7e z1p) (Z94) (EE 53 [(.mp 0)] [[(.md ((z1p).map (encM ZD)))]]) := fun _ h => Z1b h z1p
def Z9W (z1K : List (Int × Zw)) : Option (List Int) := pick fun r => RRun (Z7G z1K) (EE 52 [(.clo 78 [] [(.ptr 0 0)])] [[(.mp 1)], [(.md ((z1K).map (encM ZD)))]]) r
theorem Zi0 (z1K : List (Int × Zw)) : Sim (Z7G z1K) (Z9W z1K) (EE 52 [(.clo 78 [] [(.ptr 0 0)])] [[(.mp 1)], [(.md ((z1K).map (encM ZD)))]]) := fun _ h => Z1b h
def Z9y (x103 : List Int) (x104 x105 zF zI zP zJ : Int) (zX : List Zw) (z1d : List (Int × Zw)) : Option (ZC × Int) := pick fun r => ∀ (b0 : ZC) (b1 : ZU) (b2 : ZC) (ox103 zB zQ zK zM zV : Own) (z1q : ZL zM = true) (z8d : ZL zV = true), RRun (Z1O) (ZiY 0 (.ptr 2 0) (.ptr 3 0) (.mp 4) (.p (.lst ox103 (x103.map (eI .i64)))) (iv x104) (iv x105) [(Zx b0 zB), (ZN b1 zQ zK), (Zx b2 zM), (Zx (ZC.mk zF zI zP zJ zX) zV), [(.md ((z1d).map (encM ZD)))]]) r
theorem Zgh (x103 : List Int) (x104 x105 : Int) (b0 : ZC) (b1 : ZU) (b2 : ZC) (zF zI zP zJ : Int) (zX : List Zw) (z1d : List (Int × Zw)) (ox103 zB zQ zK zM zV : Own) (z1q : ZL zM = true) (z8d : ZL zV = true) : Sim (Z1O) (Z9y x103 x104 x105 zF zI zP zJ zX z1d) (ZiY 0 (.ptr 2 0) (.ptr 3 0) (.mp 4) (.p (.lst ox103 (x103.map (eI .i64)))) (iv x104) (iv x105) [(Zx b0 zB), (ZN b1 zQ zK), (Zx b2 zM), (Zx (ZC.mk zF zI zP zJ zX) zV), [(.md ((z1d).map (encM ZD)))]]) := fun _ h => Z1b h b0 b1 b2 ox103 zB zQ zK zM zV z1q z8d
end Go.Proofs.YteoeggbihfnbfaaGreatDoor.N2
end
