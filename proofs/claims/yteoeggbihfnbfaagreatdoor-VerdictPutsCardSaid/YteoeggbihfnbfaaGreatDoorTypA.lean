/- The functions, read typed: their types, and what they stand for. No condition. -/
import Derived.Test.YteoeggbihfnbfaaGreatDoorSim
import Derived.Test.YteoeggbihfnbfaaGreatDoorEqs

noncomputable section
set_option linter.unusedSimpArgs false
set_option linter.unusedVariables false
namespace Go.Proofs.YteoeggbihfnbfaaGreatDoor.N2
open Go Go.Abs
set_option linter.unusedVariables false
set_option maxRecDepth 100000
structure Zp where
 ID : Int
 Priority : Int
 Action : Int
 Scope : Int
 Pattern : ByteArray
 deriving Inhabited
def Z53 (a : Zp) : List PV := [(eI .i64) a.ID, (eI .i64) a.Priority, (eI .i64) a.Action, (eI .i64) a.Scope, eS a.Pattern]
def ZF (a : Zp) : PV := .agg (Z53 a)
def Z1r (a : Zp) : List PV := [(eI .i64) a.ID, (eI .i64) a.Priority, (eI .i64) a.Action, (eI .i64) a.Scope, eS a.Pattern]
def ZW (a : Zp) : Row := [.p ((eI .i64) a.ID), .p ((eI .i64) a.Priority), .p ((eI .i64) a.Action), .p ((eI .i64) a.Scope), .p (eS a.Pattern)]
theorem Zjr {a b : Zp} (h : Z53 a = Z53 b) : a = b := by
 have h0 : a.ID = b.ID := Z5u _ _ (congrArg (fun l => l.getD 0 .junk) h)
 have h1 : a.Priority = b.Priority := Z5u _ _ (congrArg (fun l => l.getD 1 .junk) h)
 have h2 : a.Action = b.Action := Z5u _ _ (congrArg (fun l => l.getD 2 .junk) h)
 have h3 : a.Scope = b.Scope := Z5u _ _ (congrArg (fun l => l.getD 3 .junk) h)
 have h4 : a.Pattern = b.Pattern := ZBi _ _ (congrArg (fun l => l.getD 4 .junk) h)
 cases a; cases b
 cases h0
 cases h1
 cases h2
 cases h3
 cases h4
 rfl
theorem ZqB (a b : Zp) (h : ZF a = ZF b) : a = b := Zjr (congrArg pC h)
structure ZD where
 Default : Int
 Closed : Int
 Fuel : Int
 Stack : Int
 Rules : (List Zp)
 deriving Inhabited
def ZkS (a : ZD) : List PV := [(eI .i64) a.Default, (eI .i64) a.Closed, (eI .i64) a.Fuel, (eI .i64) a.Stack, (eL ZF) a.Rules]
def Z1h (a : ZD) (o0 : Own) : List PV := [(eI .i64) a.Default, (eI .i64) a.Closed, (eI .i64) a.Fuel, (eI .i64) a.Stack, .lst o0 (a.Rules.map ZF)]
def Zo (a : ZD) (o0 : Own) : Row := [.p ((eI .i64) a.Default), .p ((eI .i64) a.Closed), .p ((eI .i64) a.Fuel), .p ((eI .i64) a.Stack), .p (.lst o0 (a.Rules.map ZF))]
theorem ZfH {a b : ZD} (h : ZkS a = ZkS b) : a = b := by
 have h0 : a.Default = b.Default := Z5u _ _ (congrArg (fun l => l.getD 0 .junk) h)
 have h1 : a.Closed = b.Closed := Z5u _ _ (congrArg (fun l => l.getD 1 .junk) h)
 have h2 : a.Fuel = b.Fuel := Z5u _ _ (congrArg (fun l => l.getD 2 .junk) h)
 have h3 : a.Stack = b.Stack := Z5u _ _ (congrArg (fun l => l.getD 3 .junk) h)
 have h4 : a.Rules = b.Rules := (ZBh ZqB) _ _ (congrArg (fun l => l.getD 4 .junk) h)
 cases a; cases b
 cases h0
 cases h1
 cases h2
 cases h3
 cases h4
 rfl
structure ZI where
 Code : Int
 Rule : Int
 At : Int
 deriving Inhabited
def Zhq (a : ZI) : List PV := [(eI .i64) a.Code, (eI .i64) a.Rule, (eI .i64) a.At]
def Z1d (a : ZI) : List PV := [(eI .i64) a.Code, (eI .i64) a.Rule, (eI .i64) a.At]
def ZM (a : ZI) : Row := [.p ((eI .i64) a.Code), .p ((eI .i64) a.Rule), .p ((eI .i64) a.At)]
theorem ZaB {a b : ZI} (h : Zhq a = Zhq b) : a = b := by
 have h0 : a.Code = b.Code := Z5u _ _ (congrArg (fun l => l.getD 0 .junk) h)
 have h1 : a.Rule = b.Rule := Z5u _ _ (congrArg (fun l => l.getD 1 .junk) h)
 have h2 : a.At = b.At := Z5u _ _ (congrArg (fun l => l.getD 2 .junk) h)
 cases a; cases b
 cases h0
 cases h1
 cases h2
 rfl
structure Zc where
 Lo : Int
 Hi : Int
 deriving Inhabited
def Z82 (a : Zc) : List PV := [(eI .i64) a.Lo, (eI .i64) a.Hi]
def ZE (a : Zc) : PV := .agg (Z82 a)
def Z12 (a : Zc) : List PV := [(eI .i64) a.Lo, (eI .i64) a.Hi]
def Z2D (a : Zc) : Row := [.p ((eI .i64) a.Lo), .p ((eI .i64) a.Hi)]
theorem Zhp {a b : Zc} (h : Z82 a = Z82 b) : a = b := by
 have h0 : a.Lo = b.Lo := Z5u _ _ (congrArg (fun l => l.getD 0 .junk) h)
 have h1 : a.Hi = b.Hi := Z5u _ _ (congrArg (fun l => l.getD 1 .junk) h)
 cases a; cases b
 cases h0
 cases h1
 rfl
theorem Z3R (a b : Zc) (h : ZE a = ZE b) : a = b := Zhp (congrArg pC h)
structure Z7 where
 Kind : Int
 Lo : Int
 Hi : Int
 Mode : Int
 Ref : Int
 Set : (List Zc)
 Kids : (List Z7)
instance : Inhabited Z7 := ⟨⟨default, default, default, default, default, default, default⟩⟩
mutual
def ZV : Z7 → PV
 | ⟨Kind_, Lo_, Hi_, Mode_, Ref_, Set_, Kids_⟩ => .agg [(eI .i64) Kind_, (eI .i64) Lo_, (eI .i64) Hi_, (eI .i64) Mode_, (eI .i64) Ref_, (eL ZE) Set_, .lst .sh (Z64 Kids_)]
def Z64 : List Z7 → List PV
 | [] => []
 | x :: r => ZV x :: Z64 r
end
theorem Zim : ∀ l, Z64 l = l.map ZV
 | [] => rfl
 | x :: r => by rw [Z64, Zim r]; rfl
def Z37 (a : Z7) : List PV := [(eI .i64) a.Kind, (eI .i64) a.Lo, (eI .i64) a.Hi, (eI .i64) a.Mode, (eI .i64) a.Ref, (eL ZE) a.Set, (eL ZV) a.Kids]
theorem Z4Z (a : Z7) : ZV a = .agg (Z37 a) := by
 cases a; rw [ZV, Zim]; rfl
theorem Z6c (a : Z7) : Z2q (ZV a) = Z37 a := by rw [Z4Z]; rfl
theorem Zml (a : Z7) : (Z2q (ZV a)).length = 7 := by rw [Z4Z]; rfl
def ZJ (a : Z7) (o0 o1 : Own) : List PV := [(eI .i64) a.Kind, (eI .i64) a.Lo, (eI .i64) a.Hi, (eI .i64) a.Mode, (eI .i64) a.Ref, .lst o0 (a.Set.map ZE), .lst o1 (a.Kids.map ZV)]
def Zv (a : Z7) (o0 o1 : Own) : Row := [.p ((eI .i64) a.Kind), .p ((eI .i64) a.Lo), .p ((eI .i64) a.Hi), .p ((eI .i64) a.Mode), .p ((eI .i64) a.Ref), .p (.lst o0 (a.Set.map ZE)), .p (.lst o1 (a.Kids.map ZV))]
mutual
theorem Zil : ∀ a b : Z7, ZV a = ZV b → a = b
 | ⟨Kind_, Lo_, Hi_, Mode_, Ref_, Set_, Kids_⟩, ⟨Kind_2, Lo_2, Hi_2, Mode_2, Ref_2, Set_2, Kids_2⟩, h => by
  rw [ZV, ZV] at h
  have h0 : Kind_ = Kind_2 := Z5u _ _ (congrArg (fun l => (pC l).getD 0 .junk) h)
  have h1 : Lo_ = Lo_2 := Z5u _ _ (congrArg (fun l => (pC l).getD 1 .junk) h)
  have h2 : Hi_ = Hi_2 := Z5u _ _ (congrArg (fun l => (pC l).getD 2 .junk) h)
  have h3 : Mode_ = Mode_2 := Z5u _ _ (congrArg (fun l => (pC l).getD 3 .junk) h)
  have h4 : Ref_ = Ref_2 := Z5u _ _ (congrArg (fun l => (pC l).getD 4 .junk) h)
  have h5 : Set_ = Set_2 := (ZBh Z3R) _ _ (congrArg (fun l => (pC l).getD 5 .junk) h)
  have h6 : Kids_ = Kids_2 := Zhr Kids_ Kids_2 (congrArg (fun l => pL ((pC l).getD 6 .junk)) h)
  subst h0
  subst h1
  subst h2
  subst h3
  subst h4
  subst h5
  subst h6
  rfl
theorem Zhr : ∀ a b : List Z7, Z64 a = Z64 b → a = b
 | [], [], _ => rfl
 | [], _ :: _, h => by simp [Z64] at h
 | _ :: _, [], h => by simp [Z64] at h
 | x :: r, y :: t, h => by
  simp only [Z64, List.cons.injEq] at h
  rw [Zil x y h.1, Zhr r t h.2]
end
theorem Z48 {a b : Z7} (h : Z37 a = Z37 b) : a = b := Zil a b (by rw [Z4Z, Z4Z, h])
structure ZY where
 Root : Z7
 Groups : Int
 Fold : Bool
 deriving Inhabited
def Zjq (a : ZY) : List PV := [(eI .i64) a.Root.Kind, (eI .i64) a.Root.Lo, (eI .i64) a.Root.Hi, (eI .i64) a.Root.Mode, (eI .i64) a.Root.Ref, (eL ZE) a.Root.Set, (eL ZV) a.Root.Kids, (eI .i64) a.Groups, eB a.Fold]
def Z3b (a : ZY) (o0 o1 : Own) : List PV := [(eI .i64) a.Root.Kind, (eI .i64) a.Root.Lo, (eI .i64) a.Root.Hi, (eI .i64) a.Root.Mode, (eI .i64) a.Root.Ref, .lst o0 (a.Root.Set.map ZE), .lst o1 (a.Root.Kids.map ZV), (eI .i64) a.Groups, eB a.Fold]
def Z10 (a : ZY) (o0 o1 : Own) : Row := [.p ((eI .i64) a.Root.Kind), .p ((eI .i64) a.Root.Lo), .p ((eI .i64) a.Root.Hi), .p ((eI .i64) a.Root.Mode), .p ((eI .i64) a.Root.Ref), .p (.lst o0 (a.Root.Set.map ZE)), .p (.lst o1 (a.Root.Kids.map ZV)), .p ((eI .i64) a.Groups), .p (eB a.Fold)]
theorem ZmG {a b : ZY} (h : Zjq a = Zjq b) : a = b := by
 have h0 : a.Root = b.Root := Z48 (congrArg (fun l => (l.drop 0).take 7) h)
 have h1 : a.Groups = b.Groups := Z5u _ _ (congrArg (fun l => l.getD 7 .junk) h)
 have h2 : a.Fold = b.Fold := Zjs _ _ (congrArg (fun l => l.getD 8 .junk) h)
 cases a; cases b
 cases h0
 cases h1
 cases h2
 rfl
structure Zl where
 Code : Int
 At : Int
 deriving Inhabited
def ZlA (a : Zl) : List PV := [(eI .i64) a.Code, (eI .i64) a.At]
def Z5e (a : Zl) : List PV := [(eI .i64) a.Code, (eI .i64) a.At]
def Z1E (a : Zl) : Row := [.p ((eI .i64) a.Code), .p ((eI .i64) a.At)]
theorem Zoz {a b : Zl} (h : ZlA a = ZlA b) : a = b := by
 have h0 : a.Code = b.Code := Z5u _ _ (congrArg (fun l => l.getD 0 .junk) h)
 have h1 : a.At = b.At := Z5u _ _ (congrArg (fun l => l.getD 1 .junk) h)
 cases a; cases b
 cases h0
 cases h1
 rfl
structure Zz where
 group : Int
 at_ : Int
 deriving Inhabited
def ZbO (a : Zz) : List PV := [(eI .i64) a.group, (eI .i64) a.at_]
def Z2P (a : Zz) : PV := .agg (ZbO a)
def Zf1 (a : Zz) : List PV := [(eI .i64) a.group, (eI .i64) a.at_]
def Zf3 (a : Zz) : Row := [.p ((eI .i64) a.group), .p ((eI .i64) a.at_)]
theorem ZmH {a b : Zz} (h : ZbO a = ZbO b) : a = b := by
 have h0 : a.group = b.group := Z5u _ _ (congrArg (fun l => l.getD 0 .junk) h)
 have h1 : a.at_ = b.at_ := Z5u _ _ (congrArg (fun l => l.getD 1 .junk) h)
 cases a; cases b
 cases h0
 cases h1
 rfl
theorem Z7v (a b : Zz) (h : Z2P a = Z2P b) : a = b := ZmH (congrArg pC h)
structure Zm where
 b : (List Int)
 at_ : Int
 groups : Int
 deep : Int
 refs : (List Zz)
 fault : Zl
 deriving Inhabited
def Zsg (a : Zm) (o0 o1 : Own) : List PV := [.lst o0 (a.b.map (eI .u8)), (eI .i64) a.at_, (eI .i64) a.groups, (eI .i64) a.deep, .lst o1 (a.refs.map Z2P), (eI .i64) a.fault.Code, (eI .i64) a.fault.At]
def Zk (a : Zm) (o0 o1 : Own) : Row := [.p (.lst o0 (a.b.map (eI .u8))), .p ((eI .i64) a.at_), .p ((eI .i64) a.groups), .p ((eI .i64) a.deep), .p (.lst o1 (a.refs.map Z2P)), .p ((eI .i64) a.fault.Code), .p ((eI .i64) a.fault.At)]
structure ZX where
 Default : Int
 Closed : Int
 Fuel : Int
 Stack : Int
 Put : (List Zp)
 Drop : (List Int)
 deriving Inhabited
def Z3q (a : ZX) (o0 o1 : Own) : List PV := [(eI .i64) a.Default, (eI .i64) a.Closed, (eI .i64) a.Fuel, (eI .i64) a.Stack, .lst o0 (a.Put.map ZF), .lst o1 (a.Drop.map (eI .i64))]
def ZN (a : ZX) (o0 o1 : Own) : Row := [.p ((eI .i64) a.Default), .p ((eI .i64) a.Closed), .p ((eI .i64) a.Fuel), .p ((eI .i64) a.Stack), .p (.lst o0 (a.Put.map ZF)), .p (.lst o1 (a.Drop.map (eI .i64)))]
structure S91 where
 c0 : (List Zp)
 c1 : (List Zp)
 deriving Inhabited
def ZeH (a : S91) (o0 o1 : Own) : List PV := [.lst o0 (a.c0.map ZF), .lst o1 (a.c1.map ZF)]
end Go.Proofs.YteoeggbihfnbfaaGreatDoor.N2
end
noncomputable section
set_option linter.unusedSimpArgs false
set_option linter.unusedVariables false
namespace Go.Proofs.YteoeggbihfnbfaaGreatDoor.N2
open Go Go.Abs
set_option linter.unusedVariables false
set_option maxRecDepth 100000
abbrev Zcu  : (ZD) → Res → Prop := fun r q => ∃ (ex : List Row), q = ((.p (.agg (Z1h r .sh))), ex)
theorem ZsF  : ∀ a b q, Zcu  a q → Zcu  b q → a = b := by
 rintro a b q ⟨_, e1⟩ ⟨_, e2⟩
 have e := e1.symm.trans e2
 exact ZfH (congrArg (fun q : Res => pC (pA q.1)) e)
abbrev Z5g (zn : List Int) (zb zh : Int) (zj : List Zz) (z2 z6 : Int) (zu zd : Own) : (Bool × Int) → Res → Prop := fun r q => ∃ (ex : List Row), q = ((bv r.1), [(Zk (Zm.mk zn r.2 zb zh zj (Zl.mk z2 z6)) zu zd)] ++ ex)
theorem Zlw (zn : List Int) (zb zh : Int) (zj : List Zz) (z2 z6 : Int) (zu zd : Own) : ∀ a b q, Z5g zn zb zh zj z2 z6 zu zd a q → Z5g zn zb zh zj z2 z6 zu zd b q → a = b := by
 rintro a b q ⟨_, e1⟩ ⟨_, e2⟩
 have e := e1.symm.trans e2
 exact Prod.ext (congrArg (fun q : Res => pB (pA q.1)) e) (congrArg (fun q : Res => pI (pA (cellAt q 0 1))) e)
abbrev Z75  : (Int × Int) → Res → Prop := fun r q => ∃ (ex : List Row), q = ((.p (.tup [(.v (.int .i32 r.1)), (.v (.int .i64 r.2))])), ex)
theorem Zhn  : ∀ a b q, Z75  a q → Z75  b q → a = b := by
 rintro a b q ⟨_, e1⟩ ⟨_, e2⟩
 have e := e1.symm.trans e2
 exact Prod.ext (congrArg (fun q : Res => pI ((pT (pA q.1)).getD 0 .junk)) e) (congrArg (fun q : Res => pI ((pT (pA q.1)).getD 1 .junk)) e)
abbrev Z8b  : (Int × Int) → Res → Prop := fun r q => ∃ (ex : List Row), q = ((.p (.tup [(.v (.int .i64 r.1)), (.v (.int .i64 r.2))])), ex)
theorem ZuX  : ∀ a b q, Z8b  a q → Z8b  b q → a = b := by
 rintro a b q ⟨_, e1⟩ ⟨_, e2⟩
 have e := e1.symm.trans e2
 exact Prod.ext (congrArg (fun q : Res => pI ((pT (pA q.1)).getD 0 .junk)) e) (congrArg (fun q : Res => pI ((pT (pA q.1)).getD 1 .junk)) e)
abbrev Z6t (b0 : Zm) (zu zd : Own) : (Int) → Res → Prop := fun r q => ∃ (ex : List Row), q = ((iv r), [(Zk b0 zu zd)] ++ ex)
theorem Zlu (b0 : Zm) (zu zd : Own) : ∀ a b q, Z6t b0 zu zd a q → Z6t b0 zu zd b q → a = b := by
 rintro a b q ⟨_, e1⟩ ⟨_, e2⟩
 have e := e1.symm.trans e2
 exact congrArg (fun q : Res => pI (pA q.1)) e
abbrev Z9j  : (Z7) → Res → Prop := fun r q => ∃ (ex : List Row), q = ((.p (.agg (ZJ r .sh .sh))), ex)
theorem Zqy  : ∀ a b q, Z9j  a q → Z9j  b q → a = b := by
 rintro a b q ⟨_, e1⟩ ⟨_, e2⟩
 have e := e1.symm.trans e2
 exact Z48 (congrArg (fun q : Res => pC (pA q.1)) e)
abbrev Z7O (zn : List Int) (zb zh : Int) (zj : List Zz) (z2 z6 : Int) (zu zd : Own) : (Int × Int) → Res → Prop := fun r q => ∃ (ex : List Row), q = ((iv r.1), [(Zk (Zm.mk zn r.2 zb zh zj (Zl.mk z2 z6)) zu zd)] ++ ex)
theorem Zlv (zn : List Int) (zb zh : Int) (zj : List Zz) (z2 z6 : Int) (zu zd : Own) : ∀ a b q, Z7O zn zb zh zj z2 z6 zu zd a q → Z7O zn zb zh zj z2 z6 zu zd b q → a = b := by
 rintro a b q ⟨_, e1⟩ ⟨_, e2⟩
 have e := e1.symm.trans e2
 exact Prod.ext (congrArg (fun q : Res => pI (pA q.1)) e) (congrArg (fun q : Res => pI (pA (cellAt q 0 1))) e)
abbrev Ze3  : (Zc) → Res → Prop := fun r q => ∃ (ex : List Row), q = ((.p (.agg (Z12 r))), ex)
theorem ZuU  : ∀ a b q, Ze3  a q → Ze3  b q → a = b := by
 rintro a b q ⟨_, e1⟩ ⟨_, e2⟩
 have e := e1.symm.trans e2
 exact Zhp (congrArg (fun q : Res => pC (pA q.1)) e)
abbrev Z7N  : (Bool) → Res → Prop := fun r q => ∃ (ex : List Row), q = ((bv r), ex)
theorem Zlr  : ∀ a b q, Z7N  a q → Z7N  b q → a = b := by
 rintro a b q ⟨_, e1⟩ ⟨_, e2⟩
 have e := e1.symm.trans e2
 exact congrArg (fun q : Res => pB (pA q.1)) e
abbrev Zb4  : (Bool) → Res → Prop := fun r q => ∃ (ex : List Row), q = ((bv r), ex)
theorem Zqv  : ∀ a b q, Zb4  a q → Zb4  b q → a = b := by
 rintro a b q ⟨_, e1⟩ ⟨_, e2⟩
 have e := e1.symm.trans e2
 exact congrArg (fun q : Res => pB (pA q.1)) e
abbrev Z2i  : (Int) → Res → Prop := fun r q => ∃ (ex : List Row), q = ((iv r), ex)
theorem Zad  : ∀ a b q, Z2i  a q → Z2i  b q → a = b := by
 rintro a b q ⟨_, e1⟩ ⟨_, e2⟩
 have e := e1.symm.trans e2
 exact congrArg (fun q : Res => pI (pA q.1)) e
abbrev Z4b  : (Bool) → Res → Prop := fun r q => ∃ (ex : List Row), q = ((bv r), ex)
theorem Ze6  : ∀ a b q, Z4b  a q → Z4b  b q → a = b := by
 rintro a b q ⟨_, e1⟩ ⟨_, e2⟩
 have e := e1.symm.trans e2
 exact congrArg (fun q : Res => pB (pA q.1)) e
abbrev Zd0  : (List Zc) → Res → Prop := fun r q => ∃ (ex : List Row), q = ((.p (.lst .sh (r.map ZE))), ex)
theorem Zqx  : ∀ a b q, Zd0  a q → Zd0  b q → a = b := by
 rintro a b q ⟨_, e1⟩ ⟨_, e2⟩
 have e := e1.symm.trans e2
 exact Z3O Z3R (congrArg (fun q : Res => pL (pA q.1)) e)
abbrev Zb3  : ((List Zc) × Int) → Res → Prop := fun r q => ∃ (ex : List Row), q = ((.p (.tup [(.lst .sh (r.1.map ZE)), (.v (.int .i64 r.2))])), ex)
theorem ZsE  : ∀ a b q, Zb3  a q → Zb3  b q → a = b := by
 rintro a b q ⟨_, e1⟩ ⟨_, e2⟩
 have e := e1.symm.trans e2
 exact Prod.ext (Z3O Z3R (congrArg (fun q : Res => pL ((pT (pA q.1)).getD 0 .junk)) e)) (congrArg (fun q : Res => pI ((pT (pA q.1)).getD 1 .junk)) e)
abbrev Z2X  : (Bool) → Res → Prop := fun r q => ∃ (ex : List Row), q = ((bv r), ex)
theorem Zfz  : ∀ a b q, Z2X  a q → Z2X  b q → a = b := by
 rintro a b q ⟨_, e1⟩ ⟨_, e2⟩
 have e := e1.symm.trans e2
 exact congrArg (fun q : Res => pB (pA q.1)) e
abbrev Z3w  : (List Zc) → Res → Prop := fun r q => ∃ (ex : List Row), q = ((.p (.lst .sh (r.map ZE))), ex)
theorem Zii  : ∀ a b q, Z3w  a q → Z3w  b q → a = b := by
 rintro a b q ⟨_, e1⟩ ⟨_, e2⟩
 have e := e1.symm.trans e2
 exact Z3O Z3R (congrArg (fun q : Res => pL (pA q.1)) e)
abbrev Z8B  : ((List Zc) × Int) → Res → Prop := fun r q => ∃ (ex : List Row), q = ((.p (.tup [(.lst .sh (r.1.map ZE)), (.v (.int .i64 r.2))])), ex)
theorem ZpU  : ∀ a b q, Z8B  a q → Z8B  b q → a = b := by
 rintro a b q ⟨_, e1⟩ ⟨_, e2⟩
 have e := e1.symm.trans e2
 exact Prod.ext (Z3O Z3R (congrArg (fun q : Res => pL ((pT (pA q.1)).getD 0 .junk)) e)) (congrArg (fun q : Res => pI ((pT (pA q.1)).getD 1 .junk)) e)
abbrev Zca  : (Z7) → Res → Prop := fun r q => ∃ (ex : List Row), q = ((.p (.agg (ZJ r .sh .sh))), ex)
theorem ZuV  : ∀ a b q, Zca  a q → Zca  b q → a = b := by
 rintro a b q ⟨_, e1⟩ ⟨_, e2⟩
 have e := e1.symm.trans e2
 exact Z48 (congrArg (fun q : Res => pC (pA q.1)) e)
abbrev Z6s (zn : List Int) (zb zh : Int) (zj : List Zz) (zu zd : Own) : (Int × Int × Int) → Res → Prop := fun r q => ∃ (ex : List Row), q = ((.p (.tup [])), [(Zk (Zm.mk zn r.1 zb zh zj (Zl.mk r.2.1 r.2.2)) zu zd)] ++ ex)
theorem Zlt (zn : List Int) (zb zh : Int) (zj : List Zz) (zu zd : Own) : ∀ a b q, Z6s zn zb zh zj zu zd a q → Z6s zn zb zh zj zu zd b q → a = b := by
 rintro a b q ⟨_, e1⟩ ⟨_, e2⟩
 have e := e1.symm.trans e2
 exact Prod.ext (congrArg (fun q : Res => pI (pA (cellAt q 0 1))) e) (Prod.ext (congrArg (fun q : Res => pI (pA (cellAt q 0 5))) e) (congrArg (fun q : Res => pI (pA (cellAt q 0 6))) e))
abbrev Z7C  : (Own × (List Zc)) → Res → Prop := fun r q => ∃ (ex : List Row), q = ((.p (.lst r.1 (r.2.map ZE))), ex)
theorem Zoa  : ∀ a b q, Z7C  a q → Z7C  b q → a = b := by
 rintro a b q ⟨_, e1⟩ ⟨_, e2⟩
 have e := e1.symm.trans e2
 exact Prod.ext (congrArg (fun q : Res => pOwn (pA q.1)) e) (Z3O Z3R (congrArg (fun q : Res => pL (pA q.1)) e))
abbrev Z8a  : (Int) → Res → Prop := fun r q => ∃ (ex : List Row), q = ((iv r), ex)
theorem ZuT  : ∀ a b q, Z8a  a q → Z8a  b q → a = b := by
 rintro a b q ⟨_, e1⟩ ⟨_, e2⟩
 have e := e1.symm.trans e2
 exact congrArg (fun q : Res => pI (pA q.1)) e
abbrev Z8Q (z1x : Int) : (Bool) → Res → Prop := fun r q => ∃ (ex : List Row), q = ((bv r), [[(iv z1x)]] ++ ex)
theorem Zo9 (z1x : Int) : ∀ a b q, Z8Q z1x a q → Z8Q z1x b q → a = b := by
 rintro a b q ⟨_, e1⟩ ⟨_, e2⟩
 have e := e1.symm.trans e2
 exact congrArg (fun q : Res => pB (pA q.1)) e
abbrev Z2h (z1x : Int) : (Int) → Res → Prop := fun r q => ∃ (ex : List Row), q = ((iv r), [[(iv z1x)]] ++ ex)
theorem Zac (z1x : Int) : ∀ a b q, Z2h z1x a q → Z2h z1x b q → a = b := by
 rintro a b q ⟨_, e1⟩ ⟨_, e2⟩
 have e := e1.symm.trans e2
 exact congrArg (fun q : Res => pI (pA q.1)) e
abbrev Z4a (z1x : Int) : (Bool) → Res → Prop := fun r q => ∃ (ex : List Row), q = ((bv r), [[(iv z1x)]] ++ ex)
theorem Ze5 (z1x : Int) : ∀ a b q, Z4a z1x a q → Z4a z1x b q → a = b := by
 rintro a b q ⟨_, e1⟩ ⟨_, e2⟩
 have e := e1.symm.trans e2
 exact congrArg (fun q : Res => pB (pA q.1)) e
abbrev Zab  : (Bool) → Res → Prop := fun r q => ∃ (ex : List Row), q = ((bv r), ex)
theorem ZpT  : ∀ a b q, Zab  a q → Zab  b q → a = b := by
 rintro a b q ⟨_, e1⟩ ⟨_, e2⟩
 have e := e1.symm.trans e2
 exact congrArg (fun q : Res => pB (pA q.1)) e
abbrev Z4W (zn : List Int) (zb zh : Int) (zj : List Zz) (zu zd : Own) : (Int × Int × Int × Int) → Res → Prop := fun r q => ∃ (ex : List Row), q = ((iv r.1), [(Zk (Zm.mk zn r.2.1 zb zh zj (Zl.mk r.2.2.1 r.2.2.2)) zu zd)] ++ ex)
theorem ZkQ (zn : List Int) (zb zh : Int) (zj : List Zz) (zu zd : Own) : ∀ a b q, Z4W zn zb zh zj zu zd a q → Z4W zn zb zh zj zu zd b q → a = b := by
 rintro a b q ⟨_, e1⟩ ⟨_, e2⟩
 have e := e1.symm.trans e2
 exact Prod.ext (congrArg (fun q : Res => pI (pA q.1)) e) (Prod.ext (congrArg (fun q : Res => pI (pA (cellAt q 0 1))) e) (Prod.ext (congrArg (fun q : Res => pI (pA (cellAt q 0 5))) e) (congrArg (fun q : Res => pI (pA (cellAt q 0 6))) e)))
abbrev Z44 (zn : List Int) (zb zh : Int) (zu : Own) : (Z7 × Int × (List Zz) × Int × Int) → Res → Prop := fun r q => ∃ (p0_4 : Own) (ex : List Row), ZR p0_4 = true ∧ q = ((.p (.agg (ZJ r.1 .sh .sh))), [(Zk (Zm.mk zn r.2.1 zb zh r.2.2.1 (Zl.mk r.2.2.2.1 r.2.2.2.2)) zu p0_4)] ++ ex)
theorem ZjW (zn : List Int) (zb zh : Int) (zu : Own) : ∀ a b q, Z44 zn zb zh zu a q → Z44 zn zb zh zu b q → a = b := by
 rintro a b q ⟨_, _, _, e1⟩ ⟨_, _, _, e2⟩
 have e := e1.symm.trans e2
 exact Prod.ext (Z48 (congrArg (fun q : Res => pC (pA q.1)) e)) (Prod.ext (congrArg (fun q : Res => pI (pA (cellAt q 0 1))) e) (Prod.ext (Z3O Z7v (congrArg (fun q : Res => pL (pA (cellAt q 0 4))) e)) (Prod.ext (congrArg (fun q : Res => pI (pA (cellAt q 0 5))) e) (congrArg (fun q : Res => pI (pA (cellAt q 0 6))) e))))
abbrev Z45 (zn : List Int) (zb zh : Int) (zj : List Zz) (zu zd : Own) : (Int × (Own × (List Zc)) × Bool × Int × Int × Int) → Res → Prop := fun r q => ∃ (ex : List Row), q = ((.p (.tup [(.v (.int .i64 r.1)), (.lst r.2.1.1 (r.2.1.2.map ZE)), (.v (.bool r.2.2.1))])), [(Zk (Zm.mk zn r.2.2.2.1 zb zh zj (Zl.mk r.2.2.2.2.1 r.2.2.2.2.2)) zu zd)] ++ ex)
theorem ZjX (zn : List Int) (zb zh : Int) (zj : List Zz) (zu zd : Own) : ∀ a b q, Z45 zn zb zh zj zu zd a q → Z45 zn zb zh zj zu zd b q → a = b := by
 rintro a b q ⟨_, e1⟩ ⟨_, e2⟩
 have e := e1.symm.trans e2
 exact Prod.ext (congrArg (fun q : Res => pI ((pT (pA q.1)).getD 0 .junk)) e) (Prod.ext (Prod.ext (congrArg (fun q : Res => pOwn ((pT (pA q.1)).getD 1 .junk)) e) (Z3O Z3R (congrArg (fun q : Res => pL ((pT (pA q.1)).getD 1 .junk)) e))) (Prod.ext (congrArg (fun q : Res => pB ((pT (pA q.1)).getD 2 .junk)) e) (Prod.ext (congrArg (fun q : Res => pI (pA (cellAt q 0 1))) e) (Prod.ext (congrArg (fun q : Res => pI (pA (cellAt q 0 5))) e) (congrArg (fun q : Res => pI (pA (cellAt q 0 6))) e)))))
abbrev Z8C  : (List Zc) → Res → Prop := fun r q => ∃ (ex : List Row), q = ((.p (.lst .sh (r.map ZE))), ex)
theorem Zk0  : ∀ a b q, Z8C  a q → Z8C  b q → a = b := by
 rintro a b q ⟨_, e1⟩ ⟨_, e2⟩
 have e := e1.symm.trans e2
 exact Z3O Z3R (congrArg (fun q : Res => pL (pA q.1)) e)
abbrev Z81  : ((List Zc) × Int) → Res → Prop := fun r q => ∃ (ex : List Row), q = ((.p (.tup [(.lst .sh (r.1.map ZE)), (.v (.int .i64 r.2))])), ex)
theorem Zqw  : ∀ a b q, Z81  a q → Z81  b q → a = b := by
 rintro a b q ⟨_, e1⟩ ⟨_, e2⟩
 have e := e1.symm.trans e2
 exact Prod.ext (Z3O Z3R (congrArg (fun q : Res => pL ((pT (pA q.1)).getD 0 .junk)) e)) (congrArg (fun q : Res => pI ((pT (pA q.1)).getD 1 .junk)) e)
abbrev Z6w  : (List Zc) → Res → Prop := fun r q => ∃ (p0_0 : Own) (ex : List Row), q = ((.p (.tup [])), [[(.p (.lst p0_0 (r.map ZE)))]] ++ ex)
theorem Zjm  : ∀ a b q, Z6w  a q → Z6w  b q → a = b := by
 rintro a b q ⟨_, _, e1⟩ ⟨_, _, e2⟩
 have e := e1.symm.trans e2
 exact Z3O Z3R (congrArg (fun q : Res => pL (pA (cellAt q 0 0))) e)
abbrev Z1O (zn : List Int) (zb zh : Int) (zj : List Zz) (zu zd : Own) : (Z7 × Int × Int × Int) → Res → Prop := fun r q => ∃ (ex : List Row), q = ((.p (.agg (ZJ r.1 .sh .sh))), [(Zk (Zm.mk zn r.2.1 zb zh zj (Zl.mk r.2.2.1 r.2.2.2)) zu zd)] ++ ex)
theorem Ze4 (zn : List Int) (zb zh : Int) (zj : List Zz) (zu zd : Own) : ∀ a b q, Z1O zn zb zh zj zu zd a q → Z1O zn zb zh zj zu zd b q → a = b := by
 rintro a b q ⟨_, e1⟩ ⟨_, e2⟩
 have e := e1.symm.trans e2
 exact Prod.ext (Z48 (congrArg (fun q : Res => pC (pA q.1)) e)) (Prod.ext (congrArg (fun q : Res => pI (pA (cellAt q 0 1))) e) (Prod.ext (congrArg (fun q : Res => pI (pA (cellAt q 0 5))) e) (congrArg (fun q : Res => pI (pA (cellAt q 0 6))) e)))
abbrev ZbY  : (List ByteArray) → Res → Prop := fun r q => ∃ (ex : List Row), q = ((.p (.lst .sh (r.map eS))), ex)
theorem Zrt  : ∀ a b q, ZbY  a q → ZbY  b q → a = b := by
 rintro a b q ⟨_, e1⟩ ⟨_, e2⟩
 have e := e1.symm.trans e2
 exact Z3O ZBi (congrArg (fun q : Res => pL (pA q.1)) e)
abbrev Z2d (zn : List Int) (zb zh : Int) (zj : List Zz) (z2 z6 : Int) (zu zd : Own) : (Int × Int) → Res → Prop := fun r q => ∃ (ex : List Row), q = ((iv r.1), [(Zk (Zm.mk zn r.2 zb zh zj (Zl.mk z2 z6)) zu zd)] ++ ex)
theorem Za1 (zn : List Int) (zb zh : Int) (zj : List Zz) (z2 z6 : Int) (zu zd : Own) : ∀ a b q, Z2d zn zb zh zj z2 z6 zu zd a q → Z2d zn zb zh zj z2 z6 zu zd b q → a = b := by
 rintro a b q ⟨_, e1⟩ ⟨_, e2⟩
 have e := e1.symm.trans e2
 exact Prod.ext (congrArg (fun q : Res => pI (pA q.1)) e) (congrArg (fun q : Res => pI (pA (cellAt q 0 1))) e)
abbrev Z3r (zn : List Int) (zu : Own) : (Z7 × Bool × Int × Int × Int × (List Zz) × Int × Int) → Res → Prop := fun r q => ∃ (p0_4 : Own) (ex : List Row), ZR p0_4 = true ∧ q = ((.p (.tup [(.agg (ZJ r.1 .sh .sh)), (.v (.bool r.2.1))])), [(Zk (Zm.mk zn r.2.2.1 r.2.2.2.1 r.2.2.2.2.1 r.2.2.2.2.2.1 (Zl.mk r.2.2.2.2.2.2.1 r.2.2.2.2.2.2.2)) zu p0_4)] ++ ex)
theorem ZkP (zn : List Int) (zu : Own) : ∀ a b q, Z3r zn zu a q → Z3r zn zu b q → a = b := by
 rintro a b q ⟨_, _, _, e1⟩ ⟨_, _, _, e2⟩
 have e := e1.symm.trans e2
 exact Prod.ext (Z48 (congrArg (fun q : Res => pC ((pT (pA q.1)).getD 0 .junk)) e)) (Prod.ext (congrArg (fun q : Res => pB ((pT (pA q.1)).getD 1 .junk)) e) (Prod.ext (congrArg (fun q : Res => pI (pA (cellAt q 0 1))) e) (Prod.ext (congrArg (fun q : Res => pI (pA (cellAt q 0 2))) e) (Prod.ext (congrArg (fun q : Res => pI (pA (cellAt q 0 3))) e) (Prod.ext (Z3O Z7v (congrArg (fun q : Res => pL (pA (cellAt q 0 4))) e)) (Prod.ext (congrArg (fun q : Res => pI (pA (cellAt q 0 5))) e) (congrArg (fun q : Res => pI (pA (cellAt q 0 6))) e)))))))
abbrev Z6r (zn : List Int) (zu : Own) : (Z7 × Bool × Int × Int × Int × (List Zz) × Int × Int) → Res → Prop := fun r q => ∃ (p0_4 : Own) (ex : List Row), ZR p0_4 = true ∧ q = ((.p (.tup [(.agg (ZJ r.1 .sh .sh)), (.v (.bool r.2.1))])), [(Zk (Zm.mk zn r.2.2.1 r.2.2.2.1 r.2.2.2.2.1 r.2.2.2.2.2.1 (Zl.mk r.2.2.2.2.2.2.1 r.2.2.2.2.2.2.2)) zu p0_4)] ++ ex)
theorem Zls (zn : List Int) (zu : Own) : ∀ a b q, Z6r zn zu a q → Z6r zn zu b q → a = b := by
 rintro a b q ⟨_, _, _, e1⟩ ⟨_, _, _, e2⟩
 have e := e1.symm.trans e2
 exact Prod.ext (Z48 (congrArg (fun q : Res => pC ((pT (pA q.1)).getD 0 .junk)) e)) (Prod.ext (congrArg (fun q : Res => pB ((pT (pA q.1)).getD 1 .junk)) e) (Prod.ext (congrArg (fun q : Res => pI (pA (cellAt q 0 1))) e) (Prod.ext (congrArg (fun q : Res => pI (pA (cellAt q 0 2))) e) (Prod.ext (congrArg (fun q : Res => pI (pA (cellAt q 0 3))) e) (Prod.ext (Z3O Z7v (congrArg (fun q : Res => pL (pA (cellAt q 0 4))) e)) (Prod.ext (congrArg (fun q : Res => pI (pA (cellAt q 0 5))) e) (congrArg (fun q : Res => pI (pA (cellAt q 0 6))) e)))))))
abbrev Z3i (zn : List Int) (zb zh : Int) (zj : List Zz) (z2 z6 : Int) (zu zd : Own) : (Int × Int) → Res → Prop := fun r q => ∃ (ex : List Row), q = ((iv r.1), [(Zk (Zm.mk zn r.2 zb zh zj (Zl.mk z2 z6)) zu zd)] ++ ex)
theorem Zdz (zn : List Int) (zb zh : Int) (zj : List Zz) (z2 z6 : Int) (zu zd : Own) : ∀ a b q, Z3i zn zb zh zj z2 z6 zu zd a q → Z3i zn zb zh zj z2 z6 zu zd b q → a = b := by
 rintro a b q ⟨_, e1⟩ ⟨_, e2⟩
 have e := e1.symm.trans e2
 exact Prod.ext (congrArg (fun q : Res => pI (pA q.1)) e) (congrArg (fun q : Res => pI (pA (cellAt q 0 1))) e)
abbrev Z2Y (zn : List Int) (zb zh : Int) (zj : List Zz) (zu zd : Own) : (Int × Int × Int × Int × Int) → Res → Prop := fun r q => ∃ (ex : List Row), q = ((.p (.tup [(.v (.int .i64 r.1)), (.v (.int .i64 r.2.1))])), [(Zk (Zm.mk zn r.2.2.1 zb zh zj (Zl.mk r.2.2.2.1 r.2.2.2.2)) zu zd)] ++ ex)
theorem ZjV (zn : List Int) (zb zh : Int) (zj : List Zz) (zu zd : Own) : ∀ a b q, Z2Y zn zb zh zj zu zd a q → Z2Y zn zb zh zj zu zd b q → a = b := by
 rintro a b q ⟨_, e1⟩ ⟨_, e2⟩
 have e := e1.symm.trans e2
 exact Prod.ext (congrArg (fun q : Res => pI ((pT (pA q.1)).getD 0 .junk)) e) (Prod.ext (congrArg (fun q : Res => pI ((pT (pA q.1)).getD 1 .junk)) e) (Prod.ext (congrArg (fun q : Res => pI (pA (cellAt q 0 1))) e) (Prod.ext (congrArg (fun q : Res => pI (pA (cellAt q 0 5))) e) (congrArg (fun q : Res => pI (pA (cellAt q 0 6))) e))))
abbrev Z46 (zn : List Int) (zb zh : Int) (zj : List Zz) (zu zd : Own) : (Z7 × Int × Int × Int) → Res → Prop := fun r q => ∃ (ex : List Row), q = ((.p (.agg (ZJ r.1 .sh .sh))), [(Zk (Zm.mk zn r.2.1 zb zh zj (Zl.mk r.2.2.1 r.2.2.2)) zu zd)] ++ ex)
theorem ZjY (zn : List Int) (zb zh : Int) (zj : List Zz) (zu zd : Own) : ∀ a b q, Z46 zn zb zh zj zu zd a q → Z46 zn zb zh zj zu zd b q → a = b := by
 rintro a b q ⟨_, e1⟩ ⟨_, e2⟩
 have e := e1.symm.trans e2
 exact Prod.ext (Z48 (congrArg (fun q : Res => pC (pA q.1)) e)) (Prod.ext (congrArg (fun q : Res => pI (pA (cellAt q 0 1))) e) (Prod.ext (congrArg (fun q : Res => pI (pA (cellAt q 0 5))) e) (congrArg (fun q : Res => pI (pA (cellAt q 0 6))) e)))
abbrev Z3t (zn : List Int) (zu : Own) : (Z7 × Int × Int × Int × (List Zz) × Int × Int) → Res → Prop := fun r q => ∃ (p0_4 : Own) (ex : List Row), ZR p0_4 = true ∧ q = ((.p (.agg (ZJ r.1 .sh .sh))), [(Zk (Zm.mk zn r.2.1 r.2.2.1 r.2.2.2.1 r.2.2.2.2.1 (Zl.mk r.2.2.2.2.2.1 r.2.2.2.2.2.2)) zu p0_4)] ++ ex)
theorem ZfB (zn : List Int) (zu : Own) : ∀ a b q, Z3t zn zu a q → Z3t zn zu b q → a = b := by
 rintro a b q ⟨_, _, _, e1⟩ ⟨_, _, _, e2⟩
 have e := e1.symm.trans e2
 exact Prod.ext (Z48 (congrArg (fun q : Res => pC (pA q.1)) e)) (Prod.ext (congrArg (fun q : Res => pI (pA (cellAt q 0 1))) e) (Prod.ext (congrArg (fun q : Res => pI (pA (cellAt q 0 2))) e) (Prod.ext (congrArg (fun q : Res => pI (pA (cellAt q 0 3))) e) (Prod.ext (Z3O Z7v (congrArg (fun q : Res => pL (pA (cellAt q 0 4))) e)) (Prod.ext (congrArg (fun q : Res => pI (pA (cellAt q 0 5))) e) (congrArg (fun q : Res => pI (pA (cellAt q 0 6))) e))))))
abbrev Z3P (zn : List Int) (zu : Own) : (Z7 × Int × Int × Int × (List Zz) × Int × Int) → Res → Prop := fun r q => ∃ (p0_4 : Own) (ex : List Row), ZR p0_4 = true ∧ q = ((.p (.agg (ZJ r.1 .sh .sh))), [(Zk (Zm.mk zn r.2.1 r.2.2.1 r.2.2.2.1 r.2.2.2.2.1 (Zl.mk r.2.2.2.2.2.1 r.2.2.2.2.2.2)) zu p0_4)] ++ ex)
theorem ZfA (zn : List Int) (zu : Own) : ∀ a b q, Z3P zn zu a q → Z3P zn zu b q → a = b := by
 rintro a b q ⟨_, _, _, e1⟩ ⟨_, _, _, e2⟩
 have e := e1.symm.trans e2
 exact Prod.ext (Z48 (congrArg (fun q : Res => pC (pA q.1)) e)) (Prod.ext (congrArg (fun q : Res => pI (pA (cellAt q 0 1))) e) (Prod.ext (congrArg (fun q : Res => pI (pA (cellAt q 0 2))) e) (Prod.ext (congrArg (fun q : Res => pI (pA (cellAt q 0 3))) e) (Prod.ext (Z3O Z7v (congrArg (fun q : Res => pL (pA (cellAt q 0 4))) e)) (Prod.ext (congrArg (fun q : Res => pI (pA (cellAt q 0 5))) e) (congrArg (fun q : Res => pI (pA (cellAt q 0 6))) e))))))
abbrev Z3E  : (ZY × Zl) → Res → Prop := fun r q => ∃ (ex : List Row), q = ((.p (.tup [(.agg (Z3b r.1 .sh .sh)), (.agg (Z5e r.2))])), ex)
theorem Zkp  : ∀ a b q, Z3E  a q → Z3E  b q → a = b := by
 rintro a b q ⟨_, e1⟩ ⟨_, e2⟩
 have e := e1.symm.trans e2
 exact Prod.ext (ZmG (congrArg (fun q : Res => pC ((pT (pA q.1)).getD 0 .junk)) e)) (Zoz (congrArg (fun q : Res => pC ((pT (pA q.1)).getD 1 .junk)) e))
abbrev Zb6  : (Int) → Res → Prop := fun r q => ∃ (ex : List Row), q = ((iv r), ex)
theorem ZsG  : ∀ a b q, Zb6  a q → Zb6  b q → a = b := by
 rintro a b q ⟨_, e1⟩ ⟨_, e2⟩
 have e := e1.symm.trans e2
 exact congrArg (fun q : Res => pI (pA q.1)) e
abbrev Z6E  : (Int) → Res → Prop := fun r q => ∃ (ex : List Row), q = ((iv r), ex)
theorem Zrw  : ∀ a b q, Z6E  a q → Z6E  b q → a = b := by
 rintro a b q ⟨_, e1⟩ ⟨_, e2⟩
 have e := e1.symm.trans e2
 exact congrArg (fun q : Res => pI (pA q.1)) e
abbrev Zaz  : (Int) → Res → Prop := fun r q => ∃ (ex : List Row), q = ((iv r), ex)
theorem ZuW  : ∀ a b q, Zaz  a q → Zaz  b q → a = b := by
 rintro a b q ⟨_, e1⟩ ⟨_, e2⟩
 have e := e1.symm.trans e2
 exact congrArg (fun q : Res => pI (pA q.1)) e
abbrev Z3h  : (Int × Int) → Res → Prop := fun r q => ∃ (ex : List Row), q = ((.p (.tup [(.v (.int .i64 r.1)), (.v (.int .i64 r.2))])), ex)
theorem ZfC  : ∀ a b q, Z3h  a q → Z3h  b q → a = b := by
 rintro a b q ⟨_, e1⟩ ⟨_, e2⟩
 have e := e1.symm.trans e2
 exact Prod.ext (congrArg (fun q : Res => pI ((pT (pA q.1)).getD 0 .junk)) e) (congrArg (fun q : Res => pI ((pT (pA q.1)).getD 1 .junk)) e)
abbrev Z8V  : (Bool) → Res → Prop := fun r q => ∃ (ex : List Row), q = ((bv r), ex)
theorem Zof  : ∀ a b q, Z8V  a q → Z8V  b q → a = b := by
 rintro a b q ⟨_, e1⟩ ⟨_, e2⟩
 have e := e1.symm.trans e2
 exact congrArg (fun q : Res => pB (pA q.1)) e
abbrev Z2m  : (Int) → Res → Prop := fun r q => ∃ (ex : List Row), q = ((iv r), ex)
theorem ZaE  : ∀ a b q, Z2m  a q → Z2m  b q → a = b := by
 rintro a b q ⟨_, e1⟩ ⟨_, e2⟩
 have e := e1.symm.trans e2
 exact congrArg (fun q : Res => pI (pA q.1)) e
abbrev Z4k  : (Bool) → Res → Prop := fun r q => ∃ (ex : List Row), q = ((bv r), ex)
theorem ZeL  : ∀ a b q, Z4k  a q → Z4k  b q → a = b := by
 rintro a b q ⟨_, e1⟩ ⟨_, e2⟩
 have e := e1.symm.trans e2
 exact congrArg (fun q : Res => pB (pA q.1)) e
abbrev Z6h  : (Bool) → Res → Prop := fun r q => ∃ (ex : List Row), q = ((bv r), ex)
theorem ZpV  : ∀ a b q, Z6h  a q → Z6h  b q → a = b := by
 rintro a b q ⟨_, e1⟩ ⟨_, e2⟩
 have e := e1.symm.trans e2
 exact congrArg (fun q : Res => pB (pA q.1)) e
abbrev Z52  : (Int) → Res → Prop := fun r q => ∃ (ex : List Row), q = ((iv r), ex)
theorem Zlz  : ∀ a b q, Z52  a q → Z52  b q → a = b := by
 rintro a b q ⟨_, e1⟩ ⟨_, e2⟩
 have e := e1.symm.trans e2
 exact congrArg (fun q : Res => pI (pA q.1)) e
abbrev Za6  : (Int) → Res → Prop := fun r q => ∃ (ex : List Row), q = ((iv r), ex)
theorem Zrv  : ∀ a b q, Za6  a q → Za6  b q → a = b := by
 rintro a b q ⟨_, e1⟩ ⟨_, e2⟩
 have e := e1.symm.trans e2
 exact congrArg (fun q : Res => pI (pA q.1)) e
abbrev Z7D  : (ZI) → Res → Prop := fun r q => ∃ (ex : List Row), q = ((.p (.agg (Z1d r))), ex)
theorem Zog  : ∀ a b q, Z7D  a q → Z7D  b q → a = b := by
 rintro a b q ⟨_, e1⟩ ⟨_, e2⟩
 have e := e1.symm.trans e2
 exact ZaB (congrArg (fun q : Res => pC (pA q.1)) e)
abbrev Z7P  : (Bool) → Res → Prop := fun r q => ∃ (ex : List Row), q = ((bv r), ex)
theorem Zlx  : ∀ a b q, Z7P  a q → Z7P  b q → a = b := by
 rintro a b q ⟨_, e1⟩ ⟨_, e2⟩
 have e := e1.symm.trans e2
 exact congrArg (fun q : Res => pB (pA q.1)) e
abbrev Z8R  : (Bool) → Res → Prop := fun r q => ∃ (ex : List Row), q = ((bv r), ex)
theorem Zob  : ∀ a b q, Z8R  a q → Z8R  b q → a = b := by
 rintro a b q ⟨_, e1⟩ ⟨_, e2⟩
 have e := e1.symm.trans e2
 exact congrArg (fun q : Res => pB (pA q.1)) e
abbrev Z2V  : (Bool) → Res → Prop := fun r q => ∃ (ex : List Row), q = ((bv r), ex)
theorem Zhm  : ∀ a b q, Z2V  a q → Z2V  b q → a = b := by
 rintro a b q ⟨_, e1⟩ ⟨_, e2⟩
 have e := e1.symm.trans e2
 exact congrArg (fun q : Res => pB (pA q.1)) e
abbrev Z3Y  : (ZI) → Res → Prop := fun r q => ∃ (ex : List Row), q = ((.p (.agg (Z1d r))), ex)
theorem Zik  : ∀ a b q, Z3Y  a q → Z3Y  b q → a = b := by
 rintro a b q ⟨_, e1⟩ ⟨_, e2⟩
 have e := e1.symm.trans e2
 exact ZaB (congrArg (fun q : Res => pC (pA q.1)) e)
abbrev Z6v  : (Bool) → Res → Prop := fun r q => ∃ (ex : List Row), q = ((bv r), ex)
theorem Zjl  : ∀ a b q, Z6v  a q → Z6v  b q → a = b := by
 rintro a b q ⟨_, e1⟩ ⟨_, e2⟩
 have e := e1.symm.trans e2
 exact congrArg (fun q : Res => pB (pA q.1)) e
abbrev Z1Z  : (Bool) → Res → Prop := fun r q => ∃ (ex : List Row), q = ((bv r), ex)
theorem Za2  : ∀ a b q, Z1Z  a q → Z1Z  b q → a = b := by
 rintro a b q ⟨_, e1⟩ ⟨_, e2⟩
 have e := e1.symm.trans e2
 exact congrArg (fun q : Res => pB (pA q.1)) e
abbrev ZbZ (z1q z1C z1y : Int) (z1v : List Zp) (zB : Own) : (Int) → Res → Prop := fun r q => ∃ (ex : List Row), q = ((.p (.tup [])), [(Zo (ZD.mk r z1q z1C z1y z1v) zB)] ++ ex)
theorem Zru (z1q z1C z1y : Int) (z1v : List Zp) (zB : Own) : ∀ a b q, ZbZ z1q z1C z1y z1v zB a q → ZbZ z1q z1C z1y z1v zB b q → a = b := by
 rintro a b q ⟨_, e1⟩ ⟨_, e2⟩
 have e := e1.symm.trans e2
 exact congrArg (fun q : Res => pI (pA (cellAt q 0 0))) e
abbrev Z8U (z1e z1C z1y : Int) (z1v : List Zp) (zB : Own) : (Int) → Res → Prop := fun r q => ∃ (ex : List Row), q = ((.p (.tup [])), [(Zo (ZD.mk z1e r z1C z1y z1v) zB)] ++ ex)
theorem Zoe (z1e z1C z1y : Int) (z1v : List Zp) (zB : Own) : ∀ a b q, Z8U z1e z1C z1y z1v zB a q → Z8U z1e z1C z1y z1v zB b q → a = b := by
 rintro a b q ⟨_, e1⟩ ⟨_, e2⟩
 have e := e1.symm.trans e2
 exact congrArg (fun q : Res => pI (pA (cellAt q 0 1))) e
abbrev Z8T (z1e z1q z1y : Int) (z1v : List Zp) (zB : Own) : (Int) → Res → Prop := fun r q => ∃ (ex : List Row), q = ((.p (.tup [])), [(Zo (ZD.mk z1e z1q r z1y z1v) zB)] ++ ex)
theorem Zod (z1e z1q z1y : Int) (z1v : List Zp) (zB : Own) : ∀ a b q, Z8T z1e z1q z1y z1v zB a q → Z8T z1e z1q z1y z1v zB b q → a = b := by
 rintro a b q ⟨_, e1⟩ ⟨_, e2⟩
 have e := e1.symm.trans e2
 exact congrArg (fun q : Res => pI (pA (cellAt q 0 2))) e
abbrev Z8S (z1e z1q z1C : Int) (z1v : List Zp) (zB : Own) : (Int) → Res → Prop := fun r q => ∃ (ex : List Row), q = ((.p (.tup [])), [(Zo (ZD.mk z1e z1q z1C r z1v) zB)] ++ ex)
theorem Zoc (z1e z1q z1C : Int) (z1v : List Zp) (zB : Own) : ∀ a b q, Z8S z1e z1q z1C z1v zB a q → Z8S z1e z1q z1C z1v zB b q → a = b := by
 rintro a b q ⟨_, e1⟩ ⟨_, e2⟩
 have e := e1.symm.trans e2
 exact congrArg (fun q : Res => pI (pA (cellAt q 0 3))) e
abbrev Z6P  : (Bool) → Res → Prop := fun r q => ∃ (ex : List Row), q = ((bv r), [[(.clo 27 [] [])]] ++ ex)
theorem ZjZ  : ∀ a b q, Z6P  a q → Z6P  b q → a = b := by
 rintro a b q ⟨_, e1⟩ ⟨_, e2⟩
 have e := e1.symm.trans e2
 exact congrArg (fun q : Res => pB (pA q.1)) e
abbrev Z2n  : (Int) → Res → Prop := fun r q => ∃ (ex : List Row), q = ((iv r), [[(.clo 27 [] [])]] ++ ex)
theorem ZaF  : ∀ a b q, Z2n  a q → Z2n  b q → a = b := by
 rintro a b q ⟨_, e1⟩ ⟨_, e2⟩
 have e := e1.symm.trans e2
 exact congrArg (fun q : Res => pI (pA q.1)) e
abbrev Z4l  : (Bool) → Res → Prop := fun r q => ∃ (ex : List Row), q = ((bv r), [[(.clo 27 [] [])]] ++ ex)
theorem ZeM  : ∀ a b q, Z4l  a q → Z4l  b q → a = b := by
 rintro a b q ⟨_, e1⟩ ⟨_, e2⟩
 have e := e1.symm.trans e2
 exact congrArg (fun q : Res => pB (pA q.1)) e
abbrev Z7Q  : (Bool) → Res → Prop := fun r q => ∃ (ex : List Row), q = ((bv r), ex)
theorem Zly  : ∀ a b q, Z7Q  a q → Z7Q  b q → a = b := by
 rintro a b q ⟨_, e1⟩ ⟨_, e2⟩
 have e := e1.symm.trans e2
 exact congrArg (fun q : Res => pB (pA q.1)) e
abbrev Z5O  : (Bool × (List (Int × Bool))) → Res → Prop := fun r q => ∃ (ex : List Row), q = ((bv r.1), [[(.mp 1)], [(.md ((r.2).map (encM eB)))]] ++ ex)
theorem Zi6  : ∀ a b q, Z5O  a q → Z5O  b q → a = b := by
 rintro a b q ⟨_, e1⟩ ⟨_, e2⟩
 have e := e1.symm.trans e2
 exact Prod.ext (congrArg (fun q : Res => pB (pA q.1)) e) (Z3O (Zgz Zjs) (congrArg (fun q : Res => pM (cellAt q 1 0)) e))
abbrev Z5P  : (Bool × (List (Int × Bool))) → Res → Prop := fun r q => ∃ (ex : List Row), q = ((bv r.1), [[(.clo 74 [] [(.ptr 1 0)])], [(.mp 2)], [(.md ((r.2).map (encM eB)))]] ++ ex)
theorem Zi7  : ∀ a b q, Z5P  a q → Z5P  b q → a = b := by
 rintro a b q ⟨_, e1⟩ ⟨_, e2⟩
 have e := e1.symm.trans e2
 exact Prod.ext (congrArg (fun q : Res => pB (pA q.1)) e) (Z3O (Zgz Zjs) (congrArg (fun q : Res => pM (cellAt q 2 0)) e))
abbrev Z2o  : (Int × (List (Int × Bool))) → Res → Prop := fun r q => ∃ (ex : List Row), q = ((iv r.1), [[(.clo 74 [] [(.ptr 1 0)])], [(.mp 2)], [(.md ((r.2).map (encM eB)))]] ++ ex)
theorem ZaG  : ∀ a b q, Z2o  a q → Z2o  b q → a = b := by
 rintro a b q ⟨_, e1⟩ ⟨_, e2⟩
 have e := e1.symm.trans e2
 exact Prod.ext (congrArg (fun q : Res => pI (pA q.1)) e) (Z3O (Zgz Zjs) (congrArg (fun q : Res => pM (cellAt q 2 0)) e))
abbrev Z4m  : (Bool × (List (Int × Bool))) → Res → Prop := fun r q => ∃ (ex : List Row), q = ((bv r.1), [[(.clo 74 [] [(.ptr 1 0)])], [(.mp 2)], [(.md ((r.2).map (encM eB)))]] ++ ex)
theorem ZeN  : ∀ a b q, Z4m  a q → Z4m  b q → a = b := by
 rintro a b q ⟨_, e1⟩ ⟨_, e2⟩
 have e := e1.symm.trans e2
 exact Prod.ext (congrArg (fun q : Res => pB (pA q.1)) e) (Z3O (Zgz Zjs) (congrArg (fun q : Res => pM (cellAt q 2 0)) e))
abbrev Z2v  : (Int × (List (Int × Bool))) → Res → Prop := fun r q => ∃ (ex : List Row), q = ((iv r.1), [[(.mp 1)], [(.md ((r.2).map (encM eB)))]] ++ ex)
theorem Zb7  : ∀ a b q, Z2v  a q → Z2v  b q → a = b := by
 rintro a b q ⟨_, e1⟩ ⟨_, e2⟩
 have e := e1.symm.trans e2
 exact Prod.ext (congrArg (fun q : Res => pI (pA q.1)) e) (Z3O (Zgz Zjs) (congrArg (fun q : Res => pM (cellAt q 1 0)) e))
abbrev Z4z  : (Bool × (List (Int × Bool))) → Res → Prop := fun r q => ∃ (ex : List Row), q = ((bv r.1), [[(.mp 1)], [(.md ((r.2).map (encM eB)))]] ++ ex)
theorem Zfp  : ∀ a b q, Z4z  a q → Z4z  b q → a = b := by
 rintro a b q ⟨_, e1⟩ ⟨_, e2⟩
 have e := e1.symm.trans e2
 exact Prod.ext (congrArg (fun q : Res => pB (pA q.1)) e) (Z3O (Zgz Zjs) (congrArg (fun q : Res => pM (cellAt q 1 0)) e))
abbrev Z8m  : (Bool) → Res → Prop := fun r q => ∃ (ex : List Row), q = ((bv r), ex)
theorem ZmC  : ∀ a b q, Z8m  a q → Z8m  b q → a = b := by
 rintro a b q ⟨_, e1⟩ ⟨_, e2⟩
 have e := e1.symm.trans e2
 exact congrArg (fun q : Res => pB (pA q.1)) e
abbrev Z7f (z1x : List (Int × Zp)) : (Unit) → Res → Prop := fun r q => ∃ (ex : List Row), q = ((.clo 78 [] [(.ptr 1 0)]), [[(.md ((z1x).map (encM ZF)))], [(.mp 0)]]) ∧ ex = []
theorem ZkO (z1x : List (Int × Zp)) : ∀ a b q, Z7f z1x a q → Z7f z1x b q → a = b := by
 rintro a b q ⟨_, e1, _⟩ ⟨_, e2, _⟩
 have e := e1.symm.trans e2
 exact rfl
abbrev Z7M (z1N : List (Int × Zp)) : (List Int) → Res → Prop := fun r q => ∃ (ex : List Row), q = ((.p (.lst .sh (r.map (eI .i64)))), [[(.mp 1)], [(.md ((z1N).map (encM ZF)))]] ++ ex)
theorem Zip (z1N : List (Int × Zp)) : ∀ a b q, Z7M z1N a q → Z7M z1N b q → a = b := by
 rintro a b q ⟨_, e1⟩ ⟨_, e2⟩
 have e := e1.symm.trans e2
 exact Z3O Z5u (congrArg (fun q : Res => pL (pA q.1)) e)
abbrev Z1R  : (ZD × Int) → Res → Prop := fun r q => ∃ (ex : List Row), q = ((.p (.tup [(.agg (Z1h r.1 .sh)), (.v (.int .i64 r.2))])), ex)
theorem Zb5  : ∀ a b q, Z1R  a q → Z1R  b q → a = b := by
 rintro a b q ⟨_, e1⟩ ⟨_, e2⟩
 have e := e1.symm.trans e2
 exact Prod.ext (ZfH (congrArg (fun q : Res => pC ((pT (pA q.1)).getD 0 .junk)) e)) (congrArg (fun q : Res => pI ((pT (pA q.1)).getD 1 .junk)) e)
abbrev Z6I  : (ZD × ZI) → Res → Prop := fun r q => ∃ (ex : List Row), q = ((.p (.tup [(.agg (Z1h r.1 .sh)), (.agg (Z1d r.2))])), ex)
theorem Zow  : ∀ a b q, Z6I  a q → Z6I  b q → a = b := by
 rintro a b q ⟨_, e1⟩ ⟨_, e2⟩
 have e := e1.symm.trans e2
 exact Prod.ext (ZfH (congrArg (fun q : Res => pC ((pT (pA q.1)).getD 0 .junk)) e)) (ZaB (congrArg (fun q : Res => pC ((pT (pA q.1)).getD 1 .junk)) e))
abbrev Z4j  : (Zp × Bool) → Res → Prop := fun r q => ∃ (ex : List Row), q = ((.p (.tup [(.agg (Z1r r.1)), (.v (.bool r.2))])), ex)
theorem Zij  : ∀ a b q, Z4j  a q → Z4j  b q → a = b := by
 rintro a b q ⟨_, e1⟩ ⟨_, e2⟩
 have e := e1.symm.trans e2
 exact Prod.ext (Zjr (congrArg (fun q : Res => pC ((pT (pA q.1)).getD 0 .junk)) e)) (congrArg (fun q : Res => pB ((pT (pA q.1)).getD 1 .junk)) e)
abbrev Z2l  : (Bool) → Res → Prop := fun r q => ∃ (ex : List Row), q = ((bv r), ex)
theorem Zgc  : ∀ a b q, Z2l  a q → Z2l  b q → a = b := by
 rintro a b q ⟨_, e1⟩ ⟨_, e2⟩
 have e := e1.symm.trans e2
 exact congrArg (fun q : Res => pB (pA q.1)) e
def Z8u (x0 : ZD) (x1 : Zp) : Option (Bool) := pick fun r => ∀ (zZ : Own), RRun (Z2l) (EE 7 [(.p (.agg (Z1h x0 zZ))), (.p (.agg (Z1r x1)))] []) r
theorem ZfN (x0 : ZD) (x1 : Zp) (zZ : Own) : Sim (Z2l) (Z8u x0 x1) (EE 7 [(.p (.agg (Z1h x0 zZ))), (.p (.agg (Z1r x1)))] []) := fun _ h => Z1g h zZ
def Z8h  : Option (Bool) := pick fun r => RRun (Z6v) (EE 14 [] []) r
theorem ZiA  : Sim (Z6v) (Z8h) (EE 14 [] []) := fun _ h => Z1g h
def ZcK  : Option (ZD) := pick fun r => RRun (Zcu) (EE 43 [] []) r
theorem Zkw  : Sim (Zcu) (ZcK) (EE 43 [] []) := fun _ h => Z1g h
def Z4H (x0 : ByteArray) : Option (ZI) := pick fun r => RRun (Z7D) (EE 21 [(.p (.v (.string x0)))] []) r
theorem ZbV (x0 : ByteArray) : Sim (Z7D) (Z4H x0) (EE 21 [(.p (.v (.string x0)))] []) := fun _ h => Z1g h
def ZeD (x0 : ByteArray) : Option (ZY × Zl) := pick fun r => RRun (Z3E) (EE 47 [(.p (.v (.string x0)))] []) r
theorem ZqU (x0 : ByteArray) : Sim (Z3E) (ZeD x0) (EE 47 [(.p (.v (.string x0)))] []) := fun _ h => Z1g h
def Z1J (x1 : ByteArray) (zn : List Int) (zy : Int) : Option (Bool × Int) := pick fun r => ∀ (zb zh : Int) (zj : List Zz) (z2 z6 : Int) (zu zd : Own) (zC : ZR zd = true), RRun (Z5g zn zb zh zj z2 z6 zu zd) (EE 68 [(.ptr 0 0), (.p (.v (.string x1)))] [(Zk (Zm.mk zn zy zb zh zj (Zl.mk z2 z6)) zu zd)]) r
theorem Z1S (x1 : ByteArray) (zn : List Int) (zy zb zh : Int) (zj : List Zz) (z2 z6 : Int) (zu zd : Own) (zC : ZR zd = true) : Sim (Z5g zn zb zh zj z2 z6 zu zd) (Z1J x1 zn zy) (EE 68 [(.ptr 0 0), (.p (.v (.string x1)))] [(Zk (Zm.mk zn zy zb zh zj (Zl.mk z2 z6)) zu zd)]) := fun _ h => Z1g h zb zh zj z2 z6 zu zd zC
def Z4r (zn : List Int) (zy zb zh : Int) (zj : List Zz) (z2 z6 : Int) : Option (Z7 × Int × Int × Int × (List Zz) × Int × Int) := pick fun r => ∀ (zu zd : Own) (zC : ZR zd = true), RRun (Z3P zn zu) (EE 69 [(.ptr 0 0)] [(Zk (Zm.mk zn zy zb zh zj (Zl.mk z2 z6)) zu zd)]) r
theorem Zfe (zn : List Int) (zy zb zh : Int) (zj : List Zz) (z2 z6 : Int) (zu zd : Own) (zC : ZR zd = true) : Sim (Z3P zn zu) (Z4r zn zy zb zh zj z2 z6) (EE 69 [(.ptr 0 0)] [(Zk (Zm.mk zn zy zb zh zj (Zl.mk z2 z6)) zu zd)]) := fun _ h => Z1g h zu zd zC
def Z71 (zn : List Int) (zy zb zh : Int) (zj : List Zz) (z2 z6 : Int) : Option (Z7 × Int × Int × Int × (List Zz) × Int × Int) := pick fun r => ∀ (zu zd : Own) (zC : ZR zd = true), RRun (Z3t zn zu) (EE 91 [(.ptr 0 0)] [(Zk (Zm.mk zn zy zb zh zj (Zl.mk z2 z6)) zu zd)]) r
theorem Zfg (zn : List Int) (zy zb zh : Int) (zj : List Zz) (z2 z6 : Int) (zu zd : Own) (zC : ZR zd = true) : Sim (Z3t zn zu) (Z71 zn zy zb zh zj z2 z6) (EE 91 [(.ptr 0 0)] [(Zk (Zm.mk zn zy zb zh zj (Zl.mk z2 z6)) zu zd)]) := fun _ h => Z1g h zu zd zC
def Z5E (x3 : List Z7) (zn : List Int) (zy zb zh : Int) (zj : List Zz) (z2 z6 : Int) : Option (Z7 × Int × Int × Int × (List Zz) × Int × Int) := pick fun r => ∀ (b1 : Z7) (ox3 zu zd zK zG : Own) (hox3 : ZR ox3 = true) (zC : ZR zd = true) (z1c : ZR zK = true) (z15 : ZR zG = true), RRun (Z3t zn zu) (ZlQ 1 (.ptr 0 0) (.ptr 1 0) (.p (.lst ox3 (x3.map ZV))) [(Zk (Zm.mk zn zy zb zh zj (Zl.mk z2 z6)) zu zd), (Zv b1 zK zG)]) r
theorem ZcD (x3 : List Z7) (zn : List Int) (zy zb zh : Int) (zj : List Zz) (z2 z6 : Int) (b1 : Z7) (ox3 zu zd zK zG : Own) (hox3 : ZR ox3 = true) (zC : ZR zd = true) (z1c : ZR zK = true) (z15 : ZR zG = true) : Sim (Z3t zn zu) (Z5E x3 zn zy zb zh zj z2 z6) (ZlQ 1 (.ptr 0 0) (.ptr 1 0) (.p (.lst ox3 (x3.map ZV))) [(Zk (Zm.mk zn zy zb zh zj (Zl.mk z2 z6)) zu zd), (Zv b1 zK zG)]) := fun _ h => Z1g h b1 ox3 zu zd zK zG hox3 zC z1c z15
def Z2J (b0 : Zm) : Option (Int) := pick fun r => ∀ (zu zd : Own) (zC : ZR zd = true), RRun (Z6t b0 zu zd) (EE 104 [(.ptr 0 0)] [(Zk b0 zu zd)]) r
theorem Z2S (b0 : Zm) (zu zd : Own) (zC : ZR zd = true) : Sim (Z6t b0 zu zd) (Z2J b0) (EE 104 [(.ptr 0 0)] [(Zk b0 zu zd)]) := fun _ h => Z1g h zu zd zC
def Zeu (x0 : List Int) (x1 : Int) : Option (Int × Int) := pick fun r => ∀ (ox0 : Own), RRun (Z8b) (EE 126 [(.p (.lst ox0 (x0.map (eI .u8)))), (iv x1)] []) r
theorem Zmg (x0 : List Int) (x1 : Int) (ox0 : Own) : Sim (Z8b) (Zeu x0 x1) (EE 126 [(.p (.lst ox0 (x0.map (eI .u8)))), (iv x1)] []) := fun _ h => Z1g h ox0
def Z9e (x0 : List Int) : Option (Int × Int) := pick fun r => ∀ (ox0 : Own), RRun (Z75) (EE 146 [(.p (.lst ox0 (x0.map (eI .u8))))] []) r
theorem Zh2 (x0 : List Int) (ox0 : Own) : Sim (Z75) (Z9e x0) (EE 146 [(.p (.lst ox0 (x0.map (eI .u8))))] []) := fun _ h => Z1g h ox0
def Zbf (x0 : Int) (x1 : List Z7) : Option (Z7) := pick fun r => ∀ (ox1 : Own), RRun (Z9j) (EE 92 [(iv x0), (.p (.lst ox1 (x1.map ZV)))] []) r
theorem Zio (x0 : Int) (x1 : List Z7) (ox1 : Own) : Sim (Z9j) (Zbf x0 x1) (EE 92 [(iv x0), (.p (.lst ox1 (x1.map ZV)))] []) := fun _ h => Z1g h ox1
def Z9Z (zn : List Int) (zy zb zh : Int) (zj : List Zz) (z2 z6 : Int) : Option (Z7 × Bool × Int × Int × Int × (List Zz) × Int × Int) := pick fun r => ∀ (zu zd : Own) (zC : ZR zd = true), RRun (Z6r zn zu) (EE 105 [(.ptr 0 0)] [(Zk (Zm.mk zn zy zb zh zj (Zl.mk z2 z6)) zu zd)]) r
theorem Zl2 (zn : List Int) (zy zb zh : Int) (zj : List Zz) (z2 z6 : Int) (zu zd : Own) (zC : ZR zd = true) : Sim (Z6r zn zu) (Z9Z zn zy zb zh zj z2 z6) (EE 105 [(.ptr 0 0)] [(Zk (Zm.mk zn zy zb zh zj (Zl.mk z2 z6)) zu zd)]) := fun _ h => Z1g h zu zd zC
def Z3k (zn : List Int) (zy : Int) : Option (Int × Int) := pick fun r => ∀ (zb zh : Int) (zj : List Zz) (z2 z6 : Int) (zu zd : Own) (zC : ZR zd = true), RRun (Z7O zn zb zh zj z2 z6 zu zd) (EE 127 [(.ptr 0 0)] [(Zk (Zm.mk zn zy zb zh zj (Zl.mk z2 z6)) zu zd)]) r
theorem Z3S (zn : List Int) (zy zb zh : Int) (zj : List Zz) (z2 z6 : Int) (zu zd : Own) (zC : ZR zd = true) : Sim (Z7O zn zb zh zj z2 z6 zu zd) (Z3k zn zy) (EE 127 [(.ptr 0 0)] [(Zk (Zm.mk zn zy zb zh zj (Zl.mk z2 z6)) zu zd)]) := fun _ h => Z1g h zb zh zj z2 z6 zu zd zC
def Z2A (x0 : Int) : Option (Zc) := pick fun r => RRun (Ze3) (EE 129 [(iv x0)] []) r
theorem Z2s (x0 : Int) : Sim (Ze3) (Z2A x0) (EE 129 [(iv x0)] []) := fun _ h => Z1g h
def Z49 (x0 : Bool) (x1 : List Zc) : Option (Z7) := pick fun r => ∀ (ox1 : Own), RRun (Zca) (EE 128 [(bv x0), (.p (.lst ox1 (x1.map ZE)))] []) r
theorem Z4i (x0 : Bool) (x1 : List Zc) (ox1 : Own) : Sim (Zca) (Z49 x0 x1) (EE 128 [(bv x0), (.p (.lst ox1 (x1.map ZE)))] []) := fun _ h => Z1g h ox1
def ZfL (x0 : List Zc) : Option ((List Zc) × Int) := pick fun r => ∀ (ox0 : Own), RRun (Zb3) (EE 147 [(.p (.lst ox0 (x0.map ZE)))] []) r
theorem Zs1 (x0 : List Zc) (ox0 : Own) : Sim (Zb3) (ZfL x0) (EE 147 [(.p (.lst ox0 (x0.map ZE)))] []) := fun _ h => Z1g h ox0
def Z5b (x0 : List Zc) : Option (Bool) := pick fun r => ∀ (ox0 : Own), RRun (Z4b) (EE 166 [(.p (.lst ox0 (x0.map ZE))), (.clo 167 [] [])] []) r
theorem ZdO (x0 : List Zc) (ox0 : Own) : Sim (Z4b) (Z5b x0) (EE 166 [(.p (.lst ox0 (x0.map ZE))), (.clo 167 [] [])] []) := fun _ h => Z1g h ox0
def Z69 (x0 : List Zc) : Option (Int) := pick fun r => ∀ (ox0 : Own), RRun (Z2i) (EE 179 [(.p (.lst ox0 (x0.map ZE))), (.clo 167 [] [])] []) r
theorem Zfv (x0 : List Zc) (ox0 : Own) : Sim (Z2i) (Z69 x0) (EE 179 [(.p (.lst ox0 (x0.map ZE))), (.clo 167 [] [])] []) := fun _ h => Z1g h ox0
def Z4f (x0 : List Zc) (x7 x8 : Int) : Option (Int) := pick fun r => ∀ (ox0 : Own), RRun (Z2i) (Zj8 0 (.p (.lst ox0 (x0.map ZE))) (.clo 167 [] []) (iv x7) (iv x8) []) r
theorem Z96 (x0 : List Zc) (x7 x8 : Int) (ox0 : Own) : Sim (Z2i) (Z4f x0 x7 x8) (Zj8 0 (.p (.lst ox0 (x0.map ZE))) (.clo 167 [] []) (iv x7) (iv x8) []) := fun _ h => Z1g h ox0
def Zdf (x0 : Zc) : Option (Bool) := pick fun r => RRun (Zb4) (EE 167 [(.p (.agg (Z12 x0)))] []) r
theorem ZpX (x0 : Zc) : Sim (Zb4) (Zdf x0) (EE 167 [(.p (.agg (Z12 x0)))] []) := fun _ h => Z1g h
def Z7X (x0 : Zc) : Option (Bool) := pick fun r => RRun (Z7N) (EE 168 [(.p (.agg (Z12 x0)))] []) r
theorem Zea (x0 : Zc) : Sim (Z7N) (Z7X x0) (EE 168 [(.p (.agg (Z12 x0)))] []) := fun _ h => Z1g h
def Zdh (x0 : List Zc) : Option (List Zc) := pick fun r => ∀ (ox0 : Own), RRun (Zd0) (EE 169 [(.p (.lst ox0 (x0.map ZE)))] []) r
theorem Zin (x0 : List Zc) (ox0 : Own) : Sim (Zd0) (Zdh x0) (EE 169 [(.p (.lst ox0 (x0.map ZE)))] []) := fun _ h => Z1g h ox0
def Zas (x0 : List Zc) : Option ((List Zc) × Int) := pick fun r => ∀ (ox0 : Own), RRun (Z8B) (EE 148 [(.p (.lst ox0 (x0.map ZE)))] []) r
theorem ZhA (x0 : List Zc) (ox0 : Own) : Sim (Z8B) (Zas x0) (EE 148 [(.p (.lst ox0 (x0.map ZE)))] []) := fun _ h => Z1g h ox0
def Z6Z (x0 : List Zc) : Option (Bool) := pick fun r => ∀ (ox0 : Own), RRun (Z2X) (EE 170 [(.p (.lst ox0 (x0.map ZE)))] []) r
theorem Zbe (x0 : List Zc) (ox0 : Own) : Sim (Z2X) (Z6Z x0) (EE 170 [(.p (.lst ox0 (x0.map ZE)))] []) := fun _ h => Z1g h ox0
def Z70 (x3 : Int) (x6 : List Zc) (x7 x8 : Int) : Option (Bool) := pick fun r => ∀ (ox6 : Own), RRun (Z2X) (Zj6 0 (iv x3) (.p (.lst ox6 (x6.map ZE))) (iv x7) (iv x8) []) r
theorem Zcz (x3 : Int) (x6 : List Zc) (x7 x8 : Int) (ox6 : Own) : Sim (Z2X) (Z70 x3 x6 x7 x8) (Zj6 0 (iv x3) (.p (.lst ox6 (x6.map ZE))) (iv x7) (iv x8) []) := fun _ h => Z1g h ox6
def Zcs (x0 : List Zc) : Option (List Zc) := pick fun r => ∀ (ox0 : Own), RRun (Z3w) (EE 171 [(.p (.lst ox0 (x0.map ZE)))] []) r
theorem ZoM (x0 : List Zc) (ox0 : Own) : Sim (Z3w) (Zcs x0) (EE 171 [(.p (.lst ox0 (x0.map ZE)))] []) := fun _ h => Z1g h ox0
def Z8t (x3 : List Zc) (x4 : Int) (x7 : List Zc) (x8 x9 : Int) : Option (List Zc) := pick fun r => ∀ (ox3 ox7 : Own) (hox3 : ZR ox3 = true), RRun (Z3w) (Zj7 0 (.p (.lst ox3 (x3.map ZE))) (iv x4) (.p (.lst ox7 (x7.map ZE))) (iv x8) (iv x9) []) r
theorem Zfb (x3 : List Zc) (x4 : Int) (x7 : List Zc) (x8 x9 : Int) (ox3 ox7 : Own) (hox3 : ZR ox3 = true) : Sim (Z3w) (Z8t x3 x4 x7 x8 x9) (Zj7 0 (.p (.lst ox3 (x3.map ZE))) (iv x4) (.p (.lst ox7 (x7.map ZE))) (iv x8) (iv x9) []) := fun _ h => Z1g h ox3 ox7 hox3
def Z4Q (x1 : Int) (zn : List Int) (zy zb zh : Int) (zj : List Zz) (z2 z6 : Int) : Option (Z7 × Int × (List Zz) × Int × Int) := pick fun r => ∀ (zu zd : Own) (zC : ZR zd = true), RRun (Z44 zn zb zh zu) (EE 130 [(.ptr 0 0), (iv x1)] [(Zk (Zm.mk zn zy zb zh zj (Zl.mk z2 z6)) zu zd)]) r
theorem ZjE (x1 : Int) (zn : List Int) (zy zb zh : Int) (zj : List Zz) (z2 z6 : Int) (zu zd : Own) (zC : ZR zd = true) : Sim (Z44 zn zb zh zu) (Z4Q x1 zn zy zb zh zj z2 z6) (EE 130 [(.ptr 0 0), (iv x1)] [(Zk (Zm.mk zn zy zb zh zj (Zl.mk z2 z6)) zu zd)]) := fun _ h => Z1g h zu zd zC
def Z1m (x1 x2 : Int) (zn : List Int) (z2 z6 : Int) : Option (Int × Int × Int) := pick fun r => ∀ (zy zb zh : Int) (zj : List Zz) (zu zd : Own) (zC : ZR zd = true), RRun (Z6s zn zb zh zj zu zd) (EE 70 [(.ptr 0 0), (iv x1), (iv x2)] [(Zk (Zm.mk zn zy zb zh zj (Zl.mk z2 z6)) zu zd)]) r
theorem Z1p (x1 x2 : Int) (zn : List Int) (zy zb zh : Int) (zj : List Zz) (z2 z6 : Int) (zu zd : Own) (zC : ZR zd = true) : Sim (Z6s zn zb zh zj zu zd) (Z1m x1 x2 zn z2 z6) (EE 70 [(.ptr 0 0), (iv x1), (iv x2)] [(Zk (Zm.mk zn zy zb zh zj (Zl.mk z2 z6)) zu zd)]) := fun _ h => Z1g h zy zb zh zj zu zd zC
def Z7G (x0 : Int) : Option (Own × (List Zc)) := pick fun r => RRun (Z7C) (EE 149 [(iv x0)] []) r
theorem ZbR (x0 : Int) : Sim (Z7C) (Z7G x0) (EE 149 [(iv x0)] []) := fun _ h => Z1g h
def Z7y (x1 x2 : Int) (zn : List Int) (zy zb zh : Int) (zj : List Zz) (z2 z6 : Int) : Option (Int × Int × Int × Int) := pick fun r => ∀ (zu zd : Own) (zC : ZR zd = true), RRun (Z4W zn zb zh zj zu zd) (EE 150 [(.ptr 0 0), (iv x1), (iv x2)] [(Zk (Zm.mk zn zy zb zh zj (Zl.mk z2 z6)) zu zd)]) r
theorem ZdB (x1 x2 : Int) (zn : List Int) (zy zb zh : Int) (zj : List Zz) (z2 z6 : Int) (zu zd : Own) (zC : ZR zd = true) : Sim (Z4W zn zb zh zj zu zd) (Z7y x1 x2 zn zy zb zh zj z2 z6) (EE 150 [(.ptr 0 0), (iv x1), (iv x2)] [(Zk (Zm.mk zn zy zb zh zj (Zl.mk z2 z6)) zu zd)]) := fun _ h => Z1g h zu zd zC
def Zec (x0 : Int) : Option (Int) := pick fun r => RRun (Z8a) (EE 172 [(iv x0)] []) r
theorem ZlZ (x0 : Int) : Sim (Z8a) (Zec x0) (EE 172 [(iv x0)] []) := fun _ h => Z1g h
def Zar (x0 : List Zc) (x1 : Int) : Option (Bool) := pick fun r => ∀ (ox0 : Own), RRun (Zab) (EE 173 [(.p (.lst ox0 (x0.map ZE))), (iv x1)] []) r
theorem ZoI (x0 : List Zc) (x1 : Int) (ox0 : Own) : Sim (Zab) (Zar x0 x1) (EE 173 [(.p (.lst ox0 (x0.map ZE))), (iv x1)] []) := fun _ h => Z1g h ox0
def Z5a (x0 : List Zc) (z1x : Int) : Option (Bool) := pick fun r => ∀ (ox0 : Own), RRun (Z4a z1x) (EE 184 [(.p (.lst ox0 (x0.map ZE))), (.clo 185 [] [(.ptr 0 0)])] [[(iv z1x)]]) r
theorem ZdM (x0 : List Zc) (z1x : Int) (ox0 : Own) : Sim (Z4a z1x) (Z5a x0 z1x) (EE 184 [(.p (.lst ox0 (x0.map ZE))), (.clo 185 [] [(.ptr 0 0)])] [[(iv z1x)]]) := fun _ h => Z1g h ox0
def Z68 (x0 : List Zc) (z1x : Int) : Option (Int) := pick fun r => ∀ (ox0 : Own), RRun (Z2h z1x) (EE 191 [(.p (.lst ox0 (x0.map ZE))), (.clo 185 [] [(.ptr 0 0)])] [[(iv z1x)]]) r
theorem Zft (x0 : List Zc) (z1x : Int) (ox0 : Own) : Sim (Z2h z1x) (Z68 x0 z1x) (EE 191 [(.p (.lst ox0 (x0.map ZE))), (.clo 185 [] [(.ptr 0 0)])] [[(iv z1x)]]) := fun _ h => Z1g h ox0
def Z4e (x0 : List Zc) (x7 x8 z1x : Int) : Option (Int) := pick fun r => ∀ (ox0 : Own), RRun (Z2h z1x) (Zj9 1 (.p (.lst ox0 (x0.map ZE))) (.clo 185 [] [(.ptr 0 0)]) (iv x7) (iv x8) [[(iv z1x)]]) r
theorem Z94 (x0 : List Zc) (x7 x8 z1x : Int) (ox0 : Own) : Sim (Z2h z1x) (Z4e x0 x7 x8 z1x) (Zj9 1 (.p (.lst ox0 (x0.map ZE))) (.clo 185 [] [(.ptr 0 0)]) (iv x7) (iv x8) [[(iv z1x)]]) := fun _ h => Z1g h ox0
def ZaW (x0 : Zc) (z1x : Int) : Option (Bool) := pick fun r => RRun (Z8Q z1x) (EE 185 [(.p (.agg (Z12 x0))), (.ptr 0 0)] [[(iv z1x)]]) r
theorem ZmX (x0 : Zc) (z1x : Int) : Sim (Z8Q z1x) (ZaW x0 z1x) (EE 185 [(.p (.agg (Z12 x0))), (.ptr 0 0)] [[(iv z1x)]]) := fun _ h => Z1g h
def Z9d (x1 : Int) (zn : List Int) (zy zb zh : Int) (zj : List Zz) (z2 z6 : Int) : Option (Z7 × Int × Int × Int) := pick fun r => ∀ (zu zd : Own) (zC : ZR zd = true), RRun (Z1O zn zb zh zj zu zd) (EE 131 [(.ptr 0 0), (iv x1)] [(Zk (Zm.mk zn zy zb zh zj (Zl.mk z2 z6)) zu zd)]) r
theorem Zk7 (x1 : Int) (zn : List Int) (zy zb zh : Int) (zj : List Zz) (z2 z6 : Int) (zu zd : Own) (zC : ZR zd = true) : Sim (Z1O zn zb zh zj zu zd) (Z9d x1 zn zy zb zh zj z2 z6) (EE 131 [(.ptr 0 0), (iv x1)] [(Zk (Zm.mk zn zy zb zh zj (Zl.mk z2 z6)) zu zd)]) := fun _ h => Z1g h zu zd zC
def Z4g (x1 : Int) (x5 : Bool) (x8 : Int) (zn : List Int) (zy zb zh : Int) (zj : List Zz) (z2 z6 : Int) (z16 : List Zc) : Option (Z7 × Int × Int × Int) := pick fun r => ∀ (b1 : Z7) (zu zd zK zG z1W : Own) (zC : ZR zd = true) (z1c : ZR zK = true) (z15 : ZR zG = true), RRun (Z1O zn zb zh zj zu zd) (Zj0 1 (.ptr 0 0) (iv x1) (.ptr 1 0) (bv x5) (.ptr 2 0) (.clo 151 [] [(.ptr 2 0)]) (iv x8) [(Zk (Zm.mk zn zy zb zh zj (Zl.mk z2 z6)) zu zd), (Zv b1 zK zG), [(.p (.lst z1W (z16.map ZE)))]]) r
theorem Zc3 (x1 : Int) (x5 : Bool) (x8 : Int) (zn : List Int) (zy zb zh : Int) (zj : List Zz) (z2 z6 : Int) (b1 : Z7) (z16 : List Zc) (zu zd zK zG z1W : Own) (zC : ZR zd = true) (z1c : ZR zK = true) (z15 : ZR zG = true) : Sim (Z1O zn zb zh zj zu zd) (Z4g x1 x5 x8 zn zy zb zh zj z2 z6 z16) (Zj0 1 (.ptr 0 0) (iv x1) (.ptr 1 0) (bv x5) (.ptr 2 0) (.clo 151 [] [(.ptr 2 0)]) (iv x8) [(Zk (Zm.mk zn zy zb zh zj (Zl.mk z2 z6)) zu zd), (Zv b1 zK zG), [(.p (.lst z1W (z16.map ZE)))]]) := fun _ h => Z1g h b1 zu zd zK zG z1W zC z1c z15
def Z5F (zn : List Int) (zy zb zh : Int) (zj : List Zz) (z2 z6 : Int) : Option (Int × (Own × (List Zc)) × Bool × Int × Int × Int) := pick fun r => ∀ (zu zd : Own) (zC : ZR zd = true), RRun (Z45 zn zb zh zj zu zd) (EE 153 [(.ptr 0 0)] [(Zk (Zm.mk zn zy zb zh zj (Zl.mk z2 z6)) zu zd)]) r
theorem ZcG (zn : List Int) (zy zb zh : Int) (zj : List Zz) (z2 z6 : Int) (zu zd : Own) (zC : ZR zd = true) : Sim (Z45 zn zb zh zj zu zd) (Z5F zn zy zb zh zj z2 z6) (EE 153 [(.ptr 0 0)] [(Zk (Zm.mk zn zy zb zh zj (Zl.mk z2 z6)) zu zd)]) := fun _ h => Z1g h zu zd zC
def Z6x (x0 z1x : List Zc) : Option (List Zc) := pick fun r => ∀ (ox0 zhl : Own), RRun (Z6w) (EE 151 [(.p (.lst ox0 (x0.map ZE))), (.ptr 0 0)] [[(.p (.lst zhl (z1x.map ZE)))]]) r
theorem Zct (x0 z1x : List Zc) (ox0 zhl : Own) : Sim (Z6w) (Z6x x0 z1x) (EE 151 [(.p (.lst ox0 (x0.map ZE))), (.ptr 0 0)] [[(.p (.lst zhl (z1x.map ZE)))]]) := fun _ h => Z1g h ox0 zhl
def Zdg (x0 x1 : List Zc) : Option ((List Zc) × Int) := pick fun r => ∀ (ox0 ox1 : Own), RRun (Z81) (EE 152 [(.p (.lst ox0 (x0.map ZE))), (.p (.lst ox1 (x1.map ZE)))] []) r
theorem ZpZ (x0 x1 : List Zc) (ox0 ox1 : Own) : Sim (Z81) (Zdg x0 x1) (EE 152 [(.p (.lst ox0 (x0.map ZE))), (.p (.lst ox1 (x1.map ZE)))] []) := fun _ h => Z1g h ox0 ox1
def Zbl (x0 : List (List Zc)) : Option (List Zc) := pick fun r => ∀ (ox0 : Own), RRun (Z8C) (EE 174 [(.p (.lst ox0 (x0.map (eL ZE))))] []) r
theorem ZjM (x0 : List (List Zc)) (ox0 : Own) : Sim (Z8C) (Zbl x0) (EE 174 [(.p (.lst ox0 (x0.map (eL ZE))))] []) := fun _ h => Z1g h ox0
def Z50 (x1 : Int) (zn : List Int) (zy zb zh : Int) (zj : List Zz) (z2 z6 : Int) : Option (Z7 × Bool × Int × Int × Int × (List Zz) × Int × Int) := pick fun r => ∀ (zu zd : Own) (zC : ZR zd = true), RRun (Z3r zn zu) (EE 132 [(.ptr 0 0), (iv x1)] [(Zk (Zm.mk zn zy zb zh zj (Zl.mk z2 z6)) zu zd)]) r
theorem Zk9 (x1 : Int) (zn : List Int) (zy zb zh : Int) (zj : List Zz) (z2 z6 : Int) (zu zd : Own) (zC : ZR zd = true) : Sim (Z3r zn zu) (Z50 x1 zn zy zb zh zj z2 z6) (EE 132 [(.ptr 0 0), (iv x1)] [(Zk (Zm.mk zn zy zb zh zj (Zl.mk z2 z6)) zu zd)]) := fun _ h => Z1g h zu zd zC
def ZeE  : Option (List ByteArray) := pick fun r => RRun (ZbY) (EE 155 [] []) r
theorem ZqW  : Sim (ZbY) (ZeE) (EE 155 [] []) := fun _ h => Z1g h
def Z5N (x0 : List ByteArray) (zn : List Int) (zy : Int) : Option (Int × Int) := pick fun r => ∀ (zb zh : Int) (zj : List Zz) (z2 z6 : Int) (ox0 zu zd : Own) (zC : ZR zd = true), RRun (Z2d zn zb zh zj z2 z6 zu zd) (EE 154 [(.p (.lst ox0 (x0.map eS))), (.clo 68 [(.ptr 0 0)] [])] [(Zk (Zm.mk zn zy zb zh zj (Zl.mk z2 z6)) zu zd)]) r
theorem ZeY (x0 : List ByteArray) (zn : List Int) (zy zb zh : Int) (zj : List Zz) (z2 z6 : Int) (ox0 zu zd : Own) (zC : ZR zd = true) : Sim (Z2d zn zb zh zj z2 z6 zu zd) (Z5N x0 zn zy) (EE 154 [(.p (.lst ox0 (x0.map eS))), (.clo 68 [(.ptr 0 0)] [])] [(Zk (Zm.mk zn zy zb zh zj (Zl.mk z2 z6)) zu zd)]) := fun _ h => Z1g h zb zh zj z2 z6 ox0 zu zd zC
def Z2t (x0 : List ByteArray) (x7 x8 : Int) (zn : List Int) (zy : Int) : Option (Int × Int) := pick fun r => ∀ (zb zh : Int) (zj : List Zz) (z2 z6 : Int) (ox0 zu zd : Own) (zC : ZR zd = true), RRun (Z2d zn zb zh zj z2 z6 zu zd) (Zj4 1 (.p (.lst ox0 (x0.map eS))) (.clo 68 [(.ptr 0 0)] []) (iv x7) (iv x8) [(Zk (Zm.mk zn zy zb zh zj (Zl.mk z2 z6)) zu zd)]) r
theorem Z8N (x0 : List ByteArray) (x7 x8 : Int) (zn : List Int) (zy zb zh : Int) (zj : List Zz) (z2 z6 : Int) (ox0 zu zd : Own) (zC : ZR zd = true) : Sim (Z2d zn zb zh zj z2 z6 zu zd) (Z2t x0 x7 x8 zn zy) (Zj4 1 (.p (.lst ox0 (x0.map eS))) (.clo 68 [(.ptr 0 0)] []) (iv x7) (iv x8) [(Zk (Zm.mk zn zy zb zh zj (Zl.mk z2 z6)) zu zd)]) := fun _ h => Z1g h zb zh zj z2 z6 ox0 zu zd zC
def Z73 (x1 : Z7) (x2 : Bool) (zn : List Int) (zy zb zh : Int) (zj : List Zz) (z2 z6 : Int) : Option (Z7 × Int × Int × Int) := pick fun r => ∀ (z3p z2W zu zd : Own) (zC : ZR zd = true), RRun (Z46 zn zb zh zj zu zd) (EE 106 [(.ptr 0 0), (.p (.agg (ZJ x1 z3p z2W))), (bv x2)] [(Zk (Zm.mk zn zy zb zh zj (Zl.mk z2 z6)) zu zd)]) r
theorem ZjI (x1 : Z7) (x2 : Bool) (zn : List Int) (zy zb zh : Int) (zj : List Zz) (z2 z6 : Int) (z3p z2W zu zd : Own) (zC : ZR zd = true) : Sim (Z46 zn zb zh zj zu zd) (Z73 x1 x2 zn zy zb zh zj z2 z6) (EE 106 [(.ptr 0 0), (.p (.agg (ZJ x1 z3p z2W))), (bv x2)] [(Zk (Zm.mk zn zy zb zh zj (Zl.mk z2 z6)) zu zd)]) := fun _ h => Z1g h z3p z2W zu zd zC
def Z72 (x1 : Int) (zn : List Int) (zy zb zh : Int) (zj : List Zz) (z2 z6 : Int) : Option (Int × Int × Int × Int × Int) := pick fun r => ∀ (zu zd : Own) (zC : ZR zd = true), RRun (Z2Y zn zb zh zj zu zd) (EE 133 [(.ptr 0 0), (iv x1)] [(Zk (Zm.mk zn zy zb zh zj (Zl.mk z2 z6)) zu zd)]) r
theorem ZjC (x1 : Int) (zn : List Int) (zy zb zh : Int) (zj : List Zz) (z2 z6 : Int) (zu zd : Own) (zC : ZR zd = true) : Sim (Z2Y zn zb zh zj zu zd) (Z72 x1 zn zy zb zh zj z2 z6) (EE 133 [(.ptr 0 0), (iv x1)] [(Zk (Zm.mk zn zy zb zh zj (Zl.mk z2 z6)) zu zd)]) := fun _ h => Z1g h zu zd zC
def Z5G (zn : List Int) (zy zb zh : Int) (zj : List Zz) (z2 z6 : Int) : Option (Int × Int) := pick fun r => ∀ (zu zd : Own) (zC : ZR zd = true), RRun (Z3i zn zb zh zj z2 z6 zu zd) (EE 156 [(.ptr 0 0)] [(Zk (Zm.mk zn zy zb zh zj (Zl.mk z2 z6)) zu zd)]) r
theorem ZcH (zn : List Int) (zy zb zh : Int) (zj : List Zz) (z2 z6 : Int) (zu zd : Own) (zC : ZR zd = true) : Sim (Z3i zn zb zh zj z2 z6 zu zd) (Z5G zn zy zb zh zj z2 z6) (EE 156 [(.ptr 0 0)] [(Zk (Zm.mk zn zy zb zh zj (Zl.mk z2 z6)) zu zd)]) := fun _ h => Z1g h zu zd zC
def Z41 (x3 x4 : Int) (zn : List Int) (zy zb zh : Int) (zj : List Zz) (z2 z6 : Int) : Option (Int × Int) := pick fun r => ∀ (zu zd : Own) (zC : ZR zd = true), RRun (Z3i zn zb zh zj z2 z6 zu zd) (Zj5 1 (.ptr 0 0) (iv x3) (iv x4) [(Zk (Zm.mk zn zy zb zh zj (Zl.mk z2 z6)) zu zd)]) r
theorem Zbq (x3 x4 : Int) (zn : List Int) (zy zb zh : Int) (zj : List Zz) (z2 z6 : Int) (zu zd : Own) (zC : ZR zd = true) : Sim (Z3i zn zb zh zj z2 z6 zu zd) (Z41 x3 x4 zn zy zb zh zj z2 z6) (Zj5 1 (.ptr 0 0) (iv x3) (iv x4) [(Zk (Zm.mk zn zy zb zh zj (Zl.mk z2 z6)) zu zd)]) := fun _ h => Z1g h zu zd zC
def Z5D (x3 : List Z7) (zn : List Int) (zy zb zh : Int) (zj : List Zz) (z2 z6 : Int) : Option (Z7 × Int × Int × Int × (List Zz) × Int × Int) := pick fun r => ∀ (b1 : Z7) (ox3 zu zd zK zG : Own) (hox3 : ZR ox3 = true) (zC : ZR zd = true) (z1c : ZR zK = true) (z15 : ZR zG = true), RRun (Z3P zn zu) (ZlM 1 (.ptr 0 0) (.ptr 1 0) (.p (.lst ox3 (x3.map ZV))) [(Zk (Zm.mk zn zy zb zh zj (Zl.mk z2 z6)) zu zd), (Zv b1 zK zG)]) r
theorem ZcB (x3 : List Z7) (zn : List Int) (zy zb zh : Int) (zj : List Zz) (z2 z6 : Int) (b1 : Z7) (ox3 zu zd zK zG : Own) (hox3 : ZR ox3 = true) (zC : ZR zd = true) (z1c : ZR zK = true) (z15 : ZR zG = true) : Sim (Z3P zn zu) (Z5D x3 zn zy zb zh zj z2 z6) (ZlM 1 (.ptr 0 0) (.ptr 1 0) (.p (.lst ox3 (x3.map ZV))) [(Zk (Zm.mk zn zy zb zh zj (Zl.mk z2 z6)) zu zd), (Zv b1 zK zG)]) := fun _ h => Z1g h b1 ox3 zu zd zK zG hox3 zC z1c z15
def Z83 (x50 : List Zz) (x51 x52 : Int) (z34 : List Int) (z1i z14 z1l z18 z1o z1n z19 z1a : Int) (z1b : List Zc) (z17 : List Z7) (z1H : Bool) : Option (ZY × Zl) := pick fun r => ∀ (b0 : ZY) (b1 : Zl) (z2U z2B : Int) (z20 : List Zz) (z2p : Int) (ox50 z1s z1k z3D z1L z1B z1z : Own) (z2y : ZR z1s = true) (z2j : ZR z1k = true) (z3T : ZR z1L = true), RRun (Z3E) (ZlL 0 (.ptr 0 0) (.ptr 1 0) (.ptr 2 0) (.ptr 3 0) (.p (.lst ox50 (x50.map Z2P))) (iv x51) (iv x52) [(Z10 b0 z1s z1k), (Z1E b1), (Zk (Zm.mk z34 z2U z1i z2B z20 (Zl.mk z14 z1l)) z3D z1L), (Z10 (ZY.mk (Z7.mk z18 z1o z1n z19 z1a z1b z17) z2p z1H) z1B z1z)]) r
theorem Zgk (x50 : List Zz) (x51 x52 : Int) (b0 : ZY) (b1 : Zl) (z34 : List Int) (z2U z1i z2B : Int) (z20 : List Zz) (z14 z1l z18 z1o z1n z19 z1a : Int) (z1b : List Zc) (z17 : List Z7) (z2p : Int) (z1H : Bool) (ox50 z1s z1k z3D z1L z1B z1z : Own) (z2y : ZR z1s = true) (z2j : ZR z1k = true) (z3T : ZR z1L = true) : Sim (Z3E) (Z83 x50 x51 x52 z34 z1i z14 z1l z18 z1o z1n z19 z1a z1b z17 z1H) (ZlL 0 (.ptr 0 0) (.ptr 1 0) (.ptr 2 0) (.ptr 3 0) (.p (.lst ox50 (x50.map Z2P))) (iv x51) (iv x52) [(Z10 b0 z1s z1k), (Z1E b1), (Zk (Zm.mk z34 z2U z1i z2B z20 (Zl.mk z14 z1l)) z3D z1L), (Z10 (ZY.mk (Z7.mk z18 z1o z1n z19 z1a z1b z17) z2p z1H) z1B z1z)]) := fun _ h => Z1g h b0 b1 z2U z2B z20 z2p ox50 z1s z1k z3D z1L z1B z1z z2y z2j z3T
def ZeG (x0 : ZY) : Option (Int) := pick fun r => ∀ (z43 z3H : Own), RRun (Za6) (EE 48 [(.p (.agg (Z3b x0 z43 z3H)))] []) r
theorem Zr2 (x0 : ZY) (z43 z3H : Own) : Sim (Za6) (ZeG x0) (EE 48 [(.p (.agg (Z3b x0 z43 z3H)))] []) := fun _ h => Z1g h z43 z3H
def Z4s (x0 : Z7) : Option (Bool) := pick fun r => ∀ (z1U z1A : Own), RRun (Z6h) (EE 71 [(.p (.agg (ZJ x0 z1U z1A)))] []) r
theorem ZhO (x0 : Z7) (z1U z1A : Own) : Sim (Z6h) (Z4s x0) (EE 71 [(.p (.agg (ZJ x0 z1U z1A)))] []) := fun _ h => Z1g h z1U z1A
def Z3F (x0 : Z7) : Option (Int × Int) := pick fun r => ∀ (z1U z1A : Own), RRun (Z3h) (EE 93 [(.p (.agg (ZJ x0 z1U z1A)))] []) r
theorem Z87 (x0 : Z7) (z1U z1A : Own) : Sim (Z3h) (Z3F x0) (EE 93 [(.p (.agg (ZJ x0 z1U z1A)))] []) := fun _ h => Z1g h z1U z1A
def Z9F (x2 x3 : Int) (x23 : List Z7) (x24 x25 : Int) : Option (Int × Int) := pick fun r => ∀ (ox23 : Own), RRun (Z3h) (ZlS 0 (iv x2) (iv x3) (.p (.lst ox23 (x23.map ZV))) (iv x24) (iv x25) []) r
theorem Zgx (x2 x3 : Int) (x23 : List Z7) (x24 x25 : Int) (ox23 : Own) : Sim (Z3h) (Z9F x2 x3 x23 x24 x25) (ZlS 0 (iv x2) (iv x3) (.p (.lst ox23 (x23.map ZV))) (iv x24) (iv x25) []) := fun _ h => Z1g h ox23
def Z93 (x2 x3 : Int) (x45 : List Z7) (x46 x47 : Int) : Option (Int × Int) := pick fun r => ∀ (ox45 : Own), RRun (Z3h) (Zjf 0 (iv x2) (iv x3) (.p (.lst ox45 (x45.map ZV))) (iv x46) (iv x47) []) r
theorem ZfR (x2 x3 : Int) (x45 : List Z7) (x46 x47 : Int) (ox45 : Own) : Sim (Z3h) (Z93 x2 x3 x45 x46 x47) (Zjf 0 (iv x2) (iv x3) (.p (.lst ox45 (x45.map ZV))) (iv x46) (iv x47) []) := fun _ h => Z1g h ox45
def Zc6 (x0 x1 : Int) : Option (Int) := pick fun r => RRun (Z6E) (EE 108 [(iv x0), (iv x1)] []) r
theorem Zr7 (x0 x1 : Int) : Sim (Z6E) (Zc6 x0 x1) (EE 108 [(iv x0), (iv x1)] []) := fun _ h => Z1g h
def ZcM (x0 : Int) : Option (Int) := pick fun r => RRun (Zb6) (EE 134 [(iv x0)] []) r
theorem Zky (x0 : Int) : Sim (Zb6) (ZcM x0) (EE 134 [(iv x0)] []) := fun _ h => Z1g h
def Zhj (x0 x1 : Int) : Option (Int) := pick fun r => RRun (Zaz) (EE 107 [(iv x0), (iv x1)] []) r
theorem Zun (x0 x1 : Int) : Sim (Zaz) (Zhj x0 x1) (EE 107 [(iv x0), (iv x1)] []) := fun _ h => Z1g h
def Z5w (x0 : List Z7) : Option (Bool) := pick fun r => ∀ (ox0 : Own), RRun (Z4k) (EE 94 [(.p (.lst ox0 (x0.map ZV))), (.clo 95 [] [])] []) r
theorem Zej (x0 : List Z7) (ox0 : Own) : Sim (Z4k) (Z5w x0) (EE 94 [(.p (.lst ox0 (x0.map ZV))), (.clo 95 [] [])] []) := fun _ h => Z1g h ox0
def Z6n (x0 : List Z7) : Option (Int) := pick fun r => ∀ (ox0 : Own), RRun (Z2m) (EE 109 [(.p (.lst ox0 (x0.map ZV))), (.clo 95 [] [])] []) r
theorem ZfV (x0 : List Z7) (ox0 : Own) : Sim (Z2m) (Z6n x0) (EE 109 [(.p (.lst ox0 (x0.map ZV))), (.clo 95 [] [])] []) := fun _ h => Z1g h ox0
def Z4t (x0 : List Z7) (x7 x8 : Int) : Option (Int) := pick fun r => ∀ (ox0 : Own), RRun (Z2m) (ZiY 0 (.p (.lst ox0 (x0.map ZV))) (.clo 95 [] []) (iv x7) (iv x8) []) r
theorem Z9g (x0 : List Z7) (x7 x8 : Int) (ox0 : Own) : Sim (Z2m) (Z4t x0 x7 x8) (ZiY 0 (.p (.lst ox0 (x0.map ZV))) (.clo 95 [] []) (iv x7) (iv x8) []) := fun _ h => Z1g h ox0
def Zb0 (x0 : Z7) : Option (Bool) := pick fun r => ∀ (z1U z1A : Own), RRun (Z8V) (EE 95 [(.p (.agg (ZJ x0 z1U z1A)))] []) r
theorem ZnA (x0 : Z7) (z1U z1A : Own) : Sim (Z8V) (Zb0 x0) (EE 95 [(.p (.agg (ZJ x0 z1U z1A)))] []) := fun _ h => Z1g h z1U z1A
def Z5Y (x0 : Z7) : Option (Int) := pick fun r => ∀ (z1U z1A : Own), RRun (Z52) (EE 72 [(.p (.agg (ZJ x0 z1U z1A)))] []) r
theorem Zkx (x0 : Z7) (z1U z1A : Own) : Sim (Z52) (Z5Y x0) (EE 72 [(.p (.agg (ZJ x0 z1U z1A)))] []) := fun _ h => Z1g h z1U z1A
def Z6m (x3 : Int) (x8 : List Z7) (x9 x10 : Int) (b0 : Z7) : Option (Int) := pick fun r => ∀ (ox8 z1T z1D : Own), RRun (Z52) (ZlO 0 (.ptr 0 0) (iv x3) (.p (.lst ox8 (x8.map ZV))) (iv x9) (iv x10) [(Zv b0 z1T z1D)]) r
theorem ZhN (x3 : Int) (x8 : List Z7) (x9 x10 : Int) (b0 : Z7) (ox8 z1T z1D : Own) : Sim (Z52) (Z6m x3 x8 x9 x10 b0) (ZlO 0 (.ptr 0 0) (iv x3) (.p (.lst ox8 (x8.map ZV))) (iv x9) (iv x10) [(Zv b0 z1T z1D)]) := fun _ h => Z1g h ox8 z1T z1D
def Z7A (x0 : ZD) : Option (ZI) := pick fun r => ∀ (zZ : Own), RRun (Z3Y) (EE 16 [(.p (.agg (Z1h x0 zZ)))] []) r
theorem Zav (x0 : ZD) (zZ : Own) : Sim (Z3Y) (Z7A x0) (EE 16 [(.p (.agg (Z1h x0 zZ)))] []) := fun _ h => Z1g h zZ
def Z9E (x0 : ZD) : Option (Bool) := pick fun r => ∀ (zZ : Own), RRun (Z2V) (EE 20 [(.p (.agg (Z1h x0 zZ)))] []) r
theorem Zgu (x0 : ZD) (zZ : Own) : Sim (Z2V) (Z9E x0) (EE 20 [(.p (.agg (Z1h x0 zZ)))] []) := fun _ h => Z1g h zZ
def Z7Z (x0 : ZD) : Option (Bool) := pick fun r => ∀ (zZ : Own), RRun (Z7P) (EE 46 [(.p (.agg (Z1h x0 zZ)))] []) r
theorem Zeg (x0 : ZD) (zZ : Own) : Sim (Z7P) (Z7Z x0) (EE 46 [(.p (.agg (Z1h x0 zZ)))] []) := fun _ h => Z1g h zZ
def Z7Y (x3 : Int) (x16 : List Zp) (x17 x18 : Int) : Option (Bool) := pick fun r => ∀ (ox16 : Own), RRun (Z2V) (ZlJ 0 (iv x3) (.p (.lst ox16 (x16.map ZF))) (iv x17) (iv x18) []) r
theorem Zef (x3 : Int) (x16 : List Zp) (x17 x18 : Int) (ox16 : Own) : Sim (Z2V) (Z7Y x3 x16 x17 x18) (ZlJ 0 (iv x3) (.p (.lst ox16 (x16.map ZF))) (iv x17) (iv x18) []) := fun _ h => Z1g h ox16
def Z7H (x0 : Zp) : Option (Bool) := pick fun r => RRun (Z8R) (EE 27 [(.p (.agg (Z1r x0)))] []) r
theorem ZbS (x0 : Zp) : Sim (Z8R) (Z7H x0) (EE 27 [(.p (.agg (Z1r x0)))] []) := fun _ h => Z1g h
def Z8y (x11 : List Zp) (x12 x13 : Int) : Option (ZI) := pick fun r => ∀ (b0 : ZD) (b1 : ZI) (ox11 zB : Own), RRun (Z3Y) (ZlG 0 (.ptr 1 0) (.p (.lst ox11 (x11.map ZF))) (iv x12) (iv x13) [(Zo b0 zB), (ZM b1)]) r
theorem Zfm (x11 : List Zp) (x12 x13 : Int) (b0 : ZD) (b1 : ZI) (ox11 zB : Own) : Sim (Z3Y) (Z8y x11 x12 x13) (ZlG 0 (.ptr 1 0) (.p (.lst ox11 (x11.map ZF))) (iv x12) (iv x13) [(Zo b0 zB), (ZM b1)]) := fun _ h => Z1g h b0 b1 ox11 zB
def Z8K (x0 : ZD) (x1 : ZX) : Option (Bool) := pick fun r => ∀ (zZ z2e z29 : Own), RRun (Z1Z) (EE 15 [(.p (.agg (Z1h x0 zZ))), (.p (.agg (Z3q x1 z2e z29)))] []) r
theorem Zjy (x0 : ZD) (x1 : ZX) (zZ z2e z29 : Own) : Sim (Z1Z) (Z8K x0 x1) (EE 15 [(.p (.agg (Z1h x0 zZ))), (.p (.agg (Z3q x1 z2e z29)))] []) := fun _ h => Z1g h zZ z2e z29
def Z3v (x13 : S91) (x14 : Int) (b1 : ZX) : Option (Bool) := pick fun r => ∀ (b0 : ZD) (z2M z2N zB zT zP : Own), RRun (Z1Z) (ZlE 0 (.ptr 1 0) (.p (.agg (ZeH x13 z2M z2N))) (iv x14) [(Zo b0 zB), (ZN b1 zT zP)]) r
theorem Zbo (x13 : S91) (x14 : Int) (b0 : ZD) (b1 : ZX) (z2M z2N zB zT zP : Own) : Sim (Z1Z) (Z3v x13 x14 b1) (ZlE 0 (.ptr 1 0) (.p (.agg (ZeH x13 z2M z2N))) (iv x14) [(Zo b0 zB), (ZN b1 zT zP)]) := fun _ h => Z1g h b0 z2M z2N zB zT zP
def Z5W (x13 : S91) (x14 : Int) (x20 : List Zp) (x21 x22 : Int) (b1 : ZX) : Option (Bool) := pick fun r => ∀ (b0 : ZD) (z2M z2N ox20 zB zT zP : Own), RRun (Z1Z) (ZlF 0 (.ptr 1 0) (.p (.agg (ZeH x13 z2M z2N))) (iv x14) (.p (.lst ox20 (x20.map ZF))) (iv x21) (iv x22) [(Zo b0 zB), (ZN b1 zT zP)]) r
theorem Zbp (x13 : S91) (x14 : Int) (x20 : List Zp) (x21 x22 : Int) (b0 : ZD) (b1 : ZX) (z2M z2N ox20 zB zT zP : Own) : Sim (Z1Z) (Z5W x13 x14 x20 x21 x22 b1) (ZlF 0 (.ptr 1 0) (.p (.agg (ZeH x13 z2M z2N))) (iv x14) (.p (.lst ox20 (x20.map ZF))) (iv x21) (iv x22) [(Zo b0 zB), (ZN b1 zT zP)]) := fun _ h => Z1g h b0 z2M z2N ox20 zB zT zP
def ZbT (x0 : ZD) (x1 : ZX) : Option (ZD × ZI) := pick fun r => ∀ (zZ z2e z29 : Own), RRun (Z6I) (EE 23 [(.p (.agg (Z1h x0 zZ))), (.p (.agg (Z3q x1 z2e z29)))] []) r
theorem Zou (x0 : ZD) (x1 : ZX) (zZ z2e z29 : Own) : Sim (Z6I) (ZbT x0 x1) (EE 23 [(.p (.agg (Z1h x0 zZ))), (.p (.agg (Z3q x1 z2e z29)))] []) := fun _ h => Z1g h zZ z2e z29
def ZcJ (x0 : ZD) (x1 : ZX) : Option (ZD × Int) := pick fun r => ∀ (zZ z2e z29 : Own), RRun (Z1R) (EE 22 [(.p (.agg (Z1h x0 zZ))), (.p (.agg (Z3q x1 z2e z29)))] []) r
theorem Zs6 (x0 : ZD) (x1 : ZX) (zZ z2e z29 : Own) : Sim (Z1R) (ZcJ x0 x1) (EE 22 [(.p (.agg (Z1h x0 zZ))), (.p (.agg (Z3q x1 z2e z29)))] []) := fun _ h => Z1g h zZ z2e z29
def ZeF (x1 z1e : Int) : Option (Int) := pick fun r => ∀ (z1q z1C z1y : Int) (z1v : List Zp) (zB : Own), RRun (ZbZ z1q z1C z1y z1v zB) (EE 49 [(.ptr 0 0), (iv x1)] [(Zo (ZD.mk z1e z1q z1C z1y z1v) zB)]) r
theorem Zr0 (x1 z1e z1q z1C z1y : Int) (z1v : List Zp) (zB : Own) : Sim (ZbZ z1q z1C z1y z1v zB) (ZeF x1 z1e) (EE 49 [(.ptr 0 0), (iv x1)] [(Zo (ZD.mk z1e z1q z1C z1y z1v) zB)]) := fun _ h => Z1g h z1q z1C z1y z1v zB
def ZaZ (x1 z1q : Int) : Option (Int) := pick fun r => ∀ (z1e z1C z1y : Int) (z1v : List Zp) (zB : Own), RRun (Z8U z1e z1C z1y z1v zB) (EE 49 [(.ptr 0 1), (iv x1)] [(Zo (ZD.mk z1e z1q z1C z1y z1v) zB)]) r
theorem Znv (x1 z1e z1q z1C z1y : Int) (z1v : List Zp) (zB : Own) : Sim (Z8U z1e z1C z1y z1v zB) (ZaZ x1 z1q) (EE 49 [(.ptr 0 1), (iv x1)] [(Zo (ZD.mk z1e z1q z1C z1y z1v) zB)]) := fun _ h => Z1g h z1e z1C z1y z1v zB
def ZaY (x1 z1C : Int) : Option (Int) := pick fun r => ∀ (z1e z1q z1y : Int) (z1v : List Zp) (zB : Own), RRun (Z8T z1e z1q z1y z1v zB) (EE 49 [(.ptr 0 2), (iv x1)] [(Zo (ZD.mk z1e z1q z1C z1y z1v) zB)]) r
theorem Znt (x1 z1e z1q z1C z1y : Int) (z1v : List Zp) (zB : Own) : Sim (Z8T z1e z1q z1y z1v zB) (ZaY x1 z1C) (EE 49 [(.ptr 0 2), (iv x1)] [(Zo (ZD.mk z1e z1q z1C z1y z1v) zB)]) := fun _ h => Z1g h z1e z1q z1y z1v zB
def ZaX (x1 z1y : Int) : Option (Int) := pick fun r => ∀ (z1e z1q z1C : Int) (z1v : List Zp) (zB : Own), RRun (Z8S z1e z1q z1C z1v zB) (EE 49 [(.ptr 0 3), (iv x1)] [(Zo (ZD.mk z1e z1q z1C z1y z1v) zB)]) r
theorem Znr (x1 z1e z1q z1C z1y : Int) (z1v : List Zp) (zB : Own) : Sim (Z8S z1e z1q z1C z1v zB) (ZaX x1 z1y) (EE 49 [(.ptr 0 3), (iv x1)] [(Zo (ZD.mk z1e z1q z1C z1y z1v) zB)]) := fun _ h => Z1g h z1e z1q z1C z1v zB
def Za0 (x0 : List Zp) : Option (Bool) := pick fun r => ∀ (ox0 : Own), RRun (Z7Q) (EE 50 [(.p (.lst ox0 (x0.map ZF))), (.clo 27 [] [])] []) r
theorem Zlf (x0 : List Zp) (ox0 : Own) : Sim (Z7Q) (Za0 x0) (EE 50 [(.p (.lst ox0 (x0.map ZF))), (.clo 27 [] [])] []) := fun _ h => Z1g h ox0
def Z5x (x0 : List Zp) : Option (Bool) := pick fun r => ∀ (ox0 : Own), RRun (Z4l) (EE 57 [(.p (.lst ox0 (x0.map ZF))), (.clo 73 [] [(.ptr 0 0)])] [[(.clo 27 [] [])]]) r
theorem Zel (x0 : List Zp) (ox0 : Own) : Sim (Z4l) (Z5x x0) (EE 57 [(.p (.lst ox0 (x0.map ZF))), (.clo 73 [] [(.ptr 0 0)])] [[(.clo 27 [] [])]]) := fun _ h => Z1g h ox0
def Z6o (x0 : List Zp) : Option (Int) := pick fun r => ∀ (ox0 : Own), RRun (Z2n) (EE 83 [(.p (.lst ox0 (x0.map ZF))), (.clo 73 [] [(.ptr 0 0)])] [[(.clo 27 [] [])]]) r
theorem ZfX (x0 : List Zp) (ox0 : Own) : Sim (Z2n) (Z6o x0) (EE 83 [(.p (.lst ox0 (x0.map ZF))), (.clo 73 [] [(.ptr 0 0)])] [[(.clo 27 [] [])]]) := fun _ h => Z1g h ox0
def Z4u (x0 : List Zp) (x7 x8 : Int) : Option (Int) := pick fun r => ∀ (ox0 : Own), RRun (Z2n) (ZfK 1 (.p (.lst ox0 (x0.map ZF))) (.clo 73 [] [(.ptr 0 0)]) (iv x7) (iv x8) [[(.clo 27 [] [])]]) r
theorem Z9h (x0 : List Zp) (x7 x8 : Int) (ox0 : Own) : Sim (Z2n) (Z4u x0 x7 x8) (ZfK 1 (.p (.lst ox0 (x0.map ZF))) (.clo 73 [] [(.ptr 0 0)]) (iv x7) (iv x8) [[(.clo 27 [] [])]]) := fun _ h => Z1g h ox0
def Z74 (x0 : Zp) : Option (Bool) := pick fun r => RRun (Z6P) (EE 73 [(.p (.agg (Z1r x0))), (.ptr 0 0)] [[(.clo 27 [] [])]]) r
theorem ZjL (x0 : Zp) : Sim (Z6P) (Z74 x0) (EE 73 [(.p (.agg (Z1r x0))), (.ptr 0 0)] [[(.clo 27 [] [])]]) := fun _ h => Z1g h
def Zat (x0 : ZX) : Option (Bool) := pick fun r => ∀ (z6b z51 : Own), RRun (Z8m) (EE 51 [(.p (.agg (Z3q x0 z6b z51)))] []) r
theorem Zm3 (x0 : ZX) (z6b z51 : Own) : Sim (Z8m) (Zat x0) (EE 51 [(.p (.agg (Z3q x0 z6b z51)))] []) := fun _ h => Z1g h z6b z51
def Z5y (x0 : List Zp) (z16 : List (Int × Bool)) : Option (Bool × (List (Int × Bool))) := pick fun r => ∀ (ox0 : Own), RRun (Z4m) (EE 57 [(.p (.lst ox0 (x0.map ZF))), (.clo 75 [] [(.ptr 0 0)])] [[(.clo 74 [] [(.ptr 1 0)])], [(.mp 2)], [(.md ((z16).map (encM eB)))]]) r
theorem Zen (x0 : List Zp) (z16 : List (Int × Bool)) (ox0 : Own) : Sim (Z4m) (Z5y x0 z16) (EE 57 [(.p (.lst ox0 (x0.map ZF))), (.clo 75 [] [(.ptr 0 0)])] [[(.clo 74 [] [(.ptr 1 0)])], [(.mp 2)], [(.md ((z16).map (encM eB)))]]) := fun _ h => Z1g h ox0
def Z6p (x0 : List Zp) (z16 : List (Int × Bool)) : Option (Int × (List (Int × Bool))) := pick fun r => ∀ (ox0 : Own), RRun (Z2o) (EE 83 [(.p (.lst ox0 (x0.map ZF))), (.clo 75 [] [(.ptr 0 0)])] [[(.clo 74 [] [(.ptr 1 0)])], [(.mp 2)], [(.md ((z16).map (encM eB)))]]) r
theorem ZfZ (x0 : List Zp) (z16 : List (Int × Bool)) (ox0 : Own) : Sim (Z2o) (Z6p x0 z16) (EE 83 [(.p (.lst ox0 (x0.map ZF))), (.clo 75 [] [(.ptr 0 0)])] [[(.clo 74 [] [(.ptr 1 0)])], [(.mp 2)], [(.md ((z16).map (encM eB)))]]) := fun _ h => Z1g h ox0
def Z4v (x0 : List Zp) (x7 x8 : Int) (z16 : List (Int × Bool)) : Option (Int × (List (Int × Bool))) := pick fun r => ∀ (ox0 : Own), RRun (Z2o) (ZfK 3 (.p (.lst ox0 (x0.map ZF))) (.clo 75 [] [(.ptr 0 0)]) (iv x7) (iv x8) [[(.clo 74 [] [(.ptr 1 0)])], [(.mp 2)], [(.md ((z16).map (encM eB)))]]) r
theorem Z9i (x0 : List Zp) (x7 x8 : Int) (z16 : List (Int × Bool)) (ox0 : Own) : Sim (Z2o) (Z4v x0 x7 x8 z16) (ZfK 3 (.p (.lst ox0 (x0.map ZF))) (.clo 75 [] [(.ptr 0 0)]) (iv x7) (iv x8) [[(.clo 74 [] [(.ptr 1 0)])], [(.mp 2)], [(.md ((z16).map (encM eB)))]]) := fun _ h => Z1g h ox0
def Z7z (x0 : Zp) (z16 : List (Int × Bool)) : Option (Bool × (List (Int × Bool))) := pick fun r => RRun (Z5P) (EE 75 [(.p (.agg (Z1r x0))), (.ptr 0 0)] [[(.clo 74 [] [(.ptr 1 0)])], [(.mp 2)], [(.md ((z16).map (encM eB)))]]) r
theorem ZhK (x0 : Zp) (z16 : List (Int × Bool)) : Sim (Z5P) (Z7z x0 z16) (EE 75 [(.p (.agg (Z1r x0))), (.ptr 0 0)] [[(.clo 74 [] [(.ptr 1 0)])], [(.mp 2)], [(.md ((z16).map (encM eB)))]]) := fun _ h => Z1g h
def Z5X (x0 : Int) (z1N : List (Int × Bool)) : Option (Bool × (List (Int × Bool))) := pick fun r => RRun (Z5O) (EE 74 [(iv x0), (.ptr 0 0)] [[(.mp 1)], [(.md ((z1N).map (encM eB)))]]) r
theorem Zbr (x0 : Int) (z1N : List (Int × Bool)) : Sim (Z5O) (Z5X x0 z1N) (EE 74 [(iv x0), (.ptr 0 0)] [[(.mp 1)], [(.md ((z1N).map (encM eB)))]]) := fun _ h => Z1g h
def Z5M (x0 : List Int) (z1N : List (Int × Bool)) : Option (Bool × (List (Int × Bool))) := pick fun r => ∀ (ox0 : Own), RRun (Z4z) (EE 59 [(.p (.lst ox0 (x0.map (eI .i64)))), (.clo 74 [] [(.ptr 0 0)])] [[(.mp 1)], [(.md ((z1N).map (encM eB)))]]) r
theorem ZeS (x0 : List Int) (z1N : List (Int × Bool)) (ox0 : Own) : Sim (Z4z) (Z5M x0 z1N) (EE 59 [(.p (.lst ox0 (x0.map (eI .i64)))), (.clo 74 [] [(.ptr 0 0)])] [[(.mp 1)], [(.md ((z1N).map (encM eB)))]]) := fun _ h => Z1g h ox0
def Z6G (x0 : List Int) (z1N : List (Int × Bool)) : Option (Int × (List (Int × Bool))) := pick fun r => ∀ (ox0 : Own), RRun (Z2v) (EE 84 [(.p (.lst ox0 (x0.map (eI .i64)))), (.clo 74 [] [(.ptr 0 0)])] [[(.mp 1)], [(.md ((z1N).map (encM eB)))]]) r
theorem Zgj (x0 : List Int) (z1N : List (Int × Bool)) (ox0 : Own) : Sim (Z2v) (Z6G x0 z1N) (EE 84 [(.p (.lst ox0 (x0.map (eI .i64)))), (.clo 74 [] [(.ptr 0 0)])] [[(.mp 1)], [(.md ((z1N).map (encM eB)))]]) := fun _ h => Z1g h ox0
def Z4C (x0 : List Int) (x7 x8 : Int) (z1N : List (Int × Bool)) : Option (Int × (List (Int × Bool))) := pick fun r => ∀ (ox0 : Own), RRun (Z2v) (ZlP 2 (.p (.lst ox0 (x0.map (eI .i64)))) (.clo 74 [] [(.ptr 0 0)]) (iv x7) (iv x8) [[(.mp 1)], [(.md ((z1N).map (encM eB)))]]) r
theorem Z9G (x0 : List Int) (x7 x8 : Int) (z1N : List (Int × Bool)) (ox0 : Own) : Sim (Z2v) (Z4C x0 x7 x8 z1N) (ZlP 2 (.p (.lst ox0 (x0.map (eI .i64)))) (.clo 74 [] [(.ptr 0 0)]) (iv x7) (iv x8) [[(.mp 1)], [(.md ((z1N).map (encM eB)))]]) := fun _ h => Z1g h ox0
def Z9A (x54 : List Zp) (x55 x56 : Int) (b1 : ZX) (zH zL zU zQ : Int) (z1j : List (Int × Zp)) : Option (ZD × Int) := pick fun r => ∀ (b0 b2 : ZD) (z13 : List Zp) (ox54 zB zT zP zO z11 : Own) (z1u : ZR zO = true), RRun (Z1R) (Zja 0 (.ptr 1 0) (.ptr 2 0) (.ptr 3 0) (.mp 4) (.p (.lst ox54 (x54.map ZF))) (iv x55) (iv x56) [(Zo b0 zB), (ZN b1 zT zP), (Zo b2 zO), (Zo (ZD.mk zH zL zU zQ z13) z11), [(.md ((z1j).map (encM ZF)))]]) r
theorem Zgm (x54 : List Zp) (x55 x56 : Int) (b0 : ZD) (b1 : ZX) (b2 : ZD) (zH zL zU zQ : Int) (z13 : List Zp) (z1j : List (Int × Zp)) (ox54 zB zT zP zO z11 : Own) (z1u : ZR zO = true) : Sim (Z1R) (Z9A x54 x55 x56 b1 zH zL zU zQ z1j) (Zja 0 (.ptr 1 0) (.ptr 2 0) (.ptr 3 0) (.mp 4) (.p (.lst ox54 (x54.map ZF))) (iv x55) (iv x56) [(Zo b0 zB), (ZN b1 zT zP), (Zo b2 zO), (Zo (ZD.mk zH zL zU zQ z13) z11), [(.md ((z1j).map (encM ZF)))]]) := fun _ h => Z1g h b0 b2 z13 ox54 zB zT zP zO z11 z1u
def Z9B (x66 : List Int) (x67 x68 : Int) (b1 : ZX) (zH zL zU zQ : Int) (z1j : List (Int × Zp)) : Option (ZD × Int) := pick fun r => ∀ (b0 b2 : ZD) (z13 : List Zp) (ox66 zB zT zP zO z11 : Own) (z1u : ZR zO = true), RRun (Z1R) (Zjb 0 (.ptr 1 0) (.ptr 2 0) (.ptr 3 0) (.mp 4) (.p (.lst ox66 (x66.map (eI .i64)))) (iv x67) (iv x68) [(Zo b0 zB), (ZN b1 zT zP), (Zo b2 zO), (Zo (ZD.mk zH zL zU zQ z13) z11), [(.md ((z1j).map (encM ZF)))]]) r
theorem Zgo (x66 : List Int) (x67 x68 : Int) (b0 : ZD) (b1 : ZX) (b2 : ZD) (zH zL zU zQ : Int) (z13 : List Zp) (z1j : List (Int × Zp)) (ox66 zB zT zP zO z11 : Own) (z1u : ZR zO = true) : Sim (Z1R) (Z9B x66 x67 x68 b1 zH zL zU zQ z1j) (Zjb 0 (.ptr 1 0) (.ptr 2 0) (.ptr 3 0) (.mp 4) (.p (.lst ox66 (x66.map (eI .i64)))) (iv x67) (iv x68) [(Zo b0 zB), (ZN b1 zT zP), (Zo b2 zO), (Zo (ZD.mk zH zL zU zQ z13) z11), [(.md ((z1j).map (encM ZF)))]]) := fun _ h => Z1g h b0 b2 z13 ox66 zB zT zP zO z11 z1u
def Z9C (x85 : List Zp) (x86 x87 zH zL zU zQ : Int) (z1j : List (Int × Zp)) : Option (ZD × Int) := pick fun r => ∀ (b0 : ZD) (b1 : ZX) (b2 : ZD) (z13 : List Zp) (ox85 zB zT zP zO z11 : Own) (z1u : ZR zO = true), RRun (Z1R) (Zjc 0 (.ptr 2 0) (.ptr 3 0) (.mp 4) (.p (.lst ox85 (x85.map ZF))) (iv x86) (iv x87) [(Zo b0 zB), (ZN b1 zT zP), (Zo b2 zO), (Zo (ZD.mk zH zL zU zQ z13) z11), [(.md ((z1j).map (encM ZF)))]]) r
theorem Zgq (x85 : List Zp) (x86 x87 : Int) (b0 : ZD) (b1 : ZX) (b2 : ZD) (zH zL zU zQ : Int) (z13 : List Zp) (z1j : List (Int × Zp)) (ox85 zB zT zP zO z11 : Own) (z1u : ZR zO = true) : Sim (Z1R) (Z9C x85 x86 x87 zH zL zU zQ z1j) (Zjc 0 (.ptr 2 0) (.ptr 3 0) (.mp 4) (.p (.lst ox85 (x85.map ZF))) (iv x86) (iv x87) [(Zo b0 zB), (ZN b1 zT zP), (Zo b2 zO), (Zo (ZD.mk zH zL zU zQ z13) z11), [(.md ((z1j).map (encM ZF)))]]) := fun _ h => Z1g h b0 b1 b2 z13 ox85 zB zT zP zO z11 z1u
def Z9b  : Option (Unit) := pick fun r => ∀ (z1x : List (Int × Zp)), RRun (Z7f z1x) (EE 53 [(.mp 0)] [[(.md ((z1x).map (encM ZF)))]]) r
theorem Zk4 (z1x : List (Int × Zp)) : Sim (Z7f z1x) (Z9b) (EE 53 [(.mp 0)] [[(.md ((z1x).map (encM ZF)))]]) := fun _ h => Z1g h z1x
def Za4 (z1N : List (Int × Zp)) : Option (List Int) := pick fun r => RRun (Z7M z1N) (EE 52 [(.clo 78 [] [(.ptr 0 0)])] [[(.mp 1)], [(.md ((z1N).map (encM ZF)))]]) r
theorem Zie (z1N : List (Int × Zp)) : Sim (Z7M z1N) (Za4 z1N) (EE 52 [(.clo 78 [] [(.ptr 0 0)])] [[(.mp 1)], [(.md ((z1N).map (encM ZF)))]]) := fun _ h => Z1g h
def Z9D (x103 : List Int) (x104 x105 zH zL zU zQ : Int) (z13 : List Zp) (z1j : List (Int × Zp)) : Option (ZD × Int) := pick fun r => ∀ (b0 : ZD) (b1 : ZX) (b2 : ZD) (ox103 zB zT zP zO z11 : Own) (z1u : ZR zO = true) (z8i : ZR z11 = true), RRun (Z1R) (Zjd 0 (.ptr 2 0) (.ptr 3 0) (.mp 4) (.p (.lst ox103 (x103.map (eI .i64)))) (iv x104) (iv x105) [(Zo b0 zB), (ZN b1 zT zP), (Zo b2 zO), (Zo (ZD.mk zH zL zU zQ z13) z11), [(.md ((z1j).map (encM ZF)))]]) r
theorem Zgs (x103 : List Int) (x104 x105 : Int) (b0 : ZD) (b1 : ZX) (b2 : ZD) (zH zL zU zQ : Int) (z13 : List Zp) (z1j : List (Int × Zp)) (ox103 zB zT zP zO z11 : Own) (z1u : ZR zO = true) (z8i : ZR z11 = true) : Sim (Z1R) (Z9D x103 x104 x105 zH zL zU zQ z13 z1j) (Zjd 0 (.ptr 2 0) (.ptr 3 0) (.mp 4) (.p (.lst ox103 (x103.map (eI .i64)))) (iv x104) (iv x105) [(Zo b0 zB), (ZN b1 zT zP), (Zo b2 zO), (Zo (ZD.mk zH zL zU zQ z13) z11), [(.md ((z1j).map (encM ZF)))]]) := fun _ h => Z1g h b0 b1 b2 ox103 zB zT zP zO z11 z1u z8i
def Zau (x0 : ZD) (x1 : Int) : Option (Zp × Bool) := pick fun r => ∀ (zZ : Own), RRun (Z4j) (EE 28 [(.p (.agg (Z1h x0 zZ))), (iv x1)] []) r
theorem ZhL (x0 : ZD) (x1 : Int) (zZ : Own) : Sim (Z4j) (Zau x0 x1) (EE 28 [(.p (.agg (Z1h x0 zZ))), (iv x1)] []) := fun _ h => Z1g h zZ
def Z8x (x1 : Int) (x9 : List Zp) (x10 x11 : Int) : Option (Zp × Bool) := pick fun r => ∀ (b0 : ZD) (b1 : Zp) (ox9 zB : Own), RRun (Z4j) (ZlK 0 (iv x1) (.ptr 1 0) (.p (.lst ox9 (x9.map ZF))) (iv x10) (iv x11) [(Zo b0 zB), (ZW b1)]) r
theorem Zfi (x1 : Int) (x9 : List Zp) (x10 x11 : Int) (b0 : ZD) (b1 : Zp) (ox9 zB : Own) : Sim (Z4j) (Z8x x1 x9 x10 x11) (ZlK 0 (iv x1) (.ptr 1 0) (.p (.lst ox9 (x9.map ZF))) (iv x10) (iv x11) [(Zo b0 zB), (ZW b1)]) := fun _ h => Z1g h b0 b1 ox9 zB
end Go.Proofs.YteoeggbihfnbfaaGreatDoor.N2
end
