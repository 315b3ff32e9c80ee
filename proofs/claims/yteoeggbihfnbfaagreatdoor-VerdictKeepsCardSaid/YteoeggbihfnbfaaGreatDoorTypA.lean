/- The functions, read typed: their types, and what they stand for. No condition. -/
import Derived.Test.YteoeggbihfnbfaaGreatDoorSim
import Derived.Test.YteoeggbihfnbfaaGreatDoorEqs

noncomputable section
set_option linter.unusedSimpArgs false
set_option linter.unusedVariables false
namespace Go.Proofs.YteoeggbihfnbfaaGreatDoor.N2
open Go Go.Abs
set_option linter.unusedVariables false
set_option maxRecDepth 100000
structure Zw where
 ID : Int
 Priority : Int
 Action : Int
 Scope : Int
 Pattern : ByteArray
 deriving Inhabited
def Z5O (a : Zw) : List PV := [(eI .i64) a.ID, (eI .i64) a.Priority, (eI .i64) a.Action, (eI .i64) a.Scope, eS a.Pattern]
def ZC (a : Zw) : PV := .agg (Z5O a)
def Z1J (a : Zw) : List PV := [(eI .i64) a.ID, (eI .i64) a.Priority, (eI .i64) a.Action, (eI .i64) a.Scope, eS a.Pattern]
def Z1v (a : Zw) : Row := [.p ((eI .i64) a.ID), .p ((eI .i64) a.Priority), .p ((eI .i64) a.Action), .p ((eI .i64) a.Scope), .p (eS a.Pattern)]
theorem Zq0 {a b : Zw} (h : Z5O a = Z5O b) : a = b := by
 have h0 : a.ID = b.ID := Z5m _ _ (congrArg (fun l => l.getD 0 .junk) h)
 have h1 : a.Priority = b.Priority := Z5m _ _ (congrArg (fun l => l.getD 1 .junk) h)
 have h2 : a.Action = b.Action := Z5m _ _ (congrArg (fun l => l.getD 2 .junk) h)
 have h3 : a.Scope = b.Scope := Z5m _ _ (congrArg (fun l => l.getD 3 .junk) h)
 have h4 : a.Pattern = b.Pattern := ZAC _ _ (congrArg (fun l => l.getD 4 .junk) h)
 cases a; cases b
 cases h0
 cases h1
 cases h2
 cases h3
 cases h4
 rfl
theorem Zq2 (a b : Zw) (h : ZC a = ZC b) : a = b := Zq0 (congrArg pC h)
structure Zz where
 Default : Int
 Closed : Int
 Fuel : Int
 Stack : Int
 Rules : (List Zw)
 deriving Inhabited
def Zku (a : Zz) : List PV := [(eI .i64) a.Default, (eI .i64) a.Closed, (eI .i64) a.Fuel, (eI .i64) a.Stack, (eL ZC) a.Rules]
def Z1e (a : Zz) (o0 : Own) : List PV := [(eI .i64) a.Default, (eI .i64) a.Closed, (eI .i64) a.Fuel, (eI .i64) a.Stack, .lst o0 (a.Rules.map ZC)]
def Zv (a : Zz) (o0 : Own) : Row := [.p ((eI .i64) a.Default), .p ((eI .i64) a.Closed), .p ((eI .i64) a.Fuel), .p ((eI .i64) a.Stack), .p (.lst o0 (a.Rules.map ZC))]
theorem Zfo {a b : Zz} (h : Zku a = Zku b) : a = b := by
 have h0 : a.Default = b.Default := Z5m _ _ (congrArg (fun l => l.getD 0 .junk) h)
 have h1 : a.Closed = b.Closed := Z5m _ _ (congrArg (fun l => l.getD 1 .junk) h)
 have h2 : a.Fuel = b.Fuel := Z5m _ _ (congrArg (fun l => l.getD 2 .junk) h)
 have h3 : a.Stack = b.Stack := Z5m _ _ (congrArg (fun l => l.getD 3 .junk) h)
 have h4 : a.Rules = b.Rules := (ZAB Zq2) _ _ (congrArg (fun l => l.getD 4 .junk) h)
 cases a; cases b
 cases h0
 cases h1
 cases h2
 cases h3
 cases h4
 rfl
structure ZL where
 Default : Int
 Closed : Int
 Fuel : Int
 Stack : Int
 Put : (List Zw)
 Drop : (List Int)
 deriving Inhabited
def Zun (a : ZL) : List PV := [(eI .i64) a.Default, (eI .i64) a.Closed, (eI .i64) a.Fuel, (eI .i64) a.Stack, (eL ZC) a.Put, (eL (eI .i64)) a.Drop]
def Z2J (a : ZL) (o0 o1 : Own) : List PV := [(eI .i64) a.Default, (eI .i64) a.Closed, (eI .i64) a.Fuel, (eI .i64) a.Stack, .lst o0 (a.Put.map ZC), .lst o1 (a.Drop.map (eI .i64))]
def ZE (a : ZL) (o0 o1 : Own) : Row := [.p ((eI .i64) a.Default), .p ((eI .i64) a.Closed), .p ((eI .i64) a.Fuel), .p ((eI .i64) a.Stack), .p (.lst o0 (a.Put.map ZC)), .p (.lst o1 (a.Drop.map (eI .i64)))]
structure ZJ where
 Code : Int
 Rule : Int
 At : Int
 deriving Inhabited
def Zh6 (a : ZJ) : List PV := [(eI .i64) a.Code, (eI .i64) a.Rule, (eI .i64) a.At]
def Z19 (a : ZJ) : List PV := [(eI .i64) a.Code, (eI .i64) a.Rule, (eI .i64) a.At]
def ZR (a : ZJ) : Row := [.p ((eI .i64) a.Code), .p ((eI .i64) a.Rule), .p ((eI .i64) a.At)]
theorem Zao {a b : ZJ} (h : Zh6 a = Zh6 b) : a = b := by
 have h0 : a.Code = b.Code := Z5m _ _ (congrArg (fun l => l.getD 0 .junk) h)
 have h1 : a.Rule = b.Rule := Z5m _ _ (congrArg (fun l => l.getD 1 .junk) h)
 have h2 : a.At = b.At := Z5m _ _ (congrArg (fun l => l.getD 2 .junk) h)
 cases a; cases b
 cases h0
 cases h1
 cases h2
 rfl
structure Zc where
 Lo : Int
 Hi : Int
 deriving Inhabited
def Z7U (a : Zc) : List PV := [(eI .i64) a.Lo, (eI .i64) a.Hi]
def ZA (a : Zc) : PV := .agg (Z7U a)
def ZX (a : Zc) : List PV := [(eI .i64) a.Lo, (eI .i64) a.Hi]
def Z2x (a : Zc) : Row := [.p ((eI .i64) a.Lo), .p ((eI .i64) a.Hi)]
theorem Zh5 {a b : Zc} (h : Z7U a = Z7U b) : a = b := by
 have h0 : a.Lo = b.Lo := Z5m _ _ (congrArg (fun l => l.getD 0 .junk) h)
 have h1 : a.Hi = b.Hi := Z5m _ _ (congrArg (fun l => l.getD 1 .junk) h)
 cases a; cases b
 cases h0
 cases h1
 rfl
theorem Z3L (a b : Zc) (h : ZA a = ZA b) : a = b := Zh5 (congrArg pC h)
structure Z7 where
 Kind : Int
 Lo : Int
 Hi : Int
 Mode : Int
 Ref : Int
 Set : (List Zc)
 Kids : (List Z7)
instance : Inhabited Z7 := ⟨⟨default, default, default, default, default, default, default⟩⟩
mutual
def ZS : Z7 → PV
 | ⟨Kind_, Lo_, Hi_, Mode_, Ref_, Set_, Kids_⟩ => .agg [(eI .i64) Kind_, (eI .i64) Lo_, (eI .i64) Hi_, (eI .i64) Mode_, (eI .i64) Ref_, (eL ZA) Set_, .lst .sh (Z5Z Kids_)]
def Z5Z : List Z7 → List PV
 | [] => []
 | x :: r => ZS x :: Z5Z r
end
theorem ZhZ : ∀ l, Z5Z l = l.map ZS
 | [] => rfl
 | x :: r => by rw [Z5Z, ZhZ r]; rfl
def Z2Z (a : Z7) : List PV := [(eI .i64) a.Kind, (eI .i64) a.Lo, (eI .i64) a.Hi, (eI .i64) a.Mode, (eI .i64) a.Ref, (eL ZA) a.Set, (eL ZS) a.Kids]
theorem Z4T (a : Z7) : ZS a = .agg (Z2Z a) := by
 cases a; rw [ZS, ZhZ]; rfl
theorem Z68 (a : Z7) : Z2j (ZS a) = Z2Z a := by rw [Z4T]; rfl
theorem ZlR (a : Z7) : (Z2j (ZS a)).length = 7 := by rw [Z4T]; rfl
def ZG (a : Z7) (o0 o1 : Own) : List PV := [(eI .i64) a.Kind, (eI .i64) a.Lo, (eI .i64) a.Hi, (eI .i64) a.Mode, (eI .i64) a.Ref, .lst o0 (a.Set.map ZA), .lst o1 (a.Kids.map ZS)]
def Zq (a : Z7) (o0 o1 : Own) : Row := [.p ((eI .i64) a.Kind), .p ((eI .i64) a.Lo), .p ((eI .i64) a.Hi), .p ((eI .i64) a.Mode), .p ((eI .i64) a.Ref), .p (.lst o0 (a.Set.map ZA)), .p (.lst o1 (a.Kids.map ZS))]
mutual
theorem ZhY : ∀ a b : Z7, ZS a = ZS b → a = b
 | ⟨Kind_, Lo_, Hi_, Mode_, Ref_, Set_, Kids_⟩, ⟨Kind_2, Lo_2, Hi_2, Mode_2, Ref_2, Set_2, Kids_2⟩, h => by
  rw [ZS, ZS] at h
  have h0 : Kind_ = Kind_2 := Z5m _ _ (congrArg (fun l => (pC l).getD 0 .junk) h)
  have h1 : Lo_ = Lo_2 := Z5m _ _ (congrArg (fun l => (pC l).getD 1 .junk) h)
  have h2 : Hi_ = Hi_2 := Z5m _ _ (congrArg (fun l => (pC l).getD 2 .junk) h)
  have h3 : Mode_ = Mode_2 := Z5m _ _ (congrArg (fun l => (pC l).getD 3 .junk) h)
  have h4 : Ref_ = Ref_2 := Z5m _ _ (congrArg (fun l => (pC l).getD 4 .junk) h)
  have h5 : Set_ = Set_2 := (ZAB Z3L) _ _ (congrArg (fun l => (pC l).getD 5 .junk) h)
  have h6 : Kids_ = Kids_2 := Zh7 Kids_ Kids_2 (congrArg (fun l => pL ((pC l).getD 6 .junk)) h)
  subst h0
  subst h1
  subst h2
  subst h3
  subst h4
  subst h5
  subst h6
  rfl
theorem Zh7 : ∀ a b : List Z7, Z5Z a = Z5Z b → a = b
 | [], [], _ => rfl
 | [], _ :: _, h => by simp [Z5Z] at h
 | _ :: _, [], h => by simp [Z5Z] at h
 | x :: r, y :: t, h => by
  simp only [Z5Z, List.cons.injEq] at h
  rw [ZhY x y h.1, Zh7 r t h.2]
end
theorem Z42 {a b : Z7} (h : Z2Z a = Z2Z b) : a = b := ZhY a b (by rw [Z4T, Z4T, h])
structure ZT where
 Root : Z7
 Groups : Int
 Fold : Bool
 deriving Inhabited
def Zj2 (a : ZT) : List PV := [(eI .i64) a.Root.Kind, (eI .i64) a.Root.Lo, (eI .i64) a.Root.Hi, (eI .i64) a.Root.Mode, (eI .i64) a.Root.Ref, (eL ZA) a.Root.Set, (eL ZS) a.Root.Kids, (eI .i64) a.Groups, eB a.Fold]
def Z33 (a : ZT) (o0 o1 : Own) : List PV := [(eI .i64) a.Root.Kind, (eI .i64) a.Root.Lo, (eI .i64) a.Root.Hi, (eI .i64) a.Root.Mode, (eI .i64) a.Root.Ref, .lst o0 (a.Root.Set.map ZA), .lst o1 (a.Root.Kids.map ZS), (eI .i64) a.Groups, eB a.Fold]
def ZU (a : ZT) (o0 o1 : Own) : Row := [.p ((eI .i64) a.Root.Kind), .p ((eI .i64) a.Root.Lo), .p ((eI .i64) a.Root.Hi), .p ((eI .i64) a.Root.Mode), .p ((eI .i64) a.Root.Ref), .p (.lst o0 (a.Root.Set.map ZA)), .p (.lst o1 (a.Root.Kids.map ZS)), .p ((eI .i64) a.Groups), .p (eB a.Fold)]
theorem Zmb {a b : ZT} (h : Zj2 a = Zj2 b) : a = b := by
 have h0 : a.Root = b.Root := Z42 (congrArg (fun l => (l.drop 0).take 7) h)
 have h1 : a.Groups = b.Groups := Z5m _ _ (congrArg (fun l => l.getD 7 .junk) h)
 have h2 : a.Fold = b.Fold := Zj3 _ _ (congrArg (fun l => l.getD 8 .junk) h)
 cases a; cases b
 cases h0
 cases h1
 cases h2
 rfl
structure Zl where
 Code : Int
 At : Int
 deriving Inhabited
def Zl7 (a : Zl) : List PV := [(eI .i64) a.Code, (eI .i64) a.At]
def Z58 (a : Zl) : List PV := [(eI .i64) a.Code, (eI .i64) a.At]
def Z1z (a : Zl) : Row := [.p ((eI .i64) a.Code), .p ((eI .i64) a.At)]
theorem Zo1 {a b : Zl} (h : Zl7 a = Zl7 b) : a = b := by
 have h0 : a.Code = b.Code := Z5m _ _ (congrArg (fun l => l.getD 0 .junk) h)
 have h1 : a.At = b.At := Z5m _ _ (congrArg (fun l => l.getD 1 .junk) h)
 cases a; cases b
 cases h0
 cases h1
 rfl
structure Zx where
 group : Int
 at_ : Int
 deriving Inhabited
def ZbC (a : Zx) : List PV := [(eI .i64) a.group, (eI .i64) a.at_]
def Z2K (a : Zx) : PV := .agg (ZbC a)
def ZeI (a : Zx) : List PV := [(eI .i64) a.group, (eI .i64) a.at_]
def ZeK (a : Zx) : Row := [.p ((eI .i64) a.group), .p ((eI .i64) a.at_)]
theorem Zmc {a b : Zx} (h : ZbC a = ZbC b) : a = b := by
 have h0 : a.group = b.group := Z5m _ _ (congrArg (fun l => l.getD 0 .junk) h)
 have h1 : a.at_ = b.at_ := Z5m _ _ (congrArg (fun l => l.getD 1 .junk) h)
 cases a; cases b
 cases h0
 cases h1
 rfl
theorem Z7p (a b : Zx) (h : Z2K a = Z2K b) : a = b := Zmc (congrArg pC h)
structure Zm where
 b : (List Int)
 at_ : Int
 groups : Int
 deep : Int
 refs : (List Zx)
 fault : Zl
 deriving Inhabited
def ZrD (a : Zm) (o0 o1 : Own) : List PV := [.lst o0 (a.b.map (eI .u8)), (eI .i64) a.at_, (eI .i64) a.groups, (eI .i64) a.deep, .lst o1 (a.refs.map Z2K), (eI .i64) a.fault.Code, (eI .i64) a.fault.At]
def Zk (a : Zm) (o0 o1 : Own) : Row := [.p (.lst o0 (a.b.map (eI .u8))), .p ((eI .i64) a.at_), .p ((eI .i64) a.groups), .p ((eI .i64) a.deep), .p (.lst o1 (a.refs.map Z2K)), .p ((eI .i64) a.fault.Code), .p ((eI .i64) a.fault.At)]
structure S91 where
 c0 : (List Zw)
 c1 : (List Zw)
 deriving Inhabited
def Zen (a : S91) (o0 o1 : Own) : List PV := [.lst o0 (a.c0.map ZC), .lst o1 (a.c1.map ZC)]
end Go.Proofs.YteoeggbihfnbfaaGreatDoor.N2
end
noncomputable section
set_option linter.unusedSimpArgs false
set_option linter.unusedVariables false
namespace Go.Proofs.YteoeggbihfnbfaaGreatDoor.N2
open Go Go.Abs
set_option linter.unusedVariables false
set_option maxRecDepth 100000
abbrev Zcf  : (Zz) → Res → Prop := fun r q => ∃ (ex : List Row), q = ((.p (.agg (Z1e r .sh))), ex)
theorem Zs2  : ∀ a b q, Zcf  a q → Zcf  b q → a = b := by
 rintro a b q ⟨_, e1⟩ ⟨_, e2⟩
 have e := e1.symm.trans e2
 exact Zfo (congrArg (fun q : Res => pC (pA q.1)) e)
abbrev Z5b (zn : List Int) (zb zh : Int) (zj : List Zx) (z2 z6 : Int) (zp zd : Own) : (Bool × Int) → Res → Prop := fun r q => ∃ (ex : List Row), q = ((bv r.1), [(Zk (Zm.mk zn r.2 zb zh zj (Zl.mk z2 z6)) zp zd)] ++ ex)
theorem Zl3 (zn : List Int) (zb zh : Int) (zj : List Zx) (z2 z6 : Int) (zp zd : Own) : ∀ a b q, Z5b zn zb zh zj z2 z6 zp zd a q → Z5b zn zb zh zj z2 z6 zp zd b q → a = b := by
 rintro a b q ⟨_, e1⟩ ⟨_, e2⟩
 have e := e1.symm.trans e2
 exact Prod.ext (congrArg (fun q : Res => pB (pA q.1)) e) (congrArg (fun q : Res => pI (pA (cellAt q 0 1))) e)
abbrev Z70  : (Int × Int) → Res → Prop := fun r q => ∃ (ex : List Row), q = ((.p (.tup [(.v (.int .i32 r.1)), (.v (.int .i64 r.2))])), ex)
theorem Zh3  : ∀ a b q, Z70  a q → Z70  b q → a = b := by
 rintro a b q ⟨_, e1⟩ ⟨_, e2⟩
 have e := e1.symm.trans e2
 exact Prod.ext (congrArg (fun q : Res => pI ((pT (pA q.1)).getD 0 .junk)) e) (congrArg (fun q : Res => pI ((pT (pA q.1)).getD 1 .junk)) e)
abbrev Z84  : (Int × Int) → Res → Prop := fun r q => ∃ (ex : List Row), q = ((.p (.tup [(.v (.int .i64 r.1)), (.v (.int .i64 r.2))])), ex)
theorem Zum  : ∀ a b q, Z84  a q → Z84  b q → a = b := by
 rintro a b q ⟨_, e1⟩ ⟨_, e2⟩
 have e := e1.symm.trans e2
 exact Prod.ext (congrArg (fun q : Res => pI ((pT (pA q.1)).getD 0 .junk)) e) (congrArg (fun q : Res => pI ((pT (pA q.1)).getD 1 .junk)) e)
abbrev Z6n (b0 : Zm) (zp zd : Own) : (Int) → Res → Prop := fun r q => ∃ (ex : List Row), q = ((iv r), [(Zk b0 zp zd)] ++ ex)
theorem Zl1 (b0 : Zm) (zp zd : Own) : ∀ a b q, Z6n b0 zp zd a q → Z6n b0 zp zd b q → a = b := by
 rintro a b q ⟨_, e1⟩ ⟨_, e2⟩
 have e := e1.symm.trans e2
 exact congrArg (fun q : Res => pI (pA q.1)) e
abbrev Z97  : (Z7) → Res → Prop := fun r q => ∃ (ex : List Row), q = ((.p (.agg (ZG r .sh .sh))), ex)
theorem ZpY  : ∀ a b q, Z97  a q → Z97  b q → a = b := by
 rintro a b q ⟨_, e1⟩ ⟨_, e2⟩
 have e := e1.symm.trans e2
 exact Z42 (congrArg (fun q : Res => pC (pA q.1)) e)
abbrev Z7F (zn : List Int) (zb zh : Int) (zj : List Zx) (z2 z6 : Int) (zp zd : Own) : (Int × Int) → Res → Prop := fun r q => ∃ (ex : List Row), q = ((iv r.1), [(Zk (Zm.mk zn r.2 zb zh zj (Zl.mk z2 z6)) zp zd)] ++ ex)
theorem Zl2 (zn : List Int) (zb zh : Int) (zj : List Zx) (z2 z6 : Int) (zp zd : Own) : ∀ a b q, Z7F zn zb zh zj z2 z6 zp zd a q → Z7F zn zb zh zj z2 z6 zp zd b q → a = b := by
 rintro a b q ⟨_, e1⟩ ⟨_, e2⟩
 have e := e1.symm.trans e2
 exact Prod.ext (congrArg (fun q : Res => pI (pA q.1)) e) (congrArg (fun q : Res => pI (pA (cellAt q 0 1))) e)
abbrev ZdJ  : (Zc) → Res → Prop := fun r q => ∃ (ex : List Row), q = ((.p (.agg (ZX r))), ex)
theorem Zuj  : ∀ a b q, ZdJ  a q → ZdJ  b q → a = b := by
 rintro a b q ⟨_, e1⟩ ⟨_, e2⟩
 have e := e1.symm.trans e2
 exact Zh5 (congrArg (fun q : Res => pC (pA q.1)) e)
abbrev Z7E  : (Bool) → Res → Prop := fun r q => ∃ (ex : List Row), q = ((bv r), ex)
theorem ZkY  : ∀ a b q, Z7E  a q → Z7E  b q → a = b := by
 rintro a b q ⟨_, e1⟩ ⟨_, e2⟩
 have e := e1.symm.trans e2
 exact congrArg (fun q : Res => pB (pA q.1)) e
abbrev ZaR  : (Bool) → Res → Prop := fun r q => ∃ (ex : List Row), q = ((bv r), ex)
theorem ZpV  : ∀ a b q, ZaR  a q → ZaR  b q → a = b := by
 rintro a b q ⟨_, e1⟩ ⟨_, e2⟩
 have e := e1.symm.trans e2
 exact congrArg (fun q : Res => pB (pA q.1)) e
abbrev Z2c  : (Int) → Res → Prop := fun r q => ∃ (ex : List Row), q = ((iv r), ex)
theorem Za1  : ∀ a b q, Z2c  a q → Z2c  b q → a = b := by
 rintro a b q ⟨_, e1⟩ ⟨_, e2⟩
 have e := e1.symm.trans e2
 exact congrArg (fun q : Res => pI (pA q.1)) e
abbrev Z45  : (Bool) → Res → Prop := fun r q => ∃ (ex : List Row), q = ((bv r), ex)
theorem ZdM  : ∀ a b q, Z45  a q → Z45  b q → a = b := by
 rintro a b q ⟨_, e1⟩ ⟨_, e2⟩
 have e := e1.symm.trans e2
 exact congrArg (fun q : Res => pB (pA q.1)) e
abbrev ZcK  : (List Zc) → Res → Prop := fun r q => ∃ (ex : List Row), q = ((.p (.lst .sh (r.map ZA))), ex)
theorem ZpX  : ∀ a b q, ZcK  a q → ZcK  b q → a = b := by
 rintro a b q ⟨_, e1⟩ ⟨_, e2⟩
 have e := e1.symm.trans e2
 exact Z3I Z3L (congrArg (fun q : Res => pL (pA q.1)) e)
abbrev ZaQ  : ((List Zc) × Int) → Res → Prop := fun r q => ∃ (ex : List Row), q = ((.p (.tup [(.lst .sh (r.1.map ZA)), (.v (.int .i64 r.2))])), ex)
theorem Zs1  : ∀ a b q, ZaQ  a q → ZaQ  b q → a = b := by
 rintro a b q ⟨_, e1⟩ ⟨_, e2⟩
 have e := e1.symm.trans e2
 exact Prod.ext (Z3I Z3L (congrArg (fun q : Res => pL ((pT (pA q.1)).getD 0 .junk)) e)) (congrArg (fun q : Res => pI ((pT (pA q.1)).getD 1 .junk)) e)
abbrev Z2S  : (Bool) → Res → Prop := fun r q => ∃ (ex : List Row), q = ((bv r), ex)
theorem Zff  : ∀ a b q, Z2S  a q → Z2S  b q → a = b := by
 rintro a b q ⟨_, e1⟩ ⟨_, e2⟩
 have e := e1.symm.trans e2
 exact congrArg (fun q : Res => pB (pA q.1)) e
abbrev Z3r  : (List Zc) → Res → Prop := fun r q => ∃ (ex : List Row), q = ((.p (.lst .sh (r.map ZA))), ex)
theorem ZhW  : ∀ a b q, Z3r  a q → Z3r  b q → a = b := by
 rintro a b q ⟨_, e1⟩ ⟨_, e2⟩
 have e := e1.symm.trans e2
 exact Z3I Z3L (congrArg (fun q : Res => pL (pA q.1)) e)
abbrev Z8q  : ((List Zc) × Int) → Res → Prop := fun r q => ∃ (ex : List Row), q = ((.p (.tup [(.lst .sh (r.1.map ZA)), (.v (.int .i64 r.2))])), ex)
theorem Zpk  : ∀ a b q, Z8q  a q → Z8q  b q → a = b := by
 rintro a b q ⟨_, e1⟩ ⟨_, e2⟩
 have e := e1.symm.trans e2
 exact Prod.ext (Z3I Z3L (congrArg (fun q : Res => pL ((pT (pA q.1)).getD 0 .junk)) e)) (congrArg (fun q : Res => pI ((pT (pA q.1)).getD 1 .junk)) e)
abbrev ZbW  : (Z7) → Res → Prop := fun r q => ∃ (ex : List Row), q = ((.p (.agg (ZG r .sh .sh))), ex)
theorem Zuk  : ∀ a b q, ZbW  a q → ZbW  b q → a = b := by
 rintro a b q ⟨_, e1⟩ ⟨_, e2⟩
 have e := e1.symm.trans e2
 exact Z42 (congrArg (fun q : Res => pC (pA q.1)) e)
abbrev Z6m (zn : List Int) (zb zh : Int) (zj : List Zx) (zp zd : Own) : (Int × Int × Int) → Res → Prop := fun r q => ∃ (ex : List Row), q = ((.p (.tup [])), [(Zk (Zm.mk zn r.1 zb zh zj (Zl.mk r.2.1 r.2.2)) zp zd)] ++ ex)
theorem Zl0 (zn : List Int) (zb zh : Int) (zj : List Zx) (zp zd : Own) : ∀ a b q, Z6m zn zb zh zj zp zd a q → Z6m zn zb zh zj zp zd b q → a = b := by
 rintro a b q ⟨_, e1⟩ ⟨_, e2⟩
 have e := e1.symm.trans e2
 exact Prod.ext (congrArg (fun q : Res => pI (pA (cellAt q 0 1))) e) (Prod.ext (congrArg (fun q : Res => pI (pA (cellAt q 0 5))) e) (congrArg (fun q : Res => pI (pA (cellAt q 0 6))) e))
abbrev Z7v  : (Own × (List Zc)) → Res → Prop := fun r q => ∃ (ex : List Row), q = ((.p (.lst r.1 (r.2.map ZA))), ex)
theorem ZnC  : ∀ a b q, Z7v  a q → Z7v  b q → a = b := by
 rintro a b q ⟨_, e1⟩ ⟨_, e2⟩
 have e := e1.symm.trans e2
 exact Prod.ext (congrArg (fun q : Res => pOwn (pA q.1)) e) (Z3I Z3L (congrArg (fun q : Res => pL (pA q.1)) e))
abbrev Z83  : (Int) → Res → Prop := fun r q => ∃ (ex : List Row), q = ((iv r), ex)
theorem Zui  : ∀ a b q, Z83  a q → Z83  b q → a = b := by
 rintro a b q ⟨_, e1⟩ ⟨_, e2⟩
 have e := e1.symm.trans e2
 exact congrArg (fun q : Res => pI (pA q.1)) e
abbrev Z8F (z1r : Int) : (Bool) → Res → Prop := fun r q => ∃ (ex : List Row), q = ((bv r), [[(iv z1r)]] ++ ex)
theorem ZnB (z1r : Int) : ∀ a b q, Z8F z1r a q → Z8F z1r b q → a = b := by
 rintro a b q ⟨_, e1⟩ ⟨_, e2⟩
 have e := e1.symm.trans e2
 exact congrArg (fun q : Res => pB (pA q.1)) e
abbrev Z2b (z1r : Int) : (Int) → Res → Prop := fun r q => ∃ (ex : List Row), q = ((iv r), [[(iv z1r)]] ++ ex)
theorem Za0 (z1r : Int) : ∀ a b q, Z2b z1r a q → Z2b z1r b q → a = b := by
 rintro a b q ⟨_, e1⟩ ⟨_, e2⟩
 have e := e1.symm.trans e2
 exact congrArg (fun q : Res => pI (pA q.1)) e
abbrev Z44 (z1r : Int) : (Bool) → Res → Prop := fun r q => ∃ (ex : List Row), q = ((bv r), [[(iv z1r)]] ++ ex)
theorem ZdL (z1r : Int) : ∀ a b q, Z44 z1r a q → Z44 z1r b q → a = b := by
 rintro a b q ⟨_, e1⟩ ⟨_, e2⟩
 have e := e1.symm.trans e2
 exact congrArg (fun q : Res => pB (pA q.1)) e
abbrev Z9Z  : (Bool) → Res → Prop := fun r q => ∃ (ex : List Row), q = ((bv r), ex)
theorem Zpj  : ∀ a b q, Z9Z  a q → Z9Z  b q → a = b := by
 rintro a b q ⟨_, e1⟩ ⟨_, e2⟩
 have e := e1.symm.trans e2
 exact congrArg (fun q : Res => pB (pA q.1)) e
abbrev Z4Q (zn : List Int) (zb zh : Int) (zj : List Zx) (zp zd : Own) : (Int × Int × Int × Int) → Res → Prop := fun r q => ∃ (ex : List Row), q = ((iv r.1), [(Zk (Zm.mk zn r.2.1 zb zh zj (Zl.mk r.2.2.1 r.2.2.2)) zp zd)] ++ ex)
theorem Zks (zn : List Int) (zb zh : Int) (zj : List Zx) (zp zd : Own) : ∀ a b q, Z4Q zn zb zh zj zp zd a q → Z4Q zn zb zh zj zp zd b q → a = b := by
 rintro a b q ⟨_, e1⟩ ⟨_, e2⟩
 have e := e1.symm.trans e2
 exact Prod.ext (congrArg (fun q : Res => pI (pA q.1)) e) (Prod.ext (congrArg (fun q : Res => pI (pA (cellAt q 0 1))) e) (Prod.ext (congrArg (fun q : Res => pI (pA (cellAt q 0 5))) e) (congrArg (fun q : Res => pI (pA (cellAt q 0 6))) e)))
abbrev Z3X (zn : List Int) (zb zh : Int) (zp : Own) : (Z7 × Int × (List Zx) × Int × Int) → Res → Prop := fun r q => ∃ (p0_4 : Own) (ex : List Row), ZN p0_4 = true ∧ q = ((.p (.agg (ZG r.1 .sh .sh))), [(Zk (Zm.mk zn r.2.1 zb zh r.2.2.1 (Zl.mk r.2.2.2.1 r.2.2.2.2)) zp p0_4)] ++ ex)
theorem Zjy (zn : List Int) (zb zh : Int) (zp : Own) : ∀ a b q, Z3X zn zb zh zp a q → Z3X zn zb zh zp b q → a = b := by
 rintro a b q ⟨_, _, _, e1⟩ ⟨_, _, _, e2⟩
 have e := e1.symm.trans e2
 exact Prod.ext (Z42 (congrArg (fun q : Res => pC (pA q.1)) e)) (Prod.ext (congrArg (fun q : Res => pI (pA (cellAt q 0 1))) e) (Prod.ext (Z3I Z7p (congrArg (fun q : Res => pL (pA (cellAt q 0 4))) e)) (Prod.ext (congrArg (fun q : Res => pI (pA (cellAt q 0 5))) e) (congrArg (fun q : Res => pI (pA (cellAt q 0 6))) e))))
abbrev Z3Y (zn : List Int) (zb zh : Int) (zj : List Zx) (zp zd : Own) : (Int × (Own × (List Zc)) × Bool × Int × Int × Int) → Res → Prop := fun r q => ∃ (ex : List Row), q = ((.p (.tup [(.v (.int .i64 r.1)), (.lst r.2.1.1 (r.2.1.2.map ZA)), (.v (.bool r.2.2.1))])), [(Zk (Zm.mk zn r.2.2.2.1 zb zh zj (Zl.mk r.2.2.2.2.1 r.2.2.2.2.2)) zp zd)] ++ ex)
theorem Zjz (zn : List Int) (zb zh : Int) (zj : List Zx) (zp zd : Own) : ∀ a b q, Z3Y zn zb zh zj zp zd a q → Z3Y zn zb zh zj zp zd b q → a = b := by
 rintro a b q ⟨_, e1⟩ ⟨_, e2⟩
 have e := e1.symm.trans e2
 exact Prod.ext (congrArg (fun q : Res => pI ((pT (pA q.1)).getD 0 .junk)) e) (Prod.ext (Prod.ext (congrArg (fun q : Res => pOwn ((pT (pA q.1)).getD 1 .junk)) e) (Z3I Z3L (congrArg (fun q : Res => pL ((pT (pA q.1)).getD 1 .junk)) e))) (Prod.ext (congrArg (fun q : Res => pB ((pT (pA q.1)).getD 2 .junk)) e) (Prod.ext (congrArg (fun q : Res => pI (pA (cellAt q 0 1))) e) (Prod.ext (congrArg (fun q : Res => pI (pA (cellAt q 0 5))) e) (congrArg (fun q : Res => pI (pA (cellAt q 0 6))) e)))))
abbrev Z8r  : (List Zc) → Res → Prop := fun r q => ∃ (ex : List Row), q = ((.p (.lst .sh (r.map ZA))), ex)
theorem ZjC  : ∀ a b q, Z8r  a q → Z8r  b q → a = b := by
 rintro a b q ⟨_, e1⟩ ⟨_, e2⟩
 have e := e1.symm.trans e2
 exact Z3I Z3L (congrArg (fun q : Res => pL (pA q.1)) e)
abbrev Z7T  : ((List Zc) × Int) → Res → Prop := fun r q => ∃ (ex : List Row), q = ((.p (.tup [(.lst .sh (r.1.map ZA)), (.v (.int .i64 r.2))])), ex)
theorem ZpW  : ∀ a b q, Z7T  a q → Z7T  b q → a = b := by
 rintro a b q ⟨_, e1⟩ ⟨_, e2⟩
 have e := e1.symm.trans e2
 exact Prod.ext (Z3I Z3L (congrArg (fun q : Res => pL ((pT (pA q.1)).getD 0 .junk)) e)) (congrArg (fun q : Res => pI ((pT (pA q.1)).getD 1 .junk)) e)
abbrev Z6q  : (List Zc) → Res → Prop := fun r q => ∃ (p0_0 : Own) (ex : List Row), q = ((.p (.tup [])), [[(.p (.lst p0_0 (r.map ZA)))]] ++ ex)
theorem ZiY  : ∀ a b q, Z6q  a q → Z6q  b q → a = b := by
 rintro a b q ⟨_, _, e1⟩ ⟨_, _, e2⟩
 have e := e1.symm.trans e2
 exact Z3I Z3L (congrArg (fun q : Res => pL (pA (cellAt q 0 0))) e)
abbrev Z1L (zn : List Int) (zb zh : Int) (zj : List Zx) (zp zd : Own) : (Z7 × Int × Int × Int) → Res → Prop := fun r q => ∃ (ex : List Row), q = ((.p (.agg (ZG r.1 .sh .sh))), [(Zk (Zm.mk zn r.2.1 zb zh zj (Zl.mk r.2.2.1 r.2.2.2)) zp zd)] ++ ex)
theorem ZdK (zn : List Int) (zb zh : Int) (zj : List Zx) (zp zd : Own) : ∀ a b q, Z1L zn zb zh zj zp zd a q → Z1L zn zb zh zj zp zd b q → a = b := by
 rintro a b q ⟨_, e1⟩ ⟨_, e2⟩
 have e := e1.symm.trans e2
 exact Prod.ext (Z42 (congrArg (fun q : Res => pC (pA q.1)) e)) (Prod.ext (congrArg (fun q : Res => pI (pA (cellAt q 0 1))) e) (Prod.ext (congrArg (fun q : Res => pI (pA (cellAt q 0 5))) e) (congrArg (fun q : Res => pI (pA (cellAt q 0 6))) e)))
abbrev ZbK  : (List ByteArray) → Res → Prop := fun r q => ∃ (ex : List Row), q = ((.p (.lst .sh (r.map eS))), ex)
theorem ZqT  : ∀ a b q, ZbK  a q → ZbK  b q → a = b := by
 rintro a b q ⟨_, e1⟩ ⟨_, e2⟩
 have e := e1.symm.trans e2
 exact Z3I ZAC (congrArg (fun q : Res => pL (pA q.1)) e)
abbrev Z25 (zn : List Int) (zb zh : Int) (zj : List Zx) (z2 z6 : Int) (zp zd : Own) : (Int × Int) → Res → Prop := fun r q => ∃ (ex : List Row), q = ((iv r.1), [(Zk (Zm.mk zn r.2 zb zh zj (Zl.mk z2 z6)) zp zd)] ++ ex)
theorem Z9P (zn : List Int) (zb zh : Int) (zj : List Zx) (z2 z6 : Int) (zp zd : Own) : ∀ a b q, Z25 zn zb zh zj z2 z6 zp zd a q → Z25 zn zb zh zj z2 z6 zp zd b q → a = b := by
 rintro a b q ⟨_, e1⟩ ⟨_, e2⟩
 have e := e1.symm.trans e2
 exact Prod.ext (congrArg (fun q : Res => pI (pA q.1)) e) (congrArg (fun q : Res => pI (pA (cellAt q 0 1))) e)
abbrev Z3k (zn : List Int) (zp : Own) : (Z7 × Bool × Int × Int × Int × (List Zx) × Int × Int) → Res → Prop := fun r q => ∃ (p0_4 : Own) (ex : List Row), ZN p0_4 = true ∧ q = ((.p (.tup [(.agg (ZG r.1 .sh .sh)), (.v (.bool r.2.1))])), [(Zk (Zm.mk zn r.2.2.1 r.2.2.2.1 r.2.2.2.2.1 r.2.2.2.2.2.1 (Zl.mk r.2.2.2.2.2.2.1 r.2.2.2.2.2.2.2)) zp p0_4)] ++ ex)
theorem Zkr (zn : List Int) (zp : Own) : ∀ a b q, Z3k zn zp a q → Z3k zn zp b q → a = b := by
 rintro a b q ⟨_, _, _, e1⟩ ⟨_, _, _, e2⟩
 have e := e1.symm.trans e2
 exact Prod.ext (Z42 (congrArg (fun q : Res => pC ((pT (pA q.1)).getD 0 .junk)) e)) (Prod.ext (congrArg (fun q : Res => pB ((pT (pA q.1)).getD 1 .junk)) e) (Prod.ext (congrArg (fun q : Res => pI (pA (cellAt q 0 1))) e) (Prod.ext (congrArg (fun q : Res => pI (pA (cellAt q 0 2))) e) (Prod.ext (congrArg (fun q : Res => pI (pA (cellAt q 0 3))) e) (Prod.ext (Z3I Z7p (congrArg (fun q : Res => pL (pA (cellAt q 0 4))) e)) (Prod.ext (congrArg (fun q : Res => pI (pA (cellAt q 0 5))) e) (congrArg (fun q : Res => pI (pA (cellAt q 0 6))) e)))))))
abbrev Z6l (zn : List Int) (zp : Own) : (Z7 × Bool × Int × Int × Int × (List Zx) × Int × Int) → Res → Prop := fun r q => ∃ (p0_4 : Own) (ex : List Row), ZN p0_4 = true ∧ q = ((.p (.tup [(.agg (ZG r.1 .sh .sh)), (.v (.bool r.2.1))])), [(Zk (Zm.mk zn r.2.2.1 r.2.2.2.1 r.2.2.2.2.1 r.2.2.2.2.2.1 (Zl.mk r.2.2.2.2.2.2.1 r.2.2.2.2.2.2.2)) zp p0_4)] ++ ex)
theorem ZkZ (zn : List Int) (zp : Own) : ∀ a b q, Z6l zn zp a q → Z6l zn zp b q → a = b := by
 rintro a b q ⟨_, _, _, e1⟩ ⟨_, _, _, e2⟩
 have e := e1.symm.trans e2
 exact Prod.ext (Z42 (congrArg (fun q : Res => pC ((pT (pA q.1)).getD 0 .junk)) e)) (Prod.ext (congrArg (fun q : Res => pB ((pT (pA q.1)).getD 1 .junk)) e) (Prod.ext (congrArg (fun q : Res => pI (pA (cellAt q 0 1))) e) (Prod.ext (congrArg (fun q : Res => pI (pA (cellAt q 0 2))) e) (Prod.ext (congrArg (fun q : Res => pI (pA (cellAt q 0 3))) e) (Prod.ext (Z3I Z7p (congrArg (fun q : Res => pL (pA (cellAt q 0 4))) e)) (Prod.ext (congrArg (fun q : Res => pI (pA (cellAt q 0 5))) e) (congrArg (fun q : Res => pI (pA (cellAt q 0 6))) e)))))))
abbrev Z3b (zn : List Int) (zb zh : Int) (zj : List Zx) (z2 z6 : Int) (zp zd : Own) : (Int × Int) → Res → Prop := fun r q => ∃ (ex : List Row), q = ((iv r.1), [(Zk (Zm.mk zn r.2 zb zh zj (Zl.mk z2 z6)) zp zd)] ++ ex)
theorem Zdi (zn : List Int) (zb zh : Int) (zj : List Zx) (z2 z6 : Int) (zp zd : Own) : ∀ a b q, Z3b zn zb zh zj z2 z6 zp zd a q → Z3b zn zb zh zj z2 z6 zp zd b q → a = b := by
 rintro a b q ⟨_, e1⟩ ⟨_, e2⟩
 have e := e1.symm.trans e2
 exact Prod.ext (congrArg (fun q : Res => pI (pA q.1)) e) (congrArg (fun q : Res => pI (pA (cellAt q 0 1))) e)
abbrev Z2U (zn : List Int) (zb zh : Int) (zj : List Zx) (zp zd : Own) : (Int × Int × Int × Int × Int) → Res → Prop := fun r q => ∃ (ex : List Row), q = ((.p (.tup [(.v (.int .i64 r.1)), (.v (.int .i64 r.2.1))])), [(Zk (Zm.mk zn r.2.2.1 zb zh zj (Zl.mk r.2.2.2.1 r.2.2.2.2)) zp zd)] ++ ex)
theorem Zjx (zn : List Int) (zb zh : Int) (zj : List Zx) (zp zd : Own) : ∀ a b q, Z2U zn zb zh zj zp zd a q → Z2U zn zb zh zj zp zd b q → a = b := by
 rintro a b q ⟨_, e1⟩ ⟨_, e2⟩
 have e := e1.symm.trans e2
 exact Prod.ext (congrArg (fun q : Res => pI ((pT (pA q.1)).getD 0 .junk)) e) (Prod.ext (congrArg (fun q : Res => pI ((pT (pA q.1)).getD 1 .junk)) e) (Prod.ext (congrArg (fun q : Res => pI (pA (cellAt q 0 1))) e) (Prod.ext (congrArg (fun q : Res => pI (pA (cellAt q 0 5))) e) (congrArg (fun q : Res => pI (pA (cellAt q 0 6))) e))))
abbrev Z3Z (zn : List Int) (zb zh : Int) (zj : List Zx) (zp zd : Own) : (Z7 × Int × Int × Int) → Res → Prop := fun r q => ∃ (ex : List Row), q = ((.p (.agg (ZG r.1 .sh .sh))), [(Zk (Zm.mk zn r.2.1 zb zh zj (Zl.mk r.2.2.1 r.2.2.2)) zp zd)] ++ ex)
theorem ZjA (zn : List Int) (zb zh : Int) (zj : List Zx) (zp zd : Own) : ∀ a b q, Z3Z zn zb zh zj zp zd a q → Z3Z zn zb zh zj zp zd b q → a = b := by
 rintro a b q ⟨_, e1⟩ ⟨_, e2⟩
 have e := e1.symm.trans e2
 exact Prod.ext (Z42 (congrArg (fun q : Res => pC (pA q.1)) e)) (Prod.ext (congrArg (fun q : Res => pI (pA (cellAt q 0 1))) e) (Prod.ext (congrArg (fun q : Res => pI (pA (cellAt q 0 5))) e) (congrArg (fun q : Res => pI (pA (cellAt q 0 6))) e)))
abbrev Z3o (zn : List Int) (zp : Own) : (Z7 × Int × Int × Int × (List Zx) × Int × Int) → Res → Prop := fun r q => ∃ (p0_4 : Own) (ex : List Row), ZN p0_4 = true ∧ q = ((.p (.agg (ZG r.1 .sh .sh))), [(Zk (Zm.mk zn r.2.1 r.2.2.1 r.2.2.2.1 r.2.2.2.2.1 (Zl.mk r.2.2.2.2.2.1 r.2.2.2.2.2.2)) zp p0_4)] ++ ex)
theorem Zfi (zn : List Int) (zp : Own) : ∀ a b q, Z3o zn zp a q → Z3o zn zp b q → a = b := by
 rintro a b q ⟨_, _, _, e1⟩ ⟨_, _, _, e2⟩
 have e := e1.symm.trans e2
 exact Prod.ext (Z42 (congrArg (fun q : Res => pC (pA q.1)) e)) (Prod.ext (congrArg (fun q : Res => pI (pA (cellAt q 0 1))) e) (Prod.ext (congrArg (fun q : Res => pI (pA (cellAt q 0 2))) e) (Prod.ext (congrArg (fun q : Res => pI (pA (cellAt q 0 3))) e) (Prod.ext (Z3I Z7p (congrArg (fun q : Res => pL (pA (cellAt q 0 4))) e)) (Prod.ext (congrArg (fun q : Res => pI (pA (cellAt q 0 5))) e) (congrArg (fun q : Res => pI (pA (cellAt q 0 6))) e))))))
abbrev Z3J (zn : List Int) (zp : Own) : (Z7 × Int × Int × Int × (List Zx) × Int × Int) → Res → Prop := fun r q => ∃ (p0_4 : Own) (ex : List Row), ZN p0_4 = true ∧ q = ((.p (.agg (ZG r.1 .sh .sh))), [(Zk (Zm.mk zn r.2.1 r.2.2.1 r.2.2.2.1 r.2.2.2.2.1 (Zl.mk r.2.2.2.2.2.1 r.2.2.2.2.2.2)) zp p0_4)] ++ ex)
theorem Zfh (zn : List Int) (zp : Own) : ∀ a b q, Z3J zn zp a q → Z3J zn zp b q → a = b := by
 rintro a b q ⟨_, _, _, e1⟩ ⟨_, _, _, e2⟩
 have e := e1.symm.trans e2
 exact Prod.ext (Z42 (congrArg (fun q : Res => pC (pA q.1)) e)) (Prod.ext (congrArg (fun q : Res => pI (pA (cellAt q 0 1))) e) (Prod.ext (congrArg (fun q : Res => pI (pA (cellAt q 0 2))) e) (Prod.ext (congrArg (fun q : Res => pI (pA (cellAt q 0 3))) e) (Prod.ext (Z3I Z7p (congrArg (fun q : Res => pL (pA (cellAt q 0 4))) e)) (Prod.ext (congrArg (fun q : Res => pI (pA (cellAt q 0 5))) e) (congrArg (fun q : Res => pI (pA (cellAt q 0 6))) e))))))
abbrev Z3y  : (ZT × Zl) → Res → Prop := fun r q => ∃ (ex : List Row), q = ((.p (.tup [(.agg (Z33 r.1 .sh .sh)), (.agg (Z58 r.2))])), ex)
theorem Zk1  : ∀ a b q, Z3y  a q → Z3y  b q → a = b := by
 rintro a b q ⟨_, e1⟩ ⟨_, e2⟩
 have e := e1.symm.trans e2
 exact Prod.ext (Zmb (congrArg (fun q : Res => pC ((pT (pA q.1)).getD 0 .junk)) e)) (Zo1 (congrArg (fun q : Res => pC ((pT (pA q.1)).getD 1 .junk)) e))
abbrev ZaT  : (Int) → Res → Prop := fun r q => ∃ (ex : List Row), q = ((iv r), ex)
theorem Zs3  : ∀ a b q, ZaT  a q → ZaT  b q → a = b := by
 rintro a b q ⟨_, e1⟩ ⟨_, e2⟩
 have e := e1.symm.trans e2
 exact congrArg (fun q : Res => pI (pA q.1)) e
abbrev Z6y  : (Int) → Res → Prop := fun r q => ∃ (ex : List Row), q = ((iv r), ex)
theorem ZqW  : ∀ a b q, Z6y  a q → Z6y  b q → a = b := by
 rintro a b q ⟨_, e1⟩ ⟨_, e2⟩
 have e := e1.symm.trans e2
 exact congrArg (fun q : Res => pI (pA q.1)) e
abbrev Zam  : (Int) → Res → Prop := fun r q => ∃ (ex : List Row), q = ((iv r), ex)
theorem Zul  : ∀ a b q, Zam  a q → Zam  b q → a = b := by
 rintro a b q ⟨_, e1⟩ ⟨_, e2⟩
 have e := e1.symm.trans e2
 exact congrArg (fun q : Res => pI (pA q.1)) e
abbrev Z3a  : (Int × Int) → Res → Prop := fun r q => ∃ (ex : List Row), q = ((.p (.tup [(.v (.int .i64 r.1)), (.v (.int .i64 r.2))])), ex)
theorem Zfj  : ∀ a b q, Z3a  a q → Z3a  b q → a = b := by
 rintro a b q ⟨_, e1⟩ ⟨_, e2⟩
 have e := e1.symm.trans e2
 exact Prod.ext (congrArg (fun q : Res => pI ((pT (pA q.1)).getD 0 .junk)) e) (congrArg (fun q : Res => pI ((pT (pA q.1)).getD 1 .junk)) e)
abbrev Z8K  : (Bool) → Res → Prop := fun r q => ∃ (ex : List Row), q = ((bv r), ex)
theorem ZnH  : ∀ a b q, Z8K  a q → Z8K  b q → a = b := by
 rintro a b q ⟨_, e1⟩ ⟨_, e2⟩
 have e := e1.symm.trans e2
 exact congrArg (fun q : Res => pB (pA q.1)) e
abbrev Z2f  : (Int) → Res → Prop := fun r q => ∃ (ex : List Row), q = ((iv r), ex)
theorem Zar  : ∀ a b q, Z2f  a q → Z2f  b q → a = b := by
 rintro a b q ⟨_, e1⟩ ⟨_, e2⟩
 have e := e1.symm.trans e2
 exact congrArg (fun q : Res => pI (pA q.1)) e
abbrev Z4e  : (Bool) → Res → Prop := fun r q => ∃ (ex : List Row), q = ((bv r), ex)
theorem Zer  : ∀ a b q, Z4e  a q → Z4e  b q → a = b := by
 rintro a b q ⟨_, e1⟩ ⟨_, e2⟩
 have e := e1.symm.trans e2
 exact congrArg (fun q : Res => pB (pA q.1)) e
abbrev Z6c  : (Bool) → Res → Prop := fun r q => ∃ (ex : List Row), q = ((bv r), ex)
theorem Zpl  : ∀ a b q, Z6c  a q → Z6c  b q → a = b := by
 rintro a b q ⟨_, e1⟩ ⟨_, e2⟩
 have e := e1.symm.trans e2
 exact congrArg (fun q : Res => pB (pA q.1)) e
abbrev Z4W  : (Int) → Res → Prop := fun r q => ∃ (ex : List Row), q = ((iv r), ex)
theorem Zl6  : ∀ a b q, Z4W  a q → Z4W  b q → a = b := by
 rintro a b q ⟨_, e1⟩ ⟨_, e2⟩
 have e := e1.symm.trans e2
 exact congrArg (fun q : Res => pI (pA q.1)) e
abbrev Z9U  : (Int) → Res → Prop := fun r q => ∃ (ex : List Row), q = ((iv r), ex)
theorem ZqV  : ∀ a b q, Z9U  a q → Z9U  b q → a = b := by
 rintro a b q ⟨_, e1⟩ ⟨_, e2⟩
 have e := e1.symm.trans e2
 exact congrArg (fun q : Res => pI (pA q.1)) e
abbrev Z7w  : (ZJ) → Res → Prop := fun r q => ∃ (ex : List Row), q = ((.p (.agg (Z19 r))), ex)
theorem ZnI  : ∀ a b q, Z7w  a q → Z7w  b q → a = b := by
 rintro a b q ⟨_, e1⟩ ⟨_, e2⟩
 have e := e1.symm.trans e2
 exact Zao (congrArg (fun q : Res => pC (pA q.1)) e)
abbrev Z7G  : (Bool) → Res → Prop := fun r q => ∃ (ex : List Row), q = ((bv r), ex)
theorem Zl4  : ∀ a b q, Z7G  a q → Z7G  b q → a = b := by
 rintro a b q ⟨_, e1⟩ ⟨_, e2⟩
 have e := e1.symm.trans e2
 exact congrArg (fun q : Res => pB (pA q.1)) e
abbrev Z8G  : (Bool) → Res → Prop := fun r q => ∃ (ex : List Row), q = ((bv r), ex)
theorem ZnD  : ∀ a b q, Z8G  a q → Z8G  b q → a = b := by
 rintro a b q ⟨_, e1⟩ ⟨_, e2⟩
 have e := e1.symm.trans e2
 exact congrArg (fun q : Res => pB (pA q.1)) e
abbrev Z2Q  : (Bool) → Res → Prop := fun r q => ∃ (ex : List Row), q = ((bv r), ex)
theorem Zh2  : ∀ a b q, Z2Q  a q → Z2Q  b q → a = b := by
 rintro a b q ⟨_, e1⟩ ⟨_, e2⟩
 have e := e1.symm.trans e2
 exact congrArg (fun q : Res => pB (pA q.1)) e
abbrev Z3R  : (ZJ) → Res → Prop := fun r q => ∃ (ex : List Row), q = ((.p (.agg (Z19 r))), ex)
theorem ZhX  : ∀ a b q, Z3R  a q → Z3R  b q → a = b := by
 rintro a b q ⟨_, e1⟩ ⟨_, e2⟩
 have e := e1.symm.trans e2
 exact Zao (congrArg (fun q : Res => pC (pA q.1)) e)
abbrev Z6p  : (Bool) → Res → Prop := fun r q => ∃ (ex : List Row), q = ((bv r), ex)
theorem ZiX  : ∀ a b q, Z6p  a q → Z6p  b q → a = b := by
 rintro a b q ⟨_, e1⟩ ⟨_, e2⟩
 have e := e1.symm.trans e2
 exact congrArg (fun q : Res => pB (pA q.1)) e
abbrev Z1X  : (Bool) → Res → Prop := fun r q => ∃ (ex : List Row), q = ((bv r), ex)
theorem Z9Q  : ∀ a b q, Z1X  a q → Z1X  b q → a = b := by
 rintro a b q ⟨_, e1⟩ ⟨_, e2⟩
 have e := e1.symm.trans e2
 exact congrArg (fun q : Res => pB (pA q.1)) e
abbrev ZbL (z1l z1x z1s : Int) (z1p : List Zw) (zB : Own) : (Int) → Res → Prop := fun r q => ∃ (ex : List Row), q = ((.p (.tup [])), [(Zv (Zz.mk r z1l z1x z1s z1p) zB)] ++ ex)
theorem ZqU (z1l z1x z1s : Int) (z1p : List Zw) (zB : Own) : ∀ a b q, ZbL z1l z1x z1s z1p zB a q → ZbL z1l z1x z1s z1p zB b q → a = b := by
 rintro a b q ⟨_, e1⟩ ⟨_, e2⟩
 have e := e1.symm.trans e2
 exact congrArg (fun q : Res => pI (pA (cellAt q 0 0))) e
abbrev Z8J (z18 z1x z1s : Int) (z1p : List Zw) (zB : Own) : (Int) → Res → Prop := fun r q => ∃ (ex : List Row), q = ((.p (.tup [])), [(Zv (Zz.mk z18 r z1x z1s z1p) zB)] ++ ex)
theorem ZnG (z18 z1x z1s : Int) (z1p : List Zw) (zB : Own) : ∀ a b q, Z8J z18 z1x z1s z1p zB a q → Z8J z18 z1x z1s z1p zB b q → a = b := by
 rintro a b q ⟨_, e1⟩ ⟨_, e2⟩
 have e := e1.symm.trans e2
 exact congrArg (fun q : Res => pI (pA (cellAt q 0 1))) e
abbrev Z8I (z18 z1l z1s : Int) (z1p : List Zw) (zB : Own) : (Int) → Res → Prop := fun r q => ∃ (ex : List Row), q = ((.p (.tup [])), [(Zv (Zz.mk z18 z1l r z1s z1p) zB)] ++ ex)
theorem ZnF (z18 z1l z1s : Int) (z1p : List Zw) (zB : Own) : ∀ a b q, Z8I z18 z1l z1s z1p zB a q → Z8I z18 z1l z1s z1p zB b q → a = b := by
 rintro a b q ⟨_, e1⟩ ⟨_, e2⟩
 have e := e1.symm.trans e2
 exact congrArg (fun q : Res => pI (pA (cellAt q 0 2))) e
abbrev Z8H (z18 z1l z1x : Int) (z1p : List Zw) (zB : Own) : (Int) → Res → Prop := fun r q => ∃ (ex : List Row), q = ((.p (.tup [])), [(Zv (Zz.mk z18 z1l z1x r z1p) zB)] ++ ex)
theorem ZnE (z18 z1l z1x : Int) (z1p : List Zw) (zB : Own) : ∀ a b q, Z8H z18 z1l z1x z1p zB a q → Z8H z18 z1l z1x z1p zB b q → a = b := by
 rintro a b q ⟨_, e1⟩ ⟨_, e2⟩
 have e := e1.symm.trans e2
 exact congrArg (fun q : Res => pI (pA (cellAt q 0 3))) e
abbrev Z6J  : (Bool) → Res → Prop := fun r q => ∃ (ex : List Row), q = ((bv r), [[(.clo 27 [] [])]] ++ ex)
theorem ZjB  : ∀ a b q, Z6J  a q → Z6J  b q → a = b := by
 rintro a b q ⟨_, e1⟩ ⟨_, e2⟩
 have e := e1.symm.trans e2
 exact congrArg (fun q : Res => pB (pA q.1)) e
abbrev Z2g  : (Int) → Res → Prop := fun r q => ∃ (ex : List Row), q = ((iv r), [[(.clo 27 [] [])]] ++ ex)
theorem Zas  : ∀ a b q, Z2g  a q → Z2g  b q → a = b := by
 rintro a b q ⟨_, e1⟩ ⟨_, e2⟩
 have e := e1.symm.trans e2
 exact congrArg (fun q : Res => pI (pA q.1)) e
abbrev Z4f  : (Bool) → Res → Prop := fun r q => ∃ (ex : List Row), q = ((bv r), [[(.clo 27 [] [])]] ++ ex)
theorem Zes  : ∀ a b q, Z4f  a q → Z4f  b q → a = b := by
 rintro a b q ⟨_, e1⟩ ⟨_, e2⟩
 have e := e1.symm.trans e2
 exact congrArg (fun q : Res => pB (pA q.1)) e
abbrev Z7H  : (Bool) → Res → Prop := fun r q => ∃ (ex : List Row), q = ((bv r), ex)
theorem Zl5  : ∀ a b q, Z7H  a q → Z7H  b q → a = b := by
 rintro a b q ⟨_, e1⟩ ⟨_, e2⟩
 have e := e1.symm.trans e2
 exact congrArg (fun q : Res => pB (pA q.1)) e
abbrev Z5G  : (Bool × (List (Int × Bool))) → Res → Prop := fun r q => ∃ (ex : List Row), q = ((bv r.1), [[(.mp 1)], [(.md ((r.2).map (encM eB)))]] ++ ex)
theorem ZhK  : ∀ a b q, Z5G  a q → Z5G  b q → a = b := by
 rintro a b q ⟨_, e1⟩ ⟨_, e2⟩
 have e := e1.symm.trans e2
 exact Prod.ext (congrArg (fun q : Res => pB (pA q.1)) e) (Z3I (Zgf Zj3) (congrArg (fun q : Res => pM (cellAt q 1 0)) e))
abbrev Z5H  : (Bool × (List (Int × Bool))) → Res → Prop := fun r q => ∃ (ex : List Row), q = ((bv r.1), [[(.clo 74 [] [(.ptr 1 0)])], [(.mp 2)], [(.md ((r.2).map (encM eB)))]] ++ ex)
theorem ZhL  : ∀ a b q, Z5H  a q → Z5H  b q → a = b := by
 rintro a b q ⟨_, e1⟩ ⟨_, e2⟩
 have e := e1.symm.trans e2
 exact Prod.ext (congrArg (fun q : Res => pB (pA q.1)) e) (Z3I (Zgf Zj3) (congrArg (fun q : Res => pM (cellAt q 2 0)) e))
abbrev Z2h  : (Int × (List (Int × Bool))) → Res → Prop := fun r q => ∃ (ex : List Row), q = ((iv r.1), [[(.clo 74 [] [(.ptr 1 0)])], [(.mp 2)], [(.md ((r.2).map (encM eB)))]] ++ ex)
theorem Zat  : ∀ a b q, Z2h  a q → Z2h  b q → a = b := by
 rintro a b q ⟨_, e1⟩ ⟨_, e2⟩
 have e := e1.symm.trans e2
 exact Prod.ext (congrArg (fun q : Res => pI (pA q.1)) e) (Z3I (Zgf Zj3) (congrArg (fun q : Res => pM (cellAt q 2 0)) e))
abbrev Z4g  : (Bool × (List (Int × Bool))) → Res → Prop := fun r q => ∃ (ex : List Row), q = ((bv r.1), [[(.clo 74 [] [(.ptr 1 0)])], [(.mp 2)], [(.md ((r.2).map (encM eB)))]] ++ ex)
theorem Zet  : ∀ a b q, Z4g  a q → Z4g  b q → a = b := by
 rintro a b q ⟨_, e1⟩ ⟨_, e2⟩
 have e := e1.symm.trans e2
 exact Prod.ext (congrArg (fun q : Res => pB (pA q.1)) e) (Z3I (Zgf Zj3) (congrArg (fun q : Res => pM (cellAt q 2 0)) e))
abbrev Z2o  : (Int × (List (Int × Bool))) → Res → Prop := fun r q => ∃ (ex : List Row), q = ((iv r.1), [[(.mp 1)], [(.md ((r.2).map (encM eB)))]] ++ ex)
theorem ZaU  : ∀ a b q, Z2o  a q → Z2o  b q → a = b := by
 rintro a b q ⟨_, e1⟩ ⟨_, e2⟩
 have e := e1.symm.trans e2
 exact Prod.ext (congrArg (fun q : Res => pI (pA q.1)) e) (Z3I (Zgf Zj3) (congrArg (fun q : Res => pM (cellAt q 1 0)) e))
abbrev Z4u  : (Bool × (List (Int × Bool))) → Res → Prop := fun r q => ∃ (ex : List Row), q = ((bv r.1), [[(.mp 1)], [(.md ((r.2).map (encM eB)))]] ++ ex)
theorem Zf4  : ∀ a b q, Z4u  a q → Z4u  b q → a = b := by
 rintro a b q ⟨_, e1⟩ ⟨_, e2⟩
 have e := e1.symm.trans e2
 exact Prod.ext (congrArg (fun q : Res => pB (pA q.1)) e) (Z3I (Zgf Zj3) (congrArg (fun q : Res => pM (cellAt q 1 0)) e))
abbrev Z8e  : (Bool) → Res → Prop := fun r q => ∃ (ex : List Row), q = ((bv r), ex)
theorem Zm7  : ∀ a b q, Z8e  a q → Z8e  b q → a = b := by
 rintro a b q ⟨_, e1⟩ ⟨_, e2⟩
 have e := e1.symm.trans e2
 exact congrArg (fun q : Res => pB (pA q.1)) e
abbrev Z7a (z1r : List (Int × Zw)) : (Unit) → Res → Prop := fun r q => ∃ (ex : List Row), q = ((.clo 78 [] [(.ptr 1 0)]), [[(.md ((z1r).map (encM ZC)))], [(.mp 0)]]) ∧ ex = []
theorem Zkq (z1r : List (Int × Zw)) : ∀ a b q, Z7a z1r a q → Z7a z1r b q → a = b := by
 rintro a b q ⟨_, e1, _⟩ ⟨_, e2, _⟩
 have e := e1.symm.trans e2
 exact rfl
abbrev Z7D (z1K : List (Int × Zw)) : (List Int) → Res → Prop := fun r q => ∃ (ex : List Row), q = ((.p (.lst .sh (r.map (eI .i64)))), [[(.mp 1)], [(.md ((z1K).map (encM ZC)))]] ++ ex)
theorem Zi2 (z1K : List (Int × Zw)) : ∀ a b q, Z7D z1K a q → Z7D z1K b q → a = b := by
 rintro a b q ⟨_, e1⟩ ⟨_, e2⟩
 have e := e1.symm.trans e2
 exact Z3I Z5m (congrArg (fun q : Res => pL (pA q.1)) e)
abbrev Z1P  : (Zz × Int) → Res → Prop := fun r q => ∃ (ex : List Row), q = ((.p (.tup [(.agg (Z1e r.1 .sh)), (.v (.int .i64 r.2))])), ex)
theorem ZaS  : ∀ a b q, Z1P  a q → Z1P  b q → a = b := by
 rintro a b q ⟨_, e1⟩ ⟨_, e2⟩
 have e := e1.symm.trans e2
 exact Prod.ext (Zfo (congrArg (fun q : Res => pC ((pT (pA q.1)).getD 0 .junk)) e)) (congrArg (fun q : Res => pI ((pT (pA q.1)).getD 1 .junk)) e)
abbrev Z6C  : (Zz × ZJ) → Res → Prop := fun r q => ∃ (ex : List Row), q = ((.p (.tup [(.agg (Z1e r.1 .sh)), (.agg (Z19 r.2))])), ex)
theorem ZnY  : ∀ a b q, Z6C  a q → Z6C  b q → a = b := by
 rintro a b q ⟨_, e1⟩ ⟨_, e2⟩
 have e := e1.symm.trans e2
 exact Prod.ext (Zfo (congrArg (fun q : Res => pC ((pT (pA q.1)).getD 0 .junk)) e)) (Zao (congrArg (fun q : Res => pC ((pT (pA q.1)).getD 1 .junk)) e))
abbrev Z2T  : (Bool) → Res → Prop := fun r q => ∃ (ex : List Row), q = ((bv r), ex)
theorem Zfg  : ∀ a b q, Z2T  a q → Z2T  b q → a = b := by
 rintro a b q ⟨_, e1⟩ ⟨_, e2⟩
 have e := e1.symm.trans e2
 exact congrArg (fun q : Res => pB (pA q.1)) e
def Z7V (x0 : Zz) (x1 : ZL) : Option (Bool) := pick fun r => ∀ (zW z1H z1E : Own), RRun (Z2T) (EE 6 [(.p (.agg (Z1e x0 zW))), (.p (.agg (Z2J x1 z1H z1E)))] []) r
theorem Zf6 (x0 : Zz) (x1 : ZL) (zW z1H z1E : Own) : Sim (Z2T) (Z7V x0 x1) (EE 6 [(.p (.agg (Z1e x0 zW))), (.p (.agg (Z2J x1 z1H z1E)))] []) := fun _ h => Z1b h zW z1H z1E
def Z8a  : Option (Bool) := pick fun r => RRun (Z6p) (EE 14 [] []) r
theorem Zid  : Sim (Z6p) (Z8a) (EE 14 [] []) := fun _ h => Z1b h
def Zcu  : Option (Zz) := pick fun r => RRun (Zcf) (EE 43 [] []) r
theorem Zk7  : Sim (Zcf) (Zcu) (EE 43 [] []) := fun _ h => Z1b h
def Z5a (x0 : ByteArray) : Option (ZJ) := pick fun r => RRun (Z7w) (EE 21 [(.p (.v (.string x0)))] []) r
theorem ZfH (x0 : ByteArray) : Sim (Z7w) (Z5a x0) (EE 21 [(.p (.v (.string x0)))] []) := fun _ h => Z1b h
def Zej (x0 : ByteArray) : Option (ZT × Zl) := pick fun r => RRun (Z3y) (EE 47 [(.p (.v (.string x0)))] []) r
theorem Zql (x0 : ByteArray) : Sim (Z3y) (Zej x0) (EE 47 [(.p (.v (.string x0)))] []) := fun _ h => Z1b h
def Z1F (x1 : ByteArray) (zn : List Int) (zu : Int) : Option (Bool × Int) := pick fun r => ∀ (zb zh : Int) (zj : List Zx) (z2 z6 : Int) (zp zd : Own) (zy : ZN zd = true), RRun (Z5b zn zb zh zj z2 z6 zp zd) (EE 68 [(.ptr 0 0), (.p (.v (.string x1)))] [(Zk (Zm.mk zn zu zb zh zj (Zl.mk z2 z6)) zp zd)]) r
theorem Z1Q (x1 : ByteArray) (zn : List Int) (zu zb zh : Int) (zj : List Zx) (z2 z6 : Int) (zp zd : Own) (zy : ZN zd = true) : Sim (Z5b zn zb zh zj z2 z6 zp zd) (Z1F x1 zn zu) (EE 68 [(.ptr 0 0), (.p (.v (.string x1)))] [(Zk (Zm.mk zn zu zb zh zj (Zl.mk z2 z6)) zp zd)]) := fun _ h => Z1b h zb zh zj z2 z6 zp zd zy
def Z4l (zn : List Int) (zu zb zh : Int) (zj : List Zx) (z2 z6 : Int) : Option (Z7 × Int × Int × Int × (List Zx) × Int × Int) := pick fun r => ∀ (zp zd : Own) (zy : ZN zd = true), RRun (Z3J zn zp) (EE 69 [(.ptr 0 0)] [(Zk (Zm.mk zn zu zb zh zj (Zl.mk z2 z6)) zp zd)]) r
theorem ZeV (zn : List Int) (zu zb zh : Int) (zj : List Zx) (z2 z6 : Int) (zp zd : Own) (zy : ZN zd = true) : Sim (Z3J zn zp) (Z4l zn zu zb zh zj z2 z6) (EE 69 [(.ptr 0 0)] [(Zk (Zm.mk zn zu zb zh zj (Zl.mk z2 z6)) zp zd)]) := fun _ h => Z1b h zp zd zy
def Z6V (zn : List Int) (zu zb zh : Int) (zj : List Zx) (z2 z6 : Int) : Option (Z7 × Int × Int × Int × (List Zx) × Int × Int) := pick fun r => ∀ (zp zd : Own) (zy : ZN zd = true), RRun (Z3o zn zp) (EE 91 [(.ptr 0 0)] [(Zk (Zm.mk zn zu zb zh zj (Zl.mk z2 z6)) zp zd)]) r
theorem ZeX (zn : List Int) (zu zb zh : Int) (zj : List Zx) (z2 z6 : Int) (zp zd : Own) (zy : ZN zd = true) : Sim (Z3o zn zp) (Z6V zn zu zb zh zj z2 z6) (EE 91 [(.ptr 0 0)] [(Zk (Zm.mk zn zu zb zh zj (Zl.mk z2 z6)) zp zd)]) := fun _ h => Z1b h zp zd zy
def Z5w (x3 : List Z7) (zn : List Int) (zu zb zh : Int) (zj : List Zx) (z2 z6 : Int) : Option (Z7 × Int × Int × Int × (List Zx) × Int × Int) := pick fun r => ∀ (b1 : Z7) (ox3 zp zd zI zD : Own) (hox3 : ZN ox3 = true) (zy : ZN zd = true) (z17 : ZN zI = true) (z10 : ZN zD = true), RRun (Z3o zn zp) (Zlm 1 (.ptr 0 0) (.ptr 1 0) (.p (.lst ox3 (x3.map ZS))) [(Zk (Zm.mk zn zu zb zh zj (Zl.mk z2 z6)) zp zd), (Zq b1 zI zD)]) r
theorem Zco (x3 : List Z7) (zn : List Int) (zu zb zh : Int) (zj : List Zx) (z2 z6 : Int) (b1 : Z7) (ox3 zp zd zI zD : Own) (hox3 : ZN ox3 = true) (zy : ZN zd = true) (z17 : ZN zI = true) (z10 : ZN zD = true) : Sim (Z3o zn zp) (Z5w x3 zn zu zb zh zj z2 z6) (Zlm 1 (.ptr 0 0) (.ptr 1 0) (.p (.lst ox3 (x3.map ZS))) [(Zk (Zm.mk zn zu zb zh zj (Zl.mk z2 z6)) zp zd), (Zq b1 zI zD)]) := fun _ h => Z1b h b1 ox3 zp zd zI zD hox3 zy z17 z10
def Z2D (b0 : Zm) : Option (Int) := pick fun r => ∀ (zp zd : Own) (zy : ZN zd = true), RRun (Z6n b0 zp zd) (EE 104 [(.ptr 0 0)] [(Zk b0 zp zd)]) r
theorem Z2N (b0 : Zm) (zp zd : Own) (zy : ZN zd = true) : Sim (Z6n b0 zp zd) (Z2D b0) (EE 104 [(.ptr 0 0)] [(Zk b0 zp zd)]) := fun _ h => Z1b h zp zd zy
def Zea (x0 : List Int) (x1 : Int) : Option (Int × Int) := pick fun r => ∀ (ox0 : Own), RRun (Z84) (EE 126 [(.p (.lst ox0 (x0.map (eI .u8)))), (iv x1)] []) r
theorem ZlM (x0 : List Int) (x1 : Int) (ox0 : Own) : Sim (Z84) (Zea x0 x1) (EE 126 [(.p (.lst ox0 (x0.map (eI .u8)))), (iv x1)] []) := fun _ h => Z1b h ox0
def Z92 (x0 : List Int) : Option (Int × Int) := pick fun r => ∀ (ox0 : Own), RRun (Z70) (EE 146 [(.p (.lst ox0 (x0.map (eI .u8))))] []) r
theorem ZgI (x0 : List Int) (ox0 : Own) : Sim (Z70) (Z92 x0) (EE 146 [(.p (.lst ox0 (x0.map (eI .u8))))] []) := fun _ h => Z1b h ox0
def Zb2 (x0 : Int) (x1 : List Z7) : Option (Z7) := pick fun r => ∀ (ox1 : Own), RRun (Z97) (EE 92 [(iv x0), (.p (.lst ox1 (x1.map ZS)))] []) r
theorem Zi1 (x0 : Int) (x1 : List Z7) (ox1 : Own) : Sim (Z97) (Zb2 x0 x1) (EE 92 [(iv x0), (.p (.lst ox1 (x1.map ZS)))] []) := fun _ h => Z1b h ox1
def Z9N (zn : List Int) (zu zb zh : Int) (zj : List Zx) (z2 z6 : Int) : Option (Z7 × Bool × Int × Int × Int × (List Zx) × Int × Int) := pick fun r => ∀ (zp zd : Own) (zy : ZN zd = true), RRun (Z6l zn zp) (EE 105 [(.ptr 0 0)] [(Zk (Zm.mk zn zu zb zh zj (Zl.mk z2 z6)) zp zd)]) r
theorem ZkD (zn : List Int) (zu zb zh : Int) (zj : List Zx) (z2 z6 : Int) (zp zd : Own) (zy : ZN zd = true) : Sim (Z6l zn zp) (Z9N zn zu zb zh zj z2 z6) (EE 105 [(.ptr 0 0)] [(Zk (Zm.mk zn zu zb zh zj (Zl.mk z2 z6)) zp zd)]) := fun _ h => Z1b h zp zd zy
def Z3e (zn : List Int) (zu : Int) : Option (Int × Int) := pick fun r => ∀ (zb zh : Int) (zj : List Zx) (z2 z6 : Int) (zp zd : Own) (zy : ZN zd = true), RRun (Z7F zn zb zh zj z2 z6 zp zd) (EE 127 [(.ptr 0 0)] [(Zk (Zm.mk zn zu zb zh zj (Zl.mk z2 z6)) zp zd)]) r
theorem Z3M (zn : List Int) (zu zb zh : Int) (zj : List Zx) (z2 z6 : Int) (zp zd : Own) (zy : ZN zd = true) : Sim (Z7F zn zb zh zj z2 z6 zp zd) (Z3e zn zu) (EE 127 [(.ptr 0 0)] [(Zk (Zm.mk zn zu zb zh zj (Zl.mk z2 z6)) zp zd)]) := fun _ h => Z1b h zb zh zj z2 z6 zp zd zy
def Z2u (x0 : Int) : Option (Zc) := pick fun r => RRun (ZdJ) (EE 129 [(iv x0)] []) r
theorem Z2l (x0 : Int) : Sim (ZdJ) (Z2u x0) (EE 129 [(iv x0)] []) := fun _ h => Z1b h
def Z43 (x0 : Bool) (x1 : List Zc) : Option (Z7) := pick fun r => ∀ (ox1 : Own), RRun (ZbW) (EE 128 [(bv x0), (.p (.lst ox1 (x1.map ZA)))] []) r
theorem Z4d (x0 : Bool) (x1 : List Zc) (ox1 : Own) : Sim (ZbW) (Z43 x0 x1) (EE 128 [(bv x0), (.p (.lst ox1 (x1.map ZA)))] []) := fun _ h => Z1b h ox1
def Zfs (x0 : List Zc) : Option ((List Zc) × Int) := pick fun r => ∀ (ox0 : Own), RRun (ZaQ) (EE 147 [(.p (.lst ox0 (x0.map ZA)))] []) r
theorem Zrp (x0 : List Zc) (ox0 : Own) : Sim (ZaQ) (Zfs x0) (EE 147 [(.p (.lst ox0 (x0.map ZA)))] []) := fun _ h => Z1b h ox0
def Z55 (x0 : List Zc) : Option (Bool) := pick fun r => ∀ (ox0 : Own), RRun (Z45) (EE 166 [(.p (.lst ox0 (x0.map ZA))), (.clo 167 [] [])] []) r
theorem Zdu (x0 : List Zc) (ox0 : Own) : Sim (Z45) (Z55 x0) (EE 166 [(.p (.lst ox0 (x0.map ZA))), (.clo 167 [] [])] []) := fun _ h => Z1b h ox0
def Z64 (x0 : List Zc) : Option (Int) := pick fun r => ∀ (ox0 : Own), RRun (Z2c) (EE 179 [(.p (.lst ox0 (x0.map ZA))), (.clo 167 [] [])] []) r
theorem Zfb (x0 : List Zc) (ox0 : Own) : Sim (Z2c) (Z64 x0) (EE 179 [(.p (.lst ox0 (x0.map ZA))), (.clo 167 [] [])] []) := fun _ h => Z1b h ox0
def Z4a (x0 : List Zc) (x7 x8 : Int) : Option (Int) := pick fun r => ∀ (ox0 : Own), RRun (Z2c) (ZiK 0 (.p (.lst ox0 (x0.map ZA))) (.clo 167 [] []) (iv x7) (iv x8) []) r
theorem Z8V (x0 : List Zc) (x7 x8 : Int) (ox0 : Own) : Sim (Z2c) (Z4a x0 x7 x8) (ZiK 0 (.p (.lst ox0 (x0.map ZA))) (.clo 167 [] []) (iv x7) (iv x8) []) := fun _ h => Z1b h ox0
def ZcX (x0 : Zc) : Option (Bool) := pick fun r => RRun (ZaR) (EE 167 [(.p (.agg (ZX x0)))] []) r
theorem Zpn (x0 : Zc) : Sim (ZaR) (ZcX x0) (EE 167 [(.p (.agg (ZX x0)))] []) := fun _ h => Z1b h
def Z7P (x0 : Zc) : Option (Bool) := pick fun r => RRun (Z7E) (EE 168 [(.p (.agg (ZX x0)))] []) r
theorem ZdQ (x0 : Zc) : Sim (Z7E) (Z7P x0) (EE 168 [(.p (.agg (ZX x0)))] []) := fun _ h => Z1b h
def ZcZ (x0 : List Zc) : Option (List Zc) := pick fun r => ∀ (ox0 : Own), RRun (ZcK) (EE 169 [(.p (.lst ox0 (x0.map ZA)))] []) r
theorem Zi0 (x0 : List Zc) (ox0 : Own) : Sim (ZcK) (ZcZ x0) (EE 169 [(.p (.lst ox0 (x0.map ZA)))] []) := fun _ h => Z1b h ox0
def Zaf (x0 : List Zc) : Option ((List Zc) × Int) := pick fun r => ∀ (ox0 : Own), RRun (Z8q) (EE 148 [(.p (.lst ox0 (x0.map ZA)))] []) r
theorem Zhf (x0 : List Zc) (ox0 : Own) : Sim (Z8q) (Zaf x0) (EE 148 [(.p (.lst ox0 (x0.map ZA)))] []) := fun _ h => Z1b h ox0
def Z6T (x0 : List Zc) : Option (Bool) := pick fun r => ∀ (ox0 : Own), RRun (Z2S) (EE 170 [(.p (.lst ox0 (x0.map ZA)))] []) r
theorem Zb1 (x0 : List Zc) (ox0 : Own) : Sim (Z2S) (Z6T x0) (EE 170 [(.p (.lst ox0 (x0.map ZA)))] []) := fun _ h => Z1b h ox0
def Z6U (x3 : Int) (x6 : List Zc) (x7 x8 : Int) : Option (Bool) := pick fun r => ∀ (ox6 : Own), RRun (Z2S) (ZiI 0 (iv x3) (.p (.lst ox6 (x6.map ZA))) (iv x7) (iv x8) []) r
theorem Zck (x3 : Int) (x6 : List Zc) (x7 x8 : Int) (ox6 : Own) : Sim (Z2S) (Z6U x3 x6 x7 x8) (ZiI 0 (iv x3) (.p (.lst ox6 (x6.map ZA))) (iv x7) (iv x8) []) := fun _ h => Z1b h ox6
def Zcd (x0 : List Zc) : Option (List Zc) := pick fun r => ∀ (ox0 : Own), RRun (Z3r) (EE 171 [(.p (.lst ox0 (x0.map ZA)))] []) r
theorem Zod (x0 : List Zc) (ox0 : Own) : Sim (Z3r) (Zcd x0) (EE 171 [(.p (.lst ox0 (x0.map ZA)))] []) := fun _ h => Z1b h ox0
def Z8k (x3 : List Zc) (x4 : Int) (x7 : List Zc) (x8 x9 : Int) : Option (List Zc) := pick fun r => ∀ (ox3 ox7 : Own) (hox3 : ZN ox3 = true), RRun (Z3r) (ZiJ 0 (.p (.lst ox3 (x3.map ZA))) (iv x4) (.p (.lst ox7 (x7.map ZA))) (iv x8) (iv x9) []) r
theorem ZeS (x3 : List Zc) (x4 : Int) (x7 : List Zc) (x8 x9 : Int) (ox3 ox7 : Own) (hox3 : ZN ox3 = true) : Sim (Z3r) (Z8k x3 x4 x7 x8 x9) (ZiJ 0 (.p (.lst ox3 (x3.map ZA))) (iv x4) (.p (.lst ox7 (x7.map ZA))) (iv x8) (iv x9) []) := fun _ h => Z1b h ox3 ox7 hox3
def Z4K (x1 : Int) (zn : List Int) (zu zb zh : Int) (zj : List Zx) (z2 z6 : Int) : Option (Z7 × Int × (List Zx) × Int × Int) := pick fun r => ∀ (zp zd : Own) (zy : ZN zd = true), RRun (Z3X zn zb zh zp) (EE 130 [(.ptr 0 0), (iv x1)] [(Zk (Zm.mk zn zu zb zh zj (Zl.mk z2 z6)) zp zd)]) r
theorem Zjf (x1 : Int) (zn : List Int) (zu zb zh : Int) (zj : List Zx) (z2 z6 : Int) (zp zd : Own) (zy : ZN zd = true) : Sim (Z3X zn zb zh zp) (Z4K x1 zn zu zb zh zj z2 z6) (EE 130 [(.ptr 0 0), (iv x1)] [(Zk (Zm.mk zn zu zb zh zj (Zl.mk z2 z6)) zp zd)]) := fun _ h => Z1b h zp zd zy
def Z1h (x1 x2 : Int) (zn : List Int) (z2 z6 : Int) : Option (Int × Int × Int) := pick fun r => ∀ (zu zb zh : Int) (zj : List Zx) (zp zd : Own) (zy : ZN zd = true), RRun (Z6m zn zb zh zj zp zd) (EE 70 [(.ptr 0 0), (iv x1), (iv x2)] [(Zk (Zm.mk zn zu zb zh zj (Zl.mk z2 z6)) zp zd)]) r
theorem Z1k (x1 x2 : Int) (zn : List Int) (zu zb zh : Int) (zj : List Zx) (z2 z6 : Int) (zp zd : Own) (zy : ZN zd = true) : Sim (Z6m zn zb zh zj zp zd) (Z1h x1 x2 zn z2 z6) (EE 70 [(.ptr 0 0), (iv x1), (iv x2)] [(Zk (Zm.mk zn zu zb zh zj (Zl.mk z2 z6)) zp zd)]) := fun _ h => Z1b h zu zb zh zj zp zd zy
def Z7z (x0 : Int) : Option (Own × (List Zc)) := pick fun r => RRun (Z7v) (EE 149 [(iv x0)] []) r
theorem ZbF (x0 : Int) : Sim (Z7v) (Z7z x0) (EE 149 [(iv x0)] []) := fun _ h => Z1b h
def Z7r (x1 x2 : Int) (zn : List Int) (zu zb zh : Int) (zj : List Zx) (z2 z6 : Int) : Option (Int × Int × Int × Int) := pick fun r => ∀ (zp zd : Own) (zy : ZN zd = true), RRun (Z4Q zn zb zh zj zp zd) (EE 150 [(.ptr 0 0), (iv x1), (iv x2)] [(Zk (Zm.mk zn zu zb zh zj (Zl.mk z2 z6)) zp zd)]) r
theorem Zdk (x1 x2 : Int) (zn : List Int) (zu zb zh : Int) (zj : List Zx) (z2 z6 : Int) (zp zd : Own) (zy : ZN zd = true) : Sim (Z4Q zn zb zh zj zp zd) (Z7r x1 x2 zn zu zb zh zj z2 z6) (EE 150 [(.ptr 0 0), (iv x1), (iv x2)] [(Zk (Zm.mk zn zu zb zh zj (Zl.mk z2 z6)) zp zd)]) := fun _ h => Z1b h zp zd zy
def ZdS (x0 : Int) : Option (Int) := pick fun r => RRun (Z83) (EE 172 [(iv x0)] []) r
theorem Zlv (x0 : Int) : Sim (Z83) (ZdS x0) (EE 172 [(iv x0)] []) := fun _ h => Z1b h
def Zae (x0 : List Zc) (x1 : Int) : Option (Bool) := pick fun r => ∀ (ox0 : Own), RRun (Z9Z) (EE 173 [(.p (.lst ox0 (x0.map ZA))), (iv x1)] []) r
theorem Zo9 (x0 : List Zc) (x1 : Int) (ox0 : Own) : Sim (Z9Z) (Zae x0 x1) (EE 173 [(.p (.lst ox0 (x0.map ZA))), (iv x1)] []) := fun _ h => Z1b h ox0
def Z54 (x0 : List Zc) (z1r : Int) : Option (Bool) := pick fun r => ∀ (ox0 : Own), RRun (Z44 z1r) (EE 184 [(.p (.lst ox0 (x0.map ZA))), (.clo 185 [] [(.ptr 0 0)])] [[(iv z1r)]]) r
theorem Zds (x0 : List Zc) (z1r : Int) (ox0 : Own) : Sim (Z44 z1r) (Z54 x0 z1r) (EE 184 [(.p (.lst ox0 (x0.map ZA))), (.clo 185 [] [(.ptr 0 0)])] [[(iv z1r)]]) := fun _ h => Z1b h ox0
def Z63 (x0 : List Zc) (z1r : Int) : Option (Int) := pick fun r => ∀ (ox0 : Own), RRun (Z2b z1r) (EE 191 [(.p (.lst ox0 (x0.map ZA))), (.clo 185 [] [(.ptr 0 0)])] [[(iv z1r)]]) r
theorem Zf9 (x0 : List Zc) (z1r : Int) (ox0 : Own) : Sim (Z2b z1r) (Z63 x0 z1r) (EE 191 [(.p (.lst ox0 (x0.map ZA))), (.clo 185 [] [(.ptr 0 0)])] [[(iv z1r)]]) := fun _ h => Z1b h ox0
def Z49 (x0 : List Zc) (x7 x8 z1r : Int) : Option (Int) := pick fun r => ∀ (ox0 : Own), RRun (Z2b z1r) (ZiL 1 (.p (.lst ox0 (x0.map ZA))) (.clo 185 [] [(.ptr 0 0)]) (iv x7) (iv x8) [[(iv z1r)]]) r
theorem Z8T (x0 : List Zc) (x7 x8 z1r : Int) (ox0 : Own) : Sim (Z2b z1r) (Z49 x0 x7 x8 z1r) (ZiL 1 (.p (.lst ox0 (x0.map ZA))) (.clo 185 [] [(.ptr 0 0)]) (iv x7) (iv x8) [[(iv z1r)]]) := fun _ h => Z1b h ox0
def ZaJ (x0 : Zc) (z1r : Int) : Option (Bool) := pick fun r => RRun (Z8F z1r) (EE 185 [(.p (.agg (ZX x0))), (.ptr 0 0)] [[(iv z1r)]]) r
theorem Zms (x0 : Zc) (z1r : Int) : Sim (Z8F z1r) (ZaJ x0 z1r) (EE 185 [(.p (.agg (ZX x0))), (.ptr 0 0)] [[(iv z1r)]]) := fun _ h => Z1b h
def Z91 (x1 : Int) (zn : List Int) (zu zb zh : Int) (zj : List Zx) (z2 z6 : Int) : Option (Z7 × Int × Int × Int) := pick fun r => ∀ (zp zd : Own) (zy : ZN zd = true), RRun (Z1L zn zb zh zj zp zd) (EE 131 [(.ptr 0 0), (iv x1)] [(Zk (Zm.mk zn zu zb zh zj (Zl.mk z2 z6)) zp zd)]) r
theorem ZjJ (x1 : Int) (zn : List Int) (zu zb zh : Int) (zj : List Zx) (z2 z6 : Int) (zp zd : Own) (zy : ZN zd = true) : Sim (Z1L zn zb zh zj zp zd) (Z91 x1 zn zu zb zh zj z2 z6) (EE 131 [(.ptr 0 0), (iv x1)] [(Zk (Zm.mk zn zu zb zh zj (Zl.mk z2 z6)) zp zd)]) := fun _ h => Z1b h zp zd zy
def Z4b (x1 : Int) (x5 : Bool) (x8 : Int) (zn : List Int) (zu zb zh : Int) (zj : List Zx) (z2 z6 : Int) (z11 : List Zc) : Option (Z7 × Int × Int × Int) := pick fun r => ∀ (b1 : Z7) (zp zd zI zD z1U : Own) (zy : ZN zd = true) (z17 : ZN zI = true) (z10 : ZN zD = true), RRun (Z1L zn zb zh zj zp zd) (ZiC 1 (.ptr 0 0) (iv x1) (.ptr 1 0) (bv x5) (.ptr 2 0) (.clo 151 [] [(.ptr 2 0)]) (iv x8) [(Zk (Zm.mk zn zu zb zh zj (Zl.mk z2 z6)) zp zd), (Zq b1 zI zD), [(.p (.lst z1U (z11.map ZA)))]]) r
theorem ZbP (x1 : Int) (x5 : Bool) (x8 : Int) (zn : List Int) (zu zb zh : Int) (zj : List Zx) (z2 z6 : Int) (b1 : Z7) (z11 : List Zc) (zp zd zI zD z1U : Own) (zy : ZN zd = true) (z17 : ZN zI = true) (z10 : ZN zD = true) : Sim (Z1L zn zb zh zj zp zd) (Z4b x1 x5 x8 zn zu zb zh zj z2 z6 z11) (ZiC 1 (.ptr 0 0) (iv x1) (.ptr 1 0) (bv x5) (.ptr 2 0) (.clo 151 [] [(.ptr 2 0)]) (iv x8) [(Zk (Zm.mk zn zu zb zh zj (Zl.mk z2 z6)) zp zd), (Zq b1 zI zD), [(.p (.lst z1U (z11.map ZA)))]]) := fun _ h => Z1b h b1 zp zd zI zD z1U zy z17 z10
def Z5x (zn : List Int) (zu zb zh : Int) (zj : List Zx) (z2 z6 : Int) : Option (Int × (Own × (List Zc)) × Bool × Int × Int × Int) := pick fun r => ∀ (zp zd : Own) (zy : ZN zd = true), RRun (Z3Y zn zb zh zj zp zd) (EE 153 [(.ptr 0 0)] [(Zk (Zm.mk zn zu zb zh zj (Zl.mk z2 z6)) zp zd)]) r
theorem Zcr (zn : List Int) (zu zb zh : Int) (zj : List Zx) (z2 z6 : Int) (zp zd : Own) (zy : ZN zd = true) : Sim (Z3Y zn zb zh zj zp zd) (Z5x zn zu zb zh zj z2 z6) (EE 153 [(.ptr 0 0)] [(Zk (Zm.mk zn zu zb zh zj (Zl.mk z2 z6)) zp zd)]) := fun _ h => Z1b h zp zd zy
def Z6r (x0 z1r : List Zc) : Option (List Zc) := pick fun r => ∀ (ox0 zh1 : Own), RRun (Z6q) (EE 151 [(.p (.lst ox0 (x0.map ZA))), (.ptr 0 0)] [[(.p (.lst zh1 (z1r.map ZA)))]]) r
theorem Zce (x0 z1r : List Zc) (ox0 zh1 : Own) : Sim (Z6q) (Z6r x0 z1r) (EE 151 [(.p (.lst ox0 (x0.map ZA))), (.ptr 0 0)] [[(.p (.lst zh1 (z1r.map ZA)))]]) := fun _ h => Z1b h ox0 zh1
def ZcY (x0 x1 : List Zc) : Option ((List Zc) × Int) := pick fun r => ∀ (ox0 ox1 : Own), RRun (Z7T) (EE 152 [(.p (.lst ox0 (x0.map ZA))), (.p (.lst ox1 (x1.map ZA)))] []) r
theorem Zpp (x0 x1 : List Zc) (ox0 ox1 : Own) : Sim (Z7T) (ZcY x0 x1) (EE 152 [(.p (.lst ox0 (x0.map ZA))), (.p (.lst ox1 (x1.map ZA)))] []) := fun _ h => Z1b h ox0 ox1
def Zba (x0 : List (List Zc)) : Option (List Zc) := pick fun r => ∀ (ox0 : Own), RRun (Z8r) (EE 174 [(.p (.lst ox0 (x0.map (eL ZA))))] []) r
theorem Zjn (x0 : List (List Zc)) (ox0 : Own) : Sim (Z8r) (Zba x0) (EE 174 [(.p (.lst ox0 (x0.map (eL ZA))))] []) := fun _ h => Z1b h ox0
def Z4U (x1 : Int) (zn : List Int) (zu zb zh : Int) (zj : List Zx) (z2 z6 : Int) : Option (Z7 × Bool × Int × Int × Int × (List Zx) × Int × Int) := pick fun r => ∀ (zp zd : Own) (zy : ZN zd = true), RRun (Z3k zn zp) (EE 132 [(.ptr 0 0), (iv x1)] [(Zk (Zm.mk zn zu zb zh zj (Zl.mk z2 z6)) zp zd)]) r
theorem ZjL (x1 : Int) (zn : List Int) (zu zb zh : Int) (zj : List Zx) (z2 z6 : Int) (zp zd : Own) (zy : ZN zd = true) : Sim (Z3k zn zp) (Z4U x1 zn zu zb zh zj z2 z6) (EE 132 [(.ptr 0 0), (iv x1)] [(Zk (Zm.mk zn zu zb zh zj (Zl.mk z2 z6)) zp zd)]) := fun _ h => Z1b h zp zd zy
def Zek  : Option (List ByteArray) := pick fun r => RRun (ZbK) (EE 155 [] []) r
theorem Zqn  : Sim (ZbK) (Zek) (EE 155 [] []) := fun _ h => Z1b h
def Z5F (x0 : List ByteArray) (zn : List Int) (zu : Int) : Option (Int × Int) := pick fun r => ∀ (zb zh : Int) (zj : List Zx) (z2 z6 : Int) (ox0 zp zd : Own) (zy : ZN zd = true), RRun (Z25 zn zb zh zj z2 z6 zp zd) (EE 154 [(.p (.lst ox0 (x0.map eS))), (.clo 68 [(.ptr 0 0)] [])] [(Zk (Zm.mk zn zu zb zh zj (Zl.mk z2 z6)) zp zd)]) r
theorem ZeF (x0 : List ByteArray) (zn : List Int) (zu zb zh : Int) (zj : List Zx) (z2 z6 : Int) (ox0 zp zd : Own) (zy : ZN zd = true) : Sim (Z25 zn zb zh zj z2 z6 zp zd) (Z5F x0 zn zu) (EE 154 [(.p (.lst ox0 (x0.map eS))), (.clo 68 [(.ptr 0 0)] [])] [(Zk (Zm.mk zn zu zb zh zj (Zl.mk z2 z6)) zp zd)]) := fun _ h => Z1b h zb zh zj z2 z6 ox0 zp zd zy
def Z2m (x0 : List ByteArray) (x7 x8 : Int) (zn : List Int) (zu : Int) : Option (Int × Int) := pick fun r => ∀ (zb zh : Int) (zj : List Zx) (z2 z6 : Int) (ox0 zp zd : Own) (zy : ZN zd = true), RRun (Z25 zn zb zh zj z2 z6 zp zd) (ZiG 1 (.p (.lst ox0 (x0.map eS))) (.clo 68 [(.ptr 0 0)] []) (iv x7) (iv x8) [(Zk (Zm.mk zn zu zb zh zj (Zl.mk z2 z6)) zp zd)]) r
theorem Z8B (x0 : List ByteArray) (x7 x8 : Int) (zn : List Int) (zu zb zh : Int) (zj : List Zx) (z2 z6 : Int) (ox0 zp zd : Own) (zy : ZN zd = true) : Sim (Z25 zn zb zh zj z2 z6 zp zd) (Z2m x0 x7 x8 zn zu) (ZiG 1 (.p (.lst ox0 (x0.map eS))) (.clo 68 [(.ptr 0 0)] []) (iv x7) (iv x8) [(Zk (Zm.mk zn zu zb zh zj (Zl.mk z2 z6)) zp zd)]) := fun _ h => Z1b h zb zh zj z2 z6 ox0 zp zd zy
def Z6X (x1 : Z7) (x2 : Bool) (zn : List Int) (zu zb zh : Int) (zj : List Zx) (z2 z6 : Int) : Option (Z7 × Int × Int × Int) := pick fun r => ∀ (z3j z2R zp zd : Own) (zy : ZN zd = true), RRun (Z3Z zn zb zh zj zp zd) (EE 106 [(.ptr 0 0), (.p (.agg (ZG x1 z3j z2R))), (bv x2)] [(Zk (Zm.mk zn zu zb zh zj (Zl.mk z2 z6)) zp zd)]) r
theorem Zjj (x1 : Z7) (x2 : Bool) (zn : List Int) (zu zb zh : Int) (zj : List Zx) (z2 z6 : Int) (z3j z2R zp zd : Own) (zy : ZN zd = true) : Sim (Z3Z zn zb zh zj zp zd) (Z6X x1 x2 zn zu zb zh zj z2 z6) (EE 106 [(.ptr 0 0), (.p (.agg (ZG x1 z3j z2R))), (bv x2)] [(Zk (Zm.mk zn zu zb zh zj (Zl.mk z2 z6)) zp zd)]) := fun _ h => Z1b h z3j z2R zp zd zy
def Z6W (x1 : Int) (zn : List Int) (zu zb zh : Int) (zj : List Zx) (z2 z6 : Int) : Option (Int × Int × Int × Int × Int) := pick fun r => ∀ (zp zd : Own) (zy : ZN zd = true), RRun (Z2U zn zb zh zj zp zd) (EE 133 [(.ptr 0 0), (iv x1)] [(Zk (Zm.mk zn zu zb zh zj (Zl.mk z2 z6)) zp zd)]) r
theorem Zjd (x1 : Int) (zn : List Int) (zu zb zh : Int) (zj : List Zx) (z2 z6 : Int) (zp zd : Own) (zy : ZN zd = true) : Sim (Z2U zn zb zh zj zp zd) (Z6W x1 zn zu zb zh zj z2 z6) (EE 133 [(.ptr 0 0), (iv x1)] [(Zk (Zm.mk zn zu zb zh zj (Zl.mk z2 z6)) zp zd)]) := fun _ h => Z1b h zp zd zy
def Z5y (zn : List Int) (zu zb zh : Int) (zj : List Zx) (z2 z6 : Int) : Option (Int × Int) := pick fun r => ∀ (zp zd : Own) (zy : ZN zd = true), RRun (Z3b zn zb zh zj z2 z6 zp zd) (EE 156 [(.ptr 0 0)] [(Zk (Zm.mk zn zu zb zh zj (Zl.mk z2 z6)) zp zd)]) r
theorem Zcs (zn : List Int) (zu zb zh : Int) (zj : List Zx) (z2 z6 : Int) (zp zd : Own) (zy : ZN zd = true) : Sim (Z3b zn zb zh zj z2 z6 zp zd) (Z5y zn zu zb zh zj z2 z6) (EE 156 [(.ptr 0 0)] [(Zk (Zm.mk zn zu zb zh zj (Zl.mk z2 z6)) zp zd)]) := fun _ h => Z1b h zp zd zy
def Z3U (x3 x4 : Int) (zn : List Int) (zu zb zh : Int) (zj : List Zx) (z2 z6 : Int) : Option (Int × Int) := pick fun r => ∀ (zp zd : Own) (zy : ZN zd = true), RRun (Z3b zn zb zh zj z2 z6 zp zd) (ZiH 1 (.ptr 0 0) (iv x3) (iv x4) [(Zk (Zm.mk zn zu zb zh zj (Zl.mk z2 z6)) zp zd)]) r
theorem Zbf (x3 x4 : Int) (zn : List Int) (zu zb zh : Int) (zj : List Zx) (z2 z6 : Int) (zp zd : Own) (zy : ZN zd = true) : Sim (Z3b zn zb zh zj z2 z6 zp zd) (Z3U x3 x4 zn zu zb zh zj z2 z6) (ZiH 1 (.ptr 0 0) (iv x3) (iv x4) [(Zk (Zm.mk zn zu zb zh zj (Zl.mk z2 z6)) zp zd)]) := fun _ h => Z1b h zp zd zy
def Z5v (x3 : List Z7) (zn : List Int) (zu zb zh : Int) (zj : List Zx) (z2 z6 : Int) : Option (Z7 × Int × Int × Int × (List Zx) × Int × Int) := pick fun r => ∀ (b1 : Z7) (ox3 zp zd zI zD : Own) (hox3 : ZN ox3 = true) (zy : ZN zd = true) (z17 : ZN zI = true) (z10 : ZN zD = true), RRun (Z3J zn zp) (Zli 1 (.ptr 0 0) (.ptr 1 0) (.p (.lst ox3 (x3.map ZS))) [(Zk (Zm.mk zn zu zb zh zj (Zl.mk z2 z6)) zp zd), (Zq b1 zI zD)]) r
theorem Zcm (x3 : List Z7) (zn : List Int) (zu zb zh : Int) (zj : List Zx) (z2 z6 : Int) (b1 : Z7) (ox3 zp zd zI zD : Own) (hox3 : ZN ox3 = true) (zy : ZN zd = true) (z17 : ZN zI = true) (z10 : ZN zD = true) : Sim (Z3J zn zp) (Z5v x3 zn zu zb zh zj z2 z6) (Zli 1 (.ptr 0 0) (.ptr 1 0) (.p (.lst ox3 (x3.map ZS))) [(Zk (Zm.mk zn zu zb zh zj (Zl.mk z2 z6)) zp zd), (Zq b1 zI zD)]) := fun _ h => Z1b h b1 ox3 zp zd zI zD hox3 zy z17 z10
def Z7W (x50 : List Zx) (x51 x52 : Int) (z2Y : List Int) (z1c zZ z1g z13 z1j z1i z14 z15 : Int) (z16 : List Zc) (z12 : List Z7) (z1B : Bool) : Option (ZT × Zl) := pick fun r => ∀ (b0 : ZT) (b1 : Zl) (z2P z2v : Int) (z1Y : List Zx) (z2i : Int) (ox50 z1m z1f z3x z1I z1w z1t : Own) (z2r : ZN z1m = true) (z2d : ZN z1f = true) (z3N : ZN z1I = true), RRun (Z3y) (Zlh 0 (.ptr 0 0) (.ptr 1 0) (.ptr 2 0) (.ptr 3 0) (.p (.lst ox50 (x50.map Z2K))) (iv x51) (iv x52) [(ZU b0 z1m z1f), (Z1z b1), (Zk (Zm.mk z2Y z2P z1c z2v z1Y (Zl.mk zZ z1g)) z3x z1I), (ZU (ZT.mk (Z7.mk z13 z1j z1i z14 z15 z16 z12) z2i z1B) z1w z1t)]) r
theorem Zg0 (x50 : List Zx) (x51 x52 : Int) (b0 : ZT) (b1 : Zl) (z2Y : List Int) (z2P z1c z2v : Int) (z1Y : List Zx) (zZ z1g z13 z1j z1i z14 z15 : Int) (z16 : List Zc) (z12 : List Z7) (z2i : Int) (z1B : Bool) (ox50 z1m z1f z3x z1I z1w z1t : Own) (z2r : ZN z1m = true) (z2d : ZN z1f = true) (z3N : ZN z1I = true) : Sim (Z3y) (Z7W x50 x51 x52 z2Y z1c zZ z1g z13 z1j z1i z14 z15 z16 z12 z1B) (Zlh 0 (.ptr 0 0) (.ptr 1 0) (.ptr 2 0) (.ptr 3 0) (.p (.lst ox50 (x50.map Z2K))) (iv x51) (iv x52) [(ZU b0 z1m z1f), (Z1z b1), (Zk (Zm.mk z2Y z2P z1c z2v z1Y (Zl.mk zZ z1g)) z3x z1I), (ZU (ZT.mk (Z7.mk z13 z1j z1i z14 z15 z16 z12) z2i z1B) z1w z1t)]) := fun _ h => Z1b h b0 b1 z2P z2v z1Y z2i ox50 z1m z1f z3x z1I z1w z1t z2r z2d z3N
def Zem (x0 : ZT) : Option (Int) := pick fun r => ∀ (z3W z3B : Own), RRun (Z9U) (EE 48 [(.p (.agg (Z33 x0 z3W z3B)))] []) r
theorem Zqt (x0 : ZT) (z3W z3B : Own) : Sim (Z9U) (Zem x0) (EE 48 [(.p (.agg (Z33 x0 z3W z3B)))] []) := fun _ h => Z1b h z3W z3B
def Z4m (x0 : Z7) : Option (Bool) := pick fun r => ∀ (z1S z1u : Own), RRun (Z6c) (EE 71 [(.p (.agg (ZG x0 z1S z1u)))] []) r
theorem Zhs (x0 : Z7) (z1S z1u : Own) : Sim (Z6c) (Z4m x0) (EE 71 [(.p (.agg (ZG x0 z1S z1u)))] []) := fun _ h => Z1b h z1S z1u
def Z3z (x0 : Z7) : Option (Int × Int) := pick fun r => ∀ (z1S z1u : Own), RRun (Z3a) (EE 93 [(.p (.agg (ZG x0 z1S z1u)))] []) r
theorem Z80 (x0 : Z7) (z1S z1u : Own) : Sim (Z3a) (Z3z x0) (EE 93 [(.p (.agg (ZG x0 z1S z1u)))] []) := fun _ h => Z1b h z1S z1u
def Z9t (x2 x3 : Int) (x23 : List Z7) (x24 x25 : Int) : Option (Int × Int) := pick fun r => ∀ (ox23 : Own), RRun (Z3a) (Zlo 0 (iv x2) (iv x3) (.p (.lst ox23 (x23.map ZS))) (iv x24) (iv x25) []) r
theorem Zgc (x2 x3 : Int) (x23 : List Z7) (x24 x25 : Int) (ox23 : Own) : Sim (Z3a) (Z9t x2 x3 x23 x24 x25) (Zlo 0 (iv x2) (iv x3) (.p (.lst ox23 (x23.map ZS))) (iv x24) (iv x25) []) := fun _ h => Z1b h ox23
def Z8S (x2 x3 : Int) (x45 : List Z7) (x46 x47 : Int) : Option (Int × Int) := pick fun r => ∀ (ox45 : Own), RRun (Z3a) (ZiR 0 (iv x2) (iv x3) (.p (.lst ox45 (x45.map ZS))) (iv x46) (iv x47) []) r
theorem Zfx (x2 x3 : Int) (x45 : List Z7) (x46 x47 : Int) (ox45 : Own) : Sim (Z3a) (Z8S x2 x3 x45 x46 x47) (ZiR 0 (iv x2) (iv x3) (.p (.lst ox45 (x45.map ZS))) (iv x46) (iv x47) []) := fun _ h => Z1b h ox45
def ZbS (x0 x1 : Int) : Option (Int) := pick fun r => RRun (Z6y) (EE 108 [(iv x0), (iv x1)] []) r
theorem Zqy (x0 x1 : Int) : Sim (Z6y) (ZbS x0 x1) (EE 108 [(iv x0), (iv x1)] []) := fun _ h => Z1b h
def Zcw (x0 : Int) : Option (Int) := pick fun r => RRun (ZaT) (EE 134 [(iv x0)] []) r
theorem Zk9 (x0 : Int) : Sim (ZaT) (Zcw x0) (EE 134 [(iv x0)] []) := fun _ h => Z1b h
def ZgZ (x0 x1 : Int) : Option (Int) := pick fun r => RRun (Zam) (EE 107 [(iv x0), (iv x1)] []) r
theorem ZtK (x0 x1 : Int) : Sim (Zam) (ZgZ x0 x1) (EE 107 [(iv x0), (iv x1)] []) := fun _ h => Z1b h
def Z5o (x0 : List Z7) : Option (Bool) := pick fun r => ∀ (ox0 : Own), RRun (Z4e) (EE 94 [(.p (.lst ox0 (x0.map ZS))), (.clo 95 [] [])] []) r
theorem ZdZ (x0 : List Z7) (ox0 : Own) : Sim (Z4e) (Z5o x0) (EE 94 [(.p (.lst ox0 (x0.map ZS))), (.clo 95 [] [])] []) := fun _ h => Z1b h ox0
def Z6h (x0 : List Z7) : Option (Int) := pick fun r => ∀ (ox0 : Own), RRun (Z2f) (EE 109 [(.p (.lst ox0 (x0.map ZS))), (.clo 95 [] [])] []) r
theorem ZfB (x0 : List Z7) (ox0 : Own) : Sim (Z2f) (Z6h x0) (EE 109 [(.p (.lst ox0 (x0.map ZS))), (.clo 95 [] [])] []) := fun _ h => Z1b h ox0
def Z4n (x0 : List Z7) (x7 x8 : Int) : Option (Int) := pick fun r => ∀ (ox0 : Own), RRun (Z2f) (ZiA 0 (.p (.lst ox0 (x0.map ZS))) (.clo 95 [] []) (iv x7) (iv x8) []) r
theorem Z94 (x0 : List Z7) (x7 x8 : Int) (ox0 : Own) : Sim (Z2f) (Z4n x0 x7 x8) (ZiA 0 (.p (.lst ox0 (x0.map ZS))) (.clo 95 [] []) (iv x7) (iv x8) []) := fun _ h => Z1b h ox0
def ZaN (x0 : Z7) : Option (Bool) := pick fun r => ∀ (z1S z1u : Own), RRun (Z8K) (EE 95 [(.p (.agg (ZG x0 z1S z1u)))] []) r
theorem Zn4 (x0 : Z7) (z1S z1u : Own) : Sim (Z8K) (ZaN x0) (EE 95 [(.p (.agg (ZG x0 z1S z1u)))] []) := fun _ h => Z1b h z1S z1u
def Z5R (x0 : Z7) : Option (Int) := pick fun r => ∀ (z1S z1u : Own), RRun (Z4W) (EE 72 [(.p (.agg (ZG x0 z1S z1u)))] []) r
theorem Zk8 (x0 : Z7) (z1S z1u : Own) : Sim (Z4W) (Z5R x0) (EE 72 [(.p (.agg (ZG x0 z1S z1u)))] []) := fun _ h => Z1b h z1S z1u
def Z6g (x3 : Int) (x8 : List Z7) (x9 x10 : Int) (b0 : Z7) : Option (Int) := pick fun r => ∀ (ox8 z1R z1y : Own), RRun (Z4W) (Zlk 0 (.ptr 0 0) (iv x3) (.p (.lst ox8 (x8.map ZS))) (iv x9) (iv x10) [(Zq b0 z1R z1y)]) r
theorem Zhr (x3 : Int) (x8 : List Z7) (x9 x10 : Int) (b0 : Z7) (ox8 z1R z1y : Own) : Sim (Z4W) (Z6g x3 x8 x9 x10 b0) (Zlk 0 (.ptr 0 0) (iv x3) (.p (.lst ox8 (x8.map ZS))) (iv x9) (iv x10) [(Zq b0 z1R z1y)]) := fun _ h => Z1b h ox8 z1R z1y
def Z7t (x0 : Zz) : Option (ZJ) := pick fun r => ∀ (zW : Own), RRun (Z3R) (EE 16 [(.p (.agg (Z1e x0 zW)))] []) r
theorem Zah (x0 : Zz) (zW : Own) : Sim (Z3R) (Z7t x0) (EE 16 [(.p (.agg (Z1e x0 zW)))] []) := fun _ h => Z1b h zW
def Z9s (x0 : Zz) : Option (Bool) := pick fun r => ∀ (zW : Own), RRun (Z2Q) (EE 20 [(.p (.agg (Z1e x0 zW)))] []) r
theorem Zga (x0 : Zz) (zW : Own) : Sim (Z2Q) (Z9s x0) (EE 20 [(.p (.agg (Z1e x0 zW)))] []) := fun _ h => Z1b h zW
def Z7R (x0 : Zz) : Option (Bool) := pick fun r => ∀ (zW : Own), RRun (Z7G) (EE 46 [(.p (.agg (Z1e x0 zW)))] []) r
theorem ZdW (x0 : Zz) (zW : Own) : Sim (Z7G) (Z7R x0) (EE 46 [(.p (.agg (Z1e x0 zW)))] []) := fun _ h => Z1b h zW
def Z7Q (x3 : Int) (x16 : List Zw) (x17 x18 : Int) : Option (Bool) := pick fun r => ∀ (ox16 : Own), RRun (Z2Q) (Zlg 0 (iv x3) (.p (.lst ox16 (x16.map ZC))) (iv x17) (iv x18) []) r
theorem ZdV (x3 : Int) (x16 : List Zw) (x17 x18 : Int) (ox16 : Own) : Sim (Z2Q) (Z7Q x3 x16 x17 x18) (Zlg 0 (iv x3) (.p (.lst ox16 (x16.map ZC))) (iv x17) (iv x18) []) := fun _ h => Z1b h ox16
def Z8R (x0 : Zw) : Option (Bool) := pick fun r => RRun (Z8G) (EE 27 [(.p (.agg (Z1J x0)))] []) r
theorem Zft (x0 : Zw) : Sim (Z8G) (Z8R x0) (EE 27 [(.p (.agg (Z1J x0)))] []) := fun _ h => Z1b h
def Z8n (x11 : List Zw) (x12 x13 : Int) : Option (ZJ) := pick fun r => ∀ (b0 : Zz) (b1 : ZJ) (ox11 zB : Own), RRun (Z3R) (Zld 0 (.ptr 1 0) (.p (.lst ox11 (x11.map ZC))) (iv x12) (iv x13) [(Zv b0 zB), (ZR b1)]) r
theorem Zf1 (x11 : List Zw) (x12 x13 : Int) (b0 : Zz) (b1 : ZJ) (ox11 zB : Own) : Sim (Z3R) (Z8n x11 x12 x13) (Zld 0 (.ptr 1 0) (.p (.lst ox11 (x11.map ZC))) (iv x12) (iv x13) [(Zv b0 zB), (ZR b1)]) := fun _ h => Z1b h b0 b1 ox11 zB
def Z8z (x0 : Zz) (x1 : ZL) : Option (Bool) := pick fun r => ∀ (zW z1H z1E : Own), RRun (Z1X) (EE 15 [(.p (.agg (Z1e x0 zW))), (.p (.agg (Z2J x1 z1H z1E)))] []) r
theorem Zj9 (x0 : Zz) (x1 : ZL) (zW z1H z1E : Own) : Sim (Z1X) (Z8z x0 x1) (EE 15 [(.p (.agg (Z1e x0 zW))), (.p (.agg (Z2J x1 z1H z1E)))] []) := fun _ h => Z1b h zW z1H z1E
def Z3q (x13 : S91) (x14 : Int) (b1 : ZL) : Option (Bool) := pick fun r => ∀ (b0 : Zz) (z2F z2G zB zP zH : Own), RRun (Z1X) (Zlb 0 (.ptr 1 0) (.p (.agg (Zen x13 z2F z2G))) (iv x14) [(Zv b0 zB), (ZE b1 zP zH)]) r
theorem Zbd (x13 : S91) (x14 : Int) (b0 : Zz) (b1 : ZL) (z2F z2G zB zP zH : Own) : Sim (Z1X) (Z3q x13 x14 b1) (Zlb 0 (.ptr 1 0) (.p (.agg (Zen x13 z2F z2G))) (iv x14) [(Zv b0 zB), (ZE b1 zP zH)]) := fun _ h => Z1b h b0 z2F z2G zB zP zH
def Z5P (x13 : S91) (x14 : Int) (x20 : List Zw) (x21 x22 : Int) (b1 : ZL) : Option (Bool) := pick fun r => ∀ (b0 : Zz) (z2F z2G ox20 zB zP zH : Own), RRun (Z1X) (Zlc 0 (.ptr 1 0) (.p (.agg (Zen x13 z2F z2G))) (iv x14) (.p (.lst ox20 (x20.map ZC))) (iv x21) (iv x22) [(Zv b0 zB), (ZE b1 zP zH)]) r
theorem Zbe (x13 : S91) (x14 : Int) (x20 : List Zw) (x21 x22 : Int) (b0 : Zz) (b1 : ZL) (z2F z2G ox20 zB zP zH : Own) : Sim (Z1X) (Z5P x13 x14 x20 x21 x22 b1) (Zlc 0 (.ptr 1 0) (.p (.agg (Zen x13 z2F z2G))) (iv x14) (.p (.lst ox20 (x20.map ZC))) (iv x21) (iv x22) [(Zv b0 zB), (ZE b1 zP zH)]) := fun _ h => Z1b h b0 z2F z2G ox20 zB zP zH
def ZbG (x0 : Zz) (x1 : ZL) : Option (Zz × ZJ) := pick fun r => ∀ (zW z1H z1E : Own), RRun (Z6C) (EE 23 [(.p (.agg (Z1e x0 zW))), (.p (.agg (Z2J x1 z1H z1E)))] []) r
theorem ZnV (x0 : Zz) (x1 : ZL) (zW z1H z1E : Own) : Sim (Z6C) (ZbG x0 x1) (EE 23 [(.p (.agg (Z1e x0 zW))), (.p (.agg (Z2J x1 z1H z1E)))] []) := fun _ h => Z1b h zW z1H z1E
def Zb7 (x0 : Zz) (x1 : ZL) : Option (Zz × Int) := pick fun r => ∀ (zW z1H z1E : Own), RRun (Z1P) (EE 22 [(.p (.agg (Z1e x0 zW))), (.p (.agg (Z2J x1 z1H z1E)))] []) r
theorem Zk6 (x0 : Zz) (x1 : ZL) (zW z1H z1E : Own) : Sim (Z1P) (Zb7 x0 x1) (EE 22 [(.p (.agg (Z1e x0 zW))), (.p (.agg (Z2J x1 z1H z1E)))] []) := fun _ h => Z1b h zW z1H z1E
def Zel (x1 z18 : Int) : Option (Int) := pick fun r => ∀ (z1l z1x z1s : Int) (z1p : List Zw) (zB : Own), RRun (ZbL z1l z1x z1s z1p zB) (EE 49 [(.ptr 0 0), (iv x1)] [(Zv (Zz.mk z18 z1l z1x z1s z1p) zB)]) r
theorem Zqr (x1 z18 z1l z1x z1s : Int) (z1p : List Zw) (zB : Own) : Sim (ZbL z1l z1x z1s z1p zB) (Zel x1 z18) (EE 49 [(.ptr 0 0), (iv x1)] [(Zv (Zz.mk z18 z1l z1x z1s z1p) zB)]) := fun _ h => Z1b h z1l z1x z1s z1p zB
def ZaM (x1 z1l : Int) : Option (Int) := pick fun r => ∀ (z18 z1x z1s : Int) (z1p : List Zw) (zB : Own), RRun (Z8J z18 z1x z1s z1p zB) (EE 49 [(.ptr 0 1), (iv x1)] [(Zv (Zz.mk z18 z1l z1x z1s z1p) zB)]) r
theorem ZmZ (x1 z18 z1l z1x z1s : Int) (z1p : List Zw) (zB : Own) : Sim (Z8J z18 z1x z1s z1p zB) (ZaM x1 z1l) (EE 49 [(.ptr 0 1), (iv x1)] [(Zv (Zz.mk z18 z1l z1x z1s z1p) zB)]) := fun _ h => Z1b h z18 z1x z1s z1p zB
def ZaL (x1 z1x : Int) : Option (Int) := pick fun r => ∀ (z18 z1l z1s : Int) (z1p : List Zw) (zB : Own), RRun (Z8I z18 z1l z1s z1p zB) (EE 49 [(.ptr 0 2), (iv x1)] [(Zv (Zz.mk z18 z1l z1x z1s z1p) zB)]) r
theorem ZmX (x1 z18 z1l z1x z1s : Int) (z1p : List Zw) (zB : Own) : Sim (Z8I z18 z1l z1s z1p zB) (ZaL x1 z1x) (EE 49 [(.ptr 0 2), (iv x1)] [(Zv (Zz.mk z18 z1l z1x z1s z1p) zB)]) := fun _ h => Z1b h z18 z1l z1s z1p zB
def ZaK (x1 z1s : Int) : Option (Int) := pick fun r => ∀ (z18 z1l z1x : Int) (z1p : List Zw) (zB : Own), RRun (Z8H z18 z1l z1x z1p zB) (EE 49 [(.ptr 0 3), (iv x1)] [(Zv (Zz.mk z18 z1l z1x z1s z1p) zB)]) r
theorem ZmV (x1 z18 z1l z1x z1s : Int) (z1p : List Zw) (zB : Own) : Sim (Z8H z18 z1l z1x z1p zB) (ZaK x1 z1s) (EE 49 [(.ptr 0 3), (iv x1)] [(Zv (Zz.mk z18 z1l z1x z1s z1p) zB)]) := fun _ h => Z1b h z18 z1l z1x z1p zB
def Z9O (x0 : List Zw) : Option (Bool) := pick fun r => ∀ (ox0 : Own), RRun (Z7H) (EE 50 [(.p (.lst ox0 (x0.map ZC))), (.clo 27 [] [])] []) r
theorem ZkM (x0 : List Zw) (ox0 : Own) : Sim (Z7H) (Z9O x0) (EE 50 [(.p (.lst ox0 (x0.map ZC))), (.clo 27 [] [])] []) := fun _ h => Z1b h ox0
def Z5p (x0 : List Zw) : Option (Bool) := pick fun r => ∀ (ox0 : Own), RRun (Z4f) (EE 57 [(.p (.lst ox0 (x0.map ZC))), (.clo 73 [] [(.ptr 0 0)])] [[(.clo 27 [] [])]]) r
theorem Ze1 (x0 : List Zw) (ox0 : Own) : Sim (Z4f) (Z5p x0) (EE 57 [(.p (.lst ox0 (x0.map ZC))), (.clo 73 [] [(.ptr 0 0)])] [[(.clo 27 [] [])]]) := fun _ h => Z1b h ox0
def Z6i (x0 : List Zw) : Option (Int) := pick fun r => ∀ (ox0 : Own), RRun (Z2g) (EE 83 [(.p (.lst ox0 (x0.map ZC))), (.clo 73 [] [(.ptr 0 0)])] [[(.clo 27 [] [])]]) r
theorem ZfD (x0 : List Zw) (ox0 : Own) : Sim (Z2g) (Z6i x0) (EE 83 [(.p (.lst ox0 (x0.map ZC))), (.clo 73 [] [(.ptr 0 0)])] [[(.clo 27 [] [])]]) := fun _ h => Z1b h ox0
def Z4o (x0 : List Zw) (x7 x8 : Int) : Option (Int) := pick fun r => ∀ (ox0 : Own), RRun (Z2g) (Zfr 1 (.p (.lst ox0 (x0.map ZC))) (.clo 73 [] [(.ptr 0 0)]) (iv x7) (iv x8) [[(.clo 27 [] [])]]) r
theorem Z95 (x0 : List Zw) (x7 x8 : Int) (ox0 : Own) : Sim (Z2g) (Z4o x0 x7 x8) (Zfr 1 (.p (.lst ox0 (x0.map ZC))) (.clo 73 [] [(.ptr 0 0)]) (iv x7) (iv x8) [[(.clo 27 [] [])]]) := fun _ h => Z1b h ox0
def Z6Y (x0 : Zw) : Option (Bool) := pick fun r => RRun (Z6J) (EE 73 [(.p (.agg (Z1J x0))), (.ptr 0 0)] [[(.clo 27 [] [])]]) r
theorem Zjm (x0 : Zw) : Sim (Z6J) (Z6Y x0) (EE 73 [(.p (.agg (Z1J x0))), (.ptr 0 0)] [[(.clo 27 [] [])]]) := fun _ h => Z1b h
def Zag (x0 : ZL) : Option (Bool) := pick fun r => ∀ (z67 z4V : Own), RRun (Z8e) (EE 51 [(.p (.agg (Z2J x0 z67 z4V)))] []) r
theorem Zlz (x0 : ZL) (z67 z4V : Own) : Sim (Z8e) (Zag x0) (EE 51 [(.p (.agg (Z2J x0 z67 z4V)))] []) := fun _ h => Z1b h z67 z4V
def Z5q (x0 : List Zw) (z11 : List (Int × Bool)) : Option (Bool × (List (Int × Bool))) := pick fun r => ∀ (ox0 : Own), RRun (Z4g) (EE 57 [(.p (.lst ox0 (x0.map ZC))), (.clo 75 [] [(.ptr 0 0)])] [[(.clo 74 [] [(.ptr 1 0)])], [(.mp 2)], [(.md ((z11).map (encM eB)))]]) r
theorem Ze3 (x0 : List Zw) (z11 : List (Int × Bool)) (ox0 : Own) : Sim (Z4g) (Z5q x0 z11) (EE 57 [(.p (.lst ox0 (x0.map ZC))), (.clo 75 [] [(.ptr 0 0)])] [[(.clo 74 [] [(.ptr 1 0)])], [(.mp 2)], [(.md ((z11).map (encM eB)))]]) := fun _ h => Z1b h ox0
def Z6j (x0 : List Zw) (z11 : List (Int × Bool)) : Option (Int × (List (Int × Bool))) := pick fun r => ∀ (ox0 : Own), RRun (Z2h) (EE 83 [(.p (.lst ox0 (x0.map ZC))), (.clo 75 [] [(.ptr 0 0)])] [[(.clo 74 [] [(.ptr 1 0)])], [(.mp 2)], [(.md ((z11).map (encM eB)))]]) r
theorem ZfF (x0 : List Zw) (z11 : List (Int × Bool)) (ox0 : Own) : Sim (Z2h) (Z6j x0 z11) (EE 83 [(.p (.lst ox0 (x0.map ZC))), (.clo 75 [] [(.ptr 0 0)])] [[(.clo 74 [] [(.ptr 1 0)])], [(.mp 2)], [(.md ((z11).map (encM eB)))]]) := fun _ h => Z1b h ox0
def Z4p (x0 : List Zw) (x7 x8 : Int) (z11 : List (Int × Bool)) : Option (Int × (List (Int × Bool))) := pick fun r => ∀ (ox0 : Own), RRun (Z2h) (Zfr 3 (.p (.lst ox0 (x0.map ZC))) (.clo 75 [] [(.ptr 0 0)]) (iv x7) (iv x8) [[(.clo 74 [] [(.ptr 1 0)])], [(.mp 2)], [(.md ((z11).map (encM eB)))]]) r
theorem Z96 (x0 : List Zw) (x7 x8 : Int) (z11 : List (Int × Bool)) (ox0 : Own) : Sim (Z2h) (Z4p x0 x7 x8 z11) (Zfr 3 (.p (.lst ox0 (x0.map ZC))) (.clo 75 [] [(.ptr 0 0)]) (iv x7) (iv x8) [[(.clo 74 [] [(.ptr 1 0)])], [(.mp 2)], [(.md ((z11).map (encM eB)))]]) := fun _ h => Z1b h ox0
def Z7s (x0 : Zw) (z11 : List (Int × Bool)) : Option (Bool × (List (Int × Bool))) := pick fun r => RRun (Z5H) (EE 75 [(.p (.agg (Z1J x0))), (.ptr 0 0)] [[(.clo 74 [] [(.ptr 1 0)])], [(.mp 2)], [(.md ((z11).map (encM eB)))]]) r
theorem Zhp (x0 : Zw) (z11 : List (Int × Bool)) : Sim (Z5H) (Z7s x0 z11) (EE 75 [(.p (.agg (Z1J x0))), (.ptr 0 0)] [[(.clo 74 [] [(.ptr 1 0)])], [(.mp 2)], [(.md ((z11).map (encM eB)))]]) := fun _ h => Z1b h
def Z5Q (x0 : Int) (z1K : List (Int × Bool)) : Option (Bool × (List (Int × Bool))) := pick fun r => RRun (Z5G) (EE 74 [(iv x0), (.ptr 0 0)] [[(.mp 1)], [(.md ((z1K).map (encM eB)))]]) r
theorem Zbg (x0 : Int) (z1K : List (Int × Bool)) : Sim (Z5G) (Z5Q x0 z1K) (EE 74 [(iv x0), (.ptr 0 0)] [[(.mp 1)], [(.md ((z1K).map (encM eB)))]]) := fun _ h => Z1b h
def Z5E (x0 : List Int) (z1K : List (Int × Bool)) : Option (Bool × (List (Int × Bool))) := pick fun r => ∀ (ox0 : Own), RRun (Z4u) (EE 59 [(.p (.lst ox0 (x0.map (eI .i64)))), (.clo 74 [] [(.ptr 0 0)])] [[(.mp 1)], [(.md ((z1K).map (encM eB)))]]) r
theorem Zez (x0 : List Int) (z1K : List (Int × Bool)) (ox0 : Own) : Sim (Z4u) (Z5E x0 z1K) (EE 59 [(.p (.lst ox0 (x0.map (eI .i64)))), (.clo 74 [] [(.ptr 0 0)])] [[(.mp 1)], [(.md ((z1K).map (encM eB)))]]) := fun _ h => Z1b h ox0
def Z6A (x0 : List Int) (z1K : List (Int × Bool)) : Option (Int × (List (Int × Bool))) := pick fun r => ∀ (ox0 : Own), RRun (Z2o) (EE 84 [(.p (.lst ox0 (x0.map (eI .i64)))), (.clo 74 [] [(.ptr 0 0)])] [[(.mp 1)], [(.md ((z1K).map (encM eB)))]]) r
theorem ZfZ (x0 : List Int) (z1K : List (Int × Bool)) (ox0 : Own) : Sim (Z2o) (Z6A x0 z1K) (EE 84 [(.p (.lst ox0 (x0.map (eI .i64)))), (.clo 74 [] [(.ptr 0 0)])] [[(.mp 1)], [(.md ((z1K).map (encM eB)))]]) := fun _ h => Z1b h ox0
def Z4x (x0 : List Int) (x7 x8 : Int) (z1K : List (Int × Bool)) : Option (Int × (List (Int × Bool))) := pick fun r => ∀ (ox0 : Own), RRun (Z2o) (Zll 2 (.p (.lst ox0 (x0.map (eI .i64)))) (.clo 74 [] [(.ptr 0 0)]) (iv x7) (iv x8) [[(.mp 1)], [(.md ((z1K).map (encM eB)))]]) r
theorem Z9u (x0 : List Int) (x7 x8 : Int) (z1K : List (Int × Bool)) (ox0 : Own) : Sim (Z2o) (Z4x x0 x7 x8 z1K) (Zll 2 (.p (.lst ox0 (x0.map (eI .i64)))) (.clo 74 [] [(.ptr 0 0)]) (iv x7) (iv x8) [[(.mp 1)], [(.md ((z1K).map (encM eB)))]]) := fun _ h => Z1b h ox0
def Z9o (x54 : List Zw) (x55 x56 : Int) (b1 : ZL) (zF zK zQ zM : Int) (z1d : List (Int × Zw)) : Option (Zz × Int) := pick fun r => ∀ (b0 b2 : Zz) (zY : List Zw) (ox54 zB zP zH zO zV : Own) (z1o : ZN zO = true), RRun (Z1P) (ZiM 0 (.ptr 1 0) (.ptr 2 0) (.ptr 3 0) (.mp 4) (.p (.lst ox54 (x54.map ZC))) (iv x55) (iv x56) [(Zv b0 zB), (ZE b1 zP zH), (Zv b2 zO), (Zv (Zz.mk zF zK zQ zM zY) zV), [(.md ((z1d).map (encM ZC)))]]) r
theorem Zg2 (x54 : List Zw) (x55 x56 : Int) (b0 : Zz) (b1 : ZL) (b2 : Zz) (zF zK zQ zM : Int) (zY : List Zw) (z1d : List (Int × Zw)) (ox54 zB zP zH zO zV : Own) (z1o : ZN zO = true) : Sim (Z1P) (Z9o x54 x55 x56 b1 zF zK zQ zM z1d) (ZiM 0 (.ptr 1 0) (.ptr 2 0) (.ptr 3 0) (.mp 4) (.p (.lst ox54 (x54.map ZC))) (iv x55) (iv x56) [(Zv b0 zB), (ZE b1 zP zH), (Zv b2 zO), (Zv (Zz.mk zF zK zQ zM zY) zV), [(.md ((z1d).map (encM ZC)))]]) := fun _ h => Z1b h b0 b2 zY ox54 zB zP zH zO zV z1o
def Z9p (x66 : List Int) (x67 x68 : Int) (b1 : ZL) (zF zK zQ zM : Int) (z1d : List (Int × Zw)) : Option (Zz × Int) := pick fun r => ∀ (b0 b2 : Zz) (zY : List Zw) (ox66 zB zP zH zO zV : Own) (z1o : ZN zO = true), RRun (Z1P) (ZiN 0 (.ptr 1 0) (.ptr 2 0) (.ptr 3 0) (.mp 4) (.p (.lst ox66 (x66.map (eI .i64)))) (iv x67) (iv x68) [(Zv b0 zB), (ZE b1 zP zH), (Zv b2 zO), (Zv (Zz.mk zF zK zQ zM zY) zV), [(.md ((z1d).map (encM ZC)))]]) r
theorem Zg4 (x66 : List Int) (x67 x68 : Int) (b0 : Zz) (b1 : ZL) (b2 : Zz) (zF zK zQ zM : Int) (zY : List Zw) (z1d : List (Int × Zw)) (ox66 zB zP zH zO zV : Own) (z1o : ZN zO = true) : Sim (Z1P) (Z9p x66 x67 x68 b1 zF zK zQ zM z1d) (ZiN 0 (.ptr 1 0) (.ptr 2 0) (.ptr 3 0) (.mp 4) (.p (.lst ox66 (x66.map (eI .i64)))) (iv x67) (iv x68) [(Zv b0 zB), (ZE b1 zP zH), (Zv b2 zO), (Zv (Zz.mk zF zK zQ zM zY) zV), [(.md ((z1d).map (encM ZC)))]]) := fun _ h => Z1b h b0 b2 zY ox66 zB zP zH zO zV z1o
def Z9q (x85 : List Zw) (x86 x87 zF zK zQ zM : Int) (z1d : List (Int × Zw)) : Option (Zz × Int) := pick fun r => ∀ (b0 : Zz) (b1 : ZL) (b2 : Zz) (zY : List Zw) (ox85 zB zP zH zO zV : Own) (z1o : ZN zO = true), RRun (Z1P) (ZiO 0 (.ptr 2 0) (.ptr 3 0) (.mp 4) (.p (.lst ox85 (x85.map ZC))) (iv x86) (iv x87) [(Zv b0 zB), (ZE b1 zP zH), (Zv b2 zO), (Zv (Zz.mk zF zK zQ zM zY) zV), [(.md ((z1d).map (encM ZC)))]]) r
theorem Zg6 (x85 : List Zw) (x86 x87 : Int) (b0 : Zz) (b1 : ZL) (b2 : Zz) (zF zK zQ zM : Int) (zY : List Zw) (z1d : List (Int × Zw)) (ox85 zB zP zH zO zV : Own) (z1o : ZN zO = true) : Sim (Z1P) (Z9q x85 x86 x87 zF zK zQ zM z1d) (ZiO 0 (.ptr 2 0) (.ptr 3 0) (.mp 4) (.p (.lst ox85 (x85.map ZC))) (iv x86) (iv x87) [(Zv b0 zB), (ZE b1 zP zH), (Zv b2 zO), (Zv (Zz.mk zF zK zQ zM zY) zV), [(.md ((z1d).map (encM ZC)))]]) := fun _ h => Z1b h b0 b1 b2 zY ox85 zB zP zH zO zV z1o
def Z8Z  : Option (Unit) := pick fun r => ∀ (z1r : List (Int × Zw)), RRun (Z7a z1r) (EE 53 [(.mp 0)] [[(.md ((z1r).map (encM ZC)))]]) r
theorem ZjG (z1r : List (Int × Zw)) : Sim (Z7a z1r) (Z8Z) (EE 53 [(.mp 0)] [[(.md ((z1r).map (encM ZC)))]]) := fun _ h => Z1b h z1r
def Z9S (z1K : List (Int × Zw)) : Option (List Int) := pick fun r => RRun (Z7D z1K) (EE 52 [(.clo 78 [] [(.ptr 0 0)])] [[(.mp 1)], [(.md ((z1K).map (encM ZC)))]]) r
theorem ZhS (z1K : List (Int × Zw)) : Sim (Z7D z1K) (Z9S z1K) (EE 52 [(.clo 78 [] [(.ptr 0 0)])] [[(.mp 1)], [(.md ((z1K).map (encM ZC)))]]) := fun _ h => Z1b h
def Z9r (x103 : List Int) (x104 x105 zF zK zQ zM : Int) (zY : List Zw) (z1d : List (Int × Zw)) : Option (Zz × Int) := pick fun r => ∀ (b0 : Zz) (b1 : ZL) (b2 : Zz) (ox103 zB zP zH zO zV : Own) (z1o : ZN zO = true) (z8b : ZN zV = true), RRun (Z1P) (ZiP 0 (.ptr 2 0) (.ptr 3 0) (.mp 4) (.p (.lst ox103 (x103.map (eI .i64)))) (iv x104) (iv x105) [(Zv b0 zB), (ZE b1 zP zH), (Zv b2 zO), (Zv (Zz.mk zF zK zQ zM zY) zV), [(.md ((z1d).map (encM ZC)))]]) r
theorem Zg8 (x103 : List Int) (x104 x105 : Int) (b0 : Zz) (b1 : ZL) (b2 : Zz) (zF zK zQ zM : Int) (zY : List Zw) (z1d : List (Int × Zw)) (ox103 zB zP zH zO zV : Own) (z1o : ZN zO = true) (z8b : ZN zV = true) : Sim (Z1P) (Z9r x103 x104 x105 zF zK zQ zM zY z1d) (ZiP 0 (.ptr 2 0) (.ptr 3 0) (.mp 4) (.p (.lst ox103 (x103.map (eI .i64)))) (iv x104) (iv x105) [(Zv b0 zB), (ZE b1 zP zH), (Zv b2 zO), (Zv (Zz.mk zF zK zQ zM zY) zV), [(.md ((z1d).map (encM ZC)))]]) := fun _ h => Z1b h b0 b1 b2 ox103 zB zP zH zO zV z1o z8b
end Go.Proofs.YteoeggbihfnbfaaGreatDoor.N2
end
