/- The functions, read typed: their types, and what they stand for. No condition. -/
import Derived.Test.YtadodmjdkphddaaDoorSim
import Derived.Test.YtadodmjdkphddaaDoorEqs

section
set_option linter.unusedSimpArgs false
set_option linter.unusedVariables false
namespace Go.Proofs.YtadodmjdkphddaaDoor.N2
open Go Go.Abs
set_option linter.unusedVariables false
set_option maxRecDepth 100000
structure Z7 where
 Lo : Int
 Hi : Int
 deriving Inhabited
def Z3H (a : Z7) : List PV := [(eI .i64) a.Lo, (eI .i64) a.Hi]
def Zs (a : Z7) : PV := .agg (Z3H a)
def ZG (a : Z7) : List PV := [(eI .i64) a.Lo, (eI .i64) a.Hi]
def Z1n (a : Z7) : Row := [.p ((eI .i64) a.Lo), .p ((eI .i64) a.Hi)]
theorem Z9l {a b : Z7} (h : Z3H a = Z3H b) : a = b := by
 have h0 : a.Lo = b.Lo := eI_inj _ _ (congrArg (fun l => l.getD 0 .junk) h)
 have h1 : a.Hi = b.Hi := eI_inj _ _ (congrArg (fun l => l.getD 1 .junk) h)
 cases a; cases b
 cases h0
 cases h1
 rfl
theorem Z2q (a b : Z7) (h : Zs a = Zs b) : a = b := Z9l (congrArg pC h)
structure Z3 where
 Kind : Int
 Lo : Int
 Hi : Int
 Mode : Int
 Ref : Int
 Set : (List Z7)
 Kids : (List Z3)
instance : Inhabited Z3 := ⟨⟨default, default, default, default, default, default, default⟩⟩
mutual
def ZI : Z3 → PV
 | ⟨Kind_, Lo_, Hi_, Mode_, Ref_, Set_, Kids_⟩ => .agg [(eI .i64) Kind_, (eI .i64) Lo_, (eI .i64) Hi_, (eI .i64) Mode_, (eI .i64) Ref_, (eL Zs) Set_, .lst .sh (Z3J Kids_)]
def Z3J : List Z3 → List PV
 | [] => []
 | x :: r => ZI x :: Z3J r
end
theorem Z9C : ∀ l, Z3J l = l.map ZI
 | [] => rfl
 | x :: r => by rw [Z3J, Z9C r]; rfl
def Z27 (a : Z3) : List PV := [(eI .i64) a.Kind, (eI .i64) a.Lo, (eI .i64) a.Hi, (eI .i64) a.Mode, (eI .i64) a.Ref, (eL Zs) a.Set, (eL ZI) a.Kids]
theorem Z36 (a : Z3) : ZI a = .agg (Z27 a) := by
 cases a; rw [ZI, Z9C]; rfl
theorem Z4X (a : Z3) : pcells (ZI a) = Z27 a := by rw [Z36]; rfl
theorem Zbv (a : Z3) : (pcells (ZI a)).length = 7 := by rw [Z36]; rfl
def ZE (a : Z3) (o0 o1 : Own) : List PV := [(eI .i64) a.Kind, (eI .i64) a.Lo, (eI .i64) a.Hi, (eI .i64) a.Mode, (eI .i64) a.Ref, .lst o0 (a.Set.map Zs), .lst o1 (a.Kids.map ZI)]
def Zq (a : Z3) (o0 o1 : Own) : Row := [.p ((eI .i64) a.Kind), .p ((eI .i64) a.Lo), .p ((eI .i64) a.Hi), .p ((eI .i64) a.Mode), .p ((eI .i64) a.Ref), .p (.lst o0 (a.Set.map Zs)), .p (.lst o1 (a.Kids.map ZI))]
mutual
theorem Z9B : ∀ a b : Z3, ZI a = ZI b → a = b
 | ⟨Kind_, Lo_, Hi_, Mode_, Ref_, Set_, Kids_⟩, ⟨Kind_2, Lo_2, Hi_2, Mode_2, Ref_2, Set_2, Kids_2⟩, h => by
  rw [ZI, ZI] at h
  have h0 : Kind_ = Kind_2 := eI_inj _ _ (congrArg (fun l => (pC l).getD 0 .junk) h)
  have h1 : Lo_ = Lo_2 := eI_inj _ _ (congrArg (fun l => (pC l).getD 1 .junk) h)
  have h2 : Hi_ = Hi_2 := eI_inj _ _ (congrArg (fun l => (pC l).getD 2 .junk) h)
  have h3 : Mode_ = Mode_2 := eI_inj _ _ (congrArg (fun l => (pC l).getD 3 .junk) h)
  have h4 : Ref_ = Ref_2 := eI_inj _ _ (congrArg (fun l => (pC l).getD 4 .junk) h)
  have h5 : Set_ = Set_2 := (eL_inj Z2q) _ _ (congrArg (fun l => (pC l).getD 5 .junk) h)
  have h6 : Kids_ = Kids_2 := Z9c Kids_ Kids_2 (congrArg (fun l => pL ((pC l).getD 6 .junk)) h)
  subst h0
  subst h1
  subst h2
  subst h3
  subst h4
  subst h5
  subst h6
  rfl
theorem Z9c : ∀ a b : List Z3, Z3J a = Z3J b → a = b
 | [], [], _ => rfl
 | [], _ :: _, h => by simp [Z3J] at h
 | _ :: _, [], h => by simp [Z3J] at h
 | x :: r, y :: t, h => by
  simp only [Z3J, List.cons.injEq] at h
  rw [Z9B x y h.1, Z9c r t h.2]
end
theorem Z2C {a b : Z3} (h : Z27 a = Z27 b) : a = b := Z9B a b (by rw [Z36, Z36, h])
structure ZC where
 Root : Z3
 Groups : Int
 Fold : Bool
 deriving Inhabited
def Z81 (a : ZC) : List PV := [(eI .i64) a.Root.Kind, (eI .i64) a.Root.Lo, (eI .i64) a.Root.Hi, (eI .i64) a.Root.Mode, (eI .i64) a.Root.Ref, (eL Zs) a.Root.Set, (eL ZI) a.Root.Kids, (eI .i64) a.Groups, eB a.Fold]
def Zac (a : ZC) : PV := .agg (Z81 a)
def Z1f (a : ZC) (o0 o1 : Own) : List PV := [(eI .i64) a.Root.Kind, (eI .i64) a.Root.Lo, (eI .i64) a.Root.Hi, (eI .i64) a.Root.Mode, (eI .i64) a.Root.Ref, .lst o0 (a.Root.Set.map Zs), .lst o1 (a.Root.Kids.map ZI), (eI .i64) a.Groups, eB a.Fold]
def Zv (a : ZC) (o0 o1 : Own) : Row := [.p ((eI .i64) a.Root.Kind), .p ((eI .i64) a.Root.Lo), .p ((eI .i64) a.Root.Hi), .p ((eI .i64) a.Root.Mode), .p ((eI .i64) a.Root.Ref), .p (.lst o0 (a.Root.Set.map Zs)), .p (.lst o1 (a.Root.Kids.map ZI)), .p ((eI .i64) a.Groups), .p (eB a.Fold)]
theorem Z8u {a b : ZC} (h : Z81 a = Z81 b) : a = b := by
 have h0 : a.Root = b.Root := Z2C (congrArg (fun l => (l.drop 0).take 7) h)
 have h1 : a.Groups = b.Groups := eI_inj _ _ (congrArg (fun l => l.getD 7 .junk) h)
 have h2 : a.Fold = b.Fold := eB_inj _ _ (congrArg (fun l => l.getD 8 .junk) h)
 cases a; cases b
 cases h0
 cases h1
 cases h2
 rfl
theorem Zfg (a b : ZC) (h : Zac a = Zac b) : a = b := Z8u (congrArg pC h)
structure Zi where
 Code : Int
 At : Int
 deriving Inhabited
def Z8S (a : Zi) : List PV := [(eI .i64) a.Code, (eI .i64) a.At]
def Zbn (a : Zi) : PV := .agg (Z8S a)
def Z11 (a : Zi) : List PV := [(eI .i64) a.Code, (eI .i64) a.At]
def ZD (a : Zi) : Row := [.p ((eI .i64) a.Code), .p ((eI .i64) a.At)]
theorem Z6Z {a b : Zi} (h : Z8S a = Z8S b) : a = b := by
 have h0 : a.Code = b.Code := eI_inj _ _ (congrArg (fun l => l.getD 0 .junk) h)
 have h1 : a.At = b.At := eI_inj _ _ (congrArg (fun l => l.getD 1 .junk) h)
 cases a; cases b
 cases h0
 cases h1
 rfl
theorem Zge (a b : Zi) (h : Zbn a = Zbn b) : a = b := Z6Z (congrArg pC h)
structure Zr where
 group : Int
 at_ : Int
 deriving Inhabited
def Z6w (a : Zr) : List PV := [(eI .i64) a.group, (eI .i64) a.at_]
def Z1A (a : Zr) : PV := .agg (Z6w a)
def Z8a (a : Zr) : List PV := [(eI .i64) a.group, (eI .i64) a.at_]
def Z87 (a : Zr) : Row := [.p ((eI .i64) a.group), .p ((eI .i64) a.at_)]
theorem ZbJ {a b : Zr} (h : Z6w a = Z6w b) : a = b := by
 have h0 : a.group = b.group := eI_inj _ _ (congrArg (fun l => l.getD 0 .junk) h)
 have h1 : a.at_ = b.at_ := eI_inj _ _ (congrArg (fun l => l.getD 1 .junk) h)
 cases a; cases b
 cases h0
 cases h1
 rfl
theorem Z3R (a b : Zr) (h : Z1A a = Z1A b) : a = b := ZbJ (congrArg pC h)
structure Zk where
 b : (List Int)
 at_ : Int
 groups : Int
 deep : Int
 refs : (List Zr)
 fault : Zi
 deriving Inhabited
def Z8y (a : Zk) : List PV := [(eL (eI .u8)) a.b, (eI .i64) a.at_, (eI .i64) a.groups, (eI .i64) a.deep, (eL Z1A) a.refs, (eI .i64) a.fault.Code, (eI .i64) a.fault.At]
def Zay (a : Zk) : PV := .agg (Z8y a)
def ZcL (a : Zk) (o0 o1 : Own) : List PV := [.lst o0 (a.b.map (eI .u8)), (eI .i64) a.at_, (eI .i64) a.groups, (eI .i64) a.deep, .lst o1 (a.refs.map Z1A), (eI .i64) a.fault.Code, (eI .i64) a.fault.At]
def Zj (a : Zk) (o0 o1 : Own) : Row := [.p (.lst o0 (a.b.map (eI .u8))), .p ((eI .i64) a.at_), .p ((eI .i64) a.groups), .p ((eI .i64) a.deep), .p (.lst o1 (a.refs.map Z1A)), .p ((eI .i64) a.fault.Code), .p ((eI .i64) a.fault.At)]
theorem ZbN {a b : Zk} (h : Z8y a = Z8y b) : a = b := by
 have h0 : a.b = b.b := (eL_inj eI_inj) _ _ (congrArg (fun l => l.getD 0 .junk) h)
 have h1 : a.at_ = b.at_ := eI_inj _ _ (congrArg (fun l => l.getD 1 .junk) h)
 have h2 : a.groups = b.groups := eI_inj _ _ (congrArg (fun l => l.getD 2 .junk) h)
 have h3 : a.deep = b.deep := eI_inj _ _ (congrArg (fun l => l.getD 3 .junk) h)
 have h4 : a.refs = b.refs := (eL_inj Z3R) _ _ (congrArg (fun l => l.getD 4 .junk) h)
 have h5 : a.fault = b.fault := Z6Z (congrArg (fun l => (l.drop 5).take 2) h)
 cases a; cases b
 cases h0
 cases h1
 cases h2
 cases h3
 cases h4
 cases h5
 rfl
theorem ZfI (a b : Zk) (h : Zay a = Zay b) : a = b := ZbN (congrArg pC h)
end Go.Proofs.YtadodmjdkphddaaDoor.N2
end
section
set_option linter.unusedSimpArgs false
set_option linter.unusedVariables false
namespace Go.Proofs.YtadodmjdkphddaaDoor.N2
open Go Go.Abs
set_option linter.unusedVariables false
set_option maxRecDepth 100000
abbrev Z3k (zl : List Int) (z6 : Int) (zd : Int) (zh : List Zr) (z1 : Int) (z2 : Int) (zn : Own) (zb : Own) : (Bool × Int) → Res → Prop := fun r q => ∃ (ex : List Row), q = ((bv r.1), [(Zj (Zk.mk zl r.2 z6 zd zh (Zi.mk z1 z2)) zn zb)] ++ ex)
theorem Zbu (zl : List Int) (z6 : Int) (zd : Int) (zh : List Zr) (z1 : Int) (z2 : Int) (zn : Own) (zb : Own) : ∀ a b q, Z3k zl z6 zd zh z1 z2 zn zb a q → Z3k zl z6 zd zh z1 z2 zn zb b q → a = b := by
 rintro a b q ⟨_, e1⟩ ⟨_, e2⟩
 have e := e1.symm.trans e2
 exact Prod.ext (congrArg (fun q : Res => pB (pA q.1)) e) (congrArg (fun q : Res => pI (pA (cellAt q 0 1))) e)
abbrev Z4t  : (Int × Int) → Res → Prop := fun r q => ∃ (ex : List Row), q = ((.p (.tup [(.v (.int .i32 r.1)), (.v (.int .i64 r.2))])), ex)
theorem Z9q  : ∀ a b q, Z4t  a q → Z4t  b q → a = b := by
 rintro a b q ⟨_, e1⟩ ⟨_, e2⟩
 have e := e1.symm.trans e2
 exact Prod.ext (congrArg (fun q : Res => pI ((pT (pA q.1)).getD 0 .junk)) e) (congrArg (fun q : Res => pI ((pT (pA q.1)).getD 1 .junk)) e)
abbrev Z57  : (Int × Int) → Res → Prop := fun r q => ∃ (ex : List Row), q = ((.p (.tup [(.v (.int .i64 r.1)), (.v (.int .i64 r.2))])), ex)
theorem Zdt  : ∀ a b q, Z57  a q → Z57  b q → a = b := by
 rintro a b q ⟨_, e1⟩ ⟨_, e2⟩
 have e := e1.symm.trans e2
 exact Prod.ext (congrArg (fun q : Res => pI ((pT (pA q.1)).getD 0 .junk)) e) (congrArg (fun q : Res => pI ((pT (pA q.1)).getD 1 .junk)) e)
abbrev Z3Y (b0 : Zk) (zn : Own) (zb : Own) : (Int) → Res → Prop := fun r q => ∃ (ex : List Row), q = ((iv r), [(Zj b0 zn zb)] ++ ex)
theorem ZaW (b0 : Zk) (zn : Own) (zb : Own) : ∀ a b q, Z3Y b0 zn zb a q → Z3Y b0 zn zb b q → a = b := by
 rintro a b q ⟨_, e1⟩ ⟨_, e2⟩
 have e := e1.symm.trans e2
 exact congrArg (fun q : Res => pI (pA q.1)) e
abbrev Z5D  : (Z3) → Res → Prop := fun r q => ∃ (ex : List Row), q = ((.p (.agg (ZE r .sh .sh))), ex)
theorem Zcy  : ∀ a b q, Z5D  a q → Z5D  b q → a = b := by
 rintro a b q ⟨_, e1⟩ ⟨_, e2⟩
 have e := e1.symm.trans e2
 exact Z2C (congrArg (fun q : Res => pC (pA q.1)) e)
abbrev Z4P (zl : List Int) (z6 : Int) (zd : Int) (zh : List Zr) (z1 : Int) (z2 : Int) (zn : Own) (zb : Own) : (Int × Int) → Res → Prop := fun r q => ∃ (ex : List Row), q = ((iv r.1), [(Zj (Zk.mk zl r.2 z6 zd zh (Zi.mk z1 z2)) zn zb)] ++ ex)
theorem Zb4 (zl : List Int) (z6 : Int) (zd : Int) (zh : List Zr) (z1 : Int) (z2 : Int) (zn : Own) (zb : Own) : ∀ a b q, Z4P zl z6 zd zh z1 z2 zn zb a q → Z4P zl z6 zd zh z1 z2 zn zb b q → a = b := by
 rintro a b q ⟨_, e1⟩ ⟨_, e2⟩
 have e := e1.symm.trans e2
 exact Prod.ext (congrArg (fun q : Res => pI (pA q.1)) e) (congrArg (fun q : Res => pI (pA (cellAt q 0 1))) e)
abbrev Z7K  : (Z7) → Res → Prop := fun r q => ∃ (ex : List Row), q = ((.p (.agg (ZG r))), ex)
theorem Zds  : ∀ a b q, Z7K  a q → Z7K  b q → a = b := by
 rintro a b q ⟨_, e1⟩ ⟨_, e2⟩
 have e := e1.symm.trans e2
 exact Z9l (congrArg (fun q : Res => pC (pA q.1)) e)
abbrev Z4O  : (Bool) → Res → Prop := fun r q => ∃ (ex : List Row), q = ((bv r), ex)
theorem Zbm  : ∀ a b q, Z4O  a q → Z4O  b q → a = b := by
 rintro a b q ⟨_, e1⟩ ⟨_, e2⟩
 have e := e1.symm.trans e2
 exact congrArg (fun q : Res => pB (pA q.1)) e
abbrev Z6m  : (Bool) → Res → Prop := fun r q => ∃ (ex : List Row), q = ((bv r), ex)
theorem Zcv  : ∀ a b q, Z6m  a q → Z6m  b q → a = b := by
 rintro a b q ⟨_, e1⟩ ⟨_, e2⟩
 have e := e1.symm.trans e2
 exact congrArg (fun q : Res => pB (pA q.1)) e
abbrev Z1o  : (Int) → Res → Prop := fun r q => ∃ (ex : List Row), q = ((iv r), ex)
theorem Z5U  : ∀ a b q, Z1o  a q → Z1o  b q → a = b := by
 rintro a b q ⟨_, e1⟩ ⟨_, e2⟩
 have e := e1.symm.trans e2
 exact congrArg (fun q : Res => pI (pA q.1)) e
abbrev Z2I  : (Bool) → Res → Prop := fun r q => ∃ (ex : List Row), q = ((bv r), ex)
theorem Z7Q  : ∀ a b q, Z2I  a q → Z2I  b q → a = b := by
 rintro a b q ⟨_, e1⟩ ⟨_, e2⟩
 have e := e1.symm.trans e2
 exact congrArg (fun q : Res => pB (pA q.1)) e
abbrev Z7u  : ((List Z7)) → Res → Prop := fun r q => ∃ (ex : List Row), q = ((.p (.lst .sh (r.map Zs))), ex)
theorem Zcx  : ∀ a b q, Z7u  a q → Z7u  b q → a = b := by
 rintro a b q ⟨_, e1⟩ ⟨_, e2⟩
 have e := e1.symm.trans e2
 exact lmap_inj Z2q (congrArg (fun q : Res => pL (pA q.1)) e)
abbrev Z6n  : ((List Z7) × Int) → Res → Prop := fun r q => ∃ (ex : List Row), q = ((.p (.tup [(.lst .sh (r.1.map Zs)), (.v (.int .i64 r.2))])), ex)
theorem Zde  : ∀ a b q, Z6n  a q → Z6n  b q → a = b := by
 rintro a b q ⟨_, e1⟩ ⟨_, e2⟩
 have e := e1.symm.trans e2
 exact Prod.ext (lmap_inj Z2q (congrArg (fun q : Res => pL ((pT (pA q.1)).getD 0 .junk)) e)) (congrArg (fun q : Res => pI ((pT (pA q.1)).getD 1 .junk)) e)
abbrev Z1M  : (Bool) → Res → Prop := fun r q => ∃ (ex : List Row), q = ((bv r), ex)
theorem Z8v  : ∀ a b q, Z1M  a q → Z1M  b q → a = b := by
 rintro a b q ⟨_, e1⟩ ⟨_, e2⟩
 have e := e1.symm.trans e2
 exact congrArg (fun q : Res => pB (pA q.1)) e
abbrev Z2d  : ((List Z7)) → Res → Prop := fun r q => ∃ (ex : List Row), q = ((.p (.lst .sh (r.map Zs))), ex)
theorem Z9y  : ∀ a b q, Z2d  a q → Z2d  b q → a = b := by
 rintro a b q ⟨_, e1⟩ ⟨_, e2⟩
 have e := e1.symm.trans e2
 exact lmap_inj Z2q (congrArg (fun q : Res => pL (pA q.1)) e)
abbrev Z5f  : ((List Z7) × Int) → Res → Prop := fun r q => ∃ (ex : List Row), q = ((.p (.tup [(.lst .sh (r.1.map Zs)), (.v (.int .i64 r.2))])), ex)
theorem Zcl  : ∀ a b q, Z5f  a q → Z5f  b q → a = b := by
 rintro a b q ⟨_, e1⟩ ⟨_, e2⟩
 have e := e1.symm.trans e2
 exact Prod.ext (lmap_inj Z2q (congrArg (fun q : Res => pL ((pT (pA q.1)).getD 0 .junk)) e)) (congrArg (fun q : Res => pI ((pT (pA q.1)).getD 1 .junk)) e)
abbrev Z6D  : (Z3) → Res → Prop := fun r q => ∃ (ex : List Row), q = ((.p (.agg (ZE r .sh .sh))), ex)
theorem Zdu  : ∀ a b q, Z6D  a q → Z6D  b q → a = b := by
 rintro a b q ⟨_, e1⟩ ⟨_, e2⟩
 have e := e1.symm.trans e2
 exact Z2C (congrArg (fun q : Res => pC (pA q.1)) e)
abbrev Z3Z (zl : List Int) (z6 : Int) (zd : Int) (zh : List Zr) (zn : Own) (zb : Own) : (Int × Int × Int) → Res → Prop := fun r q => ∃ (ex : List Row), q = ((.p (.tup [])), [(Zj (Zk.mk zl r.1 z6 zd zh (Zi.mk r.2.1 r.2.2)) zn zb)] ++ ex)
theorem Zbh (zl : List Int) (z6 : Int) (zd : Int) (zh : List Zr) (zn : Own) (zb : Own) : ∀ a b q, Z3Z zl z6 zd zh zn zb a q → Z3Z zl z6 zd zh zn zb b q → a = b := by
 rintro a b q ⟨_, e1⟩ ⟨_, e2⟩
 have e := e1.symm.trans e2
 exact Prod.ext (congrArg (fun q : Res => pI (pA (cellAt q 0 1))) e) (Prod.ext (congrArg (fun q : Res => pI (pA (cellAt q 0 5))) e) (congrArg (fun q : Res => pI (pA (cellAt q 0 6))) e))
abbrev Z4K  : ((Own × (List Z7))) → Res → Prop := fun r q => ∃ (ex : List Row), q = ((.p (.lst r.1 (r.2.map Zs))), ex)
theorem ZbM  : ∀ a b q, Z4K  a q → Z4K  b q → a = b := by
 rintro a b q ⟨_, e1⟩ ⟨_, e2⟩
 have e := e1.symm.trans e2
 exact Prod.ext (congrArg (fun q : Res => pOwn (pA q.1)) e) (lmap_inj Z2q (congrArg (fun q : Res => pL (pA q.1)) e))
abbrev Z50  : (Int) → Res → Prop := fun r q => ∃ (ex : List Row), q = ((iv r), ex)
theorem Zdv  : ∀ a b q, Z50  a q → Z50  b q → a = b := by
 rintro a b q ⟨_, e1⟩ ⟨_, e2⟩
 have e := e1.symm.trans e2
 exact congrArg (fun q : Res => pI (pA q.1)) e
abbrev Z5q (zZ : Int) : (Bool) → Res → Prop := fun r q => ∃ (ex : List Row), q = ((bv r), [[(iv zZ)]] ++ ex)
theorem ZbR (zZ : Int) : ∀ a b q, Z5q zZ a q → Z5q zZ b q → a = b := by
 rintro a b q ⟨_, e1⟩ ⟨_, e2⟩
 have e := e1.symm.trans e2
 exact congrArg (fun q : Res => pB (pA q.1)) e
abbrev Z1p (zZ : Int) : (Int) → Res → Prop := fun r q => ∃ (ex : List Row), q = ((iv r), [[(iv zZ)]] ++ ex)
theorem Z62 (zZ : Int) : ∀ a b q, Z1p zZ a q → Z1p zZ b q → a = b := by
 rintro a b q ⟨_, e1⟩ ⟨_, e2⟩
 have e := e1.symm.trans e2
 exact congrArg (fun q : Res => pI (pA q.1)) e
abbrev Z2J (zZ : Int) : (Bool) → Res → Prop := fun r q => ∃ (ex : List Row), q = ((bv r), [[(iv zZ)]] ++ ex)
theorem Z7R (zZ : Int) : ∀ a b q, Z2J zZ a q → Z2J zZ b q → a = b := by
 rintro a b q ⟨_, e1⟩ ⟨_, e2⟩
 have e := e1.symm.trans e2
 exact congrArg (fun q : Res => pB (pA q.1)) e
abbrev Z5Z  : (Bool) → Res → Prop := fun r q => ∃ (ex : List Row), q = ((bv r), ex)
theorem Zcj  : ∀ a b q, Z5Z  a q → Z5Z  b q → a = b := by
 rintro a b q ⟨_, e1⟩ ⟨_, e2⟩
 have e := e1.symm.trans e2
 exact congrArg (fun q : Res => pB (pA q.1)) e
abbrev Z35 (zl : List Int) (z6 : Int) (zd : Int) (zh : List Zr) (zn : Own) (zb : Own) : (Int × Int × Int × Int) → Res → Prop := fun r q => ∃ (ex : List Row), q = ((iv r.1), [(Zj (Zk.mk zl r.2.1 z6 zd zh (Zi.mk r.2.2.1 r.2.2.2)) zn zb)] ++ ex)
theorem ZaM (zl : List Int) (z6 : Int) (zd : Int) (zh : List Zr) (zn : Own) (zb : Own) : ∀ a b q, Z35 zl z6 zd zh zn zb a q → Z35 zl z6 zd zh zn zb b q → a = b := by
 rintro a b q ⟨_, e1⟩ ⟨_, e2⟩
 have e := e1.symm.trans e2
 exact Prod.ext (congrArg (fun q : Res => pI (pA q.1)) e) (Prod.ext (congrArg (fun q : Res => pI (pA (cellAt q 0 1))) e) (Prod.ext (congrArg (fun q : Res => pI (pA (cellAt q 0 5))) e) (congrArg (fun q : Res => pI (pA (cellAt q 0 6))) e)))
abbrev Z2A (zl : List Int) (z6 : Int) (zd : Int) (zn : Own) : (Z3 × Int × (List Zr) × Int × Int) → Res → Prop := fun r q => ∃ (p0_4 : Own) (ex : List Row), okApp p0_4 = true ∧ q = ((.p (.agg (ZE r.1 .sh .sh))), [(Zj (Zk.mk zl r.2.1 z6 zd r.2.2.1 (Zi.mk r.2.2.2.1 r.2.2.2.2)) zn p0_4)] ++ ex)
theorem Zak (zl : List Int) (z6 : Int) (zd : Int) (zn : Own) : ∀ a b q, Z2A zl z6 zd zn a q → Z2A zl z6 zd zn b q → a = b := by
 rintro a b q ⟨_, _, _, e1⟩ ⟨_, _, _, e2⟩
 have e := e1.symm.trans e2
 exact Prod.ext (Z2C (congrArg (fun q : Res => pC (pA q.1)) e)) (Prod.ext (congrArg (fun q : Res => pI (pA (cellAt q 0 1))) e) (Prod.ext (lmap_inj Z3R (congrArg (fun q : Res => pL (pA (cellAt q 0 4))) e)) (Prod.ext (congrArg (fun q : Res => pI (pA (cellAt q 0 5))) e) (congrArg (fun q : Res => pI (pA (cellAt q 0 6))) e))))
abbrev Z2z (zl : List Int) (z6 : Int) (zd : Int) (zh : List Zr) (zn : Own) (zb : Own) : (Int × (Own × (List Z7)) × Bool × Int × Int × Int) → Res → Prop := fun r q => ∃ (ex : List Row), q = ((.p (.tup [(.v (.int .i64 r.1)), (.lst r.2.1.1 (r.2.1.2.map Zs)), (.v (.bool r.2.2.1))])), [(Zj (Zk.mk zl r.2.2.2.1 z6 zd zh (Zi.mk r.2.2.2.2.1 r.2.2.2.2.2)) zn zb)] ++ ex)
theorem Zao (zl : List Int) (z6 : Int) (zd : Int) (zh : List Zr) (zn : Own) (zb : Own) : ∀ a b q, Z2z zl z6 zd zh zn zb a q → Z2z zl z6 zd zh zn zb b q → a = b := by
 rintro a b q ⟨_, e1⟩ ⟨_, e2⟩
 have e := e1.symm.trans e2
 exact Prod.ext (congrArg (fun q : Res => pI ((pT (pA q.1)).getD 0 .junk)) e) (Prod.ext (Prod.ext (congrArg (fun q : Res => pOwn ((pT (pA q.1)).getD 1 .junk)) e) (lmap_inj Z2q (congrArg (fun q : Res => pL ((pT (pA q.1)).getD 1 .junk)) e))) (Prod.ext (congrArg (fun q : Res => pB ((pT (pA q.1)).getD 2 .junk)) e) (Prod.ext (congrArg (fun q : Res => pI (pA (cellAt q 0 1))) e) (Prod.ext (congrArg (fun q : Res => pI (pA (cellAt q 0 5))) e) (congrArg (fun q : Res => pI (pA (cellAt q 0 6))) e)))))
abbrev Z5d  : ((List Z7)) → Res → Prop := fun r q => ∃ (ex : List Row), q = ((.p (.lst .sh (r.map Zs))), ex)
theorem Zaq  : ∀ a b q, Z5d  a q → Z5d  b q → a = b := by
 rintro a b q ⟨_, e1⟩ ⟨_, e2⟩
 have e := e1.symm.trans e2
 exact lmap_inj Z2q (congrArg (fun q : Res => pL (pA q.1)) e)
abbrev Z4Y  : ((List Z7) × Int) → Res → Prop := fun r q => ∃ (ex : List Row), q = ((.p (.tup [(.lst .sh (r.1.map Zs)), (.v (.int .i64 r.2))])), ex)
theorem Zcs  : ∀ a b q, Z4Y  a q → Z4Y  b q → a = b := by
 rintro a b q ⟨_, e1⟩ ⟨_, e2⟩
 have e := e1.symm.trans e2
 exact Prod.ext (lmap_inj Z2q (congrArg (fun q : Res => pL ((pT (pA q.1)).getD 0 .junk)) e)) (congrArg (fun q : Res => pI ((pT (pA q.1)).getD 1 .junk)) e)
abbrev Z42  : ((List Z7)) → Res → Prop := fun r q => ∃ (p0_0 : Own) (ex : List Row), q = ((.p (.tup [])), [[(.p (.lst p0_0 (r.map Zs)))]] ++ ex)
theorem Zab  : ∀ a b q, Z42  a q → Z42  b q → a = b := by
 rintro a b q ⟨_, _, e1⟩ ⟨_, _, e2⟩
 have e := e1.symm.trans e2
 exact lmap_inj Z2q (congrArg (fun q : Res => pL (pA (cellAt q 0 0))) e)
abbrev Z19 (zl : List Int) (z6 : Int) (zd : Int) (zh : List Zr) (zn : Own) (zb : Own) : (Z3 × Int × Int × Int) → Res → Prop := fun r q => ∃ (ex : List Row), q = ((.p (.agg (ZE r.1 .sh .sh))), [(Zj (Zk.mk zl r.2.1 z6 zd zh (Zi.mk r.2.2.1 r.2.2.2)) zn zb)] ++ ex)
theorem Z7M (zl : List Int) (z6 : Int) (zd : Int) (zh : List Zr) (zn : Own) (zb : Own) : ∀ a b q, Z19 zl z6 zd zh zn zb a q → Z19 zl z6 zd zh zn zb b q → a = b := by
 rintro a b q ⟨_, e1⟩ ⟨_, e2⟩
 have e := e1.symm.trans e2
 exact Prod.ext (Z2C (congrArg (fun q : Res => pC (pA q.1)) e)) (Prod.ext (congrArg (fun q : Res => pI (pA (cellAt q 0 1))) e) (Prod.ext (congrArg (fun q : Res => pI (pA (cellAt q 0 5))) e) (congrArg (fun q : Res => pI (pA (cellAt q 0 6))) e)))
abbrev Z6A  : ((List ByteArray)) → Res → Prop := fun r q => ∃ (ex : List Row), q = ((.p (.lst .sh (r.map eS))), ex)
theorem ZcV  : ∀ a b q, Z6A  a q → Z6A  b q → a = b := by
 rintro a b q ⟨_, e1⟩ ⟨_, e2⟩
 have e := e1.symm.trans e2
 exact lmap_inj eS_inj (congrArg (fun q : Res => pL (pA q.1)) e)
abbrev Z1j (zl : List Int) (z6 : Int) (zd : Int) (zh : List Zr) (z1 : Int) (z2 : Int) (zn : Own) (zb : Own) : (Int × Int) → Res → Prop := fun r q => ∃ (ex : List Row), q = ((iv r.1), [(Zj (Zk.mk zl r.2 z6 zd zh (Zi.mk z1 z2)) zn zb)] ++ ex)
theorem Z5S (zl : List Int) (z6 : Int) (zd : Int) (zh : List Zr) (z1 : Int) (z2 : Int) (zn : Own) (zb : Own) : ∀ a b q, Z1j zl z6 zd zh z1 z2 zn zb a q → Z1j zl z6 zd zh z1 z2 zn zb b q → a = b := by
 rintro a b q ⟨_, e1⟩ ⟨_, e2⟩
 have e := e1.symm.trans e2
 exact Prod.ext (congrArg (fun q : Res => pI (pA q.1)) e) (congrArg (fun q : Res => pI (pA (cellAt q 0 1))) e)
abbrev Z28 (zl : List Int) (zn : Own) : (Z3 × Bool × Int × Int × Int × (List Zr) × Int × Int) → Res → Prop := fun r q => ∃ (p0_4 : Own) (ex : List Row), okApp p0_4 = true ∧ q = ((.p (.tup [(.agg (ZE r.1 .sh .sh)), (.v (.bool r.2.1))])), [(Zj (Zk.mk zl r.2.2.1 r.2.2.2.1 r.2.2.2.2.1 r.2.2.2.2.2.1 (Zi.mk r.2.2.2.2.2.2.1 r.2.2.2.2.2.2.2)) zn p0_4)] ++ ex)
theorem ZaR (zl : List Int) (zn : Own) : ∀ a b q, Z28 zl zn a q → Z28 zl zn b q → a = b := by
 rintro a b q ⟨_, _, _, e1⟩ ⟨_, _, _, e2⟩
 have e := e1.symm.trans e2
 exact Prod.ext (Z2C (congrArg (fun q : Res => pC ((pT (pA q.1)).getD 0 .junk)) e)) (Prod.ext (congrArg (fun q : Res => pB ((pT (pA q.1)).getD 1 .junk)) e) (Prod.ext (congrArg (fun q : Res => pI (pA (cellAt q 0 1))) e) (Prod.ext (congrArg (fun q : Res => pI (pA (cellAt q 0 2))) e) (Prod.ext (congrArg (fun q : Res => pI (pA (cellAt q 0 3))) e) (Prod.ext (lmap_inj Z3R (congrArg (fun q : Res => pL (pA (cellAt q 0 4))) e)) (Prod.ext (congrArg (fun q : Res => pI (pA (cellAt q 0 5))) e) (congrArg (fun q : Res => pI (pA (cellAt q 0 6))) e)))))))
abbrev Z40 (zl : List Int) (zn : Own) : (Z3 × Bool × Int × Int × Int × (List Zr) × Int × Int) → Res → Prop := fun r q => ∃ (p0_4 : Own) (ex : List Row), okApp p0_4 = true ∧ q = ((.p (.tup [(.agg (ZE r.1 .sh .sh)), (.v (.bool r.2.1))])), [(Zj (Zk.mk zl r.2.2.1 r.2.2.2.1 r.2.2.2.2.1 r.2.2.2.2.2.1 (Zi.mk r.2.2.2.2.2.2.1 r.2.2.2.2.2.2.2)) zn p0_4)] ++ ex)
theorem ZaV (zl : List Int) (zn : Own) : ∀ a b q, Z40 zl zn a q → Z40 zl zn b q → a = b := by
 rintro a b q ⟨_, _, _, e1⟩ ⟨_, _, _, e2⟩
 have e := e1.symm.trans e2
 exact Prod.ext (Z2C (congrArg (fun q : Res => pC ((pT (pA q.1)).getD 0 .junk)) e)) (Prod.ext (congrArg (fun q : Res => pB ((pT (pA q.1)).getD 1 .junk)) e) (Prod.ext (congrArg (fun q : Res => pI (pA (cellAt q 0 1))) e) (Prod.ext (congrArg (fun q : Res => pI (pA (cellAt q 0 2))) e) (Prod.ext (congrArg (fun q : Res => pI (pA (cellAt q 0 3))) e) (Prod.ext (lmap_inj Z3R (congrArg (fun q : Res => pL (pA (cellAt q 0 4))) e)) (Prod.ext (congrArg (fun q : Res => pI (pA (cellAt q 0 5))) e) (congrArg (fun q : Res => pI (pA (cellAt q 0 6))) e)))))))
abbrev Z1Z (zl : List Int) (z6 : Int) (zd : Int) (zh : List Zr) (z1 : Int) (z2 : Int) (zn : Own) (zb : Own) : (Int × Int) → Res → Prop := fun r q => ∃ (ex : List Row), q = ((iv r.1), [(Zj (Zk.mk zl r.2 z6 zd zh (Zi.mk z1 z2)) zn zb)] ++ ex)
theorem Z7w (zl : List Int) (z6 : Int) (zd : Int) (zh : List Zr) (z1 : Int) (z2 : Int) (zn : Own) (zb : Own) : ∀ a b q, Z1Z zl z6 zd zh z1 z2 zn zb a q → Z1Z zl z6 zd zh z1 z2 zn zb b q → a = b := by
 rintro a b q ⟨_, e1⟩ ⟨_, e2⟩
 have e := e1.symm.trans e2
 exact Prod.ext (congrArg (fun q : Res => pI (pA q.1)) e) (congrArg (fun q : Res => pI (pA (cellAt q 0 1))) e)
abbrev Z1O (zl : List Int) (z6 : Int) (zd : Int) (zh : List Zr) (zn : Own) (zb : Own) : (Int × Int × Int × Int × Int) → Res → Prop := fun r q => ∃ (ex : List Row), q = ((.p (.tup [(.v (.int .i64 r.1)), (.v (.int .i64 r.2.1))])), [(Zj (Zk.mk zl r.2.2.1 z6 zd zh (Zi.mk r.2.2.2.1 r.2.2.2.2)) zn zb)] ++ ex)
theorem Zam (zl : List Int) (z6 : Int) (zd : Int) (zh : List Zr) (zn : Own) (zb : Own) : ∀ a b q, Z1O zl z6 zd zh zn zb a q → Z1O zl z6 zd zh zn zb b q → a = b := by
 rintro a b q ⟨_, e1⟩ ⟨_, e2⟩
 have e := e1.symm.trans e2
 exact Prod.ext (congrArg (fun q : Res => pI ((pT (pA q.1)).getD 0 .junk)) e) (Prod.ext (congrArg (fun q : Res => pI ((pT (pA q.1)).getD 1 .junk)) e) (Prod.ext (congrArg (fun q : Res => pI (pA (cellAt q 0 1))) e) (Prod.ext (congrArg (fun q : Res => pI (pA (cellAt q 0 5))) e) (congrArg (fun q : Res => pI (pA (cellAt q 0 6))) e))))
abbrev Z2B (zl : List Int) (z6 : Int) (zd : Int) (zh : List Zr) (zn : Own) (zb : Own) : (Z3 × Int × Int × Int) → Res → Prop := fun r q => ∃ (ex : List Row), q = ((.p (.agg (ZE r.1 .sh .sh))), [(Zj (Zk.mk zl r.2.1 z6 zd zh (Zi.mk r.2.2.1 r.2.2.2)) zn zb)] ++ ex)
theorem Zav (zl : List Int) (z6 : Int) (zd : Int) (zh : List Zr) (zn : Own) (zb : Own) : ∀ a b q, Z2B zl z6 zd zh zn zb a q → Z2B zl z6 zd zh zn zb b q → a = b := by
 rintro a b q ⟨_, e1⟩ ⟨_, e2⟩
 have e := e1.symm.trans e2
 exact Prod.ext (Z2C (congrArg (fun q : Res => pC (pA q.1)) e)) (Prod.ext (congrArg (fun q : Res => pI (pA (cellAt q 0 1))) e) (Prod.ext (congrArg (fun q : Res => pI (pA (cellAt q 0 5))) e) (congrArg (fun q : Res => pI (pA (cellAt q 0 6))) e)))
abbrev Z2b (zl : List Int) (zn : Own) : (Z3 × Int × Int × Int × (List Zr) × Int × Int) → Res → Prop := fun r q => ∃ (p0_4 : Own) (ex : List Row), okApp p0_4 = true ∧ q = ((.p (.agg (ZE r.1 .sh .sh))), [(Zj (Zk.mk zl r.2.1 r.2.2.1 r.2.2.2.1 r.2.2.2.2.1 (Zi.mk r.2.2.2.2.2.1 r.2.2.2.2.2.2)) zn p0_4)] ++ ex)
theorem Z8r (zl : List Int) (zn : Own) : ∀ a b q, Z2b zl zn a q → Z2b zl zn b q → a = b := by
 rintro a b q ⟨_, _, _, e1⟩ ⟨_, _, _, e2⟩
 have e := e1.symm.trans e2
 exact Prod.ext (Z2C (congrArg (fun q : Res => pC (pA q.1)) e)) (Prod.ext (congrArg (fun q : Res => pI (pA (cellAt q 0 1))) e) (Prod.ext (congrArg (fun q : Res => pI (pA (cellAt q 0 2))) e) (Prod.ext (congrArg (fun q : Res => pI (pA (cellAt q 0 3))) e) (Prod.ext (lmap_inj Z3R (congrArg (fun q : Res => pL (pA (cellAt q 0 4))) e)) (Prod.ext (congrArg (fun q : Res => pI (pA (cellAt q 0 5))) e) (congrArg (fun q : Res => pI (pA (cellAt q 0 6))) e))))))
abbrev Z2p (zl : List Int) (zn : Own) : (Z3 × Int × Int × Int × (List Zr) × Int × Int) → Res → Prop := fun r q => ∃ (p0_4 : Own) (ex : List Row), okApp p0_4 = true ∧ q = ((.p (.agg (ZE r.1 .sh .sh))), [(Zj (Zk.mk zl r.2.1 r.2.2.1 r.2.2.2.1 r.2.2.2.2.1 (Zi.mk r.2.2.2.2.2.1 r.2.2.2.2.2.2)) zn p0_4)] ++ ex)
theorem Z8x (zl : List Int) (zn : Own) : ∀ a b q, Z2p zl zn a q → Z2p zl zn b q → a = b := by
 rintro a b q ⟨_, _, _, e1⟩ ⟨_, _, _, e2⟩
 have e := e1.symm.trans e2
 exact Prod.ext (Z2C (congrArg (fun q : Res => pC (pA q.1)) e)) (Prod.ext (congrArg (fun q : Res => pI (pA (cellAt q 0 1))) e) (Prod.ext (congrArg (fun q : Res => pI (pA (cellAt q 0 2))) e) (Prod.ext (congrArg (fun q : Res => pI (pA (cellAt q 0 3))) e) (Prod.ext (lmap_inj Z3R (congrArg (fun q : Res => pL (pA (cellAt q 0 4))) e)) (Prod.ext (congrArg (fun q : Res => pI (pA (cellAt q 0 5))) e) (congrArg (fun q : Res => pI (pA (cellAt q 0 6))) e))))))
abbrev Z2f  : (ZC × Zi) → Res → Prop := fun r q => ∃ (ex : List Row), q = ((.p (.tup [(.agg (Z1f r.1 .sh .sh)), (.agg (Z11 r.2))])), ex)
theorem ZaD  : ∀ a b q, Z2f  a q → Z2f  b q → a = b := by
 rintro a b q ⟨_, e1⟩ ⟨_, e2⟩
 have e := e1.symm.trans e2
 exact Prod.ext (Z8u (congrArg (fun q : Res => pC ((pT (pA q.1)).getD 0 .junk)) e)) (Z6Z (congrArg (fun q : Res => pC ((pT (pA q.1)).getD 1 .junk)) e))
abbrev Z2O  : (Bool) → Res → Prop := fun r q => ∃ (ex : List Row), q = ((bv r), ex)
theorem Zaf  : ∀ a b q, Z2O  a q → Z2O  b q → a = b := by
 rintro a b q ⟨_, e1⟩ ⟨_, e2⟩
 have e := e1.symm.trans e2
 exact congrArg (fun q : Res => pB (pA q.1)) e
abbrev Z1C  : (Bool) → Res → Prop := fun r q => ∃ (ex : List Row), q = ((bv r), ex)
theorem Z77  : ∀ a b q, Z1C  a q → Z1C  b q → a = b := by
 rintro a b q ⟨_, e1⟩ ⟨_, e2⟩
 have e := e1.symm.trans e2
 exact congrArg (fun q : Res => pB (pA q.1)) e
abbrev Z1r  : (Bool) → Res → Prop := fun r q => ∃ (ex : List Row), q = ((bv r), ex)
theorem Z6L  : ∀ a b q, Z1r  a q → Z1r  b q → a = b := by
 rintro a b q ⟨_, e1⟩ ⟨_, e2⟩
 have e := e1.symm.trans e2
 exact congrArg (fun q : Res => pB (pA q.1)) e
abbrev Z14  : (Bool) → Res → Prop := fun r q => ∃ (ex : List Row), q = ((bv r), ex)
theorem Z6s  : ∀ a b q, Z14  a q → Z14  b q → a = b := by
 rintro a b q ⟨_, e1⟩ ⟨_, e2⟩
 have e := e1.symm.trans e2
 exact congrArg (fun q : Res => pB (pA q.1)) e
noncomputable def Z5A (x0 : ByteArray) (x1 : ByteArray) : Option (Bool) := pick fun r => RRun (Z14) (EE 6 [(.p (.v (.string x0))), (.p (.v (.string x1)))] []) r
theorem Z8R (x0 : ByteArray) (x1 : ByteArray) : Sim (Z14) (Z5A x0 x1) (EE 6 [(.p (.v (.string x0))), (.p (.v (.string x1)))] []) := fun _ h => pick_to h
noncomputable def Z52  : Option (Bool) := pick fun r => RRun (Z2O) (EE 15 [] []) r
theorem Z9T  : Sim (Z2O) (Z52) (EE 15 [] []) := fun _ h => pick_to h
noncomputable def Z3F (x0 : ByteArray) : Option (ZC × Zi) := pick fun r => RRun (Z2f) (EE 16 [(.p (.v (.string x0)))] []) r
theorem Z4a (x0 : ByteArray) : Sim (Z2f) (Z3F x0) (EE 16 [(.p (.v (.string x0)))] []) := fun _ h => pick_to h
noncomputable def Z15 (x1 : ByteArray) (zl : List Int) (zp : Int) : Option (Bool × Int) := pick fun r => ∀ (z6 : Int) (zd : Int) (zh : List Zr) (z1 : Int) (z2 : Int) (zn : Own) (zb : Own) (zu : okApp zb = true), RRun (Z3k zl z6 zd zh z1 z2 zn zb) (EE 27 [(.ptr 0 0), (.p (.v (.string x1)))] [(Zj (Zk.mk zl zp z6 zd zh (Zi.mk z1 z2)) zn zb)]) r
theorem Z1b (x1 : ByteArray) (zl : List Int) (zp : Int) (z6 : Int) (zd : Int) (zh : List Zr) (z1 : Int) (z2 : Int) (zn : Own) (zb : Own) (zu : okApp zb = true) : Sim (Z3k zl z6 zd zh z1 z2 zn zb) (Z15 x1 zl zp) (EE 27 [(.ptr 0 0), (.p (.v (.string x1)))] [(Zj (Zk.mk zl zp z6 zd zh (Zi.mk z1 z2)) zn zb)]) := fun _ h => pick_to h z6 zd zh z1 z2 zn zb zu
noncomputable def Z2N (zl : List Int) (zp : Int) (z6 : Int) (zd : Int) (zh : List Zr) (z1 : Int) (z2 : Int) : Option (Z3 × Int × Int × Int × (List Zr) × Int × Int) := pick fun r => ∀ (zn : Own) (zb : Own) (zu : okApp zb = true), RRun (Z2p zl zn) (EE 28 [(.ptr 0 0)] [(Zj (Zk.mk zl zp z6 zd zh (Zi.mk z1 z2)) zn zb)]) r
theorem Z8d (zl : List Int) (zp : Int) (z6 : Int) (zd : Int) (zh : List Zr) (z1 : Int) (z2 : Int) (zn : Own) (zb : Own) (zu : okApp zb = true) : Sim (Z2p zl zn) (Z2N zl zp z6 zd zh z1 z2) (EE 28 [(.ptr 0 0)] [(Zj (Zk.mk zl zp z6 zd zh (Zi.mk z1 z2)) zn zb)]) := fun _ h => pick_to h zn zb zu
noncomputable def Z4b (zl : List Int) (zp : Int) (z6 : Int) (zd : Int) (zh : List Zr) (z1 : Int) (z2 : Int) : Option (Z3 × Int × Int × Int × (List Zr) × Int × Int) := pick fun r => ∀ (zn : Own) (zb : Own) (zu : okApp zb = true), RRun (Z2b zl zn) (EE 35 [(.ptr 0 0)] [(Zj (Zk.mk zl zp z6 zd zh (Zi.mk z1 z2)) zn zb)]) r
theorem Z8e (zl : List Int) (zp : Int) (z6 : Int) (zd : Int) (zh : List Zr) (z1 : Int) (z2 : Int) (zn : Own) (zb : Own) (zu : okApp zb = true) : Sim (Z2b zl zn) (Z4b zl zp z6 zd zh z1 z2) (EE 35 [(.ptr 0 0)] [(Zj (Zk.mk zl zp z6 zd zh (Zi.mk z1 z2)) zn zb)]) := fun _ h => pick_to h zn zb zu
noncomputable def Z3v (x3 : List Z3) (zl : List Int) (zp : Int) (z6 : Int) (zd : Int) (zh : List Zr) (z1 : Int) (z2 : Int) : Option (Z3 × Int × Int × Int × (List Zr) × Int × Int) := pick fun r => ∀ (b1 : Z3) (ox3 : Own) (zn : Own) (zb : Own) (zB : Own) (zy : Own) (hox3 : okApp ox3 = true) (zu : okApp zb = true) (zQ : okApp zB = true) (zK : okApp zy = true), RRun (Z2b zl zn) (Zbx 1 (.ptr 0 0) (.ptr 1 0) (.p (.lst ox3 (x3.map ZI))) [(Zj (Zk.mk zl zp z6 zd zh (Zi.mk z1 z2)) zn zb), (Zq b1 zB zy)]) r
theorem Z73 (x3 : List Z3) (zl : List Int) (zp : Int) (z6 : Int) (zd : Int) (zh : List Zr) (z1 : Int) (z2 : Int) (b1 : Z3) (ox3 : Own) (zn : Own) (zb : Own) (zB : Own) (zy : Own) (hox3 : okApp ox3 = true) (zu : okApp zb = true) (zQ : okApp zB = true) (zK : okApp zy = true) : Sim (Z2b zl zn) (Z3v x3 zl zp z6 zd zh z1 z2) (Zbx 1 (.ptr 0 0) (.ptr 1 0) (.p (.lst ox3 (x3.map ZI))) [(Zj (Zk.mk zl zp z6 zd zh (Zi.mk z1 z2)) zn zb), (Zq b1 zB zy)]) := fun _ h => pick_to h b1 ox3 zn zb zB zy hox3 zu zQ zK
noncomputable def Z1F (b0 : Zk) : Option (Int) := pick fun r => ∀ (zn : Own) (zb : Own) (zu : okApp zb = true), RRun (Z3Y b0 zn zb) (EE 41 [(.ptr 0 0)] [(Zj b0 zn zb)]) r
theorem Z1I (b0 : Zk) (zn : Own) (zb : Own) (zu : okApp zb = true) : Sim (Z3Y b0 zn zb) (Z1F b0) (EE 41 [(.ptr 0 0)] [(Zj b0 zn zb)]) := fun _ h => pick_to h zn zb zu
noncomputable def Z7J (x0 : List Int) (x1 : Int) : Option (Int × Int) := pick fun r => ∀ (ox0 : Own), RRun (Z57) (EE 45 [(.p (.lst ox0 (x0.map (eI .u8)))), (iv x1)] []) r
theorem Zb6 (x0 : List Int) (x1 : Int) (ox0 : Own) : Sim (Z57) (Z7J x0 x1) (EE 45 [(.p (.lst ox0 (x0.map (eI .u8)))), (iv x1)] []) := fun _ h => pick_to h ox0
noncomputable def Z5x (x0 : List Int) : Option (Int × Int) := pick fun r => ∀ (ox0 : Own), RRun (Z4t) (EE 53 [(.p (.lst ox0 (x0.map (eI .u8))))] []) r
theorem Z8O (x0 : List Int) (ox0 : Own) : Sim (Z4t) (Z5x x0) (EE 53 [(.p (.lst ox0 (x0.map (eI .u8))))] []) := fun _ h => pick_to h ox0
noncomputable def Z6f (x0 : Int) (x1 : List Z3) : Option (Z3) := pick fun r => ∀ (ox1 : Own), RRun (Z5D) (EE 36 [(iv x0), (.p (.lst ox1 (x1.map ZI)))] []) r
theorem Z9z (x0 : Int) (x1 : List Z3) (ox1 : Own) : Sim (Z5D) (Z6f x0 x1) (EE 36 [(iv x0), (.p (.lst ox1 (x1.map ZI)))] []) := fun _ h => pick_to h ox1
noncomputable def Z5R (zl : List Int) (zp : Int) (z6 : Int) (zd : Int) (zh : List Zr) (z1 : Int) (z2 : Int) : Option (Z3 × Bool × Int × Int × Int × (List Zr) × Int × Int) := pick fun r => ∀ (zn : Own) (zb : Own) (zu : okApp zb = true), RRun (Z40 zl zn) (EE 42 [(.ptr 0 0)] [(Zj (Zk.mk zl zp z6 zd zh (Zi.mk z1 z2)) zn zb)]) r
theorem ZaF (zl : List Int) (zp : Int) (z6 : Int) (zd : Int) (zh : List Zr) (z1 : Int) (z2 : Int) (zn : Own) (zb : Own) (zu : okApp zb = true) : Sim (Z40 zl zn) (Z5R zl zp z6 zd zh z1 z2) (EE 42 [(.ptr 0 0)] [(Zj (Zk.mk zl zp z6 zd zh (Zi.mk z1 z2)) zn zb)]) := fun _ h => pick_to h zn zb zu
noncomputable def Z22 (zl : List Int) (zp : Int) : Option (Int × Int) := pick fun r => ∀ (z6 : Int) (zd : Int) (zh : List Zr) (z1 : Int) (z2 : Int) (zn : Own) (zb : Own) (zu : okApp zb = true), RRun (Z4P zl z6 zd zh z1 z2 zn zb) (EE 46 [(.ptr 0 0)] [(Zj (Zk.mk zl zp z6 zd zh (Zi.mk z1 z2)) zn zb)]) r
theorem Z2o (zl : List Int) (zp : Int) (z6 : Int) (zd : Int) (zh : List Zr) (z1 : Int) (z2 : Int) (zn : Own) (zb : Own) (zu : okApp zb = true) : Sim (Z4P zl z6 zd zh z1 z2 zn zb) (Z22 zl zp) (EE 46 [(.ptr 0 0)] [(Zj (Zk.mk zl zp z6 zd zh (Zi.mk z1 z2)) zn zb)]) := fun _ h => pick_to h z6 zd zh z1 z2 zn zb zu
noncomputable def Z1y (x0 : Int) : Option (Z7) := pick fun r => RRun (Z7K) (EE 48 [(iv x0)] []) r
theorem Z1s (x0 : Int) : Sim (Z7K) (Z1y x0) (EE 48 [(iv x0)] []) := fun _ h => pick_to h
noncomputable def Z2E (x0 : Bool) (x1 : List Z7) : Option (Z3) := pick fun r => ∀ (ox1 : Own), RRun (Z6D) (EE 47 [(bv x0), (.p (.lst ox1 (x1.map Zs)))] []) r
theorem Z2M (x0 : Bool) (x1 : List Z7) (ox1 : Own) : Sim (Z6D) (Z2E x0 x1) (EE 47 [(bv x0), (.p (.lst ox1 (x1.map Zs)))] []) := fun _ h => pick_to h ox1
noncomputable def Z8C (x0 : List Z7) : Option ((List Z7) × Int) := pick fun r => ∀ (ox0 : Own), RRun (Z6n) (EE 54 [(.p (.lst ox0 (x0.map Zs)))] []) r
theorem ZcF (x0 : List Z7) (ox0 : Own) : Sim (Z6n) (Z8C x0) (EE 54 [(.p (.lst ox0 (x0.map Zs)))] []) := fun _ h => pick_to h ox0
noncomputable def Z3e (x0 : List Z7) : Option (Bool) := pick fun r => ∀ (ox0 : Own), RRun (Z2I) (EE 65 [(.p (.lst ox0 (x0.map Zs))), (.clo 66 [] [])] []) r
theorem Z7B (x0 : List Z7) (ox0 : Own) : Sim (Z2I) (Z3e x0) (EE 65 [(.p (.lst ox0 (x0.map Zs))), (.clo 66 [] [])] []) := fun _ h => pick_to h ox0
noncomputable def Z3K (x0 : List Z7) : Option (Int) := pick fun r => ∀ (ox0 : Own), RRun (Z1o) (EE 73 [(.p (.lst ox0 (x0.map Zs))), (.clo 66 [] [])] []) r
theorem Z8o (x0 : List Z7) (ox0 : Own) : Sim (Z1o) (Z3K x0) (EE 73 [(.p (.lst ox0 (x0.map Zs))), (.clo 66 [] [])] []) := fun _ h => pick_to h ox0
noncomputable def Z2F (x0 : List Z7) (x7 : Int) (x8 : Int) : Option (Int) := pick fun r => ∀ (ox0 : Own), RRun (Z1o) (Zb7 0 (.p (.lst ox0 (x0.map Zs))) (.clo 66 [] []) (iv x7) (iv x8) []) r
theorem Z5r (x0 : List Z7) (x7 : Int) (x8 : Int) (ox0 : Own) : Sim (Z1o) (Z2F x0 x7 x8) (Zb7 0 (.p (.lst ox0 (x0.map Zs))) (.clo 66 [] []) (iv x7) (iv x8) []) := fun _ h => pick_to h ox0
noncomputable def Z7q (x0 : Z7) : Option (Bool) := pick fun r => RRun (Z6m) (EE 66 [(.p (.agg (ZG x0)))] []) r
theorem Zcq (x0 : Z7) : Sim (Z6m) (Z7q x0) (EE 66 [(.p (.agg (ZG x0)))] []) := fun _ h => pick_to h
noncomputable def Z4S (x0 : Z7) : Option (Bool) := pick fun r => RRun (Z4O) (EE 67 [(.p (.agg (ZG x0)))] []) r
theorem Z7P (x0 : Z7) : Sim (Z4O) (Z4S x0) (EE 67 [(.p (.agg (ZG x0)))] []) := fun _ h => pick_to h
noncomputable def Z7v (x0 : List Z7) : Option ((List Z7)) := pick fun r => ∀ (ox0 : Own), RRun (Z7u) (EE 68 [(.p (.lst ox0 (x0.map Zs)))] []) r
theorem Z9A (x0 : List Z7) (ox0 : Own) : Sim (Z7u) (Z7v x0) (EE 68 [(.p (.lst ox0 (x0.map Zs)))] []) := fun _ h => pick_to h ox0
noncomputable def Z5W (x0 : List Z7) : Option ((List Z7) × Int) := pick fun r => ∀ (ox0 : Own), RRun (Z5f) (EE 55 [(.p (.lst ox0 (x0.map Zs)))] []) r
theorem Z9d (x0 : List Z7) (ox0 : Own) : Sim (Z5f) (Z5W x0) (EE 55 [(.p (.lst ox0 (x0.map Zs)))] []) := fun _ h => pick_to h ox0
noncomputable def Z4i (x0 : List Z7) : Option (Bool) := pick fun r => ∀ (ox0 : Own), RRun (Z1M) (EE 69 [(.p (.lst ox0 (x0.map Zs)))] []) r
theorem Z6p (x0 : List Z7) (ox0 : Own) : Sim (Z1M) (Z4i x0) (EE 69 [(.p (.lst ox0 (x0.map Zs)))] []) := fun _ h => pick_to h ox0
noncomputable def Z4j (x3 : Int) (x6 : List Z7) (x7 : Int) (x8 : Int) : Option (Bool) := pick fun r => ∀ (ox6 : Own), RRun (Z1M) (Zbk 0 (iv x3) (.p (.lst ox6 (x6.map Zs))) (iv x7) (iv x8) []) r
theorem Z6R (x3 : Int) (x6 : List Z7) (x7 : Int) (x8 : Int) (ox6 : Own) : Sim (Z1M) (Z4j x3 x6 x7 x8) (Zbk 0 (iv x3) (.p (.lst ox6 (x6.map Zs))) (iv x7) (iv x8) []) := fun _ h => pick_to h ox6
noncomputable def Z6F (x0 : List Z7) : Option ((List Z7)) := pick fun r => ∀ (ox0 : Own), RRun (Z2d) (EE 70 [(.p (.lst ox0 (x0.map Zs)))] []) r
theorem ZbY (x0 : List Z7) (ox0 : Own) : Sim (Z2d) (Z6F x0) (EE 70 [(.p (.lst ox0 (x0.map Zs)))] []) := fun _ h => pick_to h ox0
noncomputable def Z5c (x3 : List Z7) (x4 : Int) (x7 : List Z7) (x8 : Int) (x9 : Int) : Option ((List Z7)) := pick fun r => ∀ (ox3 : Own) (ox7 : Own) (hox3 : okApp ox3 = true), RRun (Z2d) (ZaY 0 (.p (.lst ox3 (x3.map Zs))) (iv x4) (.p (.lst ox7 (x7.map Zs))) (iv x8) (iv x9) []) r
theorem Z8f (x3 : List Z7) (x4 : Int) (x7 : List Z7) (x8 : Int) (x9 : Int) (ox3 : Own) (ox7 : Own) (hox3 : okApp ox3 = true) : Sim (Z2d) (Z5c x3 x4 x7 x8 x9) (ZaY 0 (.p (.lst ox3 (x3.map Zs))) (iv x4) (.p (.lst ox7 (x7.map Zs))) (iv x8) (iv x9) []) := fun _ h => pick_to h ox3 ox7 hox3
noncomputable def Z2Y (x1 : Int) (zl : List Int) (zp : Int) (z6 : Int) (zd : Int) (zh : List Zr) (z1 : Int) (z2 : Int) : Option (Z3 × Int × (List Zr) × Int × Int) := pick fun r => ∀ (zn : Own) (zb : Own) (zu : okApp zb = true), RRun (Z2A zl z6 zd zn) (EE 49 [(.ptr 0 0), (iv x1)] [(Zj (Zk.mk zl zp z6 zd zh (Zi.mk z1 z2)) zn zb)]) r
theorem Zaa (x1 : Int) (zl : List Int) (zp : Int) (z6 : Int) (zd : Int) (zh : List Zr) (z1 : Int) (z2 : Int) (zn : Own) (zb : Own) (zu : okApp zb = true) : Sim (Z2A zl z6 zd zn) (Z2Y x1 zl zp z6 zd zh z1 z2) (EE 49 [(.ptr 0 0), (iv x1)] [(Zj (Zk.mk zl zp z6 zd zh (Zi.mk z1 z2)) zn zb)]) := fun _ h => pick_to h zn zb zu
noncomputable def ZT (x1 : Int) (x2 : Int) (zl : List Int) (z1 : Int) (z2 : Int) : Option (Int × Int × Int) := pick fun r => ∀ (zp : Int) (z6 : Int) (zd : Int) (zh : List Zr) (zn : Own) (zb : Own) (zu : okApp zb = true), RRun (Z3Z zl z6 zd zh zn zb) (EE 29 [(.ptr 0 0), (iv x1), (iv x2)] [(Zj (Zk.mk zl zp z6 zd zh (Zi.mk z1 z2)) zn zb)]) r
theorem ZX (x1 : Int) (x2 : Int) (zl : List Int) (zp : Int) (z6 : Int) (zd : Int) (zh : List Zr) (z1 : Int) (z2 : Int) (zn : Own) (zb : Own) (zu : okApp zb = true) : Sim (Z3Z zl z6 zd zh zn zb) (ZT x1 x2 zl z1 z2) (EE 29 [(.ptr 0 0), (iv x1), (iv x2)] [(Zj (Zk.mk zl zp z6 zd zh (Zi.mk z1 z2)) zn zb)]) := fun _ h => pick_to h zp z6 zd zh zn zb zu
noncomputable def Z4J (x0 : Int) : Option ((Own × (List Z7))) := pick fun r => RRun (Z4K) (EE 56 [(iv x0)] []) r
theorem Z6v (x0 : Int) : Sim (Z4K) (Z4J x0) (EE 56 [(iv x0)] []) := fun _ h => pick_to h
noncomputable def Z4B (x1 : Int) (x2 : Int) (zl : List Int) (zp : Int) (z6 : Int) (zd : Int) (zh : List Zr) (z1 : Int) (z2 : Int) : Option (Int × Int × Int × Int) := pick fun r => ∀ (zn : Own) (zb : Own) (zu : okApp zb = true), RRun (Z35 zl z6 zd zh zn zb) (EE 57 [(.ptr 0 0), (iv x1), (iv x2)] [(Zj (Zk.mk zl zp z6 zd zh (Zi.mk z1 z2)) zn zb)]) r
theorem Z7y (x1 : Int) (x2 : Int) (zl : List Int) (zp : Int) (z6 : Int) (zd : Int) (zh : List Zr) (z1 : Int) (z2 : Int) (zn : Own) (zb : Own) (zu : okApp zb = true) : Sim (Z35 zl z6 zd zh zn zb) (Z4B x1 x2 zl zp z6 zd zh z1 z2) (EE 57 [(.ptr 0 0), (iv x1), (iv x2)] [(Zj (Zk.mk zl zp z6 zd zh (Zi.mk z1 z2)) zn zb)]) := fun _ h => pick_to h zn zb zu
noncomputable def Z7S (x0 : Int) : Option (Int) := pick fun r => RRun (Z50) (EE 71 [(iv x0)] []) r
theorem Zbe (x0 : Int) : Sim (Z50) (Z7S x0) (EE 71 [(iv x0)] []) := fun _ h => pick_to h
noncomputable def Z61 (x0 : List Z7) (x1 : Int) : Option (Bool) := pick fun r => ∀ (ox0 : Own), RRun (Z5Z) (EE 19 [(.p (.lst ox0 (x0.map Zs))), (iv x1)] []) r
theorem Zc2 (x0 : List Z7) (x1 : Int) (ox0 : Own) : Sim (Z5Z) (Z61 x0 x1) (EE 19 [(.p (.lst ox0 (x0.map Zs))), (iv x1)] []) := fun _ h => pick_to h ox0
noncomputable def Z3d (x0 : List Z7) (zZ : Int) : Option (Bool) := pick fun r => ∀ (ox0 : Own), RRun (Z2J zZ) (EE 30 [(.p (.lst ox0 (x0.map Zs))), (.clo 31 [] [(.ptr 0 0)])] [[(iv zZ)]]) r
theorem Z7D (x0 : List Z7) (zZ : Int) (ox0 : Own) : Sim (Z2J zZ) (Z3d x0 zZ) (EE 30 [(.p (.lst ox0 (x0.map Zs))), (.clo 31 [] [(.ptr 0 0)])] [[(iv zZ)]]) := fun _ h => pick_to h ox0
noncomputable def Z3T (x0 : List Z7) (zZ : Int) : Option (Int) := pick fun r => ∀ (ox0 : Own), RRun (Z1p zZ) (EE 37 [(.p (.lst ox0 (x0.map Zs))), (.clo 31 [] [(.ptr 0 0)])] [[(iv zZ)]]) r
theorem Z8n (x0 : List Z7) (zZ : Int) (ox0 : Own) : Sim (Z1p zZ) (Z3T x0 zZ) (EE 37 [(.p (.lst ox0 (x0.map Zs))), (.clo 31 [] [(.ptr 0 0)])] [[(iv zZ)]]) := fun _ h => pick_to h ox0
noncomputable def Z2K (x0 : List Z7) (x7 : Int) (x8 : Int) (zZ : Int) : Option (Int) := pick fun r => ∀ (ox0 : Own), RRun (Z1p zZ) (Zbr 1 (.p (.lst ox0 (x0.map Zs))) (.clo 31 [] [(.ptr 0 0)]) (iv x7) (iv x8) [[(iv zZ)]]) r
theorem Z5s (x0 : List Z7) (x7 : Int) (x8 : Int) (zZ : Int) (ox0 : Own) : Sim (Z1p zZ) (Z2K x0 x7 x8 zZ) (Zbr 1 (.p (.lst ox0 (x0.map Zs))) (.clo 31 [] [(.ptr 0 0)]) (iv x7) (iv x8) [[(iv zZ)]]) := fun _ h => pick_to h ox0
noncomputable def Z6b (x0 : Z7) (zZ : Int) : Option (Bool) := pick fun r => RRun (Z5q zZ) (EE 31 [(.p (.agg (ZG x0))), (.ptr 0 0)] [[(iv zZ)]]) r
theorem ZbG (x0 : Z7) (zZ : Int) : Sim (Z5q zZ) (Z6b x0 zZ) (EE 31 [(.p (.agg (ZG x0))), (.ptr 0 0)] [[(iv zZ)]]) := fun _ h => pick_to h
noncomputable def Z5u (x1 : Int) (zl : List Int) (zp : Int) (z6 : Int) (zd : Int) (zh : List Zr) (z1 : Int) (z2 : Int) : Option (Z3 × Int × Int × Int) := pick fun r => ∀ (zn : Own) (zb : Own) (zu : okApp zb = true), RRun (Z19 zl z6 zd zh zn zb) (EE 50 [(.ptr 0 0), (iv x1)] [(Zj (Zk.mk zl zp z6 zd zh (Zi.mk z1 z2)) zn zb)]) r
theorem Zas (x1 : Int) (zl : List Int) (zp : Int) (z6 : Int) (zd : Int) (zh : List Zr) (z1 : Int) (z2 : Int) (zn : Own) (zb : Own) (zu : okApp zb = true) : Sim (Z19 zl z6 zd zh zn zb) (Z5u x1 zl zp z6 zd zh z1 z2) (EE 50 [(.ptr 0 0), (iv x1)] [(Zj (Zk.mk zl zp z6 zd zh (Zi.mk z1 z2)) zn zb)]) := fun _ h => pick_to h zn zb zu
noncomputable def Z2L (x1 : Int) (x5 : Bool) (x8 : Int) (zl : List Int) (zp : Int) (z6 : Int) (zd : Int) (zh : List Zr) (z1 : Int) (z2 : Int) (z10 : List Z7) : Option (Z3 × Int × Int × Int) := pick fun r => ∀ (b1 : Z3) (zn : Own) (zb : Own) (zB : Own) (zy : Own) (z1d : Own) (zu : okApp zb = true) (zQ : okApp zB = true) (zK : okApp zy = true), RRun (Z19 zl z6 zd zh zn zb) (Zbl 1 (.ptr 0 0) (iv x1) (.ptr 1 0) (bv x5) (.ptr 2 0) (.clo 58 [] [(.ptr 2 0)]) (iv x8) [(Zj (Zk.mk zl zp z6 zd zh (Zi.mk z1 z2)) zn zb), (Zq b1 zB zy), [(.p (.lst z1d (z10.map Zs)))]]) r
theorem Z6C (x1 : Int) (x5 : Bool) (x8 : Int) (zl : List Int) (zp : Int) (z6 : Int) (zd : Int) (zh : List Zr) (z1 : Int) (z2 : Int) (b1 : Z3) (z10 : List Z7) (zn : Own) (zb : Own) (zB : Own) (zy : Own) (z1d : Own) (zu : okApp zb = true) (zQ : okApp zB = true) (zK : okApp zy = true) : Sim (Z19 zl z6 zd zh zn zb) (Z2L x1 x5 x8 zl zp z6 zd zh z1 z2 z10) (Zbl 1 (.ptr 0 0) (iv x1) (.ptr 1 0) (bv x5) (.ptr 2 0) (.clo 58 [] [(.ptr 2 0)]) (iv x8) [(Zj (Zk.mk zl zp z6 zd zh (Zi.mk z1 z2)) zn zb), (Zq b1 zB zy), [(.p (.lst z1d (z10.map Zs)))]]) := fun _ h => pick_to h b1 zn zb zB zy z1d zu zQ zK
noncomputable def Z3p (zl : List Int) (zp : Int) (z6 : Int) (zd : Int) (zh : List Zr) (z1 : Int) (z2 : Int) : Option (Int × (Own × (List Z7)) × Bool × Int × Int × Int) := pick fun r => ∀ (zn : Own) (zb : Own) (zu : okApp zb = true), RRun (Z2z zl z6 zd zh zn zb) (EE 60 [(.ptr 0 0)] [(Zj (Zk.mk zl zp z6 zd zh (Zi.mk z1 z2)) zn zb)]) r
theorem Z6T (zl : List Int) (zp : Int) (z6 : Int) (zd : Int) (zh : List Zr) (z1 : Int) (z2 : Int) (zn : Own) (zb : Own) (zu : okApp zb = true) : Sim (Z2z zl z6 zd zh zn zb) (Z3p zl zp z6 zd zh z1 z2) (EE 60 [(.ptr 0 0)] [(Zj (Zk.mk zl zp z6 zd zh (Zi.mk z1 z2)) zn zb)]) := fun _ h => pick_to h zn zb zu
noncomputable def Z43 (x0 : List Z7) (zZ : List Z7) : Option ((List Z7)) := pick fun r => ∀ (ox0 : Own) (z9a : Own), RRun (Z42) (EE 58 [(.p (.lst ox0 (x0.map Zs))), (.ptr 0 0)] [[(.p (.lst z9a (zZ.map Zs)))]]) r
theorem Z6N (x0 : List Z7) (zZ : List Z7) (ox0 : Own) (z9a : Own) : Sim (Z42) (Z43 x0 zZ) (EE 58 [(.p (.lst ox0 (x0.map Zs))), (.ptr 0 0)] [[(.p (.lst z9a (zZ.map Zs)))]]) := fun _ h => pick_to h ox0 z9a
noncomputable def Z7k (x0 : List Z7) (x1 : List Z7) : Option ((List Z7) × Int) := pick fun r => ∀ (ox0 : Own) (ox1 : Own), RRun (Z4Y) (EE 59 [(.p (.lst ox0 (x0.map Zs))), (.p (.lst ox1 (x1.map Zs)))] []) r
theorem Zcm (x0 : List Z7) (x1 : List Z7) (ox0 : Own) (ox1 : Own) : Sim (Z4Y) (Z7k x0 x1) (EE 59 [(.p (.lst ox0 (x0.map Zs))), (.p (.lst ox1 (x1.map Zs)))] []) := fun _ h => pick_to h ox0 ox1
noncomputable def Z6i (x0 : List (List Z7)) : Option ((List Z7)) := pick fun r => ∀ (ox0 : Own), RRun (Z5d) (EE 72 [(.p (.lst ox0 (x0.map (eL Zs))))] []) r
theorem Za8 (x0 : List (List Z7)) (ox0 : Own) : Sim (Z5d) (Z6i x0) (EE 72 [(.p (.lst ox0 (x0.map (eL Zs))))] []) := fun _ h => pick_to h ox0
noncomputable def Z37 (x1 : Int) (zl : List Int) (zp : Int) (z6 : Int) (zd : Int) (zh : List Zr) (z1 : Int) (z2 : Int) : Option (Z3 × Bool × Int × Int × Int × (List Zr) × Int × Int) := pick fun r => ∀ (zn : Own) (zb : Own) (zu : okApp zb = true), RRun (Z28 zl zn) (EE 51 [(.ptr 0 0), (iv x1)] [(Zj (Zk.mk zl zp z6 zd zh (Zi.mk z1 z2)) zn zb)]) r
theorem Zax (x1 : Int) (zl : List Int) (zp : Int) (z6 : Int) (zd : Int) (zh : List Zr) (z1 : Int) (z2 : Int) (zn : Own) (zb : Own) (zu : okApp zb = true) : Sim (Z28 zl zn) (Z37 x1 zl zp z6 zd zh z1 z2) (EE 51 [(.ptr 0 0), (iv x1)] [(Zj (Zk.mk zl zp z6 zd zh (Zi.mk z1 z2)) zn zb)]) := fun _ h => pick_to h zn zb zu
noncomputable def Z7Z  : Option ((List ByteArray)) := pick fun r => RRun (Z6A) (EE 62 [] []) r
theorem Zcr  : Sim (Z6A) (Z7Z) (EE 62 [] []) := fun _ h => pick_to h
noncomputable def Z3A (x0 : List ByteArray) (zl : List Int) (zp : Int) : Option (Int × Int) := pick fun r => ∀ (z6 : Int) (zd : Int) (zh : List Zr) (z1 : Int) (z2 : Int) (ox0 : Own) (zn : Own) (zb : Own) (zu : okApp zb = true), RRun (Z1j zl z6 zd zh z1 z2 zn zb) (EE 61 [(.p (.lst ox0 (x0.map eS))), (.clo 27 [(.ptr 0 0)] [])] [(Zj (Zk.mk zl zp z6 zd zh (Zi.mk z1 z2)) zn zb)]) r
theorem Z85 (x0 : List ByteArray) (zl : List Int) (zp : Int) (z6 : Int) (zd : Int) (zh : List Zr) (z1 : Int) (z2 : Int) (ox0 : Own) (zn : Own) (zb : Own) (zu : okApp zb = true) : Sim (Z1j zl z6 zd zh z1 z2 zn zb) (Z3A x0 zl zp) (EE 61 [(.p (.lst ox0 (x0.map eS))), (.clo 27 [(.ptr 0 0)] [])] [(Zj (Zk.mk zl zp z6 zd zh (Zi.mk z1 z2)) zn zb)]) := fun _ h => pick_to h z6 zd zh z1 z2 ox0 zn zb zu
noncomputable def Z1t (x0 : List ByteArray) (x7 : Int) (x8 : Int) (zl : List Int) (zp : Int) : Option (Int × Int) := pick fun r => ∀ (z6 : Int) (zd : Int) (zh : List Zr) (z1 : Int) (z2 : Int) (ox0 : Own) (zn : Own) (zb : Own) (zu : okApp zb = true), RRun (Z1j zl z6 zd zh z1 z2 zn zb) (Zbp 1 (.p (.lst ox0 (x0.map eS))) (.clo 27 [(.ptr 0 0)] []) (iv x7) (iv x8) [(Zj (Zk.mk zl zp z6 zd zh (Zi.mk z1 z2)) zn zb)]) r
theorem Z5g (x0 : List ByteArray) (x7 : Int) (x8 : Int) (zl : List Int) (zp : Int) (z6 : Int) (zd : Int) (zh : List Zr) (z1 : Int) (z2 : Int) (ox0 : Own) (zn : Own) (zb : Own) (zu : okApp zb = true) : Sim (Z1j zl z6 zd zh z1 z2 zn zb) (Z1t x0 x7 x8 zl zp) (Zbp 1 (.p (.lst ox0 (x0.map eS))) (.clo 27 [(.ptr 0 0)] []) (iv x7) (iv x8) [(Zj (Zk.mk zl zp z6 zd zh (Zi.mk z1 z2)) zn zb)]) := fun _ h => pick_to h z6 zd zh z1 z2 ox0 zn zb zu
noncomputable def Z4d (x1 : Z3) (x2 : Bool) (zl : List Int) (zp : Int) (z6 : Int) (zd : Int) (zh : List Zr) (z1 : Int) (z2 : Int) : Option (Z3 × Int × Int × Int) := pick fun r => ∀ (z1u : Own) (z1g : Own) (zn : Own) (zb : Own) (zu : okApp zb = true), RRun (Z2B zl z6 zd zh zn zb) (EE 43 [(.ptr 0 0), (.p (.agg (ZE x1 z1u z1g))), (bv x2)] [(Zj (Zk.mk zl zp z6 zd zh (Zi.mk z1 z2)) zn zb)]) r
theorem Zah (x1 : Z3) (x2 : Bool) (zl : List Int) (zp : Int) (z6 : Int) (zd : Int) (zh : List Zr) (z1 : Int) (z2 : Int) (z1u : Own) (z1g : Own) (zn : Own) (zb : Own) (zu : okApp zb = true) : Sim (Z2B zl z6 zd zh zn zb) (Z4d x1 x2 zl zp z6 zd zh z1 z2) (EE 43 [(.ptr 0 0), (.p (.agg (ZE x1 z1u z1g))), (bv x2)] [(Zj (Zk.mk zl zp z6 zd zh (Zi.mk z1 z2)) zn zb)]) := fun _ h => pick_to h z1u z1g zn zb zu
noncomputable def Z4k (x1 : Int) (zl : List Int) (zp : Int) (z6 : Int) (zd : Int) (zh : List Zr) (z1 : Int) (z2 : Int) : Option (Int × Int × Int × Int × Int) := pick fun r => ∀ (zn : Own) (zb : Own) (zu : okApp zb = true), RRun (Z1O zl z6 zd zh zn zb) (EE 52 [(.ptr 0 0), (iv x1)] [(Zj (Zk.mk zl zp z6 zd zh (Zi.mk z1 z2)) zn zb)]) r
theorem Zag (x1 : Int) (zl : List Int) (zp : Int) (z6 : Int) (zd : Int) (zh : List Zr) (z1 : Int) (z2 : Int) (zn : Own) (zb : Own) (zu : okApp zb = true) : Sim (Z1O zl z6 zd zh zn zb) (Z4k x1 zl zp z6 zd zh z1 z2) (EE 52 [(.ptr 0 0), (iv x1)] [(Zj (Zk.mk zl zp z6 zd zh (Zi.mk z1 z2)) zn zb)]) := fun _ h => pick_to h zn zb zu
noncomputable def Z3s (zl : List Int) (zp : Int) (z6 : Int) (zd : Int) (zh : List Zr) (z1 : Int) (z2 : Int) : Option (Int × Int) := pick fun r => ∀ (zn : Own) (zb : Own) (zu : okApp zb = true), RRun (Z1Z zl z6 zd zh z1 z2 zn zb) (EE 63 [(.ptr 0 0)] [(Zj (Zk.mk zl zp z6 zd zh (Zi.mk z1 z2)) zn zb)]) r
theorem Z6V (zl : List Int) (zp : Int) (z6 : Int) (zd : Int) (zh : List Zr) (z1 : Int) (z2 : Int) (zn : Own) (zb : Own) (zu : okApp zb = true) : Sim (Z1Z zl z6 zd zh z1 z2 zn zb) (Z3s zl zp z6 zd zh z1 z2) (EE 63 [(.ptr 0 0)] [(Zj (Zk.mk zl zp z6 zd zh (Zi.mk z1 z2)) zn zb)]) := fun _ h => pick_to h zn zb zu
noncomputable def Z2x (x3 : Int) (x4 : Int) (zl : List Int) (zp : Int) (z6 : Int) (zd : Int) (zh : List Zr) (z1 : Int) (z2 : Int) : Option (Int × Int) := pick fun r => ∀ (zn : Own) (zb : Own) (zu : okApp zb = true), RRun (Z1Z zl z6 zd zh z1 z2 zn zb) (Zbq 1 (.ptr 0 0) (iv x3) (iv x4) [(Zj (Zk.mk zl zp z6 zd zh (Zi.mk z1 z2)) zn zb)]) r
theorem Z6t (x3 : Int) (x4 : Int) (zl : List Int) (zp : Int) (z6 : Int) (zd : Int) (zh : List Zr) (z1 : Int) (z2 : Int) (zn : Own) (zb : Own) (zu : okApp zb = true) : Sim (Z1Z zl z6 zd zh z1 z2 zn zb) (Z2x x3 x4 zl zp z6 zd zh z1 z2) (Zbq 1 (.ptr 0 0) (iv x3) (iv x4) [(Zj (Zk.mk zl zp z6 zd zh (Zi.mk z1 z2)) zn zb)]) := fun _ h => pick_to h zn zb zu
noncomputable def Z3r (x3 : List Z3) (zl : List Int) (zp : Int) (z6 : Int) (zd : Int) (zh : List Zr) (z1 : Int) (z2 : Int) : Option (Z3 × Int × Int × Int × (List Zr) × Int × Int) := pick fun r => ∀ (b1 : Z3) (ox3 : Own) (zn : Own) (zb : Own) (zB : Own) (zy : Own) (hox3 : okApp ox3 = true) (zu : okApp zb = true) (zQ : okApp zB = true) (zK : okApp zy = true), RRun (Z2p zl zn) (Zb8 1 (.ptr 0 0) (.ptr 1 0) (.p (.lst ox3 (x3.map ZI))) [(Zj (Zk.mk zl zp z6 zd zh (Zi.mk z1 z2)) zn zb), (Zq b1 zB zy)]) r
theorem Z76 (x3 : List Z3) (zl : List Int) (zp : Int) (z6 : Int) (zd : Int) (zh : List Zr) (z1 : Int) (z2 : Int) (b1 : Z3) (ox3 : Own) (zn : Own) (zb : Own) (zB : Own) (zy : Own) (hox3 : okApp ox3 = true) (zu : okApp zb = true) (zQ : okApp zB = true) (zK : okApp zy = true) : Sim (Z2p zl zn) (Z3r x3 zl zp z6 zd zh z1 z2) (Zb8 1 (.ptr 0 0) (.ptr 1 0) (.p (.lst ox3 (x3.map ZI))) [(Zj (Zk.mk zl zp z6 zd zh (Zi.mk z1 z2)) zn zb), (Zq b1 zB zy)]) := fun _ h => pick_to h b1 ox3 zn zb zB zy hox3 zu zQ zK
noncomputable def Z4W (x50 : List Zr) (x51 : Int) (x52 : Int) (z1R : List Int) (zR : Int) (zJ : Int) (zS : Int) (zM : Int) (zW : Int) (zV : Int) (zN : Int) (zO : Int) (zP : List Z7) (zL : List Z3) (z12 : Bool) : Option (ZC × Zi) := pick fun r => ∀ (b0 : ZC) (b1 : Zi) (z1K : Int) (z1z : Int) (z1e : List Zr) (z1q : Int) (ox50 : Own) (zH : Own) (zF : Own) (z2e : Own) (z18 : Own) (zY : Own) (zU : Own) (z1v : okApp zH = true) (z1m : okApp zF = true) (z2r : okApp z18 = true), RRun (Z2f) (Zbd 0 (.ptr 0 0) (.ptr 1 0) (.ptr 2 0) (.ptr 3 0) (.p (.lst ox50 (x50.map Z1A))) (iv x51) (iv x52) [(Zv b0 zH zF), (ZD b1), (Zj (Zk.mk z1R z1K zR z1z z1e (Zi.mk zJ zS)) z2e z18), (Zv (ZC.mk (Z3.mk zM zW zV zN zO zP zL) z1q z12) zY zU)]) r
theorem Z8N (x50 : List Zr) (x51 : Int) (x52 : Int) (b0 : ZC) (b1 : Zi) (z1R : List Int) (z1K : Int) (zR : Int) (z1z : Int) (z1e : List Zr) (zJ : Int) (zS : Int) (zM : Int) (zW : Int) (zV : Int) (zN : Int) (zO : Int) (zP : List Z7) (zL : List Z3) (z1q : Int) (z12 : Bool) (ox50 : Own) (zH : Own) (zF : Own) (z2e : Own) (z18 : Own) (zY : Own) (zU : Own) (z1v : okApp zH = true) (z1m : okApp zF = true) (z2r : okApp z18 = true) : Sim (Z2f) (Z4W x50 x51 x52 z1R zR zJ zS zM zW zV zN zO zP zL z12) (Zbd 0 (.ptr 0 0) (.ptr 1 0) (.ptr 2 0) (.ptr 3 0) (.p (.lst ox50 (x50.map Z1A))) (iv x51) (iv x52) [(Zv b0 zH zF), (ZD b1), (Zj (Zk.mk z1R z1K zR z1z z1e (Zi.mk zJ zS)) z2e z18), (Zv (ZC.mk (Z3.mk zM zW zV zN zO zP zL) z1q z12) zY zU)]) := fun _ h => pick_to h b0 b1 z1K z1z z1e z1q ox50 zH zF z2e z18 zY zU z1v z1m z2r
noncomputable def Z1Y (x0 : ByteArray) (x1 : ByteArray) (x57 : List ByteArray) (x58 : Int) (x59 : Int) (b0 : ZC) (b2 : ZC) : Option (Bool) := pick fun r => ∀ (b1 : Zi) (ox57 : Own) (zH : Own) (zF : Own) (z17 : Own) (z13 : Own), RRun (Z14) (Zbs 0 (.p (.v (.string x0))) (.p (.v (.string x1))) (.ptr 0 0) (.ptr 2 0) (.p (.lst ox57 (x57.map eS))) (iv x58) (iv x59) [(Zv b0 zH zF), (ZD b1), (Zv b2 z17 z13)]) r
theorem Z5F (x0 : ByteArray) (x1 : ByteArray) (x57 : List ByteArray) (x58 : Int) (x59 : Int) (b0 : ZC) (b1 : Zi) (b2 : ZC) (ox57 : Own) (zH : Own) (zF : Own) (z17 : Own) (z13 : Own) : Sim (Z14) (Z1Y x0 x1 x57 x58 x59 b0 b2) (Zbs 0 (.p (.v (.string x0))) (.p (.v (.string x1))) (.ptr 0 0) (.ptr 2 0) (.p (.lst ox57 (x57.map eS))) (iv x58) (iv x59) [(Zv b0 zH zF), (ZD b1), (Zv b2 z17 z13)]) := fun _ h => pick_to h b1 ox57 zH zF z17 z13
noncomputable def Z21 (x0 : Z3) (x1 : Z3) : Option (Bool) := pick fun r => ∀ (z5C : Own) (z4F : Own) (z1u : Own) (z1g : Own), RRun (Z1r) (EE 17 [(.p (.agg (ZE x0 z5C z4F))), (.p (.agg (ZE x1 z1u z1g)))] []) r
theorem Z5n (x0 : Z3) (x1 : Z3) (z5C : Own) (z4F : Own) (z1u : Own) (z1g : Own) : Sim (Z1r) (Z21 x0 x1) (EE 17 [(.p (.agg (ZE x0 z5C z4F))), (.p (.agg (ZE x1 z1u z1g)))] []) := fun _ h => pick_to h z5C z4F z1u z1g
noncomputable def Z56 (x0 : List Z7) (x1 : List Z7) : Option (Bool) := pick fun r => ∀ (ox0 : Own) (ox1 : Own), RRun (Z1C) (EE 22 [(.p (.lst ox0 (x0.map Zs))), (.p (.lst ox1 (x1.map Zs)))] []) r
theorem Z9W (x0 : List Z7) (x1 : List Z7) (ox0 : Own) (ox1 : Own) : Sim (Z1C) (Z56 x0 x1) (EE 22 [(.p (.lst ox0 (x0.map Zs))), (.p (.lst ox1 (x1.map Zs)))] []) := fun _ h => pick_to h ox0 ox1
noncomputable def Z3m (x1 : List Z7) (x12 : List Z7) (x13 : Int) (x14 : Int) : Option (Bool) := pick fun r => ∀ (ox1 : Own) (ox12 : Own), RRun (Z1C) (Zb9 0 (.p (.lst ox1 (x1.map Zs))) (.p (.lst ox12 (x12.map Zs))) (iv x13) (iv x14) []) r
theorem Z6o (x1 : List Z7) (x12 : List Z7) (x13 : Int) (x14 : Int) (ox1 : Own) (ox12 : Own) : Sim (Z1C) (Z3m x1 x12 x13 x14) (Zb9 0 (.p (.lst ox1 (x1.map Zs))) (.p (.lst ox12 (x12.map Zs))) (iv x13) (iv x14) []) := fun _ h => pick_to h ox1 ox12
noncomputable def Z39 (x58 : List Z3) (x59 : Int) (x60 : Int) (b1 : Z3) : Option (Bool) := pick fun r => ∀ (b0 : Z3) (ox58 : Own) (z2i : Own) (z1L : Own) (zB : Own) (zy : Own), RRun (Z1r) (ZaX 0 (.ptr 1 0) (.p (.lst ox58 (x58.map ZI))) (iv x59) (iv x60) [(Zq b0 z2i z1L), (Zq b1 zB zy)]) r
theorem Z67 (x58 : List Z3) (x59 : Int) (x60 : Int) (b0 : Z3) (b1 : Z3) (ox58 : Own) (z2i : Own) (z1L : Own) (zB : Own) (zy : Own) : Sim (Z1r) (Z39 x58 x59 x60 b1) (ZaX 0 (.ptr 1 0) (.p (.lst ox58 (x58.map ZI))) (iv x59) (iv x60) [(Zq b0 z2i z1L), (Zq b1 zB zy)]) := fun _ h => pick_to h b0 ox58 z2i z1L zB zy
end Go.Proofs.YtadodmjdkphddaaDoor.N2
end
