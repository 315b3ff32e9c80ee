/- The functions, read typed: their types, and what they stand for. No condition. -/
import Derived.Test.YtadodmjdkphddaaDoorSim
import Derived.Test.YtadodmjdkphddaaDoorEqs

section
set_option linter.unusedSimpArgs false
set_option linter.unusedVariables false
namespace Go.Proofs.YtadodmjdkphddaaDoor.N2
open Go Go.Abs
set_option linter.unusedVariables false
set_option maxRecDepth 100000
structure Z8 where
 Lo : Int
 Hi : Int
 deriving Inhabited
def Z5c (a : Z8) : List PV := [(eI .i64) a.Lo, (eI .i64) a.Hi]
def Zz (a : Z8) : PV := .agg (Z5c a)
def ZH (a : Z8) : List PV := [(eI .i64) a.Lo, (eI .i64) a.Hi]
def Z1E (a : Z8) : Row := [.p ((eI .i64) a.Lo), .p ((eI .i64) a.Hi)]
theorem Zaa {a b : Z8} (h : Z5c a = Z5c b) : a = b := by
 have h0 : a.Lo = b.Lo := eI_inj _ _ (congrArg (fun l => l.getD 0 .junk) h)
 have h1 : a.Hi = b.Hi := eI_inj _ _ (congrArg (fun l => l.getD 1 .junk) h)
 cases a; cases b
 cases h0
 cases h1
 rfl
theorem Z2x (a b : Z8) (h : Zz a = Zz b) : a = b := Zaa (congrArg pC h)
structure Z3 where
 Kind : Int
 Lo : Int
 Hi : Int
 Mode : Int
 Ref : Int
 Set : (List Z8)
 Kids : (List Z3)
instance : Inhabited Z3 := ⟨⟨default, default, default, default, default, default, default⟩⟩
mutual
def ZG : Z3 → PV
 | ⟨Kind_, Lo_, Hi_, Mode_, Ref_, Set_, Kids_⟩ => .agg [(eI .i64) Kind_, (eI .i64) Lo_, (eI .i64) Hi_, (eI .i64) Mode_, (eI .i64) Ref_, (eL Zz) Set_, .lst .sh (Z47 Kids_)]
def Z47 : List Z3 → List PV
 | [] => []
 | x :: r => ZG x :: Z47 r
end
theorem Zai : ∀ l, Z47 l = l.map ZG
 | [] => rfl
 | x :: r => by rw [Z47, Zai r]; rfl
def Z24 (a : Z3) : List PV := [(eI .i64) a.Kind, (eI .i64) a.Lo, (eI .i64) a.Hi, (eI .i64) a.Mode, (eI .i64) a.Ref, (eL Zz) a.Set, (eL ZG) a.Kids]
theorem Z3j (a : Z3) : ZG a = .agg (Z24 a) := by
 cases a; rw [ZG, Zai]; rfl
theorem Z42 (a : Z3) : pcells (ZG a) = Z24 a := by rw [Z3j]; rfl
theorem ZbQ (a : Z3) : (pcells (ZG a)).length = 7 := by rw [Z3j]; rfl
def ZC (a : Z3) (o0 o1 : Own) : List PV := [(eI .i64) a.Kind, (eI .i64) a.Lo, (eI .i64) a.Hi, (eI .i64) a.Mode, (eI .i64) a.Ref, .lst o0 (a.Set.map Zz), .lst o1 (a.Kids.map ZG)]
def Zq (a : Z3) (o0 o1 : Own) : Row := [.p ((eI .i64) a.Kind), .p ((eI .i64) a.Lo), .p ((eI .i64) a.Hi), .p ((eI .i64) a.Mode), .p ((eI .i64) a.Ref), .p (.lst o0 (a.Set.map Zz)), .p (.lst o1 (a.Kids.map ZG))]
mutual
theorem Zak : ∀ a b : Z3, ZG a = ZG b → a = b
 | ⟨Kind_, Lo_, Hi_, Mode_, Ref_, Set_, Kids_⟩, ⟨Kind_2, Lo_2, Hi_2, Mode_2, Ref_2, Set_2, Kids_2⟩, h => by
  rw [ZG, ZG] at h
  have h0 : Kind_ = Kind_2 := eI_inj _ _ (congrArg (fun l => (pC l).getD 0 .junk) h)
  have h1 : Lo_ = Lo_2 := eI_inj _ _ (congrArg (fun l => (pC l).getD 1 .junk) h)
  have h2 : Hi_ = Hi_2 := eI_inj _ _ (congrArg (fun l => (pC l).getD 2 .junk) h)
  have h3 : Mode_ = Mode_2 := eI_inj _ _ (congrArg (fun l => (pC l).getD 3 .junk) h)
  have h4 : Ref_ = Ref_2 := eI_inj _ _ (congrArg (fun l => (pC l).getD 4 .junk) h)
  have h5 : Set_ = Set_2 := (eL_inj Z2x) _ _ (congrArg (fun l => (pC l).getD 5 .junk) h)
  have h6 : Kids_ = Kids_2 := Zab Kids_ Kids_2 (congrArg (fun l => pL ((pC l).getD 6 .junk)) h)
  subst h0
  subst h1
  subst h2
  subst h3
  subst h4
  subst h5
  subst h6
  rfl
theorem Zab : ∀ a b : List Z3, Z47 a = Z47 b → a = b
 | [], [], _ => rfl
 | [], _ :: _, h => by simp [Z47] at h
 | _ :: _, [], h => by simp [Z47] at h
 | x :: r, y :: t, h => by
  simp only [Z47, List.cons.injEq] at h
  rw [Zak x y h.1, Zab r t h.2]
end
theorem Z2O {a b : Z3} (h : Z24 a = Z24 b) : a = b := Zak a b (by rw [Z3j, Z3j, h])
structure ZE where
 Root : Z3
 Groups : Int
 Fold : Bool
 deriving Inhabited
def Z8R (a : ZE) : List PV := [(eI .i64) a.Root.Kind, (eI .i64) a.Root.Lo, (eI .i64) a.Root.Hi, (eI .i64) a.Root.Mode, (eI .i64) a.Root.Ref, (eL Zz) a.Root.Set, (eL ZG) a.Root.Kids, (eI .i64) a.Groups, eB a.Fold]
def ZaS (a : ZE) : PV := .agg (Z8R a)
def Z1k (a : ZE) (o0 o1 : Own) : List PV := [(eI .i64) a.Root.Kind, (eI .i64) a.Root.Lo, (eI .i64) a.Root.Hi, (eI .i64) a.Root.Mode, (eI .i64) a.Root.Ref, .lst o0 (a.Root.Set.map Zz), .lst o1 (a.Root.Kids.map ZG), (eI .i64) a.Groups, eB a.Fold]
def ZA (a : ZE) (o0 o1 : Own) : Row := [.p ((eI .i64) a.Root.Kind), .p ((eI .i64) a.Root.Lo), .p ((eI .i64) a.Root.Hi), .p ((eI .i64) a.Root.Mode), .p ((eI .i64) a.Root.Ref), .p (.lst o0 (a.Root.Set.map Zz)), .p (.lst o1 (a.Root.Kids.map ZG)), .p ((eI .i64) a.Groups), .p (eB a.Fold)]
theorem Z9m {a b : ZE} (h : Z8R a = Z8R b) : a = b := by
 have h0 : a.Root = b.Root := Z2O (congrArg (fun l => (l.drop 0).take 7) h)
 have h1 : a.Groups = b.Groups := eI_inj _ _ (congrArg (fun l => l.getD 7 .junk) h)
 have h2 : a.Fold = b.Fold := eB_inj _ _ (congrArg (fun l => l.getD 8 .junk) h)
 cases a; cases b
 cases h0
 cases h1
 cases h2
 rfl
theorem Zhg (a b : ZE) (h : ZaS a = ZaS b) : a = b := Z9m (congrArg pC h)
structure Zl where
 Code : Int
 At : Int
 deriving Inhabited
def Z9O (a : Zl) : List PV := [(eI .i64) a.Code, (eI .i64) a.At]
def Zc9 (a : Zl) : PV := .agg (Z9O a)
def Z1N (a : Zl) : List PV := [(eI .i64) a.Code, (eI .i64) a.At]
def ZF (a : Zl) : Row := [.p ((eI .i64) a.Code), .p ((eI .i64) a.At)]
theorem Z7H {a b : Zl} (h : Z9O a = Z9O b) : a = b := by
 have h0 : a.Code = b.Code := eI_inj _ _ (congrArg (fun l => l.getD 0 .junk) h)
 have h1 : a.At = b.At := eI_inj _ _ (congrArg (fun l => l.getD 1 .junk) h)
 cases a; cases b
 cases h0
 cases h1
 rfl
theorem Zir (a b : Zl) (h : Zc9 a = Zc9 b) : a = b := Z7H (congrArg pC h)
structure Zv where
 group : Int
 at_ : Int
 deriving Inhabited
def Z73 (a : Zv) : List PV := [(eI .i64) a.group, (eI .i64) a.at_]
def Z1G (a : Zv) : PV := .agg (Z73 a)
def Z8S (a : Zv) : List PV := [(eI .i64) a.group, (eI .i64) a.at_]
def Z8M (a : Zv) : Row := [.p ((eI .i64) a.group), .p ((eI .i64) a.at_)]
theorem Zcv {a b : Zv} (h : Z73 a = Z73 b) : a = b := by
 have h0 : a.group = b.group := eI_inj _ _ (congrArg (fun l => l.getD 0 .junk) h)
 have h1 : a.at_ = b.at_ := eI_inj _ _ (congrArg (fun l => l.getD 1 .junk) h)
 cases a; cases b
 cases h0
 cases h1
 rfl
theorem Z43 (a b : Zv) (h : Z1G a = Z1G b) : a = b := Zcv (congrArg pC h)
structure Zm where
 b : (List Int)
 at_ : Int
 groups : Int
 deep : Int
 refs : (List Zv)
 fault : Zl
 deriving Inhabited
def Z9n (a : Zm) : List PV := [(eL (eI .u8)) a.b, (eI .i64) a.at_, (eI .i64) a.groups, (eI .i64) a.deep, (eL Z1G) a.refs, (eI .i64) a.fault.Code, (eI .i64) a.fault.At]
def Zbu (a : Zm) : PV := .agg (Z9n a)
def Zem (a : Zm) (o0 o1 : Own) : List PV := [.lst o0 (a.b.map (eI .u8)), (eI .i64) a.at_, (eI .i64) a.groups, (eI .i64) a.deep, .lst o1 (a.refs.map Z1G), (eI .i64) a.fault.Code, (eI .i64) a.fault.At]
def Zk (a : Zm) (o0 o1 : Own) : Row := [.p (.lst o0 (a.b.map (eI .u8))), .p ((eI .i64) a.at_), .p ((eI .i64) a.groups), .p ((eI .i64) a.deep), .p (.lst o1 (a.refs.map Z1G)), .p ((eI .i64) a.fault.Code), .p ((eI .i64) a.fault.At)]
theorem ZcN {a b : Zm} (h : Z9n a = Z9n b) : a = b := by
 have h0 : a.b = b.b := (eL_inj eI_inj) _ _ (congrArg (fun l => l.getD 0 .junk) h)
 have h1 : a.at_ = b.at_ := eI_inj _ _ (congrArg (fun l => l.getD 1 .junk) h)
 have h2 : a.groups = b.groups := eI_inj _ _ (congrArg (fun l => l.getD 2 .junk) h)
 have h3 : a.deep = b.deep := eI_inj _ _ (congrArg (fun l => l.getD 3 .junk) h)
 have h4 : a.refs = b.refs := (eL_inj Z43) _ _ (congrArg (fun l => l.getD 4 .junk) h)
 have h5 : a.fault = b.fault := Z7H (congrArg (fun l => (l.drop 5).take 2) h)
 cases a; cases b
 cases h0
 cases h1
 cases h2
 cases h3
 cases h4
 cases h5
 rfl
theorem ZhE (a b : Zm) (h : Zbu a = Zbu b) : a = b := ZcN (congrArg pC h)
end Go.Proofs.YtadodmjdkphddaaDoor.N2
end
section
set_option linter.unusedSimpArgs false
set_option linter.unusedVariables false
namespace Go.Proofs.YtadodmjdkphddaaDoor.N2
open Go Go.Abs
set_option linter.unusedVariables false
set_option maxRecDepth 100000
abbrev Z3x (zn : List Int) (z7 : Int) (zh : Int) (zj : List Zv) (z2 : Int) (z6 : Int) (zp : Own) (zd : Own) : (Bool × Int) → Res → Prop := fun r q => ∃ (ex : List Row), q = ((bv r.1), [(Zk (Zm.mk zn r.2 z7 zh zj (Zl.mk z2 z6)) zp zd)] ++ ex)
theorem Zci (zn : List Int) (z7 : Int) (zh : Int) (zj : List Zv) (z2 : Int) (z6 : Int) (zp : Own) (zd : Own) : ∀ a b q, Z3x zn z7 zh zj z2 z6 zp zd a q → Z3x zn z7 zh zj z2 z6 zp zd b q → a = b := by
 rintro a b q ⟨_, e1⟩ ⟨_, e2⟩
 have e := e1.symm.trans e2
 exact Prod.ext (congrArg (fun q : Res => pB (pA q.1)) e) (congrArg (fun q : Res => pI (pA (cellAt q 0 1))) e)
abbrev Z4J  : (Int × Int) → Res → Prop := fun r q => ∃ (ex : List Row), q = ((.p (.tup [(.v (.int .i32 r.1)), (.v (.int .i64 r.2))])), ex)
theorem Za6  : ∀ a b q, Z4J  a q → Z4J  b q → a = b := by
 rintro a b q ⟨_, e1⟩ ⟨_, e2⟩
 have e := e1.symm.trans e2
 exact Prod.ext (congrArg (fun q : Res => pI ((pT (pA q.1)).getD 0 .junk)) e) (congrArg (fun q : Res => pI ((pT (pA q.1)).getD 1 .junk)) e)
abbrev Z5k  : (Int × Int) → Res → Prop := fun r q => ∃ (ex : List Row), q = ((.p (.tup [(.v (.int .i64 r.1)), (.v (.int .i64 r.2))])), ex)
theorem Zf9  : ∀ a b q, Z5k  a q → Z5k  b q → a = b := by
 rintro a b q ⟨_, e1⟩ ⟨_, e2⟩
 have e := e1.symm.trans e2
 exact Prod.ext (congrArg (fun q : Res => pI ((pT (pA q.1)).getD 0 .junk)) e) (congrArg (fun q : Res => pI ((pT (pA q.1)).getD 1 .junk)) e)
abbrev Z4j (b0 : Zm) (zp : Own) (zd : Own) : (Int) → Res → Prop := fun r q => ∃ (ex : List Row), q = ((iv r), [(Zk b0 zp zd)] ++ ex)
theorem Zcj (b0 : Zm) (zp : Own) (zd : Own) : ∀ a b q, Z4j b0 zp zd a q → Z4j b0 zp zd b q → a = b := by
 rintro a b q ⟨_, e1⟩ ⟨_, e2⟩
 have e := e1.symm.trans e2
 exact congrArg (fun q : Res => pI (pA q.1)) e
abbrev Z5Y  : (Z3) → Res → Prop := fun r q => ∃ (ex : List Row), q = ((.p (.agg (ZC r .sh .sh))), ex)
theorem ZdV  : ∀ a b q, Z5Y  a q → Z5Y  b q → a = b := by
 rintro a b q ⟨_, e1⟩ ⟨_, e2⟩
 have e := e1.symm.trans e2
 exact Z2O (congrArg (fun q : Res => pC (pA q.1)) e)
abbrev Z5b (zn : List Int) (z7 : Int) (zh : Int) (zj : List Zv) (z2 : Int) (z6 : Int) (zp : Own) (zd : Own) : (Int × Int) → Res → Prop := fun r q => ∃ (ex : List Row), q = ((iv r.1), [(Zk (Zm.mk zn r.2 z7 zh zj (Zl.mk z2 z6)) zp zd)] ++ ex)
theorem ZbZ (zn : List Int) (z7 : Int) (zh : Int) (zj : List Zv) (z2 : Int) (z6 : Int) (zp : Own) (zd : Own) : ∀ a b q, Z5b zn z7 zh zj z2 z6 zp zd a q → Z5b zn z7 zh zj z2 z6 zp zd b q → a = b := by
 rintro a b q ⟨_, e1⟩ ⟨_, e2⟩
 have e := e1.symm.trans e2
 exact Prod.ext (congrArg (fun q : Res => pI (pA q.1)) e) (congrArg (fun q : Res => pI (pA (cellAt q 0 1))) e)
abbrev Z8s  : (Z8) → Res → Prop := fun r q => ∃ (ex : List Row), q = ((.p (.agg (ZH r))), ex)
theorem Zf5  : ∀ a b q, Z8s  a q → Z8s  b q → a = b := by
 rintro a b q ⟨_, e1⟩ ⟨_, e2⟩
 have e := e1.symm.trans e2
 exact Zaa (congrArg (fun q : Res => pC (pA q.1)) e)
abbrev Z57  : (Bool) → Res → Prop := fun r q => ∃ (ex : List Row), q = ((bv r), ex)
theorem Zcq  : ∀ a b q, Z57  a q → Z57  b q → a = b := by
 rintro a b q ⟨_, e1⟩ ⟨_, e2⟩
 have e := e1.symm.trans e2
 exact congrArg (fun q : Res => pB (pA q.1)) e
abbrev Z6X  : (Bool) → Res → Prop := fun r q => ∃ (ex : List Row), q = ((bv r), ex)
theorem ZdT  : ∀ a b q, Z6X  a q → Z6X  b q → a = b := by
 rintro a b q ⟨_, e1⟩ ⟨_, e2⟩
 have e := e1.symm.trans e2
 exact congrArg (fun q : Res => pB (pA q.1)) e
abbrev Z1s  : (Int) → Res → Prop := fun r q => ∃ (ex : List Row), q = ((iv r), ex)
theorem Z6l  : ∀ a b q, Z1s  a q → Z1s  b q → a = b := by
 rintro a b q ⟨_, e1⟩ ⟨_, e2⟩
 have e := e1.symm.trans e2
 exact congrArg (fun q : Res => pI (pA q.1)) e
abbrev Z2T  : (Bool) → Res → Prop := fun r q => ∃ (ex : List Row), q = ((bv r), ex)
theorem Z8y  : ∀ a b q, Z2T  a q → Z2T  b q → a = b := by
 rintro a b q ⟨_, e1⟩ ⟨_, e2⟩
 have e := e1.symm.trans e2
 exact congrArg (fun q : Res => pB (pA q.1)) e
abbrev Z7T  : ((List Z8)) → Res → Prop := fun r q => ∃ (ex : List Row), q = ((.p (.lst .sh (r.map Zz))), ex)
theorem ZdO  : ∀ a b q, Z7T  a q → Z7T  b q → a = b := by
 rintro a b q ⟨_, e1⟩ ⟨_, e2⟩
 have e := e1.symm.trans e2
 exact lmap_inj Z2x (congrArg (fun q : Res => pL (pA q.1)) e)
abbrev Z6U  : ((List Z8) × Int) → Res → Prop := fun r q => ∃ (ex : List Row), q = ((.p (.tup [(.lst .sh (r.1.map Zz)), (.v (.int .i64 r.2))])), ex)
theorem ZeD  : ∀ a b q, Z6U  a q → Z6U  b q → a = b := by
 rintro a b q ⟨_, e1⟩ ⟨_, e2⟩
 have e := e1.symm.trans e2
 exact Prod.ext (lmap_inj Z2x (congrArg (fun q : Res => pL ((pT (pA q.1)).getD 0 .junk)) e)) (congrArg (fun q : Res => pI ((pT (pA q.1)).getD 1 .junk)) e)
abbrev Z1X  : (Bool) → Res → Prop := fun r q => ∃ (ex : List Row), q = ((bv r), ex)
theorem Z9k  : ∀ a b q, Z1X  a q → Z1X  b q → a = b := by
 rintro a b q ⟨_, e1⟩ ⟨_, e2⟩
 have e := e1.symm.trans e2
 exact congrArg (fun q : Res => pB (pA q.1)) e
abbrev Z2q  : ((List Z8)) → Res → Prop := fun r q => ∃ (ex : List Row), q = ((.p (.lst .sh (r.map Zz))), ex)
theorem Zam  : ∀ a b q, Z2q  a q → Z2q  b q → a = b := by
 rintro a b q ⟨_, e1⟩ ⟨_, e2⟩
 have e := e1.symm.trans e2
 exact lmap_inj Z2x (congrArg (fun q : Res => pL (pA q.1)) e)
abbrev Z5G  : ((List Z8) × Int) → Res → Prop := fun r q => ∃ (ex : List Row), q = ((.p (.tup [(.lst .sh (r.1.map Zz)), (.v (.int .i64 r.2))])), ex)
theorem ZdB  : ∀ a b q, Z5G  a q → Z5G  b q → a = b := by
 rintro a b q ⟨_, e1⟩ ⟨_, e2⟩
 have e := e1.symm.trans e2
 exact Prod.ext (lmap_inj Z2x (congrArg (fun q : Res => pL ((pT (pA q.1)).getD 0 .junk)) e)) (congrArg (fun q : Res => pI ((pT (pA q.1)).getD 1 .junk)) e)
abbrev Z7d  : (Z3) → Res → Prop := fun r q => ∃ (ex : List Row), q = ((.p (.agg (ZC r .sh .sh))), ex)
theorem Zf8  : ∀ a b q, Z7d  a q → Z7d  b q → a = b := by
 rintro a b q ⟨_, e1⟩ ⟨_, e2⟩
 have e := e1.symm.trans e2
 exact Z2O (congrArg (fun q : Res => pC (pA q.1)) e)
abbrev Z4i (zn : List Int) (z7 : Int) (zh : Int) (zj : List Zv) (zp : Own) (zd : Own) : (Int × Int × Int) → Res → Prop := fun r q => ∃ (ex : List Row), q = ((.p (.tup [])), [(Zk (Zm.mk zn r.1 z7 zh zj (Zl.mk r.2.1 r.2.2)) zp zd)] ++ ex)
theorem Zck (zn : List Int) (z7 : Int) (zh : Int) (zj : List Zv) (zp : Own) (zd : Own) : ∀ a b q, Z4i zn z7 zh zj zp zd a q → Z4i zn z7 zh zj zp zd b q → a = b := by
 rintro a b q ⟨_, e1⟩ ⟨_, e2⟩
 have e := e1.symm.trans e2
 exact Prod.ext (congrArg (fun q : Res => pI (pA (cellAt q 0 1))) e) (Prod.ext (congrArg (fun q : Res => pI (pA (cellAt q 0 5))) e) (congrArg (fun q : Res => pI (pA (cellAt q 0 6))) e))
abbrev Z51  : ((Own × (List Z8))) → Res → Prop := fun r q => ∃ (ex : List Row), q = ((.p (.lst r.1 (r.2.map Zz))), ex)
theorem ZcX  : ∀ a b q, Z51  a q → Z51  b q → a = b := by
 rintro a b q ⟨_, e1⟩ ⟨_, e2⟩
 have e := e1.symm.trans e2
 exact Prod.ext (congrArg (fun q : Res => pOwn (pA q.1)) e) (lmap_inj Z2x (congrArg (fun q : Res => pL (pA q.1)) e))
abbrev Z5l  : (Int) → Res → Prop := fun r q => ∃ (ex : List Row), q = ((iv r), ex)
theorem Zf6  : ∀ a b q, Z5l  a q → Z5l  b q → a = b := by
 rintro a b q ⟨_, e1⟩ ⟨_, e2⟩
 have e := e1.symm.trans e2
 exact congrArg (fun q : Res => pI (pA q.1)) e
abbrev Z5M (z11 : Int) : (Bool) → Res → Prop := fun r q => ∃ (ex : List Row), q = ((bv r), [[(iv z11)]] ++ ex)
theorem ZcT (z11 : Int) : ∀ a b q, Z5M z11 a q → Z5M z11 b q → a = b := by
 rintro a b q ⟨_, e1⟩ ⟨_, e2⟩
 have e := e1.symm.trans e2
 exact congrArg (fun q : Res => pB (pA q.1)) e
abbrev Z1t (z11 : Int) : (Int) → Res → Prop := fun r q => ∃ (ex : List Row), q = ((iv r), [[(iv z11)]] ++ ex)
theorem Z6n (z11 : Int) : ∀ a b q, Z1t z11 a q → Z1t z11 b q → a = b := by
 rintro a b q ⟨_, e1⟩ ⟨_, e2⟩
 have e := e1.symm.trans e2
 exact congrArg (fun q : Res => pI (pA q.1)) e
abbrev Z2R (z11 : Int) : (Bool) → Res → Prop := fun r q => ∃ (ex : List Row), q = ((bv r), [[(iv z11)]] ++ ex)
theorem Z8w (z11 : Int) : ∀ a b q, Z2R z11 a q → Z2R z11 b q → a = b := by
 rintro a b q ⟨_, e1⟩ ⟨_, e2⟩
 have e := e1.symm.trans e2
 exact congrArg (fun q : Res => pB (pA q.1)) e
abbrev Z6v  : (Bool) → Res → Prop := fun r q => ∃ (ex : List Row), q = ((bv r), ex)
theorem ZdC  : ∀ a b q, Z6v  a q → Z6v  b q → a = b := by
 rintro a b q ⟨_, e1⟩ ⟨_, e2⟩
 have e := e1.symm.trans e2
 exact congrArg (fun q : Res => pB (pA q.1)) e
abbrev Z3m (zn : List Int) (z7 : Int) (zh : Int) (zj : List Zv) (zp : Own) (zd : Own) : (Int × Int × Int × Int) → Res → Prop := fun r q => ∃ (ex : List Row), q = ((iv r.1), [(Zk (Zm.mk zn r.2.1 z7 zh zj (Zl.mk r.2.2.1 r.2.2.2)) zp zd)] ++ ex)
theorem ZbK (zn : List Int) (z7 : Int) (zh : Int) (zj : List Zv) (zp : Own) (zd : Own) : ∀ a b q, Z3m zn z7 zh zj zp zd a q → Z3m zn z7 zh zj zp zd b q → a = b := by
 rintro a b q ⟨_, e1⟩ ⟨_, e2⟩
 have e := e1.symm.trans e2
 exact Prod.ext (congrArg (fun q : Res => pI (pA q.1)) e) (Prod.ext (congrArg (fun q : Res => pI (pA (cellAt q 0 1))) e) (Prod.ext (congrArg (fun q : Res => pI (pA (cellAt q 0 5))) e) (congrArg (fun q : Res => pI (pA (cellAt q 0 6))) e)))
abbrev Z2M (zn : List Int) (z7 : Int) (zh : Int) (zp : Own) : (Z3 × Int × (List Zv) × Int × Int) → Res → Prop := fun r q => ∃ (p0_4 : Own) (ex : List Row), okApp p0_4 = true ∧ q = ((.p (.agg (ZC r.1 .sh .sh))), [(Zk (Zm.mk zn r.2.1 z7 zh r.2.2.1 (Zl.mk r.2.2.2.1 r.2.2.2.2)) zp p0_4)] ++ ex)
theorem Zbe (zn : List Int) (z7 : Int) (zh : Int) (zp : Own) : ∀ a b q, Z2M zn z7 zh zp a q → Z2M zn z7 zh zp b q → a = b := by
 rintro a b q ⟨_, _, _, e1⟩ ⟨_, _, _, e2⟩
 have e := e1.symm.trans e2
 exact Prod.ext (Z2O (congrArg (fun q : Res => pC (pA q.1)) e)) (Prod.ext (congrArg (fun q : Res => pI (pA (cellAt q 0 1))) e) (Prod.ext (lmap_inj Z43 (congrArg (fun q : Res => pL (pA (cellAt q 0 4))) e)) (Prod.ext (congrArg (fun q : Res => pI (pA (cellAt q 0 5))) e) (congrArg (fun q : Res => pI (pA (cellAt q 0 6))) e))))
abbrev Z2K (zn : List Int) (z7 : Int) (zh : Int) (zj : List Zv) (zp : Own) (zd : Own) : (Int × (Own × (List Z8)) × Bool × Int × Int × Int) → Res → Prop := fun r q => ∃ (ex : List Row), q = ((.p (.tup [(.v (.int .i64 r.1)), (.lst r.2.1.1 (r.2.1.2.map Zz)), (.v (.bool r.2.2.1))])), [(Zk (Zm.mk zn r.2.2.2.1 z7 zh zj (Zl.mk r.2.2.2.2.1 r.2.2.2.2.2)) zp zd)] ++ ex)
theorem Zbh (zn : List Int) (z7 : Int) (zh : Int) (zj : List Zv) (zp : Own) (zd : Own) : ∀ a b q, Z2K zn z7 zh zj zp zd a q → Z2K zn z7 zh zj zp zd b q → a = b := by
 rintro a b q ⟨_, e1⟩ ⟨_, e2⟩
 have e := e1.symm.trans e2
 exact Prod.ext (congrArg (fun q : Res => pI ((pT (pA q.1)).getD 0 .junk)) e) (Prod.ext (Prod.ext (congrArg (fun q : Res => pOwn ((pT (pA q.1)).getD 1 .junk)) e) (lmap_inj Z2x (congrArg (fun q : Res => pL ((pT (pA q.1)).getD 1 .junk)) e))) (Prod.ext (congrArg (fun q : Res => pB ((pT (pA q.1)).getD 2 .junk)) e) (Prod.ext (congrArg (fun q : Res => pI (pA (cellAt q 0 1))) e) (Prod.ext (congrArg (fun q : Res => pI (pA (cellAt q 0 5))) e) (congrArg (fun q : Res => pI (pA (cellAt q 0 6))) e)))))
abbrev Z5y  : ((List Z8)) → Res → Prop := fun r q => ∃ (ex : List Row), q = ((.p (.lst .sh (r.map Zz))), ex)
theorem Zbg  : ∀ a b q, Z5y  a q → Z5y  b q → a = b := by
 rintro a b q ⟨_, e1⟩ ⟨_, e2⟩
 have e := e1.symm.trans e2
 exact lmap_inj Z2x (congrArg (fun q : Res => pL (pA q.1)) e)
abbrev Z5i  : ((List Z8) × Int) → Res → Prop := fun r q => ∃ (ex : List Row), q = ((.p (.tup [(.lst .sh (r.1.map Zz)), (.v (.int .i64 r.2))])), ex)
theorem ZdI  : ∀ a b q, Z5i  a q → Z5i  b q → a = b := by
 rintro a b q ⟨_, e1⟩ ⟨_, e2⟩
 have e := e1.symm.trans e2
 exact Prod.ext (lmap_inj Z2x (congrArg (fun q : Res => pL ((pT (pA q.1)).getD 0 .junk)) e)) (congrArg (fun q : Res => pI ((pT (pA q.1)).getD 1 .junk)) e)
abbrev Z4o  : ((List Z8)) → Res → Prop := fun r q => ∃ (p0_0 : Own) (ex : List Row), q = ((.p (.tup [])), [[(.p (.lst p0_0 (r.map Zz)))]] ++ ex)
theorem Zb6  : ∀ a b q, Z4o  a q → Z4o  b q → a = b := by
 rintro a b q ⟨_, _, e1⟩ ⟨_, _, e2⟩
 have e := e1.symm.trans e2
 exact lmap_inj Z2x (congrArg (fun q : Res => pL (pA (cellAt q 0 0))) e)
abbrev Z1b (zn : List Int) (z7 : Int) (zh : Int) (zj : List Zv) (zp : Own) (zd : Own) : (Z3 × Int × Int × Int) → Res → Prop := fun r q => ∃ (ex : List Row), q = ((.p (.agg (ZC r.1 .sh .sh))), [(Zk (Zm.mk zn r.2.1 z7 zh zj (Zl.mk r.2.2.1 r.2.2.2)) zp zd)] ++ ex)
theorem Z8z (zn : List Int) (z7 : Int) (zh : Int) (zj : List Zv) (zp : Own) (zd : Own) : ∀ a b q, Z1b zn z7 zh zj zp zd a q → Z1b zn z7 zh zj zp zd b q → a = b := by
 rintro a b q ⟨_, e1⟩ ⟨_, e2⟩
 have e := e1.symm.trans e2
 exact Prod.ext (Z2O (congrArg (fun q : Res => pC (pA q.1)) e)) (Prod.ext (congrArg (fun q : Res => pI (pA (cellAt q 0 1))) e) (Prod.ext (congrArg (fun q : Res => pI (pA (cellAt q 0 5))) e) (congrArg (fun q : Res => pI (pA (cellAt q 0 6))) e)))
abbrev Z77  : ((List ByteArray)) → Res → Prop := fun r q => ∃ (ex : List Row), q = ((.p (.lst .sh (r.map eS))), ex)
theorem Zed  : ∀ a b q, Z77  a q → Z77  b q → a = b := by
 rintro a b q ⟨_, e1⟩ ⟨_, e2⟩
 have e := e1.symm.trans e2
 exact lmap_inj eS_inj (congrArg (fun q : Res => pL (pA q.1)) e)
abbrev Z1o (zn : List Int) (z7 : Int) (zh : Int) (zj : List Zv) (z2 : Int) (z6 : Int) (zp : Own) (zd : Own) : (Int × Int) → Res → Prop := fun r q => ∃ (ex : List Row), q = ((iv r.1), [(Zk (Zm.mk zn r.2 z7 zh zj (Zl.mk z2 z6)) zp zd)] ++ ex)
theorem Z6h (zn : List Int) (z7 : Int) (zh : Int) (zj : List Zv) (z2 : Int) (z6 : Int) (zp : Own) (zd : Own) : ∀ a b q, Z1o zn z7 zh zj z2 z6 zp zd a q → Z1o zn z7 zh zj z2 z6 zp zd b q → a = b := by
 rintro a b q ⟨_, e1⟩ ⟨_, e2⟩
 have e := e1.symm.trans e2
 exact Prod.ext (congrArg (fun q : Res => pI (pA q.1)) e) (congrArg (fun q : Res => pI (pA (cellAt q 0 1))) e)
abbrev Z2k (zn : List Int) (zp : Own) : (Z3 × Bool × Int × Int × Int × (List Zv) × Int × Int) → Res → Prop := fun r q => ∃ (p0_4 : Own) (ex : List Row), okApp p0_4 = true ∧ q = ((.p (.tup [(.agg (ZC r.1 .sh .sh)), (.v (.bool r.2.1))])), [(Zk (Zm.mk zn r.2.2.1 r.2.2.2.1 r.2.2.2.2.1 r.2.2.2.2.2.1 (Zl.mk r.2.2.2.2.2.2.1 r.2.2.2.2.2.2.2)) zp p0_4)] ++ ex)
theorem Zbw (zn : List Int) (zp : Own) : ∀ a b q, Z2k zn zp a q → Z2k zn zp b q → a = b := by
 rintro a b q ⟨_, _, _, e1⟩ ⟨_, _, _, e2⟩
 have e := e1.symm.trans e2
 exact Prod.ext (Z2O (congrArg (fun q : Res => pC ((pT (pA q.1)).getD 0 .junk)) e)) (Prod.ext (congrArg (fun q : Res => pB ((pT (pA q.1)).getD 1 .junk)) e) (Prod.ext (congrArg (fun q : Res => pI (pA (cellAt q 0 1))) e) (Prod.ext (congrArg (fun q : Res => pI (pA (cellAt q 0 2))) e) (Prod.ext (congrArg (fun q : Res => pI (pA (cellAt q 0 3))) e) (Prod.ext (lmap_inj Z43 (congrArg (fun q : Res => pL (pA (cellAt q 0 4))) e)) (Prod.ext (congrArg (fun q : Res => pI (pA (cellAt q 0 5))) e) (congrArg (fun q : Res => pI (pA (cellAt q 0 6))) e)))))))
abbrev Z4k (zn : List Int) (zp : Own) : (Z3 × Bool × Int × Int × Int × (List Zv) × Int × Int) → Res → Prop := fun r q => ∃ (p0_4 : Own) (ex : List Row), okApp p0_4 = true ∧ q = ((.p (.tup [(.agg (ZC r.1 .sh .sh)), (.v (.bool r.2.1))])), [(Zk (Zm.mk zn r.2.2.1 r.2.2.2.1 r.2.2.2.2.1 r.2.2.2.2.2.1 (Zl.mk r.2.2.2.2.2.2.1 r.2.2.2.2.2.2.2)) zp p0_4)] ++ ex)
theorem Zcg (zn : List Int) (zp : Own) : ∀ a b q, Z4k zn zp a q → Z4k zn zp b q → a = b := by
 rintro a b q ⟨_, _, _, e1⟩ ⟨_, _, _, e2⟩
 have e := e1.symm.trans e2
 exact Prod.ext (Z2O (congrArg (fun q : Res => pC ((pT (pA q.1)).getD 0 .junk)) e)) (Prod.ext (congrArg (fun q : Res => pB ((pT (pA q.1)).getD 1 .junk)) e) (Prod.ext (congrArg (fun q : Res => pI (pA (cellAt q 0 1))) e) (Prod.ext (congrArg (fun q : Res => pI (pA (cellAt q 0 2))) e) (Prod.ext (congrArg (fun q : Res => pI (pA (cellAt q 0 3))) e) (Prod.ext (lmap_inj Z43 (congrArg (fun q : Res => pL (pA (cellAt q 0 4))) e)) (Prod.ext (congrArg (fun q : Res => pI (pA (cellAt q 0 5))) e) (congrArg (fun q : Res => pI (pA (cellAt q 0 6))) e)))))))
abbrev Z2d (zn : List Int) (z7 : Int) (zh : Int) (zj : List Zv) (z2 : Int) (z6 : Int) (zp : Own) (zd : Own) : (Int × Int) → Res → Prop := fun r q => ∃ (ex : List Row), q = ((iv r.1), [(Zk (Zm.mk zn r.2 z7 zh zj (Zl.mk z2 z6)) zp zd)] ++ ex)
theorem Z8b (zn : List Int) (z7 : Int) (zh : Int) (zj : List Zv) (z2 : Int) (z6 : Int) (zp : Own) (zd : Own) : ∀ a b q, Z2d zn z7 zh zj z2 z6 zp zd a q → Z2d zn z7 zh zj z2 z6 zp zd b q → a = b := by
 rintro a b q ⟨_, e1⟩ ⟨_, e2⟩
 have e := e1.symm.trans e2
 exact Prod.ext (congrArg (fun q : Res => pI (pA q.1)) e) (congrArg (fun q : Res => pI (pA (cellAt q 0 1))) e)
abbrev Z1Y (zn : List Int) (z7 : Int) (zh : Int) (zj : List Zv) (zp : Own) (zd : Own) : (Int × Int × Int × Int × Int) → Res → Prop := fun r q => ∃ (ex : List Row), q = ((.p (.tup [(.v (.int .i64 r.1)), (.v (.int .i64 r.2.1))])), [(Zk (Zm.mk zn r.2.2.1 z7 zh zj (Zl.mk r.2.2.2.1 r.2.2.2.2)) zp zd)] ++ ex)
theorem Zbi (zn : List Int) (z7 : Int) (zh : Int) (zj : List Zv) (zp : Own) (zd : Own) : ∀ a b q, Z1Y zn z7 zh zj zp zd a q → Z1Y zn z7 zh zj zp zd b q → a = b := by
 rintro a b q ⟨_, e1⟩ ⟨_, e2⟩
 have e := e1.symm.trans e2
 exact Prod.ext (congrArg (fun q : Res => pI ((pT (pA q.1)).getD 0 .junk)) e) (Prod.ext (congrArg (fun q : Res => pI ((pT (pA q.1)).getD 1 .junk)) e) (Prod.ext (congrArg (fun q : Res => pI (pA (cellAt q 0 1))) e) (Prod.ext (congrArg (fun q : Res => pI (pA (cellAt q 0 5))) e) (congrArg (fun q : Res => pI (pA (cellAt q 0 6))) e))))
abbrev Z2L (zn : List Int) (z7 : Int) (zh : Int) (zj : List Zv) (zp : Own) (zd : Own) : (Z3 × Int × Int × Int) → Res → Prop := fun r q => ∃ (ex : List Row), q = ((.p (.agg (ZC r.1 .sh .sh))), [(Zk (Zm.mk zn r.2.1 z7 zh zj (Zl.mk r.2.2.1 r.2.2.2)) zp zd)] ++ ex)
theorem Zbm (zn : List Int) (z7 : Int) (zh : Int) (zj : List Zv) (zp : Own) (zd : Own) : ∀ a b q, Z2L zn z7 zh zj zp zd a q → Z2L zn z7 zh zj zp zd b q → a = b := by
 rintro a b q ⟨_, e1⟩ ⟨_, e2⟩
 have e := e1.symm.trans e2
 exact Prod.ext (Z2O (congrArg (fun q : Res => pC (pA q.1)) e)) (Prod.ext (congrArg (fun q : Res => pI (pA (cellAt q 0 1))) e) (Prod.ext (congrArg (fun q : Res => pI (pA (cellAt q 0 5))) e) (congrArg (fun q : Res => pI (pA (cellAt q 0 6))) e)))
abbrev Z2n (zn : List Int) (zp : Own) : (Z3 × Int × Int × Int × (List Zv) × Int × Int) → Res → Prop := fun r q => ∃ (p0_4 : Own) (ex : List Row), okApp p0_4 = true ∧ q = ((.p (.agg (ZC r.1 .sh .sh))), [(Zk (Zm.mk zn r.2.1 r.2.2.1 r.2.2.2.1 r.2.2.2.2.1 (Zl.mk r.2.2.2.2.2.1 r.2.2.2.2.2.2)) zp p0_4)] ++ ex)
theorem Z9g (zn : List Int) (zp : Own) : ∀ a b q, Z2n zn zp a q → Z2n zn zp b q → a = b := by
 rintro a b q ⟨_, _, _, e1⟩ ⟨_, _, _, e2⟩
 have e := e1.symm.trans e2
 exact Prod.ext (Z2O (congrArg (fun q : Res => pC (pA q.1)) e)) (Prod.ext (congrArg (fun q : Res => pI (pA (cellAt q 0 1))) e) (Prod.ext (congrArg (fun q : Res => pI (pA (cellAt q 0 2))) e) (Prod.ext (congrArg (fun q : Res => pI (pA (cellAt q 0 3))) e) (Prod.ext (lmap_inj Z43 (congrArg (fun q : Res => pL (pA (cellAt q 0 4))) e)) (Prod.ext (congrArg (fun q : Res => pI (pA (cellAt q 0 5))) e) (congrArg (fun q : Res => pI (pA (cellAt q 0 6))) e))))))
abbrev Z2B (zn : List Int) (zp : Own) : (Z3 × Int × Int × Int × (List Zv) × Int × Int) → Res → Prop := fun r q => ∃ (p0_4 : Own) (ex : List Row), okApp p0_4 = true ∧ q = ((.p (.agg (ZC r.1 .sh .sh))), [(Zk (Zm.mk zn r.2.1 r.2.2.1 r.2.2.2.1 r.2.2.2.2.1 (Zl.mk r.2.2.2.2.2.1 r.2.2.2.2.2.2)) zp p0_4)] ++ ex)
theorem Z9j (zn : List Int) (zp : Own) : ∀ a b q, Z2B zn zp a q → Z2B zn zp b q → a = b := by
 rintro a b q ⟨_, _, _, e1⟩ ⟨_, _, _, e2⟩
 have e := e1.symm.trans e2
 exact Prod.ext (Z2O (congrArg (fun q : Res => pC (pA q.1)) e)) (Prod.ext (congrArg (fun q : Res => pI (pA (cellAt q 0 1))) e) (Prod.ext (congrArg (fun q : Res => pI (pA (cellAt q 0 2))) e) (Prod.ext (congrArg (fun q : Res => pI (pA (cellAt q 0 3))) e) (Prod.ext (lmap_inj Z43 (congrArg (fun q : Res => pL (pA (cellAt q 0 4))) e)) (Prod.ext (congrArg (fun q : Res => pI (pA (cellAt q 0 5))) e) (congrArg (fun q : Res => pI (pA (cellAt q 0 6))) e))))))
abbrev Z2t  : (ZE × Zl) → Res → Prop := fun r q => ∃ (ex : List Row), q = ((.p (.tup [(.agg (Z1k r.1 .sh .sh)), (.agg (Z1N r.2))])), ex)
theorem Zbq  : ∀ a b q, Z2t  a q → Z2t  b q → a = b := by
 rintro a b q ⟨_, e1⟩ ⟨_, e2⟩
 have e := e1.symm.trans e2
 exact Prod.ext (Z9m (congrArg (fun q : Res => pC ((pT (pA q.1)).getD 0 .junk)) e)) (Z7H (congrArg (fun q : Res => pC ((pT (pA q.1)).getD 1 .junk)) e))
abbrev Z6R  : (Int) → Res → Prop := fun r q => ∃ (ex : List Row), q = ((iv r), ex)
theorem ZeR  : ∀ a b q, Z6R  a q → Z6R  b q → a = b := by
 rintro a b q ⟨_, e1⟩ ⟨_, e2⟩
 have e := e1.symm.trans e2
 exact congrArg (fun q : Res => pI (pA q.1)) e
abbrev Z4q  : (Int) → Res → Prop := fun r q => ∃ (ex : List Row), q = ((iv r), ex)
theorem Ze4  : ∀ a b q, Z4q  a q → Z4q  b q → a = b := by
 rintro a b q ⟨_, e1⟩ ⟨_, e2⟩
 have e := e1.symm.trans e2
 exact congrArg (fun q : Res => pI (pA q.1)) e
abbrev Z6x  : (Int) → Res → Prop := fun r q => ∃ (ex : List Row), q = ((iv r), ex)
theorem Zf7  : ∀ a b q, Z6x  a q → Z6x  b q → a = b := by
 rintro a b q ⟨_, e1⟩ ⟨_, e2⟩
 have e := e1.symm.trans e2
 exact congrArg (fun q : Res => pI (pA q.1)) e
abbrev Z2b  : (Int × Int) → Res → Prop := fun r q => ∃ (ex : List Row), q = ((.p (.tup [(.v (.int .i64 r.1)), (.v (.int .i64 r.2))])), ex)
theorem Z9q  : ∀ a b q, Z2b  a q → Z2b  b q → a = b := by
 rintro a b q ⟨_, e1⟩ ⟨_, e2⟩
 have e := e1.symm.trans e2
 exact Prod.ext (congrArg (fun q : Res => pI ((pT (pA q.1)).getD 0 .junk)) e) (congrArg (fun q : Res => pI ((pT (pA q.1)).getD 1 .junk)) e)
abbrev Z3n  : (Int) → Res → Prop := fun r q => ∃ (ex : List Row), q = ((iv r), ex)
theorem Zco  : ∀ a b q, Z3n  a q → Z3n  b q → a = b := by
 rintro a b q ⟨_, e1⟩ ⟨_, e2⟩
 have e := e1.symm.trans e2
 exact congrArg (fun q : Res => pI (pA q.1)) e
abbrev Z5J  : (Bool) → Res → Prop := fun r q => ∃ (ex : List Row), q = ((bv r), ex)
theorem ZcP  : ∀ a b q, Z5J  a q → Z5J  b q → a = b := by
 rintro a b q ⟨_, e1⟩ ⟨_, e2⟩
 have e := e1.symm.trans e2
 exact congrArg (fun q : Res => pB (pA q.1)) e
abbrev Z1w  : (Int) → Res → Prop := fun r q => ∃ (ex : List Row), q = ((iv r), ex)
theorem Z6A  : ∀ a b q, Z1w  a q → Z1w  b q → a = b := by
 rintro a b q ⟨_, e1⟩ ⟨_, e2⟩
 have e := e1.symm.trans e2
 exact congrArg (fun q : Res => pI (pA q.1)) e
abbrev Z31  : (Bool) → Res → Prop := fun r q => ∃ (ex : List Row), q = ((bv r), ex)
theorem Z8Q  : ∀ a b q, Z31  a q → Z31  b q → a = b := by
 rintro a b q ⟨_, e1⟩ ⟨_, e2⟩
 have e := e1.symm.trans e2
 exact congrArg (fun q : Res => pB (pA q.1)) e
abbrev Z4g  : (Bool) → Res → Prop := fun r q => ∃ (ex : List Row), q = ((bv r), ex)
theorem Zdy  : ∀ a b q, Z4g  a q → Z4g  b q → a = b := by
 rintro a b q ⟨_, e1⟩ ⟨_, e2⟩
 have e := e1.symm.trans e2
 exact congrArg (fun q : Res => pB (pA q.1)) e
abbrev Z6j  : (Int) → Res → Prop := fun r q => ∃ (ex : List Row), q = ((iv r), ex)
theorem Zeh  : ∀ a b q, Z6j  a q → Z6j  b q → a = b := by
 rintro a b q ⟨_, e1⟩ ⟨_, e2⟩
 have e := e1.symm.trans e2
 exact congrArg (fun q : Res => pI (pA q.1)) e
abbrev Z4n  : (Bool) → Res → Prop := fun r q => ∃ (ex : List Row), q = ((bv r), ex)
theorem ZaT  : ∀ a b q, Z4n  a q → Z4n  b q → a = b := by
 rintro a b q ⟨_, e1⟩ ⟨_, e2⟩
 have e := e1.symm.trans e2
 exact congrArg (fun q : Res => pB (pA q.1)) e
abbrev Z1u  : (Bool) → Res → Prop := fun r q => ∃ (ex : List Row), q = ((bv r), ex)
theorem Za5  : ∀ a b q, Z1u  a q → Z1u  b q → a = b := by
 rintro a b q ⟨_, e1⟩ ⟨_, e2⟩
 have e := e1.symm.trans e2
 exact congrArg (fun q : Res => pB (pA q.1)) e
noncomputable def Z5T (x0 : ByteArray) (x1 : ByteArray) : Option (Bool) := pick fun r => RRun (Z1u) (EE 10 [(.p (.v (.string x0))), (.p (.v (.string x1)))] []) r
theorem Z9y (x0 : ByteArray) (x1 : ByteArray) : Sim (Z1u) (Z5T x0 x1) (EE 10 [(.p (.v (.string x0))), (.p (.v (.string x1)))] []) := fun _ h => pick_to h
noncomputable def Z5o  : Option (Bool) := pick fun r => RRun (Z4n) (EE 23 [] []) r
theorem Zav  : Sim (Z4n) (Z5o) (EE 23 [] []) := fun _ h => pick_to h
noncomputable def Z55 (x0 : ByteArray) : Option (ZE × Zl) := pick fun r => RRun (Z2t) (EE 16 [(.p (.v (.string x0)))] []) r
theorem Z68 (x0 : ByteArray) : Sim (Z2t) (Z55 x0) (EE 16 [(.p (.v (.string x0)))] []) := fun _ h => pick_to h
noncomputable def Z18 (x1 : ByteArray) (zn : List Int) (zu : Int) : Option (Bool × Int) := pick fun r => ∀ (z7 : Int) (zh : Int) (zj : List Zv) (z2 : Int) (z6 : Int) (zp : Own) (zd : Own) (zy : okApp zd = true), RRun (Z3x zn z7 zh zj z2 z6 zp zd) (EE 27 [(.ptr 0 0), (.p (.v (.string x1)))] [(Zk (Zm.mk zn zu z7 zh zj (Zl.mk z2 z6)) zp zd)]) r
theorem Z1d (x1 : ByteArray) (zn : List Int) (zu : Int) (z7 : Int) (zh : Int) (zj : List Zv) (z2 : Int) (z6 : Int) (zp : Own) (zd : Own) (zy : okApp zd = true) : Sim (Z3x zn z7 zh zj z2 z6 zp zd) (Z18 x1 zn zu) (EE 27 [(.ptr 0 0), (.p (.v (.string x1)))] [(Zk (Zm.mk zn zu z7 zh zj (Zl.mk z2 z6)) zp zd)]) := fun _ h => pick_to h z7 zh zj z2 z6 zp zd zy
noncomputable def Z32 (zn : List Int) (zu : Int) (z7 : Int) (zh : Int) (zj : List Zv) (z2 : Int) (z6 : Int) : Option (Z3 × Int × Int × Int × (List Zv) × Int × Int) := pick fun r => ∀ (zp : Own) (zd : Own) (zy : okApp zd = true), RRun (Z2B zn zp) (EE 28 [(.ptr 0 0)] [(Zk (Zm.mk zn zu z7 zh zj (Zl.mk z2 z6)) zp zd)]) r
theorem Z93 (zn : List Int) (zu : Int) (z7 : Int) (zh : Int) (zj : List Zv) (z2 : Int) (z6 : Int) (zp : Own) (zd : Own) (zy : okApp zd = true) : Sim (Z2B zn zp) (Z32 zn zu z7 zh zj z2 z6) (EE 28 [(.ptr 0 0)] [(Zk (Zm.mk zn zu z7 zh zj (Zl.mk z2 z6)) zp zd)]) := fun _ h => pick_to h zp zd zy
noncomputable def Z4A (zn : List Int) (zu : Int) (z7 : Int) (zh : Int) (zj : List Zv) (z2 : Int) (z6 : Int) : Option (Z3 × Int × Int × Int × (List Zv) × Int × Int) := pick fun r => ∀ (zp : Own) (zd : Own) (zy : okApp zd = true), RRun (Z2n zn zp) (EE 35 [(.ptr 0 0)] [(Zk (Zm.mk zn zu z7 zh zj (Zl.mk z2 z6)) zp zd)]) r
theorem Z90 (zn : List Int) (zu : Int) (z7 : Int) (zh : Int) (zj : List Zv) (z2 : Int) (z6 : Int) (zp : Own) (zd : Own) (zy : okApp zd = true) : Sim (Z2n zn zp) (Z4A zn zu z7 zh zj z2 z6) (EE 35 [(.ptr 0 0)] [(Zk (Zm.mk zn zu z7 zh zj (Zl.mk z2 z6)) zp zd)]) := fun _ h => pick_to h zp zd zy
noncomputable def Z3E (x3 : List Z3) (zn : List Int) (zu : Int) (z7 : Int) (zh : Int) (zj : List Zv) (z2 : Int) (z6 : Int) : Option (Z3 × Int × Int × Int × (List Zv) × Int × Int) := pick fun r => ∀ (b1 : Z3) (ox3 : Own) (zp : Own) (zd : Own) (zD : Own) (zB : Own) (hox3 : okApp ox3 = true) (zy : okApp zd = true) (zR : okApp zD = true) (zL : okApp zB = true), RRun (Z2n zn zp) (Zcs 1 (.ptr 0 0) (.ptr 1 0) (.p (.lst ox3 (x3.map ZG))) [(Zk (Zm.mk zn zu z7 zh zj (Zl.mk z2 z6)) zp zd), (Zq b1 zD zB)]) r
theorem Z7s (x3 : List Z3) (zn : List Int) (zu : Int) (z7 : Int) (zh : Int) (zj : List Zv) (z2 : Int) (z6 : Int) (b1 : Z3) (ox3 : Own) (zp : Own) (zd : Own) (zD : Own) (zB : Own) (hox3 : okApp ox3 = true) (zy : okApp zd = true) (zR : okApp zD = true) (zL : okApp zB = true) : Sim (Z2n zn zp) (Z3E x3 zn zu z7 zh zj z2 z6) (Zcs 1 (.ptr 0 0) (.ptr 1 0) (.p (.lst ox3 (x3.map ZG))) [(Zk (Zm.mk zn zu z7 zh zj (Zl.mk z2 z6)) zp zd), (Zq b1 zD zB)]) := fun _ h => pick_to h b1 ox3 zp zd zD zB hox3 zy zR zL
noncomputable def Z1K (b0 : Zm) : Option (Int) := pick fun r => ∀ (zp : Own) (zd : Own) (zy : okApp zd = true), RRun (Z4j b0 zp zd) (EE 41 [(.ptr 0 0)] [(Zk b0 zp zd)]) r
theorem Z1Q (b0 : Zm) (zp : Own) (zd : Own) (zy : okApp zd = true) : Sim (Z4j b0 zp zd) (Z1K b0) (EE 41 [(.ptr 0 0)] [(Zk b0 zp zd)]) := fun _ h => pick_to h zp zd zy
noncomputable def Z8r (x0 : List Int) (x1 : Int) : Option (Int × Int) := pick fun r => ∀ (ox0 : Own), RRun (Z5k) (EE 45 [(.p (.lst ox0 (x0.map (eI .u8)))), (iv x1)] []) r
theorem ZbP (x0 : List Int) (x1 : Int) (ox0 : Own) : Sim (Z5k) (Z8r x0 x1) (EE 45 [(.p (.lst ox0 (x0.map (eI .u8)))), (iv x1)] []) := fun _ h => pick_to h ox0
noncomputable def Z5U (x0 : List Int) : Option (Int × Int) := pick fun r => ∀ (ox0 : Own), RRun (Z4J) (EE 53 [(.p (.lst ox0 (x0.map (eI .u8))))] []) r
theorem Z9z (x0 : List Int) (ox0 : Own) : Sim (Z4J) (Z5U x0) (EE 53 [(.p (.lst ox0 (x0.map (eI .u8))))] []) := fun _ h => pick_to h ox0
noncomputable def Z6S (x0 : Int) (x1 : List Z3) : Option (Z3) := pick fun r => ∀ (ox1 : Own), RRun (Z5Y) (EE 36 [(iv x0), (.p (.lst ox1 (x1.map ZG)))] []) r
theorem Zal (x0 : Int) (x1 : List Z3) (ox1 : Own) : Sim (Z5Y) (Z6S x0 x1) (EE 36 [(iv x0), (.p (.lst ox1 (x1.map ZG)))] []) := fun _ h => pick_to h ox1
noncomputable def Z6d (zn : List Int) (zu : Int) (z7 : Int) (zh : Int) (zj : List Zv) (z2 : Int) (z6 : Int) : Option (Z3 × Bool × Int × Int × Int × (List Zv) × Int × Int) := pick fun r => ∀ (zp : Own) (zd : Own) (zy : okApp zd = true), RRun (Z4k zn zp) (EE 42 [(.ptr 0 0)] [(Zk (Zm.mk zn zu z7 zh zj (Zl.mk z2 z6)) zp zd)]) r
theorem ZbA (zn : List Int) (zu : Int) (z7 : Int) (zh : Int) (zj : List Zv) (z2 : Int) (z6 : Int) (zp : Own) (zd : Own) (zy : okApp zd = true) : Sim (Z4k zn zp) (Z6d zn zu z7 zh zj z2 z6) (EE 42 [(.ptr 0 0)] [(Zk (Zm.mk zn zu z7 zh zj (Zl.mk z2 z6)) zp zd)]) := fun _ h => pick_to h zp zd zy
noncomputable def Z2e (zn : List Int) (zu : Int) : Option (Int × Int) := pick fun r => ∀ (z7 : Int) (zh : Int) (zj : List Zv) (z2 : Int) (z6 : Int) (zp : Own) (zd : Own) (zy : okApp zd = true), RRun (Z5b zn z7 zh zj z2 z6 zp zd) (EE 46 [(.ptr 0 0)] [(Zk (Zm.mk zn zu z7 zh zj (Zl.mk z2 z6)) zp zd)]) r
theorem Z2A (zn : List Int) (zu : Int) (z7 : Int) (zh : Int) (zj : List Zv) (z2 : Int) (z6 : Int) (zp : Own) (zd : Own) (zy : okApp zd = true) : Sim (Z5b zn z7 zh zj z2 z6 zp zd) (Z2e zn zu) (EE 46 [(.ptr 0 0)] [(Zk (Zm.mk zn zu z7 zh zj (Zl.mk z2 z6)) zp zd)]) := fun _ h => pick_to h z7 zh zj z2 z6 zp zd zy
noncomputable def Z1C (x0 : Int) : Option (Z8) := pick fun r => RRun (Z8s) (EE 48 [(iv x0)] []) r
theorem Z1x (x0 : Int) : Sim (Z8s) (Z1C x0) (EE 48 [(iv x0)] []) := fun _ h => pick_to h
noncomputable def Z2N (x0 : Bool) (x1 : List Z8) : Option (Z3) := pick fun r => ∀ (ox1 : Own), RRun (Z7d) (EE 47 [(bv x0), (.p (.lst ox1 (x1.map Zz)))] []) r
theorem Z2X (x0 : Bool) (x1 : List Z8) (ox1 : Own) : Sim (Z7d) (Z2N x0 x1) (EE 47 [(bv x0), (.p (.lst ox1 (x1.map Zz)))] []) := fun _ h => pick_to h ox1
noncomputable def Z9p (x0 : List Z8) : Option ((List Z8) × Int) := pick fun r => ∀ (ox0 : Own), RRun (Z6U) (EE 54 [(.p (.lst ox0 (x0.map Zz)))] []) r
theorem Ze2 (x0 : List Z8) (ox0 : Own) : Sim (Z6U) (Z9p x0) (EE 54 [(.p (.lst ox0 (x0.map Zz)))] []) := fun _ h => pick_to h ox0
noncomputable def Z3t (x0 : List Z8) : Option (Bool) := pick fun r => ∀ (ox0 : Own), RRun (Z2T) (EE 65 [(.p (.lst ox0 (x0.map Zz))), (.clo 66 [] [])] []) r
theorem Z8l (x0 : List Z8) (ox0 : Own) : Sim (Z2T) (Z3t x0) (EE 65 [(.p (.lst ox0 (x0.map Zz))), (.clo 66 [] [])] []) := fun _ h => pick_to h ox0
noncomputable def Z48 (x0 : List Z8) : Option (Int) := pick fun r => ∀ (ox0 : Own), RRun (Z1s) (EE 73 [(.p (.lst ox0 (x0.map Zz))), (.clo 66 [] [])] []) r
theorem Z98 (x0 : List Z8) (ox0 : Own) : Sim (Z1s) (Z48 x0) (EE 73 [(.p (.lst ox0 (x0.map Zz))), (.clo 66 [] [])] []) := fun _ h => pick_to h ox0
noncomputable def Z2V (x0 : List Z8) (x7 : Int) (x8 : Int) : Option (Int) := pick fun r => ∀ (ox0 : Own), RRun (Z1s) (Zc1 0 (.p (.lst ox0 (x0.map Zz))) (.clo 66 [] []) (iv x7) (iv x8) []) r
theorem Z5O (x0 : List Z8) (x7 : Int) (x8 : Int) (ox0 : Own) : Sim (Z1s) (Z2V x0 x7 x8) (Zc1 0 (.p (.lst ox0 (x0.map Zz))) (.clo 66 [] []) (iv x7) (iv x8) []) := fun _ h => pick_to h ox0
noncomputable def Z86 (x0 : Z8) : Option (Bool) := pick fun r => RRun (Z6X) (EE 66 [(.p (.agg (ZH x0)))] []) r
theorem Zdx (x0 : Z8) : Sim (Z6X) (Z86 x0) (EE 66 [(.p (.agg (ZH x0)))] []) := fun _ h => pick_to h
noncomputable def Z5a (x0 : Z8) : Option (Bool) := pick fun r => RRun (Z57) (EE 67 [(.p (.agg (ZH x0)))] []) r
theorem Z8p (x0 : Z8) : Sim (Z57) (Z5a x0) (EE 67 [(.p (.agg (ZH x0)))] []) := fun _ h => pick_to h
noncomputable def Z83 (x0 : List Z8) : Option ((List Z8)) := pick fun r => ∀ (ox0 : Own), RRun (Z7T) (EE 68 [(.p (.lst ox0 (x0.map Zz)))] []) r
theorem Zaj (x0 : List Z8) (ox0 : Own) : Sim (Z7T) (Z83 x0) (EE 68 [(.p (.lst ox0 (x0.map Zz)))] []) := fun _ h => pick_to h ox0
noncomputable def Z6u (x0 : List Z8) : Option ((List Z8) × Int) := pick fun r => ∀ (ox0 : Own), RRun (Z5G) (EE 55 [(.p (.lst ox0 (x0.map Zz)))] []) r
theorem Za3 (x0 : List Z8) (ox0 : Own) : Sim (Z5G) (Z6u x0) (EE 55 [(.p (.lst ox0 (x0.map Zz)))] []) := fun _ h => pick_to h ox0
noncomputable def Z4G (x0 : List Z8) : Option (Bool) := pick fun r => ∀ (ox0 : Own), RRun (Z1X) (EE 69 [(.p (.lst ox0 (x0.map Zz)))] []) r
theorem Z6V (x0 : List Z8) (ox0 : Own) : Sim (Z1X) (Z4G x0) (EE 69 [(.p (.lst ox0 (x0.map Zz)))] []) := fun _ h => pick_to h ox0
noncomputable def Z4z (x3 : Int) (x6 : List Z8) (x7 : Int) (x8 : Int) : Option (Bool) := pick fun r => ∀ (ox6 : Own), RRun (Z1X) (Zch 0 (iv x3) (.p (.lst ox6 (x6.map Zz))) (iv x7) (iv x8) []) r
theorem Z7t (x3 : Int) (x6 : List Z8) (x7 : Int) (x8 : Int) (ox6 : Own) : Sim (Z1X) (Z4z x3 x6 x7 x8) (Zch 0 (iv x3) (.p (.lst ox6 (x6.map Zz))) (iv x7) (iv x8) []) := fun _ h => pick_to h ox6
noncomputable def Z7f (x0 : List Z8) : Option ((List Z8)) := pick fun r => ∀ (ox0 : Own), RRun (Z2q) (EE 70 [(.p (.lst ox0 (x0.map Zz)))] []) r
theorem Zd0 (x0 : List Z8) (ox0 : Own) : Sim (Z2q) (Z7f x0) (EE 70 [(.p (.lst ox0 (x0.map Zz)))] []) := fun _ h => pick_to h ox0
noncomputable def Z5v (x3 : List Z8) (x4 : Int) (x7 : List Z8) (x8 : Int) (x9 : Int) : Option ((List Z8)) := pick fun r => ∀ (ox3 : Own) (ox7 : Own) (hox3 : okApp ox3 = true), RRun (Z2q) (Zcl 0 (.p (.lst ox3 (x3.map Zz))) (iv x4) (.p (.lst ox7 (x7.map Zz))) (iv x8) (iv x9) []) r
theorem Z8Y (x3 : List Z8) (x4 : Int) (x7 : List Z8) (x8 : Int) (x9 : Int) (ox3 : Own) (ox7 : Own) (hox3 : okApp ox3 = true) : Sim (Z2q) (Z5v x3 x4 x7 x8 x9) (Zcl 0 (.p (.lst ox3 (x3.map Zz))) (iv x4) (.p (.lst ox7 (x7.map Zz))) (iv x8) (iv x9) []) := fun _ h => pick_to h ox3 ox7 hox3
noncomputable def Z3e (x1 : Int) (zn : List Int) (zu : Int) (z7 : Int) (zh : Int) (zj : List Zv) (z2 : Int) (z6 : Int) : Option (Z3 × Int × (List Zv) × Int × Int) := pick fun r => ∀ (zp : Own) (zd : Own) (zy : okApp zd = true), RRun (Z2M zn z7 zh zp) (EE 49 [(.ptr 0 0), (iv x1)] [(Zk (Zm.mk zn zu z7 zh zj (Zl.mk z2 z6)) zp zd)]) r
theorem ZaZ (x1 : Int) (zn : List Int) (zu : Int) (z7 : Int) (zh : Int) (zj : List Zv) (z2 : Int) (z6 : Int) (zp : Own) (zd : Own) (zy : okApp zd = true) : Sim (Z2M zn z7 zh zp) (Z3e x1 zn zu z7 zh zj z2 z6) (EE 49 [(.ptr 0 0), (iv x1)] [(Zk (Zm.mk zn zu z7 zh zj (Zl.mk z2 z6)) zp zd)]) := fun _ h => pick_to h zp zd zy
noncomputable def ZU (x1 : Int) (x2 : Int) (zn : List Int) (z2 : Int) (z6 : Int) : Option (Int × Int × Int) := pick fun r => ∀ (zu : Int) (z7 : Int) (zh : Int) (zj : List Zv) (zp : Own) (zd : Own) (zy : okApp zd = true), RRun (Z4i zn z7 zh zj zp zd) (EE 29 [(.ptr 0 0), (iv x1), (iv x2)] [(Zk (Zm.mk zn zu z7 zh zj (Zl.mk z2 z6)) zp zd)]) r
theorem ZX (x1 : Int) (x2 : Int) (zn : List Int) (zu : Int) (z7 : Int) (zh : Int) (zj : List Zv) (z2 : Int) (z6 : Int) (zp : Own) (zd : Own) (zy : okApp zd = true) : Sim (Z4i zn z7 zh zj zp zd) (ZU x1 x2 zn z2 z6) (EE 29 [(.ptr 0 0), (iv x1), (iv x2)] [(Zk (Zm.mk zn zu z7 zh zj (Zl.mk z2 z6)) zp zd)]) := fun _ h => pick_to h zu z7 zh zj zp zd zy
noncomputable def Z50 (x0 : Int) : Option ((Own × (List Z8))) := pick fun r => RRun (Z51) (EE 56 [(iv x0)] []) r
theorem Z70 (x0 : Int) : Sim (Z51) (Z50 x0) (EE 56 [(iv x0)] []) := fun _ h => pick_to h
noncomputable def Z4Z (x1 : Int) (x2 : Int) (zn : List Int) (zu : Int) (z7 : Int) (zh : Int) (zj : List Zv) (z2 : Int) (z6 : Int) : Option (Int × Int × Int × Int) := pick fun r => ∀ (zp : Own) (zd : Own) (zy : okApp zd = true), RRun (Z3m zn z7 zh zj zp zd) (EE 57 [(.ptr 0 0), (iv x1), (iv x2)] [(Zk (Zm.mk zn zu z7 zh zj (Zl.mk z2 z6)) zp zd)]) r
theorem Z89 (x1 : Int) (x2 : Int) (zn : List Int) (zu : Int) (z7 : Int) (zh : Int) (zj : List Zv) (z2 : Int) (z6 : Int) (zp : Own) (zd : Own) (zy : okApp zd = true) : Sim (Z3m zn z7 zh zj zp zd) (Z4Z x1 x2 zn zu z7 zh zj z2 z6) (EE 57 [(.ptr 0 0), (iv x1), (iv x2)] [(Zk (Zm.mk zn zu z7 zh zj (Zl.mk z2 z6)) zp zd)]) := fun _ h => pick_to h zp zd zy
noncomputable def Z8C (x0 : Int) : Option (Int) := pick fun r => RRun (Z5l) (EE 71 [(iv x0)] []) r
theorem Zcc (x0 : Int) : Sim (Z5l) (Z8C x0) (EE 71 [(iv x0)] []) := fun _ h => pick_to h
noncomputable def Z6p (x0 : List Z8) (x1 : Int) : Option (Bool) := pick fun r => ∀ (ox0 : Own), RRun (Z6v) (EE 19 [(.p (.lst ox0 (x0.map Zz))), (iv x1)] []) r
theorem Zd4 (x0 : List Z8) (x1 : Int) (ox0 : Own) : Sim (Z6v) (Z6p x0 x1) (EE 19 [(.p (.lst ox0 (x0.map Zz))), (iv x1)] []) := fun _ h => pick_to h ox0
noncomputable def Z3p (x0 : List Z8) (z11 : Int) : Option (Bool) := pick fun r => ∀ (ox0 : Own), RRun (Z2R z11) (EE 30 [(.p (.lst ox0 (x0.map Zz))), (.clo 31 [] [(.ptr 0 0)])] [[(iv z11)]]) r
theorem Z8j (x0 : List Z8) (z11 : Int) (ox0 : Own) : Sim (Z2R z11) (Z3p x0 z11) (EE 30 [(.p (.lst ox0 (x0.map Zz))), (.clo 31 [] [(.ptr 0 0)])] [[(iv z11)]]) := fun _ h => pick_to h ox0
noncomputable def Z40 (x0 : List Z8) (z11 : Int) : Option (Int) := pick fun r => ∀ (ox0 : Own), RRun (Z1t z11) (EE 37 [(.p (.lst ox0 (x0.map Zz))), (.clo 31 [] [(.ptr 0 0)])] [[(iv z11)]]) r
theorem Z97 (x0 : List Z8) (z11 : Int) (ox0 : Own) : Sim (Z1t z11) (Z40 x0 z11) (EE 37 [(.p (.lst ox0 (x0.map Zz))), (.clo 31 [] [(.ptr 0 0)])] [[(iv z11)]]) := fun _ h => pick_to h ox0
noncomputable def Z2Q (x0 : List Z8) (x7 : Int) (x8 : Int) (z11 : Int) : Option (Int) := pick fun r => ∀ (ox0 : Own), RRun (Z1t z11) (ZbW 1 (.p (.lst ox0 (x0.map Zz))) (.clo 31 [] [(.ptr 0 0)]) (iv x7) (iv x8) [[(iv z11)]]) r
theorem Z5K (x0 : List Z8) (x7 : Int) (x8 : Int) (z11 : Int) (ox0 : Own) : Sim (Z1t z11) (Z2Q x0 x7 x8 z11) (ZbW 1 (.p (.lst ox0 (x0.map Zz))) (.clo 31 [] [(.ptr 0 0)]) (iv x7) (iv x8) [[(iv z11)]]) := fun _ h => pick_to h ox0
noncomputable def Z6G (x0 : Z8) (z11 : Int) : Option (Bool) := pick fun r => RRun (Z5M z11) (EE 31 [(.p (.agg (ZH x0))), (.ptr 0 0)] [[(iv z11)]]) r
theorem ZcL (x0 : Z8) (z11 : Int) : Sim (Z5M z11) (Z6G x0 z11) (EE 31 [(.p (.agg (ZH x0))), (.ptr 0 0)] [[(iv z11)]]) := fun _ h => pick_to h
noncomputable def Z5V (x1 : Int) (zn : List Int) (zu : Int) (z7 : Int) (zh : Int) (zj : List Zv) (z2 : Int) (z6 : Int) : Option (Z3 × Int × Int × Int) := pick fun r => ∀ (zp : Own) (zd : Own) (zy : okApp zd = true), RRun (Z1b zn z7 zh zj zp zd) (EE 50 [(.ptr 0 0), (iv x1)] [(Zk (Zm.mk zn zu z7 zh zj (Zl.mk z2 z6)) zp zd)]) r
theorem Zb9 (x1 : Int) (zn : List Int) (zu : Int) (z7 : Int) (zh : Int) (zj : List Zv) (z2 : Int) (z6 : Int) (zp : Own) (zd : Own) (zy : okApp zd = true) : Sim (Z1b zn z7 zh zj zp zd) (Z5V x1 zn zu z7 zh zj z2 z6) (EE 50 [(.ptr 0 0), (iv x1)] [(Zk (Zm.mk zn zu z7 zh zj (Zl.mk z2 z6)) zp zd)]) := fun _ h => pick_to h zp zd zy
noncomputable def Z2W (x1 : Int) (x5 : Bool) (x8 : Int) (zn : List Int) (zu : Int) (z7 : Int) (zh : Int) (zj : List Zv) (z2 : Int) (z6 : Int) (z13 : List Z8) : Option (Z3 × Int × Int × Int) := pick fun r => ∀ (b1 : Z3) (zp : Own) (zd : Own) (zD : Own) (zB : Own) (z1h : Own) (zy : okApp zd = true) (zR : okApp zD = true) (zL : okApp zB = true), RRun (Z1b zn z7 zh zj zp zd) (Zcr 1 (.ptr 0 0) (iv x1) (.ptr 1 0) (bv x5) (.ptr 2 0) (.clo 58 [] [(.ptr 2 0)]) (iv x8) [(Zk (Zm.mk zn zu z7 zh zj (Zl.mk z2 z6)) zp zd), (Zq b1 zD zB), [(.p (.lst z1h (z13.map Zz)))]]) r
theorem Z76 (x1 : Int) (x5 : Bool) (x8 : Int) (zn : List Int) (zu : Int) (z7 : Int) (zh : Int) (zj : List Zv) (z2 : Int) (z6 : Int) (b1 : Z3) (z13 : List Z8) (zp : Own) (zd : Own) (zD : Own) (zB : Own) (z1h : Own) (zy : okApp zd = true) (zR : okApp zD = true) (zL : okApp zB = true) : Sim (Z1b zn z7 zh zj zp zd) (Z2W x1 x5 x8 zn zu z7 zh zj z2 z6 z13) (Zcr 1 (.ptr 0 0) (iv x1) (.ptr 1 0) (bv x5) (.ptr 2 0) (.clo 58 [] [(.ptr 2 0)]) (iv x8) [(Zk (Zm.mk zn zu z7 zh zj (Zl.mk z2 z6)) zp zd), (Zq b1 zD zB), [(.p (.lst z1h (z13.map Zz)))]]) := fun _ h => pick_to h b1 zp zd zD zB z1h zy zR zL
noncomputable def Z3L (zn : List Int) (zu : Int) (z7 : Int) (zh : Int) (zj : List Zv) (z2 : Int) (z6 : Int) : Option (Int × (Own × (List Z8)) × Bool × Int × Int × Int) := pick fun r => ∀ (zp : Own) (zd : Own) (zy : okApp zd = true), RRun (Z2K zn z7 zh zj zp zd) (EE 60 [(.ptr 0 0)] [(Zk (Zm.mk zn zu z7 zh zj (Zl.mk z2 z6)) zp zd)]) r
theorem Z7z (zn : List Int) (zu : Int) (z7 : Int) (zh : Int) (zj : List Zv) (z2 : Int) (z6 : Int) (zp : Own) (zd : Own) (zy : okApp zd = true) : Sim (Z2K zn z7 zh zj zp zd) (Z3L zn zu z7 zh zj z2 z6) (EE 60 [(.ptr 0 0)] [(Zk (Zm.mk zn zu z7 zh zj (Zl.mk z2 z6)) zp zd)]) := fun _ h => pick_to h zp zd zy
noncomputable def Z4p (x0 : List Z8) (z11 : List Z8) : Option ((List Z8)) := pick fun r => ∀ (ox0 : Own) (z9Q : Own), RRun (Z4o) (EE 58 [(.p (.lst ox0 (x0.map Zz))), (.ptr 0 0)] [[(.p (.lst z9Q (z11.map Zz)))]]) r
theorem Z7p (x0 : List Z8) (z11 : List Z8) (ox0 : Own) (z9Q : Own) : Sim (Z4o) (Z4p x0 z11) (EE 58 [(.p (.lst ox0 (x0.map Zz))), (.ptr 0 0)] [[(.p (.lst z9Q (z11.map Zz)))]]) := fun _ h => pick_to h ox0 z9Q
noncomputable def Z7R (x0 : List Z8) (x1 : List Z8) : Option ((List Z8) × Int) := pick fun r => ∀ (ox0 : Own) (ox1 : Own), RRun (Z5i) (EE 59 [(.p (.lst ox0 (x0.map Zz))), (.p (.lst ox1 (x1.map Zz)))] []) r
theorem Zdw (x0 : List Z8) (x1 : List Z8) (ox0 : Own) (ox1 : Own) : Sim (Z5i) (Z7R x0 x1) (EE 59 [(.p (.lst ox0 (x0.map Zz))), (.p (.lst ox1 (x1.map Zz)))] []) := fun _ h => pick_to h ox0 ox1
noncomputable def Z6P (x0 : List (List Z8)) : Option ((List Z8)) := pick fun r => ∀ (ox0 : Own), RRun (Z5y) (EE 72 [(.p (.lst ox0 (x0.map (eL Zz))))] []) r
theorem Zb4 (x0 : List (List Z8)) (ox0 : Own) : Sim (Z5y) (Z6P x0) (EE 72 [(.p (.lst ox0 (x0.map (eL Zz))))] []) := fun _ h => pick_to h ox0
noncomputable def Z3l (x1 : Int) (zn : List Int) (zu : Int) (z7 : Int) (zh : Int) (zj : List Zv) (z2 : Int) (z6 : Int) : Option (Z3 × Bool × Int × Int × Int × (List Zv) × Int × Int) := pick fun r => ∀ (zp : Own) (zd : Own) (zy : okApp zd = true), RRun (Z2k zn zp) (EE 51 [(.ptr 0 0), (iv x1)] [(Zk (Zm.mk zn zu z7 zh zj (Zl.mk z2 z6)) zp zd)]) r
theorem Zbl (x1 : Int) (zn : List Int) (zu : Int) (z7 : Int) (zh : Int) (zj : List Zv) (z2 : Int) (z6 : Int) (zp : Own) (zd : Own) (zy : okApp zd = true) : Sim (Z2k zn zp) (Z3l x1 zn zu z7 zh zj z2 z6) (EE 51 [(.ptr 0 0), (iv x1)] [(Zk (Zm.mk zn zu z7 zh zj (Zl.mk z2 z6)) zp zd)]) := fun _ h => pick_to h zp zd zy
noncomputable def Z8G  : Option ((List ByteArray)) := pick fun r => RRun (Z77) (EE 62 [] []) r
theorem ZdR  : Sim (Z77) (Z8G) (EE 62 [] []) := fun _ h => pick_to h
noncomputable def Z3R (x0 : List ByteArray) (zn : List Int) (zu : Int) : Option (Int × Int) := pick fun r => ∀ (z7 : Int) (zh : Int) (zj : List Zv) (z2 : Int) (z6 : Int) (ox0 : Own) (zp : Own) (zd : Own) (zy : okApp zd = true), RRun (Z1o zn z7 zh zj z2 z6 zp zd) (EE 61 [(.p (.lst ox0 (x0.map eS))), (.clo 27 [(.ptr 0 0)] [])] [(Zk (Zm.mk zn zu z7 zh zj (Zl.mk z2 z6)) zp zd)]) r
theorem Z8U (x0 : List ByteArray) (zn : List Int) (zu : Int) (z7 : Int) (zh : Int) (zj : List Zv) (z2 : Int) (z6 : Int) (ox0 : Own) (zp : Own) (zd : Own) (zy : okApp zd = true) : Sim (Z1o zn z7 zh zj z2 z6 zp zd) (Z3R x0 zn zu) (EE 61 [(.p (.lst ox0 (x0.map eS))), (.clo 27 [(.ptr 0 0)] [])] [(Zk (Zm.mk zn zu z7 zh zj (Zl.mk z2 z6)) zp zd)]) := fun _ h => pick_to h z7 zh zj z2 z6 ox0 zp zd zy
noncomputable def Z1y (x0 : List ByteArray) (x7 : Int) (x8 : Int) (zn : List Int) (zu : Int) : Option (Int × Int) := pick fun r => ∀ (z7 : Int) (zh : Int) (zj : List Zv) (z2 : Int) (z6 : Int) (ox0 : Own) (zp : Own) (zd : Own) (zy : okApp zd = true), RRun (Z1o zn z7 zh zj z2 z6 zp zd) (ZbO 1 (.p (.lst ox0 (x0.map eS))) (.clo 27 [(.ptr 0 0)] []) (iv x7) (iv x8) [(Zk (Zm.mk zn zu z7 zh zj (Zl.mk z2 z6)) zp zd)]) r
theorem Z5A (x0 : List ByteArray) (x7 : Int) (x8 : Int) (zn : List Int) (zu : Int) (z7 : Int) (zh : Int) (zj : List Zv) (z2 : Int) (z6 : Int) (ox0 : Own) (zp : Own) (zd : Own) (zy : okApp zd = true) : Sim (Z1o zn z7 zh zj z2 z6 zp zd) (Z1y x0 x7 x8 zn zu) (ZbO 1 (.p (.lst ox0 (x0.map eS))) (.clo 27 [(.ptr 0 0)] []) (iv x7) (iv x8) [(Zk (Zm.mk zn zu z7 zh zj (Zl.mk z2 z6)) zp zd)]) := fun _ h => pick_to h z7 zh zj z2 z6 ox0 zp zd zy
noncomputable def Z4w (x1 : Z3) (x2 : Bool) (zn : List Int) (zu : Int) (z7 : Int) (zh : Int) (zj : List Zv) (z2 : Int) (z6 : Int) : Option (Z3 × Int × Int × Int) := pick fun r => ∀ (z2i : Own) (z1U : Own) (zp : Own) (zd : Own) (zy : okApp zd = true), RRun (Z2L zn z7 zh zj zp zd) (EE 43 [(.ptr 0 0), (.p (.agg (ZC x1 z2i z1U))), (bv x2)] [(Zk (Zm.mk zn zu z7 zh zj (Zl.mk z2 z6)) zp zd)]) r
theorem ZaW (x1 : Z3) (x2 : Bool) (zn : List Int) (zu : Int) (z7 : Int) (zh : Int) (zj : List Zv) (z2 : Int) (z6 : Int) (z2i : Own) (z1U : Own) (zp : Own) (zd : Own) (zy : okApp zd = true) : Sim (Z2L zn z7 zh zj zp zd) (Z4w x1 x2 zn zu z7 zh zj z2 z6) (EE 43 [(.ptr 0 0), (.p (.agg (ZC x1 z2i z1U))), (bv x2)] [(Zk (Zm.mk zn zu z7 zh zj (Zl.mk z2 z6)) zp zd)]) := fun _ h => pick_to h z2i z1U zp zd zy
noncomputable def Z4u (x1 : Int) (zn : List Int) (zu : Int) (z7 : Int) (zh : Int) (zj : List Zv) (z2 : Int) (z6 : Int) : Option (Int × Int × Int × Int × Int) := pick fun r => ∀ (zp : Own) (zd : Own) (zy : okApp zd = true), RRun (Z1Y zn z7 zh zj zp zd) (EE 52 [(.ptr 0 0), (iv x1)] [(Zk (Zm.mk zn zu z7 zh zj (Zl.mk z2 z6)) zp zd)]) r
theorem Zb0 (x1 : Int) (zn : List Int) (zu : Int) (z7 : Int) (zh : Int) (zj : List Zv) (z2 : Int) (z6 : Int) (zp : Own) (zd : Own) (zy : okApp zd = true) : Sim (Z1Y zn z7 zh zj zp zd) (Z4u x1 zn zu z7 zh zj z2 z6) (EE 52 [(.ptr 0 0), (iv x1)] [(Zk (Zm.mk zn zu z7 zh zj (Zl.mk z2 z6)) zp zd)]) := fun _ h => pick_to h zp zd zy
noncomputable def Z3F (zn : List Int) (zu : Int) (z7 : Int) (zh : Int) (zj : List Zv) (z2 : Int) (z6 : Int) : Option (Int × Int) := pick fun r => ∀ (zp : Own) (zd : Own) (zy : okApp zd = true), RRun (Z2d zn z7 zh zj z2 z6 zp zd) (EE 63 [(.ptr 0 0)] [(Zk (Zm.mk zn zu z7 zh zj (Zl.mk z2 z6)) zp zd)]) r
theorem Z7D (zn : List Int) (zu : Int) (z7 : Int) (zh : Int) (zj : List Zv) (z2 : Int) (z6 : Int) (zp : Own) (zd : Own) (zy : okApp zd = true) : Sim (Z2d zn z7 zh zj z2 z6 zp zd) (Z3F zn zu z7 zh zj z2 z6) (EE 63 [(.ptr 0 0)] [(Zk (Zm.mk zn zu z7 zh zj (Zl.mk z2 z6)) zp zd)]) := fun _ h => pick_to h zp zd zy
noncomputable def Z2J (x3 : Int) (x4 : Int) (zn : List Int) (zu : Int) (z7 : Int) (zh : Int) (zj : List Zv) (z2 : Int) (z6 : Int) : Option (Int × Int) := pick fun r => ∀ (zp : Own) (zd : Own) (zy : okApp zd = true), RRun (Z2d zn z7 zh zj z2 z6 zp zd) (Zct 1 (.ptr 0 0) (iv x3) (iv x4) [(Zk (Zm.mk zn zu z7 zh zj (Zl.mk z2 z6)) zp zd)]) r
theorem Z6Y (x3 : Int) (x4 : Int) (zn : List Int) (zu : Int) (z7 : Int) (zh : Int) (zj : List Zv) (z2 : Int) (z6 : Int) (zp : Own) (zd : Own) (zy : okApp zd = true) : Sim (Z2d zn z7 zh zj z2 z6 zp zd) (Z2J x3 x4 zn zu z7 zh zj z2 z6) (Zct 1 (.ptr 0 0) (iv x3) (iv x4) [(Zk (Zm.mk zn zu z7 zh zj (Zl.mk z2 z6)) zp zd)]) := fun _ h => pick_to h zp zd zy
noncomputable def Z3G (x3 : List Z3) (zn : List Int) (zu : Int) (z7 : Int) (zh : Int) (zj : List Zv) (z2 : Int) (z6 : Int) : Option (Z3 × Int × Int × Int × (List Zv) × Int × Int) := pick fun r => ∀ (b1 : Z3) (ox3 : Own) (zp : Own) (zd : Own) (zD : Own) (zB : Own) (hox3 : okApp ox3 = true) (zy : okApp zd = true) (zR : okApp zD = true) (zL : okApp zB = true), RRun (Z2B zn zp) (Zc5 1 (.ptr 0 0) (.ptr 1 0) (.p (.lst ox3 (x3.map ZG))) [(Zk (Zm.mk zn zu z7 zh zj (Zl.mk z2 z6)) zp zd), (Zq b1 zD zB)]) r
theorem Z7G (x3 : List Z3) (zn : List Int) (zu : Int) (z7 : Int) (zh : Int) (zj : List Zv) (z2 : Int) (z6 : Int) (b1 : Z3) (ox3 : Own) (zp : Own) (zd : Own) (zD : Own) (zB : Own) (hox3 : okApp ox3 = true) (zy : okApp zd = true) (zR : okApp zD = true) (zL : okApp zB = true) : Sim (Z2B zn zp) (Z3G x3 zn zu z7 zh zj z2 z6) (Zc5 1 (.ptr 0 0) (.ptr 1 0) (.p (.lst ox3 (x3.map ZG))) [(Zk (Zm.mk zn zu z7 zh zj (Zl.mk z2 z6)) zp zd), (Zq b1 zD zB)]) := fun _ h => pick_to h b1 ox3 zp zd zD zB hox3 zy zR zL
noncomputable def Z5h (x50 : List Zv) (x51 : Int) (x52 : Int) (z23 : List Int) (zS : Int) (zK : Int) (zT : Int) (zM : Int) (zW : Int) (zV : Int) (zN : Int) (zP : Int) (zQ : List Z8) (zO : List Z3) (z15 : Bool) : Option (ZE × Zl) := pick fun r => ∀ (b0 : ZE) (b1 : Zl) (z1T : Int) (z1D : Int) (z1j : List Zv) (z1v : Int) (ox50 : Own) (zJ : Own) (zI : Own) (z2p : Own) (z1a : Own) (z12 : Own) (zZ : Own) (z1A : okApp zJ = true) (z1r : okApp zI = true) (z2y : okApp z1a = true), RRun (Z2t) (Zc8 0 (.ptr 0 0) (.ptr 1 0) (.ptr 2 0) (.ptr 3 0) (.p (.lst ox50 (x50.map Z1G))) (iv x51) (iv x52) [(ZA b0 zJ zI), (ZF b1), (Zk (Zm.mk z23 z1T zS z1D z1j (Zl.mk zK zT)) z2p z1a), (ZA (ZE.mk (Z3.mk zM zW zV zN zP zQ zO) z1v z15) z12 zZ)]) r
theorem Z9u (x50 : List Zv) (x51 : Int) (x52 : Int) (b0 : ZE) (b1 : Zl) (z23 : List Int) (z1T : Int) (zS : Int) (z1D : Int) (z1j : List Zv) (zK : Int) (zT : Int) (zM : Int) (zW : Int) (zV : Int) (zN : Int) (zP : Int) (zQ : List Z8) (zO : List Z3) (z1v : Int) (z15 : Bool) (ox50 : Own) (zJ : Own) (zI : Own) (z2p : Own) (z1a : Own) (z12 : Own) (zZ : Own) (z1A : okApp zJ = true) (z1r : okApp zI = true) (z2y : okApp z1a = true) : Sim (Z2t) (Z5h x50 x51 x52 z23 zS zK zT zM zW zV zN zP zQ zO z15) (Zc8 0 (.ptr 0 0) (.ptr 1 0) (.ptr 2 0) (.ptr 3 0) (.p (.lst ox50 (x50.map Z1G))) (iv x51) (iv x52) [(ZA b0 zJ zI), (ZF b1), (Zk (Zm.mk z23 z1T zS z1D z1j (Zl.mk zK zT)) z2p z1a), (ZA (ZE.mk (Z3.mk zM zW zV zN zP zQ zO) z1v z15) z12 zZ)]) := fun _ h => pick_to h b0 b1 z1T z1D z1j z1v ox50 zJ zI z2p z1a z12 zZ z1A z1r z2y
noncomputable def Z1n (x0 : Z3) : Option (Int × Int) := pick fun r => ∀ (z1e : Own) (z10 : Own), RRun (Z2b) (EE 24 [(.p (.agg (ZC x0 z1e z10)))] []) r
theorem Z34 (x0 : Z3) (z1e : Own) (z10 : Own) : Sim (Z2b) (Z1n x0) (EE 24 [(.p (.agg (ZC x0 z1e z10)))] []) := fun _ h => pick_to h z1e z10
noncomputable def Z5g (x2 : Int) (x3 : Int) (x23 : List Z3) (x24 : Int) (x25 : Int) : Option (Int × Int) := pick fun r => ∀ (ox23 : Own), RRun (Z2b) (Zcn 0 (iv x2) (iv x3) (.p (.lst ox23 (x23.map ZG))) (iv x24) (iv x25) []) r
theorem Z9v (x2 : Int) (x3 : Int) (x23 : List Z3) (x24 : Int) (x25 : Int) (ox23 : Own) : Sim (Z2b) (Z5g x2 x3 x23 x24 x25) (Zcn 0 (iv x2) (iv x3) (.p (.lst ox23 (x23.map ZG))) (iv x24) (iv x25) []) := fun _ h => pick_to h ox23
noncomputable def Z4c (x2 : Int) (x3 : Int) (x45 : List Z3) (x46 : Int) (x47 : Int) : Option (Int × Int) := pick fun r => ∀ (ox45 : Own), RRun (Z2b) (ZaI 0 (iv x2) (iv x3) (.p (.lst ox45 (x45.map ZG))) (iv x46) (iv x47) []) r
theorem Z9c (x2 : Int) (x3 : Int) (x45 : List Z3) (x46 : Int) (x47 : Int) (ox45 : Own) : Sim (Z2b) (Z4c x2 x3 x45 x46 x47) (ZaI 0 (iv x2) (iv x3) (.p (.lst ox45 (x45.map ZG))) (iv x46) (iv x47) []) := fun _ h => pick_to h ox45
noncomputable def Z6k (x0 : Int) (x1 : Int) : Option (Int) := pick fun r => RRun (Z4q) (EE 33 [(iv x0), (iv x1)] []) r
theorem ZdS (x0 : Int) (x1 : Int) : Sim (Z4q) (Z6k x0 x1) (EE 33 [(iv x0), (iv x1)] []) := fun _ h => pick_to h
noncomputable def Z7y (x0 : Int) : Option (Int) := pick fun r => RRun (Z6R) (EE 38 [(iv x0)] []) r
theorem Zbt (x0 : Int) : Sim (Z6R) (Z7y x0) (EE 38 [(iv x0)] []) := fun _ h => pick_to h
noncomputable def Z9T (x0 : Int) (x1 : Int) : Option (Int) := pick fun r => RRun (Z6x) (EE 32 [(iv x0), (iv x1)] []) r
theorem ZeW (x0 : Int) (x1 : Int) : Sim (Z6x) (Z9T x0 x1) (EE 32 [(iv x0), (iv x1)] []) := fun _ h => pick_to h
noncomputable def Z28 (x0 : Z3) : Option (Int) := pick fun r => ∀ (z1e : Own) (z10 : Own), RRun (Z3n) (EE 25 [(.p (.agg (ZC x0 z1e z10)))] []) r
theorem Z5z (x0 : Z3) (z1e : Own) (z10 : Own) : Sim (Z3n) (Z28 x0) (EE 25 [(.p (.agg (ZC x0 z1e z10)))] []) := fun _ h => pick_to h z1e z10
noncomputable def Z3A (x3 : Int) (x8 : List Z3) (x9 : Int) (x10 : Int) (b0 : Z3) : Option (Int) := pick fun r => ∀ (ox8 : Own) (z1f : Own) (z14 : Own), RRun (Z3n) (Zca 0 (.ptr 0 0) (iv x3) (.p (.lst ox8 (x8.map ZG))) (iv x9) (iv x10) [(Zq b0 z1f z14)]) r
theorem Za8 (x3 : Int) (x8 : List Z3) (x9 : Int) (x10 : Int) (b0 : Z3) (ox8 : Own) (z1f : Own) (z14 : Own) : Sim (Z3n) (Z3A x3 x8 x9 x10 b0) (Zca 0 (.ptr 0 0) (iv x3) (.p (.lst ox8 (x8.map ZG))) (iv x9) (iv x10) [(Zq b0 z1f z14)]) := fun _ h => pick_to h ox8 z1f z14
noncomputable def Z8F (x0 : ZE) : Option (Int) := pick fun r => ∀ (z2E : Own) (z2s : Own), RRun (Z6j) (EE 26 [(.p (.agg (Z1k x0 z2E z2s)))] []) r
theorem ZdU (x0 : ZE) (z2E : Own) (z2s : Own) : Sim (Z6j) (Z8F x0) (EE 26 [(.p (.agg (Z1k x0 z2E z2s)))] []) := fun _ h => pick_to h z2E z2s
noncomputable def Z2Z (x0 : Z3) : Option (Bool) := pick fun r => ∀ (z1e : Own) (z10 : Own), RRun (Z4g) (EE 34 [(.p (.agg (ZC x0 z1e z10)))] []) r
theorem Z9Z (x0 : Z3) (z1e : Own) (z10 : Own) : Sim (Z4g) (Z2Z x0) (EE 34 [(.p (.agg (ZC x0 z1e z10)))] []) := fun _ h => pick_to h z1e z10
noncomputable def Z3D (x0 : List Z3) : Option (Bool) := pick fun r => ∀ (ox0 : Own), RRun (Z31) (EE 39 [(.p (.lst ox0 (x0.map ZG))), (.clo 40 [] [])] []) r
theorem Z8B (x0 : List Z3) (ox0 : Own) : Sim (Z31) (Z3D x0) (EE 39 [(.p (.lst ox0 (x0.map ZG))), (.clo 40 [] [])] []) := fun _ h => pick_to h ox0
noncomputable def Z4h (x0 : List Z3) : Option (Int) := pick fun r => ∀ (ox0 : Own), RRun (Z1w) (EE 44 [(.p (.lst ox0 (x0.map ZG))), (.clo 40 [] [])] []) r
theorem Z9l (x0 : List Z3) (ox0 : Own) : Sim (Z1w) (Z4h x0) (EE 44 [(.p (.lst ox0 (x0.map ZG))), (.clo 40 [] [])] []) := fun _ h => pick_to h ox0
noncomputable def Z30 (x0 : List Z3) (x7 : Int) (x8 : Int) : Option (Int) := pick fun r => ∀ (ox0 : Own), RRun (Z1w) (Zc3 0 (.p (.lst ox0 (x0.map ZG))) (.clo 40 [] []) (iv x7) (iv x8) []) r
theorem Z5X (x0 : List Z3) (x7 : Int) (x8 : Int) (ox0 : Own) : Sim (Z1w) (Z30 x0 x7 x8) (Zc3 0 (.p (.lst ox0 (x0.map ZG))) (.clo 40 [] []) (iv x7) (iv x8) []) := fun _ h => pick_to h ox0
noncomputable def Z6I (x0 : Z3) : Option (Bool) := pick fun r => ∀ (z1e : Own) (z10 : Own), RRun (Z5J) (EE 40 [(.p (.agg (ZC x0 z1e z10)))] []) r
theorem ZcG (x0 : Z3) (z1e : Own) (z10 : Own) : Sim (Z5J) (Z6I x0) (EE 40 [(.p (.agg (ZC x0 z1e z10)))] []) := fun _ h => pick_to h z1e z10
end Go.Proofs.YtadodmjdkphddaaDoor.N2
end
