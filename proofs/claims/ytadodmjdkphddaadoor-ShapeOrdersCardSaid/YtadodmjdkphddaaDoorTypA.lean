/- The functions, read typed: their types, and what they stand for. No condition. -/
import Derived.Test.YtadodmjdkphddaaDoorSim
import Derived.Test.YtadodmjdkphddaaDoorEqs

section
set_option linter.unusedSimpArgs false
set_option linter.unusedVariables false
namespace Go.Proofs.YtadodmjdkphddaaDoor.N2
open Go Go.Abs
set_option linter.unusedVariables false
set_option maxRecDepth 100000
structure Zc where
 Lo : Int
 Hi : Int
 deriving Inhabited
def Z57 (a : Zc) : List PV := [(eI .i64) a.Lo, (eI .i64) a.Hi]
def Zz (a : Zc) : PV := .agg (Z57 a)
def ZH (a : Zc) : List PV := [(eI .i64) a.Lo, (eI .i64) a.Hi]
def Z1E (a : Zc) : Row := [.p ((eI .i64) a.Lo), .p ((eI .i64) a.Hi)]
theorem Z9Z {a b : Zc} (h : Z57 a = Z57 b) : a = b := by
 have h0 : a.Lo = b.Lo := eI_inj _ _ (congrArg (fun l => l.getD 0 .junk) h)
 have h1 : a.Hi = b.Hi := eI_inj _ _ (congrArg (fun l => l.getD 1 .junk) h)
 cases a; cases b
 cases h0
 cases h1
 rfl
theorem Z2u (a b : Zc) (h : Zz a = Zz b) : a = b := Z9Z (congrArg pC h)
structure Z7 where
 Kind : Int
 Lo : Int
 Hi : Int
 Mode : Int
 Ref : Int
 Set : (List Zc)
 Kids : (List Z7)
instance : Inhabited Z7 := ⟨⟨default, default, default, default, default, default, default⟩⟩
mutual
def ZG : Z7 → PV
 | ⟨Kind_, Lo_, Hi_, Mode_, Ref_, Set_, Kids_⟩ => .agg [(eI .i64) Kind_, (eI .i64) Lo_, (eI .i64) Hi_, (eI .i64) Mode_, (eI .i64) Ref_, (eL Zz) Set_, .lst .sh (Z3U Kids_)]
def Z3U : List Z7 → List PV
 | [] => []
 | x :: r => ZG x :: Z3U r
end
theorem Zaa : ∀ l, Z3U l = l.map ZG
 | [] => rfl
 | x :: r => by rw [Z3U, Zaa r]; rfl
def Z1V (a : Z7) : List PV := [(eI .i64) a.Kind, (eI .i64) a.Lo, (eI .i64) a.Hi, (eI .i64) a.Mode, (eI .i64) a.Ref, (eL Zz) a.Set, (eL ZG) a.Kids]
theorem Z3c (a : Z7) : ZG a = .agg (Z1V a) := by
 cases a; rw [ZG, Zaa]; rfl
theorem Z3X (a : Z7) : pcells (ZG a) = Z1V a := by rw [Z3c]; rfl
theorem ZbH (a : Z7) : (pcells (ZG a)).length = 7 := by rw [Z3c]; rfl
def ZC (a : Z7) (o0 o1 : Own) : List PV := [(eI .i64) a.Kind, (eI .i64) a.Lo, (eI .i64) a.Hi, (eI .i64) a.Mode, (eI .i64) a.Ref, .lst o0 (a.Set.map Zz), .lst o1 (a.Kids.map ZG)]
def Zq (a : Z7) (o0 o1 : Own) : Row := [.p ((eI .i64) a.Kind), .p ((eI .i64) a.Lo), .p ((eI .i64) a.Hi), .p ((eI .i64) a.Mode), .p ((eI .i64) a.Ref), .p (.lst o0 (a.Set.map Zz)), .p (.lst o1 (a.Kids.map ZG))]
mutual
theorem Za9 : ∀ a b : Z7, ZG a = ZG b → a = b
 | ⟨Kind_, Lo_, Hi_, Mode_, Ref_, Set_, Kids_⟩, ⟨Kind_2, Lo_2, Hi_2, Mode_2, Ref_2, Set_2, Kids_2⟩, h => by
  rw [ZG, ZG] at h
  have h0 : Kind_ = Kind_2 := eI_inj _ _ (congrArg (fun l => (pC l).getD 0 .junk) h)
  have h1 : Lo_ = Lo_2 := eI_inj _ _ (congrArg (fun l => (pC l).getD 1 .junk) h)
  have h2 : Hi_ = Hi_2 := eI_inj _ _ (congrArg (fun l => (pC l).getD 2 .junk) h)
  have h3 : Mode_ = Mode_2 := eI_inj _ _ (congrArg (fun l => (pC l).getD 3 .junk) h)
  have h4 : Ref_ = Ref_2 := eI_inj _ _ (congrArg (fun l => (pC l).getD 4 .junk) h)
  have h5 : Set_ = Set_2 := (eL_inj Z2u) _ _ (congrArg (fun l => (pC l).getD 5 .junk) h)
  have h6 : Kids_ = Kids_2 := Z9Y Kids_ Kids_2 (congrArg (fun l => pL ((pC l).getD 6 .junk)) h)
  subst h0
  subst h1
  subst h2
  subst h3
  subst h4
  subst h5
  subst h6
  rfl
theorem Z9Y : ∀ a b : List Z7, Z3U a = Z3U b → a = b
 | [], [], _ => rfl
 | [], _ :: _, h => by simp [Z3U] at h
 | _ :: _, [], h => by simp [Z3U] at h
 | x :: r, y :: t, h => by
  simp only [Z3U, List.cons.injEq] at h
  rw [Za9 x y h.1, Z9Y r t h.2]
end
theorem Z2J {a b : Z7} (h : Z1V a = Z1V b) : a = b := Za9 a b (by rw [Z3c, Z3c, h])
structure ZF where
 Root : Z7
 Groups : Int
 Fold : Bool
 deriving Inhabited
def Z8C (a : ZF) : List PV := [(eI .i64) a.Root.Kind, (eI .i64) a.Root.Lo, (eI .i64) a.Root.Hi, (eI .i64) a.Root.Mode, (eI .i64) a.Root.Ref, (eL Zz) a.Root.Set, (eL ZG) a.Root.Kids, (eI .i64) a.Groups, eB a.Fold]
def ZaE (a : ZF) : PV := .agg (Z8C a)
def Z1A (a : ZF) (o0 o1 : Own) : List PV := [(eI .i64) a.Root.Kind, (eI .i64) a.Root.Lo, (eI .i64) a.Root.Hi, (eI .i64) a.Root.Mode, (eI .i64) a.Root.Ref, .lst o0 (a.Root.Set.map Zz), .lst o1 (a.Root.Kids.map ZG), (eI .i64) a.Groups, eB a.Fold]
def ZD (a : ZF) (o0 o1 : Own) : Row := [.p ((eI .i64) a.Root.Kind), .p ((eI .i64) a.Root.Lo), .p ((eI .i64) a.Root.Hi), .p ((eI .i64) a.Root.Mode), .p ((eI .i64) a.Root.Ref), .p (.lst o0 (a.Root.Set.map Zz)), .p (.lst o1 (a.Root.Kids.map ZG)), .p ((eI .i64) a.Groups), .p (eB a.Fold)]
theorem Z9i {a b : ZF} (h : Z8C a = Z8C b) : a = b := by
 have h0 : a.Root = b.Root := Z2J (congrArg (fun l => (l.drop 0).take 7) h)
 have h1 : a.Groups = b.Groups := eI_inj _ _ (congrArg (fun l => l.getD 7 .junk) h)
 have h2 : a.Fold = b.Fold := eB_inj _ _ (congrArg (fun l => l.getD 8 .junk) h)
 cases a; cases b
 cases h0
 cases h1
 cases h2
 rfl
theorem ZgK (a b : ZF) (h : ZaE a = ZaE b) : a = b := Z9i (congrArg pC h)
structure Zl where
 Code : Int
 At : Int
 deriving Inhabited
def Z9r (a : Zl) : List PV := [(eI .i64) a.Code, (eI .i64) a.At]
def ZbS (a : Zl) : PV := .agg (Z9r a)
def Z2m (a : Zl) : List PV := [(eI .i64) a.Code, (eI .i64) a.At]
def ZJ (a : Zl) : Row := [.p ((eI .i64) a.Code), .p ((eI .i64) a.At)]
theorem Z7r {a b : Zl} (h : Z9r a = Z9r b) : a = b := by
 have h0 : a.Code = b.Code := eI_inj _ _ (congrArg (fun l => l.getD 0 .junk) h)
 have h1 : a.At = b.At := eI_inj _ _ (congrArg (fun l => l.getD 1 .junk) h)
 cases a; cases b
 cases h0
 cases h1
 rfl
theorem ZiU (a b : Zl) (h : ZbS a = ZbS b) : a = b := Z7r (congrArg pC h)
structure Zv where
 group : Int
 at_ : Int
 deriving Inhabited
def Z6Q (a : Zv) : List PV := [(eI .i64) a.group, (eI .i64) a.at_]
def Z1G (a : Zv) : PV := .agg (Z6Q a)
def Z8G (a : Zv) : List PV := [(eI .i64) a.group, (eI .i64) a.at_]
def Z8D (a : Zv) : Row := [.p ((eI .i64) a.group), .p ((eI .i64) a.at_)]
theorem Zch {a b : Zv} (h : Z6Q a = Z6Q b) : a = b := by
 have h0 : a.group = b.group := eI_inj _ _ (congrArg (fun l => l.getD 0 .junk) h)
 have h1 : a.at_ = b.at_ := eI_inj _ _ (congrArg (fun l => l.getD 1 .junk) h)
 cases a; cases b
 cases h0
 cases h1
 rfl
theorem Z41 (a b : Zv) (h : Z1G a = Z1G b) : a = b := Zch (congrArg pC h)
structure Zm where
 b : (List Int)
 at_ : Int
 groups : Int
 deep : Int
 refs : (List Zv)
 fault : Zl
 deriving Inhabited
def Z98 (a : Zm) : List PV := [(eL (eI .u8)) a.b, (eI .i64) a.at_, (eI .i64) a.groups, (eI .i64) a.deep, (eL Z1G) a.refs, (eI .i64) a.fault.Code, (eI .i64) a.fault.At]
def Zb9 (a : Zm) : PV := .agg (Z98 a)
def ZdX (a : Zm) (o0 o1 : Own) : List PV := [.lst o0 (a.b.map (eI .u8)), (eI .i64) a.at_, (eI .i64) a.groups, (eI .i64) a.deep, .lst o1 (a.refs.map Z1G), (eI .i64) a.fault.Code, (eI .i64) a.fault.At]
def Zk (a : Zm) (o0 o1 : Own) : Row := [.p (.lst o0 (a.b.map (eI .u8))), .p ((eI .i64) a.at_), .p ((eI .i64) a.groups), .p ((eI .i64) a.deep), .p (.lst o1 (a.refs.map Z1G)), .p ((eI .i64) a.fault.Code), .p ((eI .i64) a.fault.At)]
theorem ZcI {a b : Zm} (h : Z98 a = Z98 b) : a = b := by
 have h0 : a.b = b.b := (eL_inj eI_inj) _ _ (congrArg (fun l => l.getD 0 .junk) h)
 have h1 : a.at_ = b.at_ := eI_inj _ _ (congrArg (fun l => l.getD 1 .junk) h)
 have h2 : a.groups = b.groups := eI_inj _ _ (congrArg (fun l => l.getD 2 .junk) h)
 have h3 : a.deep = b.deep := eI_inj _ _ (congrArg (fun l => l.getD 3 .junk) h)
 have h4 : a.refs = b.refs := (eL_inj Z41) _ _ (congrArg (fun l => l.getD 4 .junk) h)
 have h5 : a.fault = b.fault := Z7r (congrArg (fun l => (l.drop 5).take 2) h)
 cases a; cases b
 cases h0
 cases h1
 cases h2
 cases h3
 cases h4
 cases h5
 rfl
theorem Zhm (a b : Zm) (h : Zb9 a = Zb9 b) : a = b := ZcI (congrArg pC h)
end Go.Proofs.YtadodmjdkphddaaDoor.N2
end
section
set_option linter.unusedSimpArgs false
set_option linter.unusedVariables false
namespace Go.Proofs.YtadodmjdkphddaaDoor.N2
open Go Go.Abs
set_option linter.unusedVariables false
set_option maxRecDepth 100000
abbrev Z3q (zn : List Int) (zb : Int) (zh : Int) (zj : List Zv) (z2 : Int) (z6 : Int) (zp : Own) (zd : Own) : (Bool × Int) → Res → Prop := fun r q => ∃ (ex : List Row), q = ((bv r.1), [(Zk (Zm.mk zn r.2 zb zh zj (Zl.mk z2 z6)) zp zd)] ++ ex)
theorem Zc9 (zn : List Int) (zb : Int) (zh : Int) (zj : List Zv) (z2 : Int) (z6 : Int) (zp : Own) (zd : Own) : ∀ a b q, Z3q zn zb zh zj z2 z6 zp zd a q → Z3q zn zb zh zj z2 z6 zp zd b q → a = b := by
 rintro a b q ⟨_, e1⟩ ⟨_, e2⟩
 have e := e1.symm.trans e2
 exact Prod.ext (congrArg (fun q : Res => pB (pA q.1)) e) (congrArg (fun q : Res => pI (pA (cellAt q 0 1))) e)
abbrev Z4D  : (Int × Int) → Res → Prop := fun r q => ∃ (ex : List Row), q = ((.p (.tup [(.v (.int .i32 r.1)), (.v (.int .i64 r.2))])), ex)
theorem Z9N  : ∀ a b q, Z4D  a q → Z4D  b q → a = b := by
 rintro a b q ⟨_, e1⟩ ⟨_, e2⟩
 have e := e1.symm.trans e2
 exact Prod.ext (congrArg (fun q : Res => pI ((pT (pA q.1)).getD 0 .junk)) e) (congrArg (fun q : Res => pI ((pT (pA q.1)).getD 1 .junk)) e)
abbrev Z5h  : (Int × Int) → Res → Prop := fun r q => ∃ (ex : List Row), q = ((.p (.tup [(.v (.int .i64 r.1)), (.v (.int .i64 r.2))])), ex)
theorem ZeR  : ∀ a b q, Z5h  a q → Z5h  b q → a = b := by
 rintro a b q ⟨_, e1⟩ ⟨_, e2⟩
 have e := e1.symm.trans e2
 exact Prod.ext (congrArg (fun q : Res => pI ((pT (pA q.1)).getD 0 .junk)) e) (congrArg (fun q : Res => pI ((pT (pA q.1)).getD 1 .junk)) e)
abbrev Z4b (b0 : Zm) (zp : Own) (zd : Own) : (Int) → Res → Prop := fun r q => ∃ (ex : List Row), q = ((iv r), [(Zk b0 zp zd)] ++ ex)
theorem ZbN (b0 : Zm) (zp : Own) (zd : Own) : ∀ a b q, Z4b b0 zp zd a q → Z4b b0 zp zd b q → a = b := by
 rintro a b q ⟨_, e1⟩ ⟨_, e2⟩
 have e := e1.symm.trans e2
 exact congrArg (fun q : Res => pI (pA q.1)) e
abbrev Z5O  : (Z7) → Res → Prop := fun r q => ∃ (ex : List Row), q = ((.p (.agg (ZC r .sh .sh))), ex)
theorem ZdD  : ∀ a b q, Z5O  a q → Z5O  b q → a = b := by
 rintro a b q ⟨_, e1⟩ ⟨_, e2⟩
 have e := e1.symm.trans e2
 exact Z2J (congrArg (fun q : Res => pC (pA q.1)) e)
abbrev Z51 (zn : List Int) (zb : Int) (zh : Int) (zj : List Zv) (z2 : Int) (z6 : Int) (zp : Own) (zd : Own) : (Int × Int) → Res → Prop := fun r q => ∃ (ex : List Row), q = ((iv r.1), [(Zk (Zm.mk zn r.2 zb zh zj (Zl.mk z2 z6)) zp zd)] ++ ex)
theorem Zcg (zn : List Int) (zb : Int) (zh : Int) (zj : List Zv) (z2 : Int) (z6 : Int) (zp : Own) (zd : Own) : ∀ a b q, Z51 zn zb zh zj z2 z6 zp zd a q → Z51 zn zb zh zj z2 z6 zp zd b q → a = b := by
 rintro a b q ⟨_, e1⟩ ⟨_, e2⟩
 have e := e1.symm.trans e2
 exact Prod.ext (congrArg (fun q : Res => pI (pA q.1)) e) (congrArg (fun q : Res => pI (pA (cellAt q 0 1))) e)
abbrev Z8o  : (Zc) → Res → Prop := fun r q => ∃ (ex : List Row), q = ((.p (.agg (ZH r))), ex)
theorem ZeS  : ∀ a b q, Z8o  a q → Z8o  b q → a = b := by
 rintro a b q ⟨_, e1⟩ ⟨_, e2⟩
 have e := e1.symm.trans e2
 exact Z9Z (congrArg (fun q : Res => pC (pA q.1)) e)
abbrev Z4Z  : (Bool) → Res → Prop := fun r q => ∃ (ex : List Row), q = ((bv r), ex)
theorem ZbY  : ∀ a b q, Z4Z  a q → Z4Z  b q → a = b := by
 rintro a b q ⟨_, e1⟩ ⟨_, e2⟩
 have e := e1.symm.trans e2
 exact congrArg (fun q : Res => pB (pA q.1)) e
abbrev Z6K  : (Bool) → Res → Prop := fun r q => ∃ (ex : List Row), q = ((bv r), ex)
theorem ZdE  : ∀ a b q, Z6K  a q → Z6K  b q → a = b := by
 rintro a b q ⟨_, e1⟩ ⟨_, e2⟩
 have e := e1.symm.trans e2
 exact congrArg (fun q : Res => pB (pA q.1)) e
abbrev Z1q  : (Int) → Res → Prop := fun r q => ∃ (ex : List Row), q = ((iv r), ex)
theorem Z6g  : ∀ a b q, Z1q  a q → Z1q  b q → a = b := by
 rintro a b q ⟨_, e1⟩ ⟨_, e2⟩
 have e := e1.symm.trans e2
 exact congrArg (fun q : Res => pI (pA q.1)) e
abbrev Z2O  : (Bool) → Res → Prop := fun r q => ∃ (ex : List Row), q = ((bv r), ex)
theorem Z8p  : ∀ a b q, Z2O  a q → Z2O  b q → a = b := by
 rintro a b q ⟨_, e1⟩ ⟨_, e2⟩
 have e := e1.symm.trans e2
 exact congrArg (fun q : Res => pB (pA q.1)) e
abbrev Z7J  : ((List Zc)) → Res → Prop := fun r q => ∃ (ex : List Row), q = ((.p (.lst .sh (r.map Zz))), ex)
theorem ZdA  : ∀ a b q, Z7J  a q → Z7J  b q → a = b := by
 rintro a b q ⟨_, e1⟩ ⟨_, e2⟩
 have e := e1.symm.trans e2
 exact lmap_inj Z2u (congrArg (fun q : Res => pL (pA q.1)) e)
abbrev Z6D  : ((List Zc) × Int) → Res → Prop := fun r q => ∃ (ex : List Row), q = ((.p (.tup [(.lst .sh (r.1.map Zz)), (.v (.int .i64 r.2))])), ex)
theorem ZeL  : ∀ a b q, Z6D  a q → Z6D  b q → a = b := by
 rintro a b q ⟨_, e1⟩ ⟨_, e2⟩
 have e := e1.symm.trans e2
 exact Prod.ext (lmap_inj Z2u (congrArg (fun q : Res => pL ((pT (pA q.1)).getD 0 .junk)) e)) (congrArg (fun q : Res => pI ((pT (pA q.1)).getD 1 .junk)) e)
abbrev Z1R  : (Bool) → Res → Prop := fun r q => ∃ (ex : List Row), q = ((bv r), ex)
theorem Z95  : ∀ a b q, Z1R  a q → Z1R  b q → a = b := by
 rintro a b q ⟨_, e1⟩ ⟨_, e2⟩
 have e := e1.symm.trans e2
 exact congrArg (fun q : Res => pB (pA q.1)) e
abbrev Z2k  : ((List Zc)) → Res → Prop := fun r q => ∃ (ex : List Row), q = ((.p (.lst .sh (r.map Zz))), ex)
theorem Zab  : ∀ a b q, Z2k  a q → Z2k  b q → a = b := by
 rintro a b q ⟨_, e1⟩ ⟨_, e2⟩
 have e := e1.symm.trans e2
 exact lmap_inj Z2u (congrArg (fun q : Res => pL (pA q.1)) e)
abbrev Z5p  : ((List Zc) × Int) → Res → Prop := fun r q => ∃ (ex : List Row), q = ((.p (.tup [(.lst .sh (r.1.map Zz)), (.v (.int .i64 r.2))])), ex)
theorem Zdo  : ∀ a b q, Z5p  a q → Z5p  b q → a = b := by
 rintro a b q ⟨_, e1⟩ ⟨_, e2⟩
 have e := e1.symm.trans e2
 exact Prod.ext (lmap_inj Z2u (congrArg (fun q : Res => pL ((pT (pA q.1)).getD 0 .junk)) e)) (congrArg (fun q : Res => pI ((pT (pA q.1)).getD 1 .junk)) e)
abbrev Z72  : (Z7) → Res → Prop := fun r q => ∃ (ex : List Row), q = ((.p (.agg (ZC r .sh .sh))), ex)
theorem ZeO  : ∀ a b q, Z72  a q → Z72  b q → a = b := by
 rintro a b q ⟨_, e1⟩ ⟨_, e2⟩
 have e := e1.symm.trans e2
 exact Z2J (congrArg (fun q : Res => pC (pA q.1)) e)
abbrev Z4d (zn : List Int) (zb : Int) (zh : Int) (zj : List Zv) (zp : Own) (zd : Own) : (Int × Int × Int) → Res → Prop := fun r q => ∃ (ex : List Row), q = ((.p (.tup [])), [(Zk (Zm.mk zn r.1 zb zh zj (Zl.mk r.2.1 r.2.2)) zp zd)] ++ ex)
theorem Zc1 (zn : List Int) (zb : Int) (zh : Int) (zj : List Zv) (zp : Own) (zd : Own) : ∀ a b q, Z4d zn zb zh zj zp zd a q → Z4d zn zb zh zj zp zd b q → a = b := by
 rintro a b q ⟨_, e1⟩ ⟨_, e2⟩
 have e := e1.symm.trans e2
 exact Prod.ext (congrArg (fun q : Res => pI (pA (cellAt q 0 1))) e) (Prod.ext (congrArg (fun q : Res => pI (pA (cellAt q 0 5))) e) (congrArg (fun q : Res => pI (pA (cellAt q 0 6))) e))
abbrev Z4T  : ((Own × (List Zc))) → Res → Prop := fun r q => ∃ (ex : List Row), q = ((.p (.lst r.1 (r.2.map Zz))), ex)
theorem ZcG  : ∀ a b q, Z4T  a q → Z4T  b q → a = b := by
 rintro a b q ⟨_, e1⟩ ⟨_, e2⟩
 have e := e1.symm.trans e2
 exact Prod.ext (congrArg (fun q : Res => pOwn (pA q.1)) e) (lmap_inj Z2u (congrArg (fun q : Res => pL (pA q.1)) e))
abbrev Z5i  : (Int) → Res → Prop := fun r q => ∃ (ex : List Row), q = ((iv r), ex)
theorem ZeP  : ∀ a b q, Z5i  a q → Z5i  b q → a = b := by
 rintro a b q ⟨_, e1⟩ ⟨_, e2⟩
 have e := e1.symm.trans e2
 exact congrArg (fun q : Res => pI (pA q.1)) e
abbrev Z5A (z12 : Int) : (Bool) → Res → Prop := fun r q => ∃ (ex : List Row), q = ((bv r), [[(iv z12)]] ++ ex)
theorem ZcC (z12 : Int) : ∀ a b q, Z5A z12 a q → Z5A z12 b q → a = b := by
 rintro a b q ⟨_, e1⟩ ⟨_, e2⟩
 have e := e1.symm.trans e2
 exact congrArg (fun q : Res => pB (pA q.1)) e
abbrev Z1s (z12 : Int) : (Int) → Res → Prop := fun r q => ∃ (ex : List Row), q = ((iv r), [[(iv z12)]] ++ ex)
theorem Z6f (z12 : Int) : ∀ a b q, Z1s z12 a q → Z1s z12 b q → a = b := by
 rintro a b q ⟨_, e1⟩ ⟨_, e2⟩
 have e := e1.symm.trans e2
 exact congrArg (fun q : Res => pI (pA q.1)) e
abbrev Z2P (z12 : Int) : (Bool) → Res → Prop := fun r q => ∃ (ex : List Row), q = ((bv r), [[(iv z12)]] ++ ex)
theorem Z8h (z12 : Int) : ∀ a b q, Z2P z12 a q → Z2P z12 b q → a = b := by
 rintro a b q ⟨_, e1⟩ ⟨_, e2⟩
 have e := e1.symm.trans e2
 exact congrArg (fun q : Res => pB (pA q.1)) e
abbrev Z6e  : (Bool) → Res → Prop := fun r q => ∃ (ex : List Row), q = ((bv r), ex)
theorem Zdl  : ∀ a b q, Z6e  a q → Z6e  b q → a = b := by
 rintro a b q ⟨_, e1⟩ ⟨_, e2⟩
 have e := e1.symm.trans e2
 exact congrArg (fun q : Res => pB (pA q.1)) e
abbrev Z3e (zn : List Int) (zb : Int) (zh : Int) (zj : List Zv) (zp : Own) (zd : Own) : (Int × Int × Int × Int) → Res → Prop := fun r q => ∃ (ex : List Row), q = ((iv r.1), [(Zk (Zm.mk zn r.2.1 zb zh zj (Zl.mk r.2.2.1 r.2.2.2)) zp zd)] ++ ex)
theorem Zbk (zn : List Int) (zb : Int) (zh : Int) (zj : List Zv) (zp : Own) (zd : Own) : ∀ a b q, Z3e zn zb zh zj zp zd a q → Z3e zn zb zh zj zp zd b q → a = b := by
 rintro a b q ⟨_, e1⟩ ⟨_, e2⟩
 have e := e1.symm.trans e2
 exact Prod.ext (congrArg (fun q : Res => pI (pA q.1)) e) (Prod.ext (congrArg (fun q : Res => pI (pA (cellAt q 0 1))) e) (Prod.ext (congrArg (fun q : Res => pI (pA (cellAt q 0 5))) e) (congrArg (fun q : Res => pI (pA (cellAt q 0 6))) e)))
abbrev Z2F (zn : List Int) (zb : Int) (zh : Int) (zp : Own) : (Z7 × Int × (List Zv) × Int × Int) → Res → Prop := fun r q => ∃ (p0_4 : Own) (ex : List Row), okApp p0_4 = true ∧ q = ((.p (.agg (ZC r.1 .sh .sh))), [(Zk (Zm.mk zn r.2.1 zb zh r.2.2.1 (Zl.mk r.2.2.2.1 r.2.2.2.2)) zp p0_4)] ++ ex)
theorem Zb7 (zn : List Int) (zb : Int) (zh : Int) (zp : Own) : ∀ a b q, Z2F zn zb zh zp a q → Z2F zn zb zh zp b q → a = b := by
 rintro a b q ⟨_, _, _, e1⟩ ⟨_, _, _, e2⟩
 have e := e1.symm.trans e2
 exact Prod.ext (Z2J (congrArg (fun q : Res => pC (pA q.1)) e)) (Prod.ext (congrArg (fun q : Res => pI (pA (cellAt q 0 1))) e) (Prod.ext (lmap_inj Z41 (congrArg (fun q : Res => pL (pA (cellAt q 0 4))) e)) (Prod.ext (congrArg (fun q : Res => pI (pA (cellAt q 0 5))) e) (congrArg (fun q : Res => pI (pA (cellAt q 0 6))) e))))
abbrev Z2G (zn : List Int) (zb : Int) (zh : Int) (zj : List Zv) (zp : Own) (zd : Own) : (Int × (Own × (List Zc)) × Bool × Int × Int × Int) → Res → Prop := fun r q => ∃ (ex : List Row), q = ((.p (.tup [(.v (.int .i64 r.1)), (.lst r.2.1.1 (r.2.1.2.map Zz)), (.v (.bool r.2.2.1))])), [(Zk (Zm.mk zn r.2.2.2.1 zb zh zj (Zl.mk r.2.2.2.2.1 r.2.2.2.2.2)) zp zd)] ++ ex)
theorem Zb2 (zn : List Int) (zb : Int) (zh : Int) (zj : List Zv) (zp : Own) (zd : Own) : ∀ a b q, Z2G zn zb zh zj zp zd a q → Z2G zn zb zh zj zp zd b q → a = b := by
 rintro a b q ⟨_, e1⟩ ⟨_, e2⟩
 have e := e1.symm.trans e2
 exact Prod.ext (congrArg (fun q : Res => pI ((pT (pA q.1)).getD 0 .junk)) e) (Prod.ext (Prod.ext (congrArg (fun q : Res => pOwn ((pT (pA q.1)).getD 1 .junk)) e) (lmap_inj Z2u (congrArg (fun q : Res => pL ((pT (pA q.1)).getD 1 .junk)) e))) (Prod.ext (congrArg (fun q : Res => pB ((pT (pA q.1)).getD 2 .junk)) e) (Prod.ext (congrArg (fun q : Res => pI (pA (cellAt q 0 1))) e) (Prod.ext (congrArg (fun q : Res => pI (pA (cellAt q 0 5))) e) (congrArg (fun q : Res => pI (pA (cellAt q 0 6))) e)))))
abbrev Z5y  : ((List Zc)) → Res → Prop := fun r q => ∃ (ex : List Row), q = ((.p (.lst .sh (r.map Zz))), ex)
theorem ZaY  : ∀ a b q, Z5y  a q → Z5y  b q → a = b := by
 rintro a b q ⟨_, e1⟩ ⟨_, e2⟩
 have e := e1.symm.trans e2
 exact lmap_inj Z2u (congrArg (fun q : Res => pL (pA q.1)) e)
abbrev Z53  : ((List Zc) × Int) → Res → Prop := fun r q => ∃ (ex : List Row), q = ((.p (.tup [(.lst .sh (r.1.map Zz)), (.v (.int .i64 r.2))])), ex)
theorem ZdB  : ∀ a b q, Z53  a q → Z53  b q → a = b := by
 rintro a b q ⟨_, e1⟩ ⟨_, e2⟩
 have e := e1.symm.trans e2
 exact Prod.ext (lmap_inj Z2u (congrArg (fun q : Res => pL ((pT (pA q.1)).getD 0 .junk)) e)) (congrArg (fun q : Res => pI ((pT (pA q.1)).getD 1 .junk)) e)
abbrev Z4i  : ((List Zc)) → Res → Prop := fun r q => ∃ (p0_0 : Own) (ex : List Row), q = ((.p (.tup [])), [[(.p (.lst p0_0 (r.map Zz)))]] ++ ex)
theorem ZaH  : ∀ a b q, Z4i  a q → Z4i  b q → a = b := by
 rintro a b q ⟨_, _, e1⟩ ⟨_, _, e2⟩
 have e := e1.symm.trans e2
 exact lmap_inj Z2u (congrArg (fun q : Res => pL (pA (cellAt q 0 0))) e)
abbrev Z1c (zn : List Int) (zb : Int) (zh : Int) (zj : List Zv) (zp : Own) (zd : Own) : (Z7 × Int × Int × Int) → Res → Prop := fun r q => ∃ (ex : List Row), q = ((.p (.agg (ZC r.1 .sh .sh))), [(Zk (Zm.mk zn r.2.1 zb zh zj (Zl.mk r.2.2.1 r.2.2.2)) zp zd)] ++ ex)
theorem Z8n (zn : List Int) (zb : Int) (zh : Int) (zj : List Zv) (zp : Own) (zd : Own) : ∀ a b q, Z1c zn zb zh zj zp zd a q → Z1c zn zb zh zj zp zd b q → a = b := by
 rintro a b q ⟨_, e1⟩ ⟨_, e2⟩
 have e := e1.symm.trans e2
 exact Prod.ext (Z2J (congrArg (fun q : Res => pC (pA q.1)) e)) (Prod.ext (congrArg (fun q : Res => pI (pA (cellAt q 0 1))) e) (Prod.ext (congrArg (fun q : Res => pI (pA (cellAt q 0 5))) e) (congrArg (fun q : Res => pI (pA (cellAt q 0 6))) e)))
abbrev Z6W  : ((List ByteArray)) → Res → Prop := fun r q => ∃ (ex : List Row), q = ((.p (.lst .sh (r.map eS))), ex)
theorem ZdY  : ∀ a b q, Z6W  a q → Z6W  b q → a = b := by
 rintro a b q ⟨_, e1⟩ ⟨_, e2⟩
 have e := e1.symm.trans e2
 exact lmap_inj eS_inj (congrArg (fun q : Res => pL (pA q.1)) e)
abbrev Z1n (zn : List Int) (zb : Int) (zh : Int) (zj : List Zv) (z2 : Int) (z6 : Int) (zp : Own) (zd : Own) : (Int × Int) → Res → Prop := fun r q => ∃ (ex : List Row), q = ((iv r.1), [(Zk (Zm.mk zn r.2 zb zh zj (Zl.mk z2 z6)) zp zd)] ++ ex)
theorem Z65 (zn : List Int) (zb : Int) (zh : Int) (zj : List Zv) (z2 : Int) (z6 : Int) (zp : Own) (zd : Own) : ∀ a b q, Z1n zn zb zh zj z2 z6 zp zd a q → Z1n zn zb zh zj z2 z6 zp zd b q → a = b := by
 rintro a b q ⟨_, e1⟩ ⟨_, e2⟩
 have e := e1.symm.trans e2
 exact Prod.ext (congrArg (fun q : Res => pI (pA q.1)) e) (congrArg (fun q : Res => pI (pA (cellAt q 0 1))) e)
abbrev Z2d (zn : List Int) (zp : Own) : (Z7 × Bool × Int × Int × Int × (List Zv) × Int × Int) → Res → Prop := fun r q => ∃ (p0_4 : Own) (ex : List Row), okApp p0_4 = true ∧ q = ((.p (.tup [(.agg (ZC r.1 .sh .sh)), (.v (.bool r.2.1))])), [(Zk (Zm.mk zn r.2.2.1 r.2.2.2.1 r.2.2.2.2.1 r.2.2.2.2.2.1 (Zl.mk r.2.2.2.2.2.2.1 r.2.2.2.2.2.2.2)) zp p0_4)] ++ ex)
theorem Zbl (zn : List Int) (zp : Own) : ∀ a b q, Z2d zn zp a q → Z2d zn zp b q → a = b := by
 rintro a b q ⟨_, _, _, e1⟩ ⟨_, _, _, e2⟩
 have e := e1.symm.trans e2
 exact Prod.ext (Z2J (congrArg (fun q : Res => pC ((pT (pA q.1)).getD 0 .junk)) e)) (Prod.ext (congrArg (fun q : Res => pB ((pT (pA q.1)).getD 1 .junk)) e) (Prod.ext (congrArg (fun q : Res => pI (pA (cellAt q 0 1))) e) (Prod.ext (congrArg (fun q : Res => pI (pA (cellAt q 0 2))) e) (Prod.ext (congrArg (fun q : Res => pI (pA (cellAt q 0 3))) e) (Prod.ext (lmap_inj Z41 (congrArg (fun q : Res => pL (pA (cellAt q 0 4))) e)) (Prod.ext (congrArg (fun q : Res => pI (pA (cellAt q 0 5))) e) (congrArg (fun q : Res => pI (pA (cellAt q 0 6))) e)))))))
abbrev Z4e (zn : List Int) (zp : Own) : (Z7 × Bool × Int × Int × Int × (List Zv) × Int × Int) → Res → Prop := fun r q => ∃ (p0_4 : Own) (ex : List Row), okApp p0_4 = true ∧ q = ((.p (.tup [(.agg (ZC r.1 .sh .sh)), (.v (.bool r.2.1))])), [(Zk (Zm.mk zn r.2.2.1 r.2.2.2.1 r.2.2.2.2.1 r.2.2.2.2.2.1 (Zl.mk r.2.2.2.2.2.2.1 r.2.2.2.2.2.2.2)) zp p0_4)] ++ ex)
theorem ZbD (zn : List Int) (zp : Own) : ∀ a b q, Z4e zn zp a q → Z4e zn zp b q → a = b := by
 rintro a b q ⟨_, _, _, e1⟩ ⟨_, _, _, e2⟩
 have e := e1.symm.trans e2
 exact Prod.ext (Z2J (congrArg (fun q : Res => pC ((pT (pA q.1)).getD 0 .junk)) e)) (Prod.ext (congrArg (fun q : Res => pB ((pT (pA q.1)).getD 1 .junk)) e) (Prod.ext (congrArg (fun q : Res => pI (pA (cellAt q 0 1))) e) (Prod.ext (congrArg (fun q : Res => pI (pA (cellAt q 0 2))) e) (Prod.ext (congrArg (fun q : Res => pI (pA (cellAt q 0 3))) e) (Prod.ext (lmap_inj Z41 (congrArg (fun q : Res => pL (pA (cellAt q 0 4))) e)) (Prod.ext (congrArg (fun q : Res => pI (pA (cellAt q 0 5))) e) (congrArg (fun q : Res => pI (pA (cellAt q 0 6))) e)))))))
abbrev Z25 (zn : List Int) (zb : Int) (zh : Int) (zj : List Zv) (z2 : Int) (z6 : Int) (zp : Own) (zd : Own) : (Int × Int) → Res → Prop := fun r q => ∃ (ex : List Row), q = ((iv r.1), [(Zk (Zm.mk zn r.2 zb zh zj (Zl.mk z2 z6)) zp zd)] ++ ex)
theorem Z81 (zn : List Int) (zb : Int) (zh : Int) (zj : List Zv) (z2 : Int) (z6 : Int) (zp : Own) (zd : Own) : ∀ a b q, Z25 zn zb zh zj z2 z6 zp zd a q → Z25 zn zb zh zj z2 z6 zp zd b q → a = b := by
 rintro a b q ⟨_, e1⟩ ⟨_, e2⟩
 have e := e1.symm.trans e2
 exact Prod.ext (congrArg (fun q : Res => pI (pA q.1)) e) (congrArg (fun q : Res => pI (pA (cellAt q 0 1))) e)
abbrev Z1Q (zn : List Int) (zb : Int) (zh : Int) (zj : List Zv) (zp : Own) (zd : Own) : (Int × Int × Int × Int × Int) → Res → Prop := fun r q => ∃ (ex : List Row), q = ((.p (.tup [(.v (.int .i64 r.1)), (.v (.int .i64 r.2.1))])), [(Zk (Zm.mk zn r.2.2.1 zb zh zj (Zl.mk r.2.2.2.1 r.2.2.2.2)) zp zd)] ++ ex)
theorem Zb8 (zn : List Int) (zb : Int) (zh : Int) (zj : List Zv) (zp : Own) (zd : Own) : ∀ a b q, Z1Q zn zb zh zj zp zd a q → Z1Q zn zb zh zj zp zd b q → a = b := by
 rintro a b q ⟨_, e1⟩ ⟨_, e2⟩
 have e := e1.symm.trans e2
 exact Prod.ext (congrArg (fun q : Res => pI ((pT (pA q.1)).getD 0 .junk)) e) (Prod.ext (congrArg (fun q : Res => pI ((pT (pA q.1)).getD 1 .junk)) e) (Prod.ext (congrArg (fun q : Res => pI (pA (cellAt q 0 1))) e) (Prod.ext (congrArg (fun q : Res => pI (pA (cellAt q 0 5))) e) (congrArg (fun q : Res => pI (pA (cellAt q 0 6))) e))))
abbrev Z2E (zn : List Int) (zb : Int) (zh : Int) (zj : List Zv) (zp : Own) (zd : Own) : (Z7 × Int × Int × Int) → Res → Prop := fun r q => ∃ (ex : List Row), q = ((.p (.agg (ZC r.1 .sh .sh))), [(Zk (Zm.mk zn r.2.1 zb zh zj (Zl.mk r.2.2.1 r.2.2.2)) zp zd)] ++ ex)
theorem Zb3 (zn : List Int) (zb : Int) (zh : Int) (zj : List Zv) (zp : Own) (zd : Own) : ∀ a b q, Z2E zn zb zh zj zp zd a q → Z2E zn zb zh zj zp zd b q → a = b := by
 rintro a b q ⟨_, e1⟩ ⟨_, e2⟩
 have e := e1.symm.trans e2
 exact Prod.ext (Z2J (congrArg (fun q : Res => pC (pA q.1)) e)) (Prod.ext (congrArg (fun q : Res => pI (pA (cellAt q 0 1))) e) (Prod.ext (congrArg (fun q : Res => pI (pA (cellAt q 0 5))) e) (congrArg (fun q : Res => pI (pA (cellAt q 0 6))) e)))
abbrev Z2h (zn : List Int) (zp : Own) : (Z7 × Int × Int × Int × (List Zv) × Int × Int) → Res → Prop := fun r q => ∃ (p0_4 : Own) (ex : List Row), okApp p0_4 = true ∧ q = ((.p (.agg (ZC r.1 .sh .sh))), [(Zk (Zm.mk zn r.2.1 r.2.2.1 r.2.2.2.1 r.2.2.2.2.1 (Zl.mk r.2.2.2.2.2.1 r.2.2.2.2.2.2)) zp p0_4)] ++ ex)
theorem Z94 (zn : List Int) (zp : Own) : ∀ a b q, Z2h zn zp a q → Z2h zn zp b q → a = b := by
 rintro a b q ⟨_, _, _, e1⟩ ⟨_, _, _, e2⟩
 have e := e1.symm.trans e2
 exact Prod.ext (Z2J (congrArg (fun q : Res => pC (pA q.1)) e)) (Prod.ext (congrArg (fun q : Res => pI (pA (cellAt q 0 1))) e) (Prod.ext (congrArg (fun q : Res => pI (pA (cellAt q 0 2))) e) (Prod.ext (congrArg (fun q : Res => pI (pA (cellAt q 0 3))) e) (Prod.ext (lmap_inj Z41 (congrArg (fun q : Res => pL (pA (cellAt q 0 4))) e)) (Prod.ext (congrArg (fun q : Res => pI (pA (cellAt q 0 5))) e) (congrArg (fun q : Res => pI (pA (cellAt q 0 6))) e))))))
abbrev Z2w (zn : List Int) (zp : Own) : (Z7 × Int × Int × Int × (List Zv) × Int × Int) → Res → Prop := fun r q => ∃ (p0_4 : Own) (ex : List Row), okApp p0_4 = true ∧ q = ((.p (.agg (ZC r.1 .sh .sh))), [(Zk (Zm.mk zn r.2.1 r.2.2.1 r.2.2.2.1 r.2.2.2.2.1 (Zl.mk r.2.2.2.2.2.1 r.2.2.2.2.2.2)) zp p0_4)] ++ ex)
theorem Z9g (zn : List Int) (zp : Own) : ∀ a b q, Z2w zn zp a q → Z2w zn zp b q → a = b := by
 rintro a b q ⟨_, _, _, e1⟩ ⟨_, _, _, e2⟩
 have e := e1.symm.trans e2
 exact Prod.ext (Z2J (congrArg (fun q : Res => pC (pA q.1)) e)) (Prod.ext (congrArg (fun q : Res => pI (pA (cellAt q 0 1))) e) (Prod.ext (congrArg (fun q : Res => pI (pA (cellAt q 0 2))) e) (Prod.ext (congrArg (fun q : Res => pI (pA (cellAt q 0 3))) e) (Prod.ext (lmap_inj Z41 (congrArg (fun q : Res => pL (pA (cellAt q 0 4))) e)) (Prod.ext (congrArg (fun q : Res => pI (pA (cellAt q 0 5))) e) (congrArg (fun q : Res => pI (pA (cellAt q 0 6))) e))))))
abbrev Z2o  : (ZF × Zl) → Res → Prop := fun r q => ∃ (ex : List Row), q = ((.p (.tup [(.agg (Z1A r.1 .sh .sh)), (.agg (Z2m r.2))])), ex)
theorem Zbd  : ∀ a b q, Z2o  a q → Z2o  b q → a = b := by
 rintro a b q ⟨_, e1⟩ ⟨_, e2⟩
 have e := e1.symm.trans e2
 exact Prod.ext (Z9i (congrArg (fun q : Res => pC ((pT (pA q.1)).getD 0 .junk)) e)) (Z7r (congrArg (fun q : Res => pC ((pT (pA q.1)).getD 1 .junk)) e))
abbrev Z6H  : (Int) → Res → Prop := fun r q => ∃ (ex : List Row), q = ((iv r), ex)
theorem Zem  : ∀ a b q, Z6H  a q → Z6H  b q → a = b := by
 rintro a b q ⟨_, e1⟩ ⟨_, e2⟩
 have e := e1.symm.trans e2
 exact congrArg (fun q : Res => pI (pA q.1)) e
abbrev Z4j  : (Int) → Res → Prop := fun r q => ∃ (ex : List Row), q = ((iv r), ex)
theorem Ze2  : ∀ a b q, Z4j  a q → Z4j  b q → a = b := by
 rintro a b q ⟨_, e1⟩ ⟨_, e2⟩
 have e := e1.symm.trans e2
 exact congrArg (fun q : Res => pI (pA q.1)) e
abbrev Z6m  : (Int) → Res → Prop := fun r q => ∃ (ex : List Row), q = ((iv r), ex)
theorem ZeQ  : ∀ a b q, Z6m  a q → Z6m  b q → a = b := by
 rintro a b q ⟨_, e1⟩ ⟨_, e2⟩
 have e := e1.symm.trans e2
 exact congrArg (fun q : Res => pI (pA q.1)) e
abbrev Z24  : (Int × Int) → Res → Prop := fun r q => ∃ (ex : List Row), q = ((.p (.tup [(.v (.int .i64 r.1)), (.v (.int .i64 r.2))])), ex)
theorem Z9c  : ∀ a b q, Z24  a q → Z24  b q → a = b := by
 rintro a b q ⟨_, e1⟩ ⟨_, e2⟩
 have e := e1.symm.trans e2
 exact Prod.ext (congrArg (fun q : Res => pI ((pT (pA q.1)).getD 0 .junk)) e) (congrArg (fun q : Res => pI ((pT (pA q.1)).getD 1 .junk)) e)
abbrev Z3g  : (Int) → Res → Prop := fun r q => ∃ (ex : List Row), q = ((iv r), ex)
theorem ZbV  : ∀ a b q, Z3g  a q → Z3g  b q → a = b := by
 rintro a b q ⟨_, e1⟩ ⟨_, e2⟩
 have e := e1.symm.trans e2
 exact congrArg (fun q : Res => pI (pA q.1)) e
abbrev Z5E  : (Bool) → Res → Prop := fun r q => ∃ (ex : List Row), q = ((bv r), ex)
theorem ZcF  : ∀ a b q, Z5E  a q → Z5E  b q → a = b := by
 rintro a b q ⟨_, e1⟩ ⟨_, e2⟩
 have e := e1.symm.trans e2
 exact congrArg (fun q : Res => pB (pA q.1)) e
abbrev Z1u  : (Int) → Res → Prop := fun r q => ∃ (ex : List Row), q = ((iv r), ex)
theorem Z6p  : ∀ a b q, Z1u  a q → Z1u  b q → a = b := by
 rintro a b q ⟨_, e1⟩ ⟨_, e2⟩
 have e := e1.symm.trans e2
 exact congrArg (fun q : Res => pI (pA q.1)) e
abbrev Z2X  : (Bool) → Res → Prop := fun r q => ∃ (ex : List Row), q = ((bv r), ex)
theorem Z8E  : ∀ a b q, Z2X  a q → Z2X  b q → a = b := by
 rintro a b q ⟨_, e1⟩ ⟨_, e2⟩
 have e := e1.symm.trans e2
 exact congrArg (fun q : Res => pB (pA q.1)) e
abbrev Z4a  : (Bool) → Res → Prop := fun r q => ∃ (ex : List Row), q = ((bv r), ex)
theorem Zdi  : ∀ a b q, Z4a  a q → Z4a  b q → a = b := by
 rintro a b q ⟨_, e1⟩ ⟨_, e2⟩
 have e := e1.symm.trans e2
 exact congrArg (fun q : Res => pB (pA q.1)) e
abbrev Z67  : (Int) → Res → Prop := fun r q => ∃ (ex : List Row), q = ((iv r), ex)
theorem ZdI  : ∀ a b q, Z67  a q → Z67  b q → a = b := by
 rintro a b q ⟨_, e1⟩ ⟨_, e2⟩
 have e := e1.symm.trans e2
 exact congrArg (fun q : Res => pI (pA q.1)) e
abbrev Z4g  : (Bool) → Res → Prop := fun r q => ∃ (ex : List Row), q = ((bv r), ex)
theorem ZaJ  : ∀ a b q, Z4g  a q → Z4g  b q → a = b := by
 rintro a b q ⟨_, e1⟩ ⟨_, e2⟩
 have e := e1.symm.trans e2
 exact congrArg (fun q : Res => pB (pA q.1)) e
abbrev Z1W  : (Bool) → Res → Prop := fun r q => ∃ (ex : List Row), q = ((bv r), ex)
theorem Z9l  : ∀ a b q, Z1W  a q → Z1W  b q → a = b := by
 rintro a b q ⟨_, e1⟩ ⟨_, e2⟩
 have e := e1.symm.trans e2
 exact congrArg (fun q : Res => pB (pA q.1)) e
noncomputable def Z5j (x0 : ByteArray) : Option (Bool) := pick fun r => RRun (Z1W) (EE 9 [(.p (.v (.string x0)))] []) r
theorem Z97 (x0 : ByteArray) : Sim (Z1W) (Z5j x0) (EE 9 [(.p (.v (.string x0)))] []) := fun _ h => pick_to h
noncomputable def Z5e  : Option (Bool) := pick fun r => RRun (Z4g) (EE 23 [] []) r
theorem Zag  : Sim (Z4g) (Z5e) (EE 23 [] []) := fun _ h => pick_to h
noncomputable def Z69 (x0 : ByteArray) : Option (ZF × Zl) := pick fun r => RRun (Z2o) (EE 16 [(.p (.v (.string x0)))] []) r
theorem Z8J (x0 : ByteArray) : Sim (Z2o) (Z69 x0) (EE 16 [(.p (.v (.string x0)))] []) := fun _ h => pick_to h
noncomputable def Z19 (x1 : ByteArray) (zn : List Int) (zu : Int) : Option (Bool × Int) := pick fun r => ∀ (zb : Int) (zh : Int) (zj : List Zv) (z2 : Int) (z6 : Int) (zp : Own) (zd : Own) (zy : okApp zd = true), RRun (Z3q zn zb zh zj z2 z6 zp zd) (EE 27 [(.ptr 0 0), (.p (.v (.string x1)))] [(Zk (Zm.mk zn zu zb zh zj (Zl.mk z2 z6)) zp zd)]) r
theorem Z1e (x1 : ByteArray) (zn : List Int) (zu : Int) (zb : Int) (zh : Int) (zj : List Zv) (z2 : Int) (z6 : Int) (zp : Own) (zd : Own) (zy : okApp zd = true) : Sim (Z3q zn zb zh zj z2 z6 zp zd) (Z19 x1 zn zu) (EE 27 [(.ptr 0 0), (.p (.v (.string x1)))] [(Zk (Zm.mk zn zu zb zh zj (Zl.mk z2 z6)) zp zd)]) := fun _ h => pick_to h zb zh zj z2 z6 zp zd zy
noncomputable def Z2Y (zn : List Int) (zu : Int) (zb : Int) (zh : Int) (zj : List Zv) (z2 : Int) (z6 : Int) : Option (Z7 × Int × Int × Int × (List Zv) × Int × Int) := pick fun r => ∀ (zp : Own) (zd : Own) (zy : okApp zd = true), RRun (Z2w zn zp) (EE 28 [(.ptr 0 0)] [(Zk (Zm.mk zn zu zb zh zj (Zl.mk z2 z6)) zp zd)]) r
theorem Z8P (zn : List Int) (zu : Int) (zb : Int) (zh : Int) (zj : List Zv) (z2 : Int) (z6 : Int) (zp : Own) (zd : Own) (zy : okApp zd = true) : Sim (Z2w zn zp) (Z2Y zn zu zb zh zj z2 z6) (EE 28 [(.ptr 0 0)] [(Zk (Zm.mk zn zu zb zh zj (Zl.mk z2 z6)) zp zd)]) := fun _ h => pick_to h zp zd zy
noncomputable def Z4z (zn : List Int) (zu : Int) (zb : Int) (zh : Int) (zj : List Zv) (z2 : Int) (z6 : Int) : Option (Z7 × Int × Int × Int × (List Zv) × Int × Int) := pick fun r => ∀ (zp : Own) (zd : Own) (zy : okApp zd = true), RRun (Z2h zn zp) (EE 35 [(.ptr 0 0)] [(Zk (Zm.mk zn zu zb zh zj (Zl.mk z2 z6)) zp zd)]) r
theorem Z8R (zn : List Int) (zu : Int) (zb : Int) (zh : Int) (zj : List Zv) (z2 : Int) (z6 : Int) (zp : Own) (zd : Own) (zy : okApp zd = true) : Sim (Z2h zn zp) (Z4z zn zu zb zh zj z2 z6) (EE 35 [(.ptr 0 0)] [(Zk (Zm.mk zn zu zb zh zj (Zl.mk z2 z6)) zp zd)]) := fun _ h => pick_to h zp zd zy
noncomputable def Z3G (x3 : List Z7) (zn : List Int) (zu : Int) (zb : Int) (zh : Int) (zj : List Zv) (z2 : Int) (z6 : Int) : Option (Z7 × Int × Int × Int × (List Zv) × Int × Int) := pick fun r => ∀ (b1 : Z7) (ox3 : Own) (zp : Own) (zd : Own) (zE : Own) (zB : Own) (hox3 : okApp ox3 = true) (zy : okApp zd = true) (zS : okApp zE = true) (zL : okApp zB = true), RRun (Z2h zn zp) (ZbT 1 (.ptr 0 0) (.ptr 1 0) (.p (.lst ox3 (x3.map ZG))) [(Zk (Zm.mk zn zu zb zh zj (Zl.mk z2 z6)) zp zd), (Zq b1 zE zB)]) r
theorem Z7u (x3 : List Z7) (zn : List Int) (zu : Int) (zb : Int) (zh : Int) (zj : List Zv) (z2 : Int) (z6 : Int) (b1 : Z7) (ox3 : Own) (zp : Own) (zd : Own) (zE : Own) (zB : Own) (hox3 : okApp ox3 = true) (zy : okApp zd = true) (zS : okApp zE = true) (zL : okApp zB = true) : Sim (Z2h zn zp) (Z3G x3 zn zu zb zh zj z2 z6) (ZbT 1 (.ptr 0 0) (.ptr 1 0) (.p (.lst ox3 (x3.map ZG))) [(Zk (Zm.mk zn zu zb zh zj (Zl.mk z2 z6)) zp zd), (Zq b1 zE zB)]) := fun _ h => pick_to h b1 ox3 zp zd zE zB hox3 zy zS zL
noncomputable def Z1J (b0 : Zm) : Option (Int) := pick fun r => ∀ (zp : Own) (zd : Own) (zy : okApp zd = true), RRun (Z4b b0 zp zd) (EE 41 [(.ptr 0 0)] [(Zk b0 zp zd)]) r
theorem Z1M (b0 : Zm) (zp : Own) (zd : Own) (zy : okApp zd = true) : Sim (Z4b b0 zp zd) (Z1J b0) (EE 41 [(.ptr 0 0)] [(Zk b0 zp zd)]) := fun _ h => pick_to h zp zd zy
noncomputable def Z8r (x0 : List Int) (x1 : Int) : Option (Int × Int) := pick fun r => ∀ (ox0 : Own), RRun (Z5h) (EE 45 [(.p (.lst ox0 (x0.map (eI .u8)))), (iv x1)] []) r
theorem ZbF (x0 : List Int) (x1 : Int) (ox0 : Own) : Sim (Z5h) (Z8r x0 x1) (EE 45 [(.p (.lst ox0 (x0.map (eI .u8)))), (iv x1)] []) := fun _ h => pick_to h ox0
noncomputable def Z5J (x0 : List Int) : Option (Int × Int) := pick fun r => ∀ (ox0 : Own), RRun (Z4D) (EE 53 [(.p (.lst ox0 (x0.map (eI .u8))))] []) r
theorem Z9q (x0 : List Int) (ox0 : Own) : Sim (Z4D) (Z5J x0) (EE 53 [(.p (.lst ox0 (x0.map (eI .u8))))] []) := fun _ h => pick_to h ox0
noncomputable def Z6C (x0 : Int) (x1 : List Z7) : Option (Z7) := pick fun r => ∀ (ox1 : Own), RRun (Z5O) (EE 36 [(iv x0), (.p (.lst ox1 (x1.map ZG)))] []) r
theorem Za8 (x0 : Int) (x1 : List Z7) (ox1 : Own) : Sim (Z5O) (Z6C x0 x1) (EE 36 [(iv x0), (.p (.lst ox1 (x1.map ZG)))] []) := fun _ h => pick_to h ox1
noncomputable def Z60 (zn : List Int) (zu : Int) (zb : Int) (zh : Int) (zj : List Zv) (z2 : Int) (z6 : Int) : Option (Z7 × Bool × Int × Int × Int × (List Zv) × Int × Int) := pick fun r => ∀ (zp : Own) (zd : Own) (zy : okApp zd = true), RRun (Z4e zn zp) (EE 42 [(.ptr 0 0)] [(Zk (Zm.mk zn zu zb zh zj (Zl.mk z2 z6)) zp zd)]) r
theorem Zbt (zn : List Int) (zu : Int) (zb : Int) (zh : Int) (zj : List Zv) (z2 : Int) (z6 : Int) (zp : Own) (zd : Own) (zy : okApp zd = true) : Sim (Z4e zn zp) (Z60 zn zu zb zh zj z2 z6) (EE 42 [(.ptr 0 0)] [(Zk (Zm.mk zn zu zb zh zj (Zl.mk z2 z6)) zp zd)]) := fun _ h => pick_to h zp zd zy
noncomputable def Z27 (zn : List Int) (zu : Int) : Option (Int × Int) := pick fun r => ∀ (zb : Int) (zh : Int) (zj : List Zv) (z2 : Int) (z6 : Int) (zp : Own) (zd : Own) (zy : okApp zd = true), RRun (Z51 zn zb zh zj z2 z6 zp zd) (EE 46 [(.ptr 0 0)] [(Zk (Zm.mk zn zu zb zh zj (Zl.mk z2 z6)) zp zd)]) r
theorem Z2t (zn : List Int) (zu : Int) (zb : Int) (zh : Int) (zj : List Zv) (z2 : Int) (z6 : Int) (zp : Own) (zd : Own) (zy : okApp zd = true) : Sim (Z51 zn zb zh zj z2 z6 zp zd) (Z27 zn zu) (EE 46 [(.ptr 0 0)] [(Zk (Zm.mk zn zu zb zh zj (Zl.mk z2 z6)) zp zd)]) := fun _ h => pick_to h zb zh zj z2 z6 zp zd zy
noncomputable def Z1C (x0 : Int) : Option (Zc) := pick fun r => RRun (Z8o) (EE 48 [(iv x0)] []) r
theorem Z1w (x0 : Int) : Sim (Z8o) (Z1C x0) (EE 48 [(iv x0)] []) := fun _ h => pick_to h
noncomputable def Z2I (x0 : Bool) (x1 : List Zc) : Option (Z7) := pick fun r => ∀ (ox1 : Own), RRun (Z72) (EE 47 [(bv x0), (.p (.lst ox1 (x1.map Zz)))] []) r
theorem Z2S (x0 : Bool) (x1 : List Zc) (ox1 : Own) : Sim (Z72) (Z2I x0 x1) (EE 47 [(bv x0), (.p (.lst ox1 (x1.map Zz)))] []) := fun _ h => pick_to h ox1
noncomputable def Z96 (x0 : List Zc) : Option ((List Zc) × Int) := pick fun r => ∀ (ox0 : Own), RRun (Z6D) (EE 54 [(.p (.lst ox0 (x0.map Zz)))] []) r
theorem Zec (x0 : List Zc) (ox0 : Own) : Sim (Z6D) (Z96 x0) (EE 54 [(.p (.lst ox0 (x0.map Zz)))] []) := fun _ h => pick_to h ox0
noncomputable def Z3k (x0 : List Zc) : Option (Bool) := pick fun r => ∀ (ox0 : Own), RRun (Z2O) (EE 65 [(.p (.lst ox0 (x0.map Zz))), (.clo 66 [] [])] []) r
theorem Z82 (x0 : List Zc) (ox0 : Own) : Sim (Z2O) (Z3k x0) (EE 65 [(.p (.lst ox0 (x0.map Zz))), (.clo 66 [] [])] []) := fun _ h => pick_to h ox0
noncomputable def Z3T (x0 : List Zc) : Option (Int) := pick fun r => ∀ (ox0 : Own), RRun (Z1q) (EE 73 [(.p (.lst ox0 (x0.map Zz))), (.clo 66 [] [])] []) r
theorem Z8Y (x0 : List Zc) (ox0 : Own) : Sim (Z1q) (Z3T x0) (EE 73 [(.p (.lst ox0 (x0.map Zz))), (.clo 66 [] [])] []) := fun _ h => pick_to h ox0
noncomputable def Z2M (x0 : List Zc) (x7 : Int) (x8 : Int) : Option (Int) := pick fun r => ∀ (ox0 : Own), RRun (Z1q) (Zce 0 (.p (.lst ox0 (x0.map Zz))) (.clo 66 [] []) (iv x7) (iv x8) []) r
theorem Z5C (x0 : List Zc) (x7 : Int) (x8 : Int) (ox0 : Own) : Sim (Z1q) (Z2M x0 x7 x8) (Zce 0 (.p (.lst ox0 (x0.map Zz))) (.clo 66 [] []) (iv x7) (iv x8) []) := fun _ h => pick_to h ox0
noncomputable def Z7V (x0 : Zc) : Option (Bool) := pick fun r => RRun (Z6K) (EE 66 [(.p (.agg (ZH x0)))] []) r
theorem Zdr (x0 : Zc) : Sim (Z6K) (Z7V x0) (EE 66 [(.p (.agg (ZH x0)))] []) := fun _ h => pick_to h
noncomputable def Z4Y (x0 : Zc) : Option (Bool) := pick fun r => RRun (Z4Z) (EE 67 [(.p (.agg (ZH x0)))] []) r
theorem Z8j (x0 : Zc) : Sim (Z4Z) (Z4Y x0) (EE 67 [(.p (.agg (ZH x0)))] []) := fun _ h => pick_to h
noncomputable def Z7G (x0 : List Zc) : Option ((List Zc)) := pick fun r => ∀ (ox0 : Own), RRun (Z7J) (EE 68 [(.p (.lst ox0 (x0.map Zz)))] []) r
theorem Za7 (x0 : List Zc) (ox0 : Own) : Sim (Z7J) (Z7G x0) (EE 68 [(.p (.lst ox0 (x0.map Zz)))] []) := fun _ h => pick_to h ox0
noncomputable def Z6h (x0 : List Zc) : Option ((List Zc) × Int) := pick fun r => ∀ (ox0 : Own), RRun (Z5p) (EE 55 [(.p (.lst ox0 (x0.map Zz)))] []) r
theorem Z9X (x0 : List Zc) (ox0 : Own) : Sim (Z5p) (Z6h x0) (EE 55 [(.p (.lst ox0 (x0.map Zz)))] []) := fun _ h => pick_to h ox0
noncomputable def Z4w (x0 : List Zc) : Option (Bool) := pick fun r => ∀ (ox0 : Own), RRun (Z1R) (EE 69 [(.p (.lst ox0 (x0.map Zz)))] []) r
theorem Z6z (x0 : List Zc) (ox0 : Own) : Sim (Z1R) (Z4w x0) (EE 69 [(.p (.lst ox0 (x0.map Zz)))] []) := fun _ h => pick_to h ox0
noncomputable def Z4o (x3 : Int) (x6 : List Zc) (x7 : Int) (x8 : Int) : Option (Bool) := pick fun r => ∀ (ox6 : Own), RRun (Z1R) (ZbC 0 (iv x3) (.p (.lst ox6 (x6.map Zz))) (iv x7) (iv x8) []) r
theorem Z7o (x3 : Int) (x6 : List Zc) (x7 : Int) (x8 : Int) (ox6 : Own) : Sim (Z1R) (Z4o x3 x6 x7 x8) (ZbC 0 (iv x3) (.p (.lst ox6 (x6.map Zz))) (iv x7) (iv x8) []) := fun _ h => pick_to h ox6
noncomputable def Z78 (x0 : List Zc) : Option ((List Zc)) := pick fun r => ∀ (ox0 : Own), RRun (Z2k) (EE 70 [(.p (.lst ox0 (x0.map Zz)))] []) r
theorem ZcV (x0 : List Zc) (ox0 : Own) : Sim (Z2k) (Z78 x0) (EE 70 [(.p (.lst ox0 (x0.map Zz)))] []) := fun _ h => pick_to h ox0
noncomputable def Z5n (x3 : List Zc) (x4 : Int) (x7 : List Zc) (x8 : Int) (x9 : Int) : Option ((List Zc)) := pick fun r => ∀ (ox3 : Own) (ox7 : Own) (hox3 : okApp ox3 = true), RRun (Z2k) (Zcc 0 (.p (.lst ox3 (x3.map Zz))) (iv x4) (.p (.lst ox7 (x7.map Zz))) (iv x8) (iv x9) []) r
theorem Z8T (x3 : List Zc) (x4 : Int) (x7 : List Zc) (x8 : Int) (x9 : Int) (ox3 : Own) (ox7 : Own) (hox3 : okApp ox3 = true) : Sim (Z2k) (Z5n x3 x4 x7 x8 x9) (Zcc 0 (.p (.lst ox3 (x3.map Zz))) (iv x4) (.p (.lst ox7 (x7.map Zz))) (iv x8) (iv x9) []) := fun _ h => pick_to h ox3 ox7 hox3
noncomputable def Z33 (x1 : Int) (zn : List Int) (zu : Int) (zb : Int) (zh : Int) (zj : List Zv) (z2 : Int) (z6 : Int) : Option (Z7 × Int × (List Zv) × Int × Int) := pick fun r => ∀ (zp : Own) (zd : Own) (zy : okApp zd = true), RRun (Z2F zn zb zh zp) (EE 49 [(.ptr 0 0), (iv x1)] [(Zk (Zm.mk zn zu zb zh zj (Zl.mk z2 z6)) zp zd)]) r
theorem ZaQ (x1 : Int) (zn : List Int) (zu : Int) (zb : Int) (zh : Int) (zj : List Zv) (z2 : Int) (z6 : Int) (zp : Own) (zd : Own) (zy : okApp zd = true) : Sim (Z2F zn zb zh zp) (Z33 x1 zn zu zb zh zj z2 z6) (EE 49 [(.ptr 0 0), (iv x1)] [(Zk (Zm.mk zn zu zb zh zj (Zl.mk z2 z6)) zp zd)]) := fun _ h => pick_to h zp zd zy
noncomputable def ZV (x1 : Int) (x2 : Int) (zn : List Int) (z2 : Int) (z6 : Int) : Option (Int × Int × Int) := pick fun r => ∀ (zu : Int) (zb : Int) (zh : Int) (zj : List Zv) (zp : Own) (zd : Own) (zy : okApp zd = true), RRun (Z4d zn zb zh zj zp zd) (EE 29 [(.ptr 0 0), (iv x1), (iv x2)] [(Zk (Zm.mk zn zu zb zh zj (Zl.mk z2 z6)) zp zd)]) r
theorem ZY (x1 : Int) (x2 : Int) (zn : List Int) (zu : Int) (zb : Int) (zh : Int) (zj : List Zv) (z2 : Int) (z6 : Int) (zp : Own) (zd : Own) (zy : okApp zd = true) : Sim (Z4d zn zb zh zj zp zd) (ZV x1 x2 zn z2 z6) (EE 29 [(.ptr 0 0), (iv x1), (iv x2)] [(Zk (Zm.mk zn zu zb zh zj (Zl.mk z2 z6)) zp zd)]) := fun _ h => pick_to h zu zb zh zj zp zd zy
noncomputable def Z4W (x0 : Int) : Option ((Own × (List Zc))) := pick fun r => RRun (Z4T) (EE 56 [(iv x0)] []) r
theorem Z6U (x0 : Int) : Sim (Z4T) (Z4W x0) (EE 56 [(iv x0)] []) := fun _ h => pick_to h
noncomputable def Z4O (x1 : Int) (x2 : Int) (zn : List Int) (zu : Int) (zb : Int) (zh : Int) (zj : List Zv) (z2 : Int) (z6 : Int) : Option (Int × Int × Int × Int) := pick fun r => ∀ (zp : Own) (zd : Own) (zy : okApp zd = true), RRun (Z3e zn zb zh zj zp zd) (EE 57 [(.ptr 0 0), (iv x1), (iv x2)] [(Zk (Zm.mk zn zu zb zh zj (Zl.mk z2 z6)) zp zd)]) r
theorem Z80 (x1 : Int) (x2 : Int) (zn : List Int) (zu : Int) (zb : Int) (zh : Int) (zj : List Zv) (z2 : Int) (z6 : Int) (zp : Own) (zd : Own) (zy : okApp zd = true) : Sim (Z3e zn zb zh zj zp zd) (Z4O x1 x2 zn zu zb zh zj z2 z6) (EE 57 [(.ptr 0 0), (iv x1), (iv x2)] [(Zk (Zm.mk zn zu zb zh zj (Zl.mk z2 z6)) zp zd)]) := fun _ h => pick_to h zp zd zy
noncomputable def Z8q (x0 : Int) : Option (Int) := pick fun r => RRun (Z5i) (EE 71 [(iv x0)] []) r
theorem Zc3 (x0 : Int) : Sim (Z5i) (Z8q x0) (EE 71 [(iv x0)] []) := fun _ h => pick_to h
noncomputable def Z6j (x0 : List Zc) (x1 : Int) : Option (Bool) := pick fun r => ∀ (ox0 : Own), RRun (Z6e) (EE 19 [(.p (.lst ox0 (x0.map Zz))), (iv x1)] []) r
theorem ZcQ (x0 : List Zc) (x1 : Int) (ox0 : Own) : Sim (Z6e) (Z6j x0 x1) (EE 19 [(.p (.lst ox0 (x0.map Zz))), (iv x1)] []) := fun _ h => pick_to h ox0
noncomputable def Z3h (x0 : List Zc) (z12 : Int) : Option (Bool) := pick fun r => ∀ (ox0 : Own), RRun (Z2P z12) (EE 30 [(.p (.lst ox0 (x0.map Zz))), (.clo 31 [] [(.ptr 0 0)])] [[(iv z12)]]) r
theorem Z8d (x0 : List Zc) (z12 : Int) (ox0 : Own) : Sim (Z2P z12) (Z3h x0 z12) (EE 30 [(.p (.lst ox0 (x0.map Zz))), (.clo 31 [] [(.ptr 0 0)])] [[(iv z12)]]) := fun _ h => pick_to h ox0
noncomputable def Z3W (x0 : List Zc) (z12 : Int) : Option (Int) := pick fun r => ∀ (ox0 : Own), RRun (Z1s z12) (EE 37 [(.p (.lst ox0 (x0.map Zz))), (.clo 31 [] [(.ptr 0 0)])] [[(iv z12)]]) r
theorem Z90 (x0 : List Zc) (z12 : Int) (ox0 : Own) : Sim (Z1s z12) (Z3W x0 z12) (EE 37 [(.p (.lst ox0 (x0.map Zz))), (.clo 31 [] [(.ptr 0 0)])] [[(iv z12)]]) := fun _ h => pick_to h ox0
noncomputable def Z2L (x0 : List Zc) (x7 : Int) (x8 : Int) (z12 : Int) : Option (Int) := pick fun r => ∀ (ox0 : Own), RRun (Z1s z12) (Zc6 1 (.p (.lst ox0 (x0.map Zz))) (.clo 31 [] [(.ptr 0 0)]) (iv x7) (iv x8) [[(iv z12)]]) r
theorem Z5G (x0 : List Zc) (x7 : Int) (x8 : Int) (z12 : Int) (ox0 : Own) : Sim (Z1s z12) (Z2L x0 x7 x8 z12) (Zc6 1 (.p (.lst ox0 (x0.map Zz))) (.clo 31 [] [(.ptr 0 0)]) (iv x7) (iv x8) [[(iv z12)]]) := fun _ h => pick_to h ox0
noncomputable def Z6w (x0 : Zc) (z12 : Int) : Option (Bool) := pick fun r => RRun (Z5A z12) (EE 31 [(.p (.agg (ZH x0))), (.ptr 0 0)] [[(iv z12)]]) r
theorem Zcr (x0 : Zc) (z12 : Int) : Sim (Z5A z12) (Z6w x0 z12) (EE 31 [(.p (.agg (ZH x0))), (.ptr 0 0)] [[(iv z12)]]) := fun _ h => pick_to h
noncomputable def Z5K (x1 : Int) (zn : List Int) (zu : Int) (zb : Int) (zh : Int) (zj : List Zv) (z2 : Int) (z6 : Int) : Option (Z7 × Int × Int × Int) := pick fun r => ∀ (zp : Own) (zd : Own) (zy : okApp zd = true), RRun (Z1c zn zb zh zj zp zd) (EE 50 [(.ptr 0 0), (iv x1)] [(Zk (Zm.mk zn zu zb zh zj (Zl.mk z2 z6)) zp zd)]) r
theorem Zb1 (x1 : Int) (zn : List Int) (zu : Int) (zb : Int) (zh : Int) (zj : List Zv) (z2 : Int) (z6 : Int) (zp : Own) (zd : Own) (zy : okApp zd = true) : Sim (Z1c zn zb zh zj zp zd) (Z5K x1 zn zu zb zh zj z2 z6) (EE 50 [(.ptr 0 0), (iv x1)] [(Zk (Zm.mk zn zu zb zh zj (Zl.mk z2 z6)) zp zd)]) := fun _ h => pick_to h zp zd zy
noncomputable def Z2Q (x1 : Int) (x5 : Bool) (x8 : Int) (zn : List Int) (zu : Int) (zb : Int) (zh : Int) (zj : List Zv) (z2 : Int) (z6 : Int) (z13 : List Zc) : Option (Z7 × Int × Int × Int) := pick fun r => ∀ (b1 : Z7) (zp : Own) (zd : Own) (zE : Own) (zB : Own) (z1i : Own) (zy : okApp zd = true) (zS : okApp zE = true) (zL : okApp zB = true), RRun (Z1c zn zb zh zj zp zd) (ZbL 1 (.ptr 0 0) (iv x1) (.ptr 1 0) (bv x5) (.ptr 2 0) (.clo 58 [] [(.ptr 2 0)]) (iv x8) [(Zk (Zm.mk zn zu zb zh zj (Zl.mk z2 z6)) zp zd), (Zq b1 zE zB), [(.p (.lst z1i (z13.map Zz)))]]) r
theorem Z6X (x1 : Int) (x5 : Bool) (x8 : Int) (zn : List Int) (zu : Int) (zb : Int) (zh : Int) (zj : List Zv) (z2 : Int) (z6 : Int) (b1 : Z7) (z13 : List Zc) (zp : Own) (zd : Own) (zE : Own) (zB : Own) (z1i : Own) (zy : okApp zd = true) (zS : okApp zE = true) (zL : okApp zB = true) : Sim (Z1c zn zb zh zj zp zd) (Z2Q x1 x5 x8 zn zu zb zh zj z2 z6 z13) (ZbL 1 (.ptr 0 0) (iv x1) (.ptr 1 0) (bv x5) (.ptr 2 0) (.clo 58 [] [(.ptr 2 0)]) (iv x8) [(Zk (Zm.mk zn zu zb zh zj (Zl.mk z2 z6)) zp zd), (Zq b1 zE zB), [(.p (.lst z1i (z13.map Zz)))]]) := fun _ h => pick_to h b1 zp zd zE zB z1i zy zS zL
noncomputable def Z3C (zn : List Int) (zu : Int) (zb : Int) (zh : Int) (zj : List Zv) (z2 : Int) (z6 : Int) : Option (Int × (Own × (List Zc)) × Bool × Int × Int × Int) := pick fun r => ∀ (zp : Own) (zd : Own) (zy : okApp zd = true), RRun (Z2G zn zb zh zj zp zd) (EE 60 [(.ptr 0 0)] [(Zk (Zm.mk zn zu zb zh zj (Zl.mk z2 z6)) zp zd)]) r
theorem Z7y (zn : List Int) (zu : Int) (zb : Int) (zh : Int) (zj : List Zv) (z2 : Int) (z6 : Int) (zp : Own) (zd : Own) (zy : okApp zd = true) : Sim (Z2G zn zb zh zj zp zd) (Z3C zn zu zb zh zj z2 z6) (EE 60 [(.ptr 0 0)] [(Zk (Zm.mk zn zu zb zh zj (Zl.mk z2 z6)) zp zd)]) := fun _ h => pick_to h zp zd zy
noncomputable def Z4f (x0 : List Zc) (z12 : List Zc) : Option ((List Zc)) := pick fun r => ∀ (ox0 : Own) (z9H : Own), RRun (Z4i) (EE 58 [(.p (.lst ox0 (x0.map Zz))), (.ptr 0 0)] [[(.p (.lst z9H (z12.map Zz)))]]) r
theorem Z7e (x0 : List Zc) (z12 : List Zc) (ox0 : Own) (z9H : Own) : Sim (Z4i) (Z4f x0 z12) (EE 58 [(.p (.lst ox0 (x0.map Zz))), (.ptr 0 0)] [[(.p (.lst z9H (z12.map Zz)))]]) := fun _ h => pick_to h ox0 z9H
noncomputable def Z7S (x0 : List Zc) (x1 : List Zc) : Option ((List Zc) × Int) := pick fun r => ∀ (ox0 : Own) (ox1 : Own), RRun (Z53) (EE 59 [(.p (.lst ox0 (x0.map Zz))), (.p (.lst ox1 (x1.map Zz)))] []) r
theorem Zdp (x0 : List Zc) (x1 : List Zc) (ox0 : Own) (ox1 : Own) : Sim (Z53) (Z7S x0 x1) (EE 59 [(.p (.lst ox0 (x0.map Zz))), (.p (.lst ox1 (x1.map Zz)))] []) := fun _ h => pick_to h ox0 ox1
noncomputable def Z6M (x0 : List (List Zc)) : Option ((List Zc)) := pick fun r => ∀ (ox0 : Own), RRun (Z5y) (EE 72 [(.p (.lst ox0 (x0.map (eL Zz))))] []) r
theorem ZaL (x0 : List (List Zc)) (ox0 : Own) : Sim (Z5y) (Z6M x0) (EE 72 [(.p (.lst ox0 (x0.map (eL Zz))))] []) := fun _ h => pick_to h ox0
noncomputable def Z3d (x1 : Int) (zn : List Int) (zu : Int) (zb : Int) (zh : Int) (zj : List Zv) (z2 : Int) (z6 : Int) : Option (Z7 × Bool × Int × Int × Int × (List Zv) × Int × Int) := pick fun r => ∀ (zp : Own) (zd : Own) (zy : okApp zd = true), RRun (Z2d zn zp) (EE 51 [(.ptr 0 0), (iv x1)] [(Zk (Zm.mk zn zu zb zh zj (Zl.mk z2 z6)) zp zd)]) r
theorem ZaW (x1 : Int) (zn : List Int) (zu : Int) (zb : Int) (zh : Int) (zj : List Zv) (z2 : Int) (z6 : Int) (zp : Own) (zd : Own) (zy : okApp zd = true) : Sim (Z2d zn zp) (Z3d x1 zn zu zb zh zj z2 z6) (EE 51 [(.ptr 0 0), (iv x1)] [(Zk (Zm.mk zn zu zb zh zj (Zl.mk z2 z6)) zp zd)]) := fun _ h => pick_to h zp zd zy
noncomputable def Z8w  : Option ((List ByteArray)) := pick fun r => RRun (Z6W) (EE 62 [] []) r
theorem Zdw  : Sim (Z6W) (Z8w) (EE 62 [] []) := fun _ h => pick_to h
noncomputable def Z3I (x0 : List ByteArray) (zn : List Int) (zu : Int) : Option (Int × Int) := pick fun r => ∀ (zb : Int) (zh : Int) (zj : List Zv) (z2 : Int) (z6 : Int) (ox0 : Own) (zp : Own) (zd : Own) (zy : okApp zd = true), RRun (Z1n zn zb zh zj z2 z6 zp zd) (EE 61 [(.p (.lst ox0 (x0.map eS))), (.clo 27 [(.ptr 0 0)] [])] [(Zk (Zm.mk zn zu zb zh zj (Zl.mk z2 z6)) zp zd)]) r
theorem Z8I (x0 : List ByteArray) (zn : List Int) (zu : Int) (zb : Int) (zh : Int) (zj : List Zv) (z2 : Int) (z6 : Int) (ox0 : Own) (zp : Own) (zd : Own) (zy : okApp zd = true) : Sim (Z1n zn zb zh zj z2 z6 zp zd) (Z3I x0 zn zu) (EE 61 [(.p (.lst ox0 (x0.map eS))), (.clo 27 [(.ptr 0 0)] [])] [(Zk (Zm.mk zn zu zb zh zj (Zl.mk z2 z6)) zp zd)]) := fun _ h => pick_to h zb zh zj z2 z6 ox0 zp zd zy
noncomputable def Z1x (x0 : List ByteArray) (x7 : Int) (x8 : Int) (zn : List Int) (zu : Int) : Option (Int × Int) := pick fun r => ∀ (zb : Int) (zh : Int) (zj : List Zv) (z2 : Int) (z6 : Int) (ox0 : Own) (zp : Own) (zd : Own) (zy : okApp zd = true), RRun (Z1n zn zb zh zj z2 z6 zp zd) (ZbW 1 (.p (.lst ox0 (x0.map eS))) (.clo 27 [(.ptr 0 0)] []) (iv x7) (iv x8) [(Zk (Zm.mk zn zu zb zh zj (Zl.mk z2 z6)) zp zd)]) r
theorem Z5w (x0 : List ByteArray) (x7 : Int) (x8 : Int) (zn : List Int) (zu : Int) (zb : Int) (zh : Int) (zj : List Zv) (z2 : Int) (z6 : Int) (ox0 : Own) (zp : Own) (zd : Own) (zy : okApp zd = true) : Sim (Z1n zn zb zh zj z2 z6 zp zd) (Z1x x0 x7 x8 zn zu) (ZbW 1 (.p (.lst ox0 (x0.map eS))) (.clo 27 [(.ptr 0 0)] []) (iv x7) (iv x8) [(Zk (Zm.mk zn zu zb zh zj (Zl.mk z2 z6)) zp zd)]) := fun _ h => pick_to h zb zh zj z2 z6 ox0 zp zd zy
noncomputable def Z4s (x1 : Z7) (x2 : Bool) (zn : List Int) (zu : Int) (zb : Int) (zh : Int) (zj : List Zv) (z2 : Int) (z6 : Int) : Option (Z7 × Int × Int × Int) := pick fun r => ∀ (z2c : Own) (z1O : Own) (zp : Own) (zd : Own) (zy : okApp zd = true), RRun (Z2E zn zb zh zj zp zd) (EE 43 [(.ptr 0 0), (.p (.agg (ZC x1 z2c z1O))), (bv x2)] [(Zk (Zm.mk zn zu zb zh zj (Zl.mk z2 z6)) zp zd)]) r
theorem ZaO (x1 : Z7) (x2 : Bool) (zn : List Int) (zu : Int) (zb : Int) (zh : Int) (zj : List Zv) (z2 : Int) (z6 : Int) (z2c : Own) (z1O : Own) (zp : Own) (zd : Own) (zy : okApp zd = true) : Sim (Z2E zn zb zh zj zp zd) (Z4s x1 x2 zn zu zb zh zj z2 z6) (EE 43 [(.ptr 0 0), (.p (.agg (ZC x1 z2c z1O))), (bv x2)] [(Zk (Zm.mk zn zu zb zh zj (Zl.mk z2 z6)) zp zd)]) := fun _ h => pick_to h z2c z1O zp zd zy
noncomputable def Z4x (x1 : Int) (zn : List Int) (zu : Int) (zb : Int) (zh : Int) (zj : List Zv) (z2 : Int) (z6 : Int) : Option (Int × Int × Int × Int × Int) := pick fun r => ∀ (zp : Own) (zd : Own) (zy : okApp zd = true), RRun (Z1Q zn zb zh zj zp zd) (EE 52 [(.ptr 0 0), (iv x1)] [(Zk (Zm.mk zn zu zb zh zj (Zl.mk z2 z6)) zp zd)]) r
theorem ZaK (x1 : Int) (zn : List Int) (zu : Int) (zb : Int) (zh : Int) (zj : List Zv) (z2 : Int) (z6 : Int) (zp : Own) (zd : Own) (zy : okApp zd = true) : Sim (Z1Q zn zb zh zj zp zd) (Z4x x1 zn zu zb zh zj z2 z6) (EE 52 [(.ptr 0 0), (iv x1)] [(Zk (Zm.mk zn zu zb zh zj (Zl.mk z2 z6)) zp zd)]) := fun _ h => pick_to h zp zd zy
noncomputable def Z3E (zn : List Int) (zu : Int) (zb : Int) (zh : Int) (zj : List Zv) (z2 : Int) (z6 : Int) : Option (Int × Int) := pick fun r => ∀ (zp : Own) (zd : Own) (zy : okApp zd = true), RRun (Z25 zn zb zh zj z2 z6 zp zd) (EE 63 [(.ptr 0 0)] [(Zk (Zm.mk zn zu zb zh zj (Zl.mk z2 z6)) zp zd)]) r
theorem Z7s (zn : List Int) (zu : Int) (zb : Int) (zh : Int) (zj : List Zv) (z2 : Int) (z6 : Int) (zp : Own) (zd : Own) (zy : okApp zd = true) : Sim (Z25 zn zb zh zj z2 z6 zp zd) (Z3E zn zu zb zh zj z2 z6) (EE 63 [(.ptr 0 0)] [(Zk (Zm.mk zn zu zb zh zj (Zl.mk z2 z6)) zp zd)]) := fun _ h => pick_to h zp zd zy
noncomputable def Z2B (x3 : Int) (x4 : Int) (zn : List Int) (zu : Int) (zb : Int) (zh : Int) (zj : List Zv) (z2 : Int) (z6 : Int) : Option (Int × Int) := pick fun r => ∀ (zp : Own) (zd : Own) (zy : okApp zd = true), RRun (Z25 zn zb zh zj z2 z6 zp zd) (ZbU 1 (.ptr 0 0) (iv x3) (iv x4) [(Zk (Zm.mk zn zu zb zh zj (Zl.mk z2 z6)) zp zd)]) r
theorem Z6N (x3 : Int) (x4 : Int) (zn : List Int) (zu : Int) (zb : Int) (zh : Int) (zj : List Zv) (z2 : Int) (z6 : Int) (zp : Own) (zd : Own) (zy : okApp zd = true) : Sim (Z25 zn zb zh zj z2 z6 zp zd) (Z2B x3 x4 zn zu zb zh zj z2 z6) (ZbU 1 (.ptr 0 0) (iv x3) (iv x4) [(Zk (Zm.mk zn zu zb zh zj (Zl.mk z2 z6)) zp zd)]) := fun _ h => pick_to h zp zd zy
noncomputable def Z3B (x3 : List Z7) (zn : List Int) (zu : Int) (zb : Int) (zh : Int) (zj : List Zv) (z2 : Int) (z6 : Int) : Option (Z7 × Int × Int × Int × (List Zv) × Int × Int) := pick fun r => ∀ (b1 : Z7) (ox3 : Own) (zp : Own) (zd : Own) (zE : Own) (zB : Own) (hox3 : okApp ox3 = true) (zy : okApp zd = true) (zS : okApp zE = true) (zL : okApp zB = true), RRun (Z2w zn zp) (ZbA 1 (.ptr 0 0) (.ptr 1 0) (.p (.lst ox3 (x3.map ZG))) [(Zk (Zm.mk zn zu zb zh zj (Zl.mk z2 z6)) zp zd), (Zq b1 zE zB)]) r
theorem Z7w (x3 : List Z7) (zn : List Int) (zu : Int) (zb : Int) (zh : Int) (zj : List Zv) (z2 : Int) (z6 : Int) (b1 : Z7) (ox3 : Own) (zp : Own) (zd : Own) (zE : Own) (zB : Own) (hox3 : okApp ox3 = true) (zy : okApp zd = true) (zS : okApp zE = true) (zL : okApp zB = true) : Sim (Z2w zn zp) (Z3B x3 zn zu zb zh zj z2 z6) (ZbA 1 (.ptr 0 0) (.ptr 1 0) (.p (.lst ox3 (x3.map ZG))) [(Zk (Zm.mk zn zu zb zh zj (Zl.mk z2 z6)) zp zd), (Zq b1 zE zB)]) := fun _ h => pick_to h b1 ox3 zp zd zE zB hox3 zy zS zL
noncomputable def Z54 (x50 : List Zv) (x51 : Int) (x52 : Int) (z1U : List Int) (zT : Int) (zK : Int) (zU : Int) (zN : Int) (zW : Int) (zX : Int) (zO : Int) (zQ : Int) (zR : List Zc) (zP : List Z7) (z16 : Bool) : Option (ZF × Zl) := pick fun r => ∀ (b0 : ZF) (b1 : Zl) (z1N : Int) (z1D : Int) (z1k : List Zv) (z1v : Int) (ox50 : Own) (zM : Own) (zI : Own) (z2j : Own) (z1b : Own) (z14 : Own) (z10 : Own) (z1y : okApp zM = true) (z1r : okApp zI = true) (z2v : okApp z1b = true), RRun (Z2o) (ZbG 0 (.ptr 0 0) (.ptr 1 0) (.ptr 2 0) (.ptr 3 0) (.p (.lst ox50 (x50.map Z1G))) (iv x51) (iv x52) [(ZD b0 zM zI), (ZJ b1), (Zk (Zm.mk z1U z1N zT z1D z1k (Zl.mk zK zU)) z2j z1b), (ZD (ZF.mk (Z7.mk zN zW zX zO zQ zR zP) z1v z16) z14 z10)]) r
theorem Z9m (x50 : List Zv) (x51 : Int) (x52 : Int) (b0 : ZF) (b1 : Zl) (z1U : List Int) (z1N : Int) (zT : Int) (z1D : Int) (z1k : List Zv) (zK : Int) (zU : Int) (zN : Int) (zW : Int) (zX : Int) (zO : Int) (zQ : Int) (zR : List Zc) (zP : List Z7) (z1v : Int) (z16 : Bool) (ox50 : Own) (zM : Own) (zI : Own) (z2j : Own) (z1b : Own) (z14 : Own) (z10 : Own) (z1y : okApp zM = true) (z1r : okApp zI = true) (z2v : okApp z1b = true) : Sim (Z2o) (Z54 x50 x51 x52 z1U zT zK zU zN zW zX zO zQ zR zP z16) (ZbG 0 (.ptr 0 0) (.ptr 1 0) (.ptr 2 0) (.ptr 3 0) (.p (.lst ox50 (x50.map Z1G))) (iv x51) (iv x52) [(ZD b0 zM zI), (ZJ b1), (Zk (Zm.mk z1U z1N zT z1D z1k (Zl.mk zK zU)) z2j z1b), (ZD (ZF.mk (Z7.mk zN zW zX zO zQ zR zP) z1v z16) z14 z10)]) := fun _ h => pick_to h b0 b1 z1N z1D z1k z1v ox50 zM zI z2j z1b z14 z10 z1y z1r z2v
noncomputable def Z1t (x0 : Z7) : Option (Int × Int) := pick fun r => ∀ (z1g : Own) (z11 : Own), RRun (Z24) (EE 24 [(.p (.agg (ZC x0 z1g z11)))] []) r
theorem Z3M (x0 : Z7) (z1g : Own) (z11 : Own) : Sim (Z24) (Z1t x0) (EE 24 [(.p (.agg (ZC x0 z1g z11)))] []) := fun _ h => pick_to h z1g z11
noncomputable def Z56 (x2 : Int) (x3 : Int) (x23 : List Z7) (x24 : Int) (x25 : Int) : Option (Int × Int) := pick fun r => ∀ (ox23 : Own), RRun (Z24) (Zbz 0 (iv x2) (iv x3) (.p (.lst ox23 (x23.map ZG))) (iv x24) (iv x25) []) r
theorem Z9n (x2 : Int) (x3 : Int) (x23 : List Z7) (x24 : Int) (x25 : Int) (ox23 : Own) : Sim (Z24) (Z56 x2 x3 x23 x24 x25) (Zbz 0 (iv x2) (iv x3) (.p (.lst ox23 (x23.map ZG))) (iv x24) (iv x25) []) := fun _ h => pick_to h ox23
noncomputable def Z45 (x2 : Int) (x3 : Int) (x45 : List Z7) (x46 : Int) (x47 : Int) : Option (Int × Int) := pick fun r => ∀ (ox45 : Own), RRun (Z24) (Zaz 0 (iv x2) (iv x3) (.p (.lst ox45 (x45.map ZG))) (iv x46) (iv x47) []) r
theorem Z99 (x2 : Int) (x3 : Int) (x45 : List Z7) (x46 : Int) (x47 : Int) (ox45 : Own) : Sim (Z24) (Z45 x2 x3 x45 x46 x47) (Zaz 0 (iv x2) (iv x3) (.p (.lst ox45 (x45.map ZG))) (iv x46) (iv x47) []) := fun _ h => pick_to h ox45
noncomputable def Z68 (x0 : Int) (x1 : Int) : Option (Int) := pick fun r => RRun (Z4j) (EE 33 [(iv x0), (iv x1)] []) r
theorem ZdG (x0 : Int) (x1 : Int) : Sim (Z4j) (Z68 x0 x1) (EE 33 [(iv x0), (iv x1)] []) := fun _ h => pick_to h
noncomputable def Z7k (x0 : Int) : Option (Int) := pick fun r => RRun (Z6H) (EE 38 [(iv x0)] []) r
theorem Zbh (x0 : Int) : Sim (Z6H) (Z7k x0) (EE 38 [(iv x0)] []) := fun _ h => pick_to h
noncomputable def Z9I (x0 : Int) (x1 : Int) : Option (Int) := pick fun r => RRun (Z6m) (EE 32 [(iv x0), (iv x1)] []) r
theorem ZeD (x0 : Int) (x1 : Int) : Sim (Z6m) (Z9I x0 x1) (EE 32 [(iv x0), (iv x1)] []) := fun _ h => pick_to h
noncomputable def Z2g (x0 : Z7) : Option (Int) := pick fun r => ∀ (z1g : Own) (z11 : Own), RRun (Z3g) (EE 25 [(.p (.agg (ZC x0 z1g z11)))] []) r
theorem Z75 (x0 : Z7) (z1g : Own) (z11 : Own) : Sim (Z3g) (Z2g x0) (EE 25 [(.p (.agg (ZC x0 z1g z11)))] []) := fun _ h => pick_to h z1g z11
noncomputable def Z3u (x3 : Int) (x8 : List Z7) (x9 : Int) (x10 : Int) (b0 : Z7) : Option (Int) := pick fun r => ∀ (ox8 : Own) (z1f : Own) (z15 : Own), RRun (Z3g) (Zc0 0 (.ptr 0 0) (iv x3) (.p (.lst ox8 (x8.map ZG))) (iv x9) (iv x10) [(Zq b0 z1f z15)]) r
theorem Z9U (x3 : Int) (x8 : List Z7) (x9 : Int) (x10 : Int) (b0 : Z7) (ox8 : Own) (z1f : Own) (z15 : Own) : Sim (Z3g) (Z3u x3 x8 x9 x10 b0) (Zc0 0 (.ptr 0 0) (iv x3) (.p (.lst ox8 (x8.map ZG))) (iv x9) (iv x10) [(Zq b0 z1f z15)]) := fun _ h => pick_to h ox8 z1f z15
noncomputable def Z8t (x0 : ZF) : Option (Int) := pick fun r => ∀ (z2D : Own) (z2n : Own), RRun (Z67) (EE 26 [(.p (.agg (Z1A x0 z2D z2n)))] []) r
theorem ZdF (x0 : ZF) (z2D : Own) (z2n : Own) : Sim (Z67) (Z8t x0) (EE 26 [(.p (.agg (Z1A x0 z2D z2n)))] []) := fun _ h => pick_to h z2D z2n
noncomputable def Z2U (x0 : Z7) : Option (Bool) := pick fun r => ∀ (z1g : Own) (z11 : Own), RRun (Z4a) (EE 34 [(.p (.agg (ZC x0 z1g z11)))] []) r
theorem Z9O (x0 : Z7) (z1g : Own) (z11 : Own) : Sim (Z4a) (Z2U x0) (EE 34 [(.p (.agg (ZC x0 z1g z11)))] []) := fun _ h => pick_to h z1g z11
noncomputable def Z3y (x0 : List Z7) : Option (Bool) := pick fun r => ∀ (ox0 : Own), RRun (Z2X) (EE 39 [(.p (.lst ox0 (x0.map ZG))), (.clo 40 [] [])] []) r
theorem Z8l (x0 : List Z7) (ox0 : Own) : Sim (Z2X) (Z3y x0) (EE 39 [(.p (.lst ox0 (x0.map ZG))), (.clo 40 [] [])] []) := fun _ h => pick_to h ox0
noncomputable def Z47 (x0 : List Z7) : Option (Int) := pick fun r => ∀ (ox0 : Own), RRun (Z1u) (EE 44 [(.p (.lst ox0 (x0.map ZG))), (.clo 40 [] [])] []) r
theorem Z9a (x0 : List Z7) (ox0 : Own) : Sim (Z1u) (Z47 x0) (EE 44 [(.p (.lst ox0 (x0.map ZG))), (.clo 40 [] [])] []) := fun _ h => pick_to h ox0
noncomputable def Z2T (x0 : List Z7) (x7 : Int) (x8 : Int) : Option (Int) := pick fun r => ∀ (ox0 : Own), RRun (Z1u) (ZbR 0 (.p (.lst ox0 (x0.map ZG))) (.clo 40 [] []) (iv x7) (iv x8) []) r
theorem Z5N (x0 : List Z7) (x7 : Int) (x8 : Int) (ox0 : Own) : Sim (Z1u) (Z2T x0 x7 x8) (ZbR 0 (.p (.lst ox0 (x0.map ZG))) (.clo 40 [] []) (iv x7) (iv x8) []) := fun _ h => pick_to h ox0
noncomputable def Z6x (x0 : Z7) : Option (Bool) := pick fun r => ∀ (z1g : Own) (z11 : Own), RRun (Z5E) (EE 40 [(.p (.agg (ZC x0 z1g z11)))] []) r
theorem Zcp (x0 : Z7) (z1g : Own) (z11 : Own) : Sim (Z5E) (Z6x x0) (EE 40 [(.p (.agg (ZC x0 z1g z11)))] []) := fun _ h => pick_to h z1g z11
end Go.Proofs.YtadodmjdkphddaaDoor.N2
end
