/- The functions, read typed: their types, and what they stand for. No condition. -/
import Derived.Test.YtadodmjdkphddaaDoorSim
import Derived.Test.YtadodmjdkphddaaDoorEqs

section
set_option linter.unusedSimpArgs false
set_option linter.unusedVariables false
namespace Go.Proofs.YtadodmjdkphddaaDoor.N2
open Go Go.Abs
set_option linter.unusedVariables false
set_option maxRecDepth 100000
structure Z8 where
 Lo : Int
 Hi : Int
 deriving Inhabited
def Z5e (a : Z8) : List PV := [(eI .i64) a.Lo, (eI .i64) a.Hi]
def Zz (a : Z8) : PV := .agg (Z5e a)
def ZH (a : Z8) : List PV := [(eI .i64) a.Lo, (eI .i64) a.Hi]
def Z1E (a : Z8) : Row := [.p ((eI .i64) a.Lo), .p ((eI .i64) a.Hi)]
theorem Za5 {a b : Z8} (h : Z5e a = Z5e b) : a = b := by
 have h0 : a.Lo = b.Lo := eI_inj _ _ (congrArg (fun l => l.getD 0 .junk) h)
 have h1 : a.Hi = b.Hi := eI_inj _ _ (congrArg (fun l => l.getD 1 .junk) h)
 cases a; cases b
 cases h0
 cases h1
 rfl
theorem Z2x (a b : Z8) (h : Zz a = Zz b) : a = b := Za5 (congrArg pC h)
structure Z3 where
 Kind : Int
 Lo : Int
 Hi : Int
 Mode : Int
 Ref : Int
 Set : (List Z8)
 Kids : (List Z3)
instance : Inhabited Z3 := ⟨⟨default, default, default, default, default, default, default⟩⟩
mutual
def ZG : Z3 → PV
 | ⟨Kind_, Lo_, Hi_, Mode_, Ref_, Set_, Kids_⟩ => .agg [(eI .i64) Kind_, (eI .i64) Lo_, (eI .i64) Hi_, (eI .i64) Mode_, (eI .i64) Ref_, (eL Zz) Set_, .lst .sh (Z43 Kids_)]
def Z43 : List Z3 → List PV
 | [] => []
 | x :: r => ZG x :: Z43 r
end
theorem Zaj : ∀ l, Z43 l = l.map ZG
 | [] => rfl
 | x :: r => by rw [Z43, Zaj r]; rfl
def Z21 (a : Z3) : List PV := [(eI .i64) a.Kind, (eI .i64) a.Lo, (eI .i64) a.Hi, (eI .i64) a.Mode, (eI .i64) a.Ref, (eL Zz) a.Set, (eL ZG) a.Kids]
theorem Z3k (a : Z3) : ZG a = .agg (Z21 a) := by
 cases a; rw [ZG, Zaj]; rfl
theorem Z45 (a : Z3) : pcells (ZG a) = Z21 a := by rw [Z3k]; rfl
theorem Zca (a : Z3) : (pcells (ZG a)).length = 7 := by rw [Z3k]; rfl
def ZC (a : Z3) (o0 o1 : Own) : List PV := [(eI .i64) a.Kind, (eI .i64) a.Lo, (eI .i64) a.Hi, (eI .i64) a.Mode, (eI .i64) a.Ref, .lst o0 (a.Set.map Zz), .lst o1 (a.Kids.map ZG)]
def Zq (a : Z3) (o0 o1 : Own) : Row := [.p ((eI .i64) a.Kind), .p ((eI .i64) a.Lo), .p ((eI .i64) a.Hi), .p ((eI .i64) a.Mode), .p ((eI .i64) a.Ref), .p (.lst o0 (a.Set.map Zz)), .p (.lst o1 (a.Kids.map ZG))]
mutual
theorem Zak : ∀ a b : Z3, ZG a = ZG b → a = b
 | ⟨Kind_, Lo_, Hi_, Mode_, Ref_, Set_, Kids_⟩, ⟨Kind_2, Lo_2, Hi_2, Mode_2, Ref_2, Set_2, Kids_2⟩, h => by
  rw [ZG, ZG] at h
  have h0 : Kind_ = Kind_2 := eI_inj _ _ (congrArg (fun l => (pC l).getD 0 .junk) h)
  have h1 : Lo_ = Lo_2 := eI_inj _ _ (congrArg (fun l => (pC l).getD 1 .junk) h)
  have h2 : Hi_ = Hi_2 := eI_inj _ _ (congrArg (fun l => (pC l).getD 2 .junk) h)
  have h3 : Mode_ = Mode_2 := eI_inj _ _ (congrArg (fun l => (pC l).getD 3 .junk) h)
  have h4 : Ref_ = Ref_2 := eI_inj _ _ (congrArg (fun l => (pC l).getD 4 .junk) h)
  have h5 : Set_ = Set_2 := (eL_inj Z2x) _ _ (congrArg (fun l => (pC l).getD 5 .junk) h)
  have h6 : Kids_ = Kids_2 := Za8 Kids_ Kids_2 (congrArg (fun l => pL ((pC l).getD 6 .junk)) h)
  subst h0
  subst h1
  subst h2
  subst h3
  subst h4
  subst h5
  subst h6
  rfl
theorem Za8 : ∀ a b : List Z3, Z43 a = Z43 b → a = b
 | [], [], _ => rfl
 | [], _ :: _, h => by simp [Z43] at h
 | _ :: _, [], h => by simp [Z43] at h
 | x :: r, y :: t, h => by
  simp only [Z43, List.cons.injEq] at h
  rw [Zak x y h.1, Za8 r t h.2]
end
theorem Z2N {a b : Z3} (h : Z21 a = Z21 b) : a = b := Zak a b (by rw [Z3k, Z3k, h])
structure ZE where
 Root : Z3
 Groups : Int
 Fold : Bool
 deriving Inhabited
def Z8P (a : ZE) : List PV := [(eI .i64) a.Root.Kind, (eI .i64) a.Root.Lo, (eI .i64) a.Root.Hi, (eI .i64) a.Root.Mode, (eI .i64) a.Root.Ref, (eL Zz) a.Root.Set, (eL ZG) a.Root.Kids, (eI .i64) a.Groups, eB a.Fold]
def ZaZ (a : ZE) : PV := .agg (Z8P a)
def Z1k (a : ZE) (o0 o1 : Own) : List PV := [(eI .i64) a.Root.Kind, (eI .i64) a.Root.Lo, (eI .i64) a.Root.Hi, (eI .i64) a.Root.Mode, (eI .i64) a.Root.Ref, .lst o0 (a.Root.Set.map Zz), .lst o1 (a.Root.Kids.map ZG), (eI .i64) a.Groups, eB a.Fold]
def ZA (a : ZE) (o0 o1 : Own) : Row := [.p ((eI .i64) a.Root.Kind), .p ((eI .i64) a.Root.Lo), .p ((eI .i64) a.Root.Hi), .p ((eI .i64) a.Root.Mode), .p ((eI .i64) a.Root.Ref), .p (.lst o0 (a.Root.Set.map Zz)), .p (.lst o1 (a.Root.Kids.map ZG)), .p ((eI .i64) a.Groups), .p (eB a.Fold)]
theorem Z9n {a b : ZE} (h : Z8P a = Z8P b) : a = b := by
 have h0 : a.Root = b.Root := Z2N (congrArg (fun l => (l.drop 0).take 7) h)
 have h1 : a.Groups = b.Groups := eI_inj _ _ (congrArg (fun l => l.getD 7 .junk) h)
 have h2 : a.Fold = b.Fold := eB_inj _ _ (congrArg (fun l => l.getD 8 .junk) h)
 cases a; cases b
 cases h0
 cases h1
 cases h2
 rfl
theorem Zhw (a b : ZE) (h : ZaZ a = ZaZ b) : a = b := Z9n (congrArg pC h)
structure Zl where
 Code : Int
 At : Int
 deriving Inhabited
def Z9z (a : Zl) : List PV := [(eI .i64) a.Code, (eI .i64) a.At]
def ZbQ (a : Zl) : PV := .agg (Z9z a)
def Z1O (a : Zl) : List PV := [(eI .i64) a.Code, (eI .i64) a.At]
def ZF (a : Zl) : Row := [.p ((eI .i64) a.Code), .p ((eI .i64) a.At)]
theorem Z7s {a b : Zl} (h : Z9z a = Z9z b) : a = b := by
 have h0 : a.Code = b.Code := eI_inj _ _ (congrArg (fun l => l.getD 0 .junk) h)
 have h1 : a.At = b.At := eI_inj _ _ (congrArg (fun l => l.getD 1 .junk) h)
 cases a; cases b
 cases h0
 cases h1
 rfl
theorem ZhV (a b : Zl) (h : ZbQ a = ZbQ b) : a = b := Z7s (congrArg pC h)
structure Zv where
 group : Int
 at_ : Int
 deriving Inhabited
def Z72 (a : Zv) : List PV := [(eI .i64) a.group, (eI .i64) a.at_]
def Z1G (a : Zv) : PV := .agg (Z72 a)
def Z8R (a : Zv) : List PV := [(eI .i64) a.group, (eI .i64) a.at_]
def Z8K (a : Zv) : Row := [.p ((eI .i64) a.group), .p ((eI .i64) a.at_)]
theorem Zcv {a b : Zv} (h : Z72 a = Z72 b) : a = b := by
 have h0 : a.group = b.group := eI_inj _ _ (congrArg (fun l => l.getD 0 .junk) h)
 have h1 : a.at_ = b.at_ := eI_inj _ _ (congrArg (fun l => l.getD 1 .junk) h)
 cases a; cases b
 cases h0
 cases h1
 rfl
theorem Z44 (a b : Zv) (h : Z1G a = Z1G b) : a = b := Zcv (congrArg pC h)
structure Zm where
 b : (List Int)
 at_ : Int
 groups : Int
 deep : Int
 refs : (List Zv)
 fault : Zl
 deriving Inhabited
def Z9k (a : Zm) : List PV := [(eL (eI .u8)) a.b, (eI .i64) a.at_, (eI .i64) a.groups, (eI .i64) a.deep, (eL Z1G) a.refs, (eI .i64) a.fault.Code, (eI .i64) a.fault.At]
def Zbn (a : Zm) : PV := .agg (Z9k a)
def Zee (a : Zm) (o0 o1 : Own) : List PV := [.lst o0 (a.b.map (eI .u8)), (eI .i64) a.at_, (eI .i64) a.groups, (eI .i64) a.deep, .lst o1 (a.refs.map Z1G), (eI .i64) a.fault.Code, (eI .i64) a.fault.At]
def Zk (a : Zm) (o0 o1 : Own) : Row := [.p (.lst o0 (a.b.map (eI .u8))), .p ((eI .i64) a.at_), .p ((eI .i64) a.groups), .p ((eI .i64) a.deep), .p (.lst o1 (a.refs.map Z1G)), .p ((eI .i64) a.fault.Code), .p ((eI .i64) a.fault.At)]
theorem ZcJ {a b : Zm} (h : Z9k a = Z9k b) : a = b := by
 have h0 : a.b = b.b := (eL_inj eI_inj) _ _ (congrArg (fun l => l.getD 0 .junk) h)
 have h1 : a.at_ = b.at_ := eI_inj _ _ (congrArg (fun l => l.getD 1 .junk) h)
 have h2 : a.groups = b.groups := eI_inj _ _ (congrArg (fun l => l.getD 2 .junk) h)
 have h3 : a.deep = b.deep := eI_inj _ _ (congrArg (fun l => l.getD 3 .junk) h)
 have h4 : a.refs = b.refs := (eL_inj Z44) _ _ (congrArg (fun l => l.getD 4 .junk) h)
 have h5 : a.fault = b.fault := Z7s (congrArg (fun l => (l.drop 5).take 2) h)
 cases a; cases b
 cases h0
 cases h1
 cases h2
 cases h3
 cases h4
 cases h5
 rfl
theorem ZhC (a b : Zm) (h : Zbn a = Zbn b) : a = b := ZcJ (congrArg pC h)
end Go.Proofs.YtadodmjdkphddaaDoor.N2
end
section
set_option linter.unusedSimpArgs false
set_option linter.unusedVariables false
namespace Go.Proofs.YtadodmjdkphddaaDoor.N2
open Go Go.Abs
set_option linter.unusedVariables false
set_option maxRecDepth 100000
abbrev Z3v (zn : List Int) (z7 : Int) (zh : Int) (zj : List Zv) (z2 : Int) (z6 : Int) (zp : Own) (zd : Own) : (Bool × Int) → Res → Prop := fun r q => ∃ (ex : List Row), q = ((bv r.1), [(Zk (Zm.mk zn r.2 z7 zh zj (Zl.mk z2 z6)) zp zd)] ++ ex)
theorem Zc3 (zn : List Int) (z7 : Int) (zh : Int) (zj : List Zv) (z2 : Int) (z6 : Int) (zp : Own) (zd : Own) : ∀ a b q, Z3v zn z7 zh zj z2 z6 zp zd a q → Z3v zn z7 zh zj z2 z6 zp zd b q → a = b := by
 rintro a b q ⟨_, e1⟩ ⟨_, e2⟩
 have e := e1.symm.trans e2
 exact Prod.ext (congrArg (fun q : Res => pB (pA q.1)) e) (congrArg (fun q : Res => pI (pA (cellAt q 0 1))) e)
abbrev Z4I  : (Int × Int) → Res → Prop := fun r q => ∃ (ex : List Row), q = ((.p (.tup [(.v (.int .i32 r.1)), (.v (.int .i64 r.2))])), ex)
theorem Za3  : ∀ a b q, Z4I  a q → Z4I  b q → a = b := by
 rintro a b q ⟨_, e1⟩ ⟨_, e2⟩
 have e := e1.symm.trans e2
 exact Prod.ext (congrArg (fun q : Res => pI ((pT (pA q.1)).getD 0 .junk)) e) (congrArg (fun q : Res => pI ((pT (pA q.1)).getD 1 .junk)) e)
abbrev Z5m  : (Int × Int) → Res → Prop := fun r q => ∃ (ex : List Row), q = ((.p (.tup [(.v (.int .i64 r.1)), (.v (.int .i64 r.2))])), ex)
theorem Zf3  : ∀ a b q, Z5m  a q → Z5m  b q → a = b := by
 rintro a b q ⟨_, e1⟩ ⟨_, e2⟩
 have e := e1.symm.trans e2
 exact Prod.ext (congrArg (fun q : Res => pI ((pT (pA q.1)).getD 0 .junk)) e) (congrArg (fun q : Res => pI ((pT (pA q.1)).getD 1 .junk)) e)
abbrev Z4h (b0 : Zm) (zp : Own) (zd : Own) : (Int) → Res → Prop := fun r q => ∃ (ex : List Row), q = ((iv r), [(Zk b0 zp zd)] ++ ex)
theorem Zch (b0 : Zm) (zp : Own) (zd : Own) : ∀ a b q, Z4h b0 zp zd a q → Z4h b0 zp zd b q → a = b := by
 rintro a b q ⟨_, e1⟩ ⟨_, e2⟩
 have e := e1.symm.trans e2
 exact congrArg (fun q : Res => pI (pA q.1)) e
abbrev Z5X  : (Z3) → Res → Prop := fun r q => ∃ (ex : List Row), q = ((.p (.agg (ZC r .sh .sh))), ex)
theorem ZdR  : ∀ a b q, Z5X  a q → Z5X  b q → a = b := by
 rintro a b q ⟨_, e1⟩ ⟨_, e2⟩
 have e := e1.symm.trans e2
 exact Z2N (congrArg (fun q : Res => pC (pA q.1)) e)
abbrev Z56 (zn : List Int) (z7 : Int) (zh : Int) (zj : List Zv) (z2 : Int) (z6 : Int) (zp : Own) (zd : Own) : (Int × Int) → Res → Prop := fun r q => ∃ (ex : List Row), q = ((iv r.1), [(Zk (Zm.mk zn r.2 z7 zh zj (Zl.mk z2 z6)) zp zd)] ++ ex)
theorem Zcr (zn : List Int) (z7 : Int) (zh : Int) (zj : List Zv) (z2 : Int) (z6 : Int) (zp : Own) (zd : Own) : ∀ a b q, Z56 zn z7 zh zj z2 z6 zp zd a q → Z56 zn z7 zh zj z2 z6 zp zd b q → a = b := by
 rintro a b q ⟨_, e1⟩ ⟨_, e2⟩
 have e := e1.symm.trans e2
 exact Prod.ext (congrArg (fun q : Res => pI (pA q.1)) e) (congrArg (fun q : Res => pI (pA (cellAt q 0 1))) e)
abbrev Z8s  : (Z8) → Res → Prop := fun r q => ∃ (ex : List Row), q = ((.p (.agg (ZH r))), ex)
theorem Zf4  : ∀ a b q, Z8s  a q → Z8s  b q → a = b := by
 rintro a b q ⟨_, e1⟩ ⟨_, e2⟩
 have e := e1.symm.trans e2
 exact Za5 (congrArg (fun q : Res => pC (pA q.1)) e)
abbrev Z57  : (Bool) → Res → Prop := fun r q => ∃ (ex : List Row), q = ((bv r), ex)
theorem ZbR  : ∀ a b q, Z57  a q → Z57  b q → a = b := by
 rintro a b q ⟨_, e1⟩ ⟨_, e2⟩
 have e := e1.symm.trans e2
 exact congrArg (fun q : Res => pB (pA q.1)) e
abbrev Z6I  : (Bool) → Res → Prop := fun r q => ∃ (ex : List Row), q = ((bv r), ex)
theorem ZdP  : ∀ a b q, Z6I  a q → Z6I  b q → a = b := by
 rintro a b q ⟨_, e1⟩ ⟨_, e2⟩
 have e := e1.symm.trans e2
 exact congrArg (fun q : Res => pB (pA q.1)) e
abbrev Z1s  : (Int) → Res → Prop := fun r q => ∃ (ex : List Row), q = ((iv r), ex)
theorem Z6p  : ∀ a b q, Z1s  a q → Z1s  b q → a = b := by
 rintro a b q ⟨_, e1⟩ ⟨_, e2⟩
 have e := e1.symm.trans e2
 exact congrArg (fun q : Res => pI (pA q.1)) e
abbrev Z2P  : (Bool) → Res → Prop := fun r q => ∃ (ex : List Row), q = ((bv r), ex)
theorem Z8p  : ∀ a b q, Z2P  a q → Z2P  b q → a = b := by
 rintro a b q ⟨_, e1⟩ ⟨_, e2⟩
 have e := e1.symm.trans e2
 exact congrArg (fun q : Res => pB (pA q.1)) e
abbrev Z7O  : ((List Z8)) → Res → Prop := fun r q => ∃ (ex : List Row), q = ((.p (.lst .sh (r.map Zz))), ex)
theorem ZdI  : ∀ a b q, Z7O  a q → Z7O  b q → a = b := by
 rintro a b q ⟨_, e1⟩ ⟨_, e2⟩
 have e := e1.symm.trans e2
 exact lmap_inj Z2x (congrArg (fun q : Res => pL (pA q.1)) e)
abbrev Z6V  : ((List Z8) × Int) → Res → Prop := fun r q => ∃ (ex : List Row), q = ((.p (.tup [(.lst .sh (r.1.map Zz)), (.v (.int .i64 r.2))])), ex)
theorem ZeF  : ∀ a b q, Z6V  a q → Z6V  b q → a = b := by
 rintro a b q ⟨_, e1⟩ ⟨_, e2⟩
 have e := e1.symm.trans e2
 exact Prod.ext (lmap_inj Z2x (congrArg (fun q : Res => pL ((pT (pA q.1)).getD 0 .junk)) e)) (congrArg (fun q : Res => pI ((pT (pA q.1)).getD 1 .junk)) e)
abbrev Z1X  : (Bool) → Res → Prop := fun r q => ∃ (ex : List Row), q = ((bv r), ex)
theorem Z9b  : ∀ a b q, Z1X  a q → Z1X  b q → a = b := by
 rintro a b q ⟨_, e1⟩ ⟨_, e2⟩
 have e := e1.symm.trans e2
 exact congrArg (fun q : Res => pB (pA q.1)) e
abbrev Z2n  : ((List Z8)) → Res → Prop := fun r q => ∃ (ex : List Row), q = ((.p (.lst .sh (r.map Zz))), ex)
theorem Zag  : ∀ a b q, Z2n  a q → Z2n  b q → a = b := by
 rintro a b q ⟨_, e1⟩ ⟨_, e2⟩
 have e := e1.symm.trans e2
 exact lmap_inj Z2x (congrArg (fun q : Res => pL (pA q.1)) e)
abbrev Z5w  : ((List Z8) × Int) → Res → Prop := fun r q => ∃ (ex : List Row), q = ((.p (.tup [(.lst .sh (r.1.map Zz)), (.v (.int .i64 r.2))])), ex)
theorem ZdG  : ∀ a b q, Z5w  a q → Z5w  b q → a = b := by
 rintro a b q ⟨_, e1⟩ ⟨_, e2⟩
 have e := e1.symm.trans e2
 exact Prod.ext (lmap_inj Z2x (congrArg (fun q : Res => pL ((pT (pA q.1)).getD 0 .junk)) e)) (congrArg (fun q : Res => pI ((pT (pA q.1)).getD 1 .junk)) e)
abbrev Z7b  : (Z3) → Res → Prop := fun r q => ∃ (ex : List Row), q = ((.p (.agg (ZC r .sh .sh))), ex)
theorem Zf7  : ∀ a b q, Z7b  a q → Z7b  b q → a = b := by
 rintro a b q ⟨_, e1⟩ ⟨_, e2⟩
 have e := e1.symm.trans e2
 exact Z2N (congrArg (fun q : Res => pC (pA q.1)) e)
abbrev Z4g (zn : List Int) (z7 : Int) (zh : Int) (zj : List Zv) (zp : Own) (zd : Own) : (Int × Int × Int) → Res → Prop := fun r q => ∃ (ex : List Row), q = ((.p (.tup [])), [(Zk (Zm.mk zn r.1 z7 zh zj (Zl.mk r.2.1 r.2.2)) zp zd)] ++ ex)
theorem Zcb (zn : List Int) (z7 : Int) (zh : Int) (zj : List Zv) (zp : Own) (zd : Own) : ∀ a b q, Z4g zn z7 zh zj zp zd a q → Z4g zn z7 zh zj zp zd b q → a = b := by
 rintro a b q ⟨_, e1⟩ ⟨_, e2⟩
 have e := e1.symm.trans e2
 exact Prod.ext (congrArg (fun q : Res => pI (pA (cellAt q 0 1))) e) (Prod.ext (congrArg (fun q : Res => pI (pA (cellAt q 0 5))) e) (congrArg (fun q : Res => pI (pA (cellAt q 0 6))) e))
abbrev Z51  : ((Own × (List Z8))) → Res → Prop := fun r q => ∃ (ex : List Row), q = ((.p (.lst r.1 (r.2.map Zz))), ex)
theorem ZcV  : ∀ a b q, Z51  a q → Z51  b q → a = b := by
 rintro a b q ⟨_, e1⟩ ⟨_, e2⟩
 have e := e1.symm.trans e2
 exact Prod.ext (congrArg (fun q : Res => pOwn (pA q.1)) e) (lmap_inj Z2x (congrArg (fun q : Res => pL (pA q.1)) e))
abbrev Z5i  : (Int) → Res → Prop := fun r q => ∃ (ex : List Row), q = ((iv r), ex)
theorem Zf6  : ∀ a b q, Z5i  a q → Z5i  b q → a = b := by
 rintro a b q ⟨_, e1⟩ ⟨_, e2⟩
 have e := e1.symm.trans e2
 exact congrArg (fun q : Res => pI (pA q.1)) e
abbrev Z5K (z11 : Int) : (Bool) → Res → Prop := fun r q => ∃ (ex : List Row), q = ((bv r), [[(iv z11)]] ++ ex)
theorem ZcT (z11 : Int) : ∀ a b q, Z5K z11 a q → Z5K z11 b q → a = b := by
 rintro a b q ⟨_, e1⟩ ⟨_, e2⟩
 have e := e1.symm.trans e2
 exact congrArg (fun q : Res => pB (pA q.1)) e
abbrev Z1t (z11 : Int) : (Int) → Res → Prop := fun r q => ∃ (ex : List Row), q = ((iv r), [[(iv z11)]] ++ ex)
theorem Z6n (z11 : Int) : ∀ a b q, Z1t z11 a q → Z1t z11 b q → a = b := by
 rintro a b q ⟨_, e1⟩ ⟨_, e2⟩
 have e := e1.symm.trans e2
 exact congrArg (fun q : Res => pI (pA q.1)) e
abbrev Z2O (z11 : Int) : (Bool) → Res → Prop := fun r q => ∃ (ex : List Row), q = ((bv r), [[(iv z11)]] ++ ex)
theorem Z8o (z11 : Int) : ∀ a b q, Z2O z11 a q → Z2O z11 b q → a = b := by
 rintro a b q ⟨_, e1⟩ ⟨_, e2⟩
 have e := e1.symm.trans e2
 exact congrArg (fun q : Res => pB (pA q.1)) e
abbrev Z6t  : (Bool) → Res → Prop := fun r q => ∃ (ex : List Row), q = ((bv r), ex)
theorem Zdu  : ∀ a b q, Z6t  a q → Z6t  b q → a = b := by
 rintro a b q ⟨_, e1⟩ ⟨_, e2⟩
 have e := e1.symm.trans e2
 exact congrArg (fun q : Res => pB (pA q.1)) e
abbrev Z3j (zn : List Int) (z7 : Int) (zh : Int) (zj : List Zv) (zp : Own) (zd : Own) : (Int × Int × Int × Int) → Res → Prop := fun r q => ∃ (ex : List Row), q = ((iv r.1), [(Zk (Zm.mk zn r.2.1 z7 zh zj (Zl.mk r.2.2.1 r.2.2.2)) zp zd)] ++ ex)
theorem ZbI (zn : List Int) (z7 : Int) (zh : Int) (zj : List Zv) (zp : Own) (zd : Own) : ∀ a b q, Z3j zn z7 zh zj zp zd a q → Z3j zn z7 zh zj zp zd b q → a = b := by
 rintro a b q ⟨_, e1⟩ ⟨_, e2⟩
 have e := e1.symm.trans e2
 exact Prod.ext (congrArg (fun q : Res => pI (pA q.1)) e) (Prod.ext (congrArg (fun q : Res => pI (pA (cellAt q 0 1))) e) (Prod.ext (congrArg (fun q : Res => pI (pA (cellAt q 0 5))) e) (congrArg (fun q : Res => pI (pA (cellAt q 0 6))) e)))
abbrev Z2J (zn : List Int) (z7 : Int) (zh : Int) (zp : Own) : (Z3 × Int × (List Zv) × Int × Int) → Res → Prop := fun r q => ∃ (p0_4 : Own) (ex : List Row), okApp p0_4 = true ∧ q = ((.p (.agg (ZC r.1 .sh .sh))), [(Zk (Zm.mk zn r.2.1 z7 zh r.2.2.1 (Zl.mk r.2.2.2.1 r.2.2.2.2)) zp p0_4)] ++ ex)
theorem Zb4 (zn : List Int) (z7 : Int) (zh : Int) (zp : Own) : ∀ a b q, Z2J zn z7 zh zp a q → Z2J zn z7 zh zp b q → a = b := by
 rintro a b q ⟨_, _, _, e1⟩ ⟨_, _, _, e2⟩
 have e := e1.symm.trans e2
 exact Prod.ext (Z2N (congrArg (fun q : Res => pC (pA q.1)) e)) (Prod.ext (congrArg (fun q : Res => pI (pA (cellAt q 0 1))) e) (Prod.ext (lmap_inj Z44 (congrArg (fun q : Res => pL (pA (cellAt q 0 4))) e)) (Prod.ext (congrArg (fun q : Res => pI (pA (cellAt q 0 5))) e) (congrArg (fun q : Res => pI (pA (cellAt q 0 6))) e))))
abbrev Z2K (zn : List Int) (z7 : Int) (zh : Int) (zj : List Zv) (zp : Own) (zd : Own) : (Int × (Own × (List Z8)) × Bool × Int × Int × Int) → Res → Prop := fun r q => ∃ (ex : List Row), q = ((.p (.tup [(.v (.int .i64 r.1)), (.lst r.2.1.1 (r.2.1.2.map Zz)), (.v (.bool r.2.2.1))])), [(Zk (Zm.mk zn r.2.2.2.1 z7 zh zj (Zl.mk r.2.2.2.2.1 r.2.2.2.2.2)) zp zd)] ++ ex)
theorem Zbj (zn : List Int) (z7 : Int) (zh : Int) (zj : List Zv) (zp : Own) (zd : Own) : ∀ a b q, Z2K zn z7 zh zj zp zd a q → Z2K zn z7 zh zj zp zd b q → a = b := by
 rintro a b q ⟨_, e1⟩ ⟨_, e2⟩
 have e := e1.symm.trans e2
 exact Prod.ext (congrArg (fun q : Res => pI ((pT (pA q.1)).getD 0 .junk)) e) (Prod.ext (Prod.ext (congrArg (fun q : Res => pOwn ((pT (pA q.1)).getD 1 .junk)) e) (lmap_inj Z2x (congrArg (fun q : Res => pL ((pT (pA q.1)).getD 1 .junk)) e))) (Prod.ext (congrArg (fun q : Res => pB ((pT (pA q.1)).getD 2 .junk)) e) (Prod.ext (congrArg (fun q : Res => pI (pA (cellAt q 0 1))) e) (Prod.ext (congrArg (fun q : Res => pI (pA (cellAt q 0 5))) e) (congrArg (fun q : Res => pI (pA (cellAt q 0 6))) e)))))
abbrev Z5E  : ((List Z8)) → Res → Prop := fun r q => ∃ (ex : List Row), q = ((.p (.lst .sh (r.map Zz))), ex)
theorem Zbf  : ∀ a b q, Z5E  a q → Z5E  b q → a = b := by
 rintro a b q ⟨_, e1⟩ ⟨_, e2⟩
 have e := e1.symm.trans e2
 exact lmap_inj Z2x (congrArg (fun q : Res => pL (pA q.1)) e)
abbrev Z59  : ((List Z8) × Int) → Res → Prop := fun r q => ∃ (ex : List Row), q = ((.p (.tup [(.lst .sh (r.1.map Zz)), (.v (.int .i64 r.2))])), ex)
theorem ZdJ  : ∀ a b q, Z59  a q → Z59  b q → a = b := by
 rintro a b q ⟨_, e1⟩ ⟨_, e2⟩
 have e := e1.symm.trans e2
 exact Prod.ext (lmap_inj Z2x (congrArg (fun q : Res => pL ((pT (pA q.1)).getD 0 .junk)) e)) (congrArg (fun q : Res => pI ((pT (pA q.1)).getD 1 .junk)) e)
abbrev Z4l  : ((List Z8)) → Res → Prop := fun r q => ∃ (p0_0 : Own) (ex : List Row), q = ((.p (.tup [])), [[(.p (.lst p0_0 (r.map Zz)))]] ++ ex)
theorem ZaQ  : ∀ a b q, Z4l  a q → Z4l  b q → a = b := by
 rintro a b q ⟨_, _, e1⟩ ⟨_, _, e2⟩
 have e := e1.symm.trans e2
 exact lmap_inj Z2x (congrArg (fun q : Res => pL (pA (cellAt q 0 0))) e)
abbrev Z1b (zn : List Int) (z7 : Int) (zh : Int) (zj : List Zv) (zp : Own) (zd : Own) : (Z3 × Int × Int × Int) → Res → Prop := fun r q => ∃ (ex : List Row), q = ((.p (.agg (ZC r.1 .sh .sh))), [(Zk (Zm.mk zn r.2.1 z7 zh zj (Zl.mk r.2.2.1 r.2.2.2)) zp zd)] ++ ex)
theorem Z8n (zn : List Int) (z7 : Int) (zh : Int) (zj : List Zv) (zp : Own) (zd : Own) : ∀ a b q, Z1b zn z7 zh zj zp zd a q → Z1b zn z7 zh zj zp zd b q → a = b := by
 rintro a b q ⟨_, e1⟩ ⟨_, e2⟩
 have e := e1.symm.trans e2
 exact Prod.ext (Z2N (congrArg (fun q : Res => pC (pA q.1)) e)) (Prod.ext (congrArg (fun q : Res => pI (pA (cellAt q 0 1))) e) (Prod.ext (congrArg (fun q : Res => pI (pA (cellAt q 0 5))) e) (congrArg (fun q : Res => pI (pA (cellAt q 0 6))) e)))
abbrev Z7a  : ((List ByteArray)) → Res → Prop := fun r q => ∃ (ex : List Row), q = ((.p (.lst .sh (r.map eS))), ex)
theorem Zew  : ∀ a b q, Z7a  a q → Z7a  b q → a = b := by
 rintro a b q ⟨_, e1⟩ ⟨_, e2⟩
 have e := e1.symm.trans e2
 exact lmap_inj eS_inj (congrArg (fun q : Res => pL (pA q.1)) e)
abbrev Z1o (zn : List Int) (z7 : Int) (zh : Int) (zj : List Zv) (z2 : Int) (z6 : Int) (zp : Own) (zd : Own) : (Int × Int) → Res → Prop := fun r q => ∃ (ex : List Row), q = ((iv r.1), [(Zk (Zm.mk zn r.2 z7 zh zj (Zl.mk z2 z6)) zp zd)] ++ ex)
theorem Z6g (zn : List Int) (z7 : Int) (zh : Int) (zj : List Zv) (z2 : Int) (z6 : Int) (zp : Own) (zd : Own) : ∀ a b q, Z1o zn z7 zh zj z2 z6 zp zd a q → Z1o zn z7 zh zj z2 z6 zp zd b q → a = b := by
 rintro a b q ⟨_, e1⟩ ⟨_, e2⟩
 have e := e1.symm.trans e2
 exact Prod.ext (congrArg (fun q : Res => pI (pA q.1)) e) (congrArg (fun q : Res => pI (pA (cellAt q 0 1))) e)
abbrev Z2h (zn : List Int) (zp : Own) : (Z3 × Bool × Int × Int × Int × (List Zv) × Int × Int) → Res → Prop := fun r q => ∃ (p0_4 : Own) (ex : List Row), okApp p0_4 = true ∧ q = ((.p (.tup [(.agg (ZC r.1 .sh .sh)), (.v (.bool r.2.1))])), [(Zk (Zm.mk zn r.2.2.1 r.2.2.2.1 r.2.2.2.2.1 r.2.2.2.2.2.1 (Zl.mk r.2.2.2.2.2.2.1 r.2.2.2.2.2.2.2)) zp p0_4)] ++ ex)
theorem Zbw (zn : List Int) (zp : Own) : ∀ a b q, Z2h zn zp a q → Z2h zn zp b q → a = b := by
 rintro a b q ⟨_, _, _, e1⟩ ⟨_, _, _, e2⟩
 have e := e1.symm.trans e2
 exact Prod.ext (Z2N (congrArg (fun q : Res => pC ((pT (pA q.1)).getD 0 .junk)) e)) (Prod.ext (congrArg (fun q : Res => pB ((pT (pA q.1)).getD 1 .junk)) e) (Prod.ext (congrArg (fun q : Res => pI (pA (cellAt q 0 1))) e) (Prod.ext (congrArg (fun q : Res => pI (pA (cellAt q 0 2))) e) (Prod.ext (congrArg (fun q : Res => pI (pA (cellAt q 0 3))) e) (Prod.ext (lmap_inj Z44 (congrArg (fun q : Res => pL (pA (cellAt q 0 4))) e)) (Prod.ext (congrArg (fun q : Res => pI (pA (cellAt q 0 5))) e) (congrArg (fun q : Res => pI (pA (cellAt q 0 6))) e)))))))
abbrev Z4f (zn : List Int) (zp : Own) : (Z3 × Bool × Int × Int × Int × (List Zv) × Int × Int) → Res → Prop := fun r q => ∃ (p0_4 : Own) (ex : List Row), okApp p0_4 = true ∧ q = ((.p (.tup [(.agg (ZC r.1 .sh .sh)), (.v (.bool r.2.1))])), [(Zk (Zm.mk zn r.2.2.1 r.2.2.2.1 r.2.2.2.2.1 r.2.2.2.2.2.1 (Zl.mk r.2.2.2.2.2.2.1 r.2.2.2.2.2.2.2)) zp p0_4)] ++ ex)
theorem Zcc (zn : List Int) (zp : Own) : ∀ a b q, Z4f zn zp a q → Z4f zn zp b q → a = b := by
 rintro a b q ⟨_, _, _, e1⟩ ⟨_, _, _, e2⟩
 have e := e1.symm.trans e2
 exact Prod.ext (Z2N (congrArg (fun q : Res => pC ((pT (pA q.1)).getD 0 .junk)) e)) (Prod.ext (congrArg (fun q : Res => pB ((pT (pA q.1)).getD 1 .junk)) e) (Prod.ext (congrArg (fun q : Res => pI (pA (cellAt q 0 1))) e) (Prod.ext (congrArg (fun q : Res => pI (pA (cellAt q 0 2))) e) (Prod.ext (congrArg (fun q : Res => pI (pA (cellAt q 0 3))) e) (Prod.ext (lmap_inj Z44 (congrArg (fun q : Res => pL (pA (cellAt q 0 4))) e)) (Prod.ext (congrArg (fun q : Res => pI (pA (cellAt q 0 5))) e) (congrArg (fun q : Res => pI (pA (cellAt q 0 6))) e)))))))
abbrev Z2a (zn : List Int) (z7 : Int) (zh : Int) (zj : List Zv) (z2 : Int) (z6 : Int) (zp : Own) (zd : Own) : (Int × Int) → Res → Prop := fun r q => ∃ (ex : List Row), q = ((iv r.1), [(Zk (Zm.mk zn r.2 z7 zh zj (Zl.mk z2 z6)) zp zd)] ++ ex)
theorem Z88 (zn : List Int) (z7 : Int) (zh : Int) (zj : List Zv) (z2 : Int) (z6 : Int) (zp : Own) (zd : Own) : ∀ a b q, Z2a zn z7 zh zj z2 z6 zp zd a q → Z2a zn z7 zh zj z2 z6 zp zd b q → a = b := by
 rintro a b q ⟨_, e1⟩ ⟨_, e2⟩
 have e := e1.symm.trans e2
 exact Prod.ext (congrArg (fun q : Res => pI (pA q.1)) e) (congrArg (fun q : Res => pI (pA (cellAt q 0 1))) e)
abbrev Z1V (zn : List Int) (z7 : Int) (zh : Int) (zj : List Zv) (zp : Own) (zd : Own) : (Int × Int × Int × Int × Int) → Res → Prop := fun r q => ∃ (ex : List Row), q = ((.p (.tup [(.v (.int .i64 r.1)), (.v (.int .i64 r.2.1))])), [(Zk (Zm.mk zn r.2.2.1 z7 zh zj (Zl.mk r.2.2.2.1 r.2.2.2.2)) zp zd)] ++ ex)
theorem Zb7 (zn : List Int) (z7 : Int) (zh : Int) (zj : List Zv) (zp : Own) (zd : Own) : ∀ a b q, Z1V zn z7 zh zj zp zd a q → Z1V zn z7 zh zj zp zd b q → a = b := by
 rintro a b q ⟨_, e1⟩ ⟨_, e2⟩
 have e := e1.symm.trans e2
 exact Prod.ext (congrArg (fun q : Res => pI ((pT (pA q.1)).getD 0 .junk)) e) (Prod.ext (congrArg (fun q : Res => pI ((pT (pA q.1)).getD 1 .junk)) e) (Prod.ext (congrArg (fun q : Res => pI (pA (cellAt q 0 1))) e) (Prod.ext (congrArg (fun q : Res => pI (pA (cellAt q 0 5))) e) (congrArg (fun q : Res => pI (pA (cellAt q 0 6))) e))))
abbrev Z2I (zn : List Int) (z7 : Int) (zh : Int) (zj : List Zv) (zp : Own) (zd : Own) : (Z3 × Int × Int × Int) → Res → Prop := fun r q => ∃ (ex : List Row), q = ((.p (.agg (ZC r.1 .sh .sh))), [(Zk (Zm.mk zn r.2.1 z7 zh zj (Zl.mk r.2.2.1 r.2.2.2)) zp zd)] ++ ex)
theorem Zb6 (zn : List Int) (z7 : Int) (zh : Int) (zj : List Zv) (zp : Own) (zd : Own) : ∀ a b q, Z2I zn z7 zh zj zp zd a q → Z2I zn z7 zh zj zp zd b q → a = b := by
 rintro a b q ⟨_, e1⟩ ⟨_, e2⟩
 have e := e1.symm.trans e2
 exact Prod.ext (Z2N (congrArg (fun q : Res => pC (pA q.1)) e)) (Prod.ext (congrArg (fun q : Res => pI (pA (cellAt q 0 1))) e) (Prod.ext (congrArg (fun q : Res => pI (pA (cellAt q 0 5))) e) (congrArg (fun q : Res => pI (pA (cellAt q 0 6))) e)))
abbrev Z2k (zn : List Int) (zp : Own) : (Z3 × Int × Int × Int × (List Zv) × Int × Int) → Res → Prop := fun r q => ∃ (p0_4 : Own) (ex : List Row), okApp p0_4 = true ∧ q = ((.p (.agg (ZC r.1 .sh .sh))), [(Zk (Zm.mk zn r.2.1 r.2.2.1 r.2.2.2.1 r.2.2.2.2.1 (Zl.mk r.2.2.2.2.2.1 r.2.2.2.2.2.2)) zp p0_4)] ++ ex)
theorem Z9o (zn : List Int) (zp : Own) : ∀ a b q, Z2k zn zp a q → Z2k zn zp b q → a = b := by
 rintro a b q ⟨_, _, _, e1⟩ ⟨_, _, _, e2⟩
 have e := e1.symm.trans e2
 exact Prod.ext (Z2N (congrArg (fun q : Res => pC (pA q.1)) e)) (Prod.ext (congrArg (fun q : Res => pI (pA (cellAt q 0 1))) e) (Prod.ext (congrArg (fun q : Res => pI (pA (cellAt q 0 2))) e) (Prod.ext (congrArg (fun q : Res => pI (pA (cellAt q 0 3))) e) (Prod.ext (lmap_inj Z44 (congrArg (fun q : Res => pL (pA (cellAt q 0 4))) e)) (Prod.ext (congrArg (fun q : Res => pI (pA (cellAt q 0 5))) e) (congrArg (fun q : Res => pI (pA (cellAt q 0 6))) e))))))
abbrev Z2w (zn : List Int) (zp : Own) : (Z3 × Int × Int × Int × (List Zv) × Int × Int) → Res → Prop := fun r q => ∃ (p0_4 : Own) (ex : List Row), okApp p0_4 = true ∧ q = ((.p (.agg (ZC r.1 .sh .sh))), [(Zk (Zm.mk zn r.2.1 r.2.2.1 r.2.2.2.1 r.2.2.2.2.1 (Zl.mk r.2.2.2.2.2.1 r.2.2.2.2.2.2)) zp p0_4)] ++ ex)
theorem Z9m (zn : List Int) (zp : Own) : ∀ a b q, Z2w zn zp a q → Z2w zn zp b q → a = b := by
 rintro a b q ⟨_, _, _, e1⟩ ⟨_, _, _, e2⟩
 have e := e1.symm.trans e2
 exact Prod.ext (Z2N (congrArg (fun q : Res => pC (pA q.1)) e)) (Prod.ext (congrArg (fun q : Res => pI (pA (cellAt q 0 1))) e) (Prod.ext (congrArg (fun q : Res => pI (pA (cellAt q 0 2))) e) (Prod.ext (congrArg (fun q : Res => pI (pA (cellAt q 0 3))) e) (Prod.ext (lmap_inj Z44 (congrArg (fun q : Res => pL (pA (cellAt q 0 4))) e)) (Prod.ext (congrArg (fun q : Res => pI (pA (cellAt q 0 5))) e) (congrArg (fun q : Res => pI (pA (cellAt q 0 6))) e))))))
abbrev Z2p  : (ZE × Zl) → Res → Prop := fun r q => ∃ (ex : List Row), q = ((.p (.tup [(.agg (Z1k r.1 .sh .sh)), (.agg (Z1O r.2))])), ex)
theorem Zbs  : ∀ a b q, Z2p  a q → Z2p  b q → a = b := by
 rintro a b q ⟨_, e1⟩ ⟨_, e2⟩
 have e := e1.symm.trans e2
 exact Prod.ext (Z9n (congrArg (fun q : Res => pC ((pT (pA q.1)).getD 0 .junk)) e)) (Z7s (congrArg (fun q : Res => pC ((pT (pA q.1)).getD 1 .junk)) e))
abbrev Z6Q  : (Int) → Res → Prop := fun r q => ∃ (ex : List Row), q = ((iv r), ex)
theorem ZeI  : ∀ a b q, Z6Q  a q → Z6Q  b q → a = b := by
 rintro a b q ⟨_, e1⟩ ⟨_, e2⟩
 have e := e1.symm.trans e2
 exact congrArg (fun q : Res => pI (pA q.1)) e
abbrev Z4n  : (Int) → Res → Prop := fun r q => ∃ (ex : List Row), q = ((iv r), ex)
theorem Zem  : ∀ a b q, Z4n  a q → Z4n  b q → a = b := by
 rintro a b q ⟨_, e1⟩ ⟨_, e2⟩
 have e := e1.symm.trans e2
 exact congrArg (fun q : Res => pI (pA q.1)) e
abbrev Z6w  : (Int) → Res → Prop := fun r q => ∃ (ex : List Row), q = ((iv r), ex)
theorem Zf5  : ∀ a b q, Z6w  a q → Z6w  b q → a = b := by
 rintro a b q ⟨_, e1⟩ ⟨_, e2⟩
 have e := e1.symm.trans e2
 exact congrArg (fun q : Res => pI (pA q.1)) e
abbrev Z28  : (Int × Int) → Res → Prop := fun r q => ∃ (ex : List Row), q = ((.p (.tup [(.v (.int .i64 r.1)), (.v (.int .i64 r.2))])), ex)
theorem Z9a  : ∀ a b q, Z28  a q → Z28  b q → a = b := by
 rintro a b q ⟨_, e1⟩ ⟨_, e2⟩
 have e := e1.symm.trans e2
 exact Prod.ext (congrArg (fun q : Res => pI ((pT (pA q.1)).getD 0 .junk)) e) (congrArg (fun q : Res => pI ((pT (pA q.1)).getD 1 .junk)) e)
abbrev Z3l  : (Int) → Res → Prop := fun r q => ∃ (ex : List Row), q = ((iv r), ex)
theorem Zce  : ∀ a b q, Z3l  a q → Z3l  b q → a = b := by
 rintro a b q ⟨_, e1⟩ ⟨_, e2⟩
 have e := e1.symm.trans e2
 exact congrArg (fun q : Res => pI (pA q.1)) e
abbrev Z5G  : (Bool) → Res → Prop := fun r q => ∃ (ex : List Row), q = ((bv r), ex)
theorem ZcN  : ∀ a b q, Z5G  a q → Z5G  b q → a = b := by
 rintro a b q ⟨_, e1⟩ ⟨_, e2⟩
 have e := e1.symm.trans e2
 exact congrArg (fun q : Res => pB (pA q.1)) e
abbrev Z1v  : (Int) → Res → Prop := fun r q => ∃ (ex : List Row), q = ((iv r), ex)
theorem Z6x  : ∀ a b q, Z1v  a q → Z1v  b q → a = b := by
 rintro a b q ⟨_, e1⟩ ⟨_, e2⟩
 have e := e1.symm.trans e2
 exact congrArg (fun q : Res => pI (pA q.1)) e
abbrev Z2Y  : (Bool) → Res → Prop := fun r q => ∃ (ex : List Row), q = ((bv r), ex)
theorem Z8T  : ∀ a b q, Z2Y  a q → Z2Y  b q → a = b := by
 rintro a b q ⟨_, e1⟩ ⟨_, e2⟩
 have e := e1.symm.trans e2
 exact congrArg (fun q : Res => pB (pA q.1)) e
abbrev Z4e  : (Bool) → Res → Prop := fun r q => ∃ (ex : List Row), q = ((bv r), ex)
theorem Zdv  : ∀ a b q, Z4e  a q → Z4e  b q → a = b := by
 rintro a b q ⟨_, e1⟩ ⟨_, e2⟩
 have e := e1.symm.trans e2
 exact congrArg (fun q : Res => pB (pA q.1)) e
abbrev Z6j  : (Int) → Res → Prop := fun r q => ∃ (ex : List Row), q = ((iv r), ex)
theorem Zel  : ∀ a b q, Z6j  a q → Z6j  b q → a = b := by
 rintro a b q ⟨_, e1⟩ ⟨_, e2⟩
 have e := e1.symm.trans e2
 exact congrArg (fun q : Res => pI (pA q.1)) e
abbrev Z4k  : (Bool) → Res → Prop := fun r q => ∃ (ex : List Row), q = ((bv r), ex)
theorem ZaR  : ∀ a b q, Z4k  a q → Z4k  b q → a = b := by
 rintro a b q ⟨_, e1⟩ ⟨_, e2⟩
 have e := e1.symm.trans e2
 exact congrArg (fun q : Res => pB (pA q.1)) e
abbrev Z1u  : (Bool) → Res → Prop := fun r q => ∃ (ex : List Row), q = ((bv r), ex)
theorem Z9Y  : ∀ a b q, Z1u  a q → Z1u  b q → a = b := by
 rintro a b q ⟨_, e1⟩ ⟨_, e2⟩
 have e := e1.symm.trans e2
 exact congrArg (fun q : Res => pB (pA q.1)) e
noncomputable def Z5T (x0 : ByteArray) (x1 : ByteArray) : Option (Bool) := pick fun r => RRun (Z1u) (EE 13 [(.p (.v (.string x0))), (.p (.v (.string x1)))] []) r
theorem Z9C (x0 : ByteArray) (x1 : ByteArray) : Sim (Z1u) (Z5T x0 x1) (EE 13 [(.p (.v (.string x0))), (.p (.v (.string x1)))] []) := fun _ h => pick_to h
noncomputable def Z5j  : Option (Bool) := pick fun r => RRun (Z4k) (EE 23 [] []) r
theorem ZaB  : Sim (Z4k) (Z5j) (EE 23 [] []) := fun _ h => pick_to h
noncomputable def Z52 (x0 : ByteArray) : Option (ZE × Zl) := pick fun r => RRun (Z2p) (EE 16 [(.p (.v (.string x0)))] []) r
theorem Z62 (x0 : ByteArray) : Sim (Z2p) (Z52 x0) (EE 16 [(.p (.v (.string x0)))] []) := fun _ h => pick_to h
noncomputable def Z18 (x1 : ByteArray) (zn : List Int) (zu : Int) : Option (Bool × Int) := pick fun r => ∀ (z7 : Int) (zh : Int) (zj : List Zv) (z2 : Int) (z6 : Int) (zp : Own) (zd : Own) (zy : okApp zd = true), RRun (Z3v zn z7 zh zj z2 z6 zp zd) (EE 27 [(.ptr 0 0), (.p (.v (.string x1)))] [(Zk (Zm.mk zn zu z7 zh zj (Zl.mk z2 z6)) zp zd)]) r
theorem Z1d (x1 : ByteArray) (zn : List Int) (zu : Int) (z7 : Int) (zh : Int) (zj : List Zv) (z2 : Int) (z6 : Int) (zp : Own) (zd : Own) (zy : okApp zd = true) : Sim (Z3v zn z7 zh zj z2 z6 zp zd) (Z18 x1 zn zu) (EE 27 [(.ptr 0 0), (.p (.v (.string x1)))] [(Zk (Zm.mk zn zu z7 zh zj (Zl.mk z2 z6)) zp zd)]) := fun _ h => pick_to h z7 zh zj z2 z6 zp zd zy
noncomputable def Z30 (zn : List Int) (zu : Int) (z7 : Int) (zh : Int) (zj : List Zv) (z2 : Int) (z6 : Int) : Option (Z3 × Int × Int × Int × (List Zv) × Int × Int) := pick fun r => ∀ (zp : Own) (zd : Own) (zy : okApp zd = true), RRun (Z2w zn zp) (EE 28 [(.ptr 0 0)] [(Zk (Zm.mk zn zu z7 zh zj (Zl.mk z2 z6)) zp zd)]) r
theorem Z90 (zn : List Int) (zu : Int) (z7 : Int) (zh : Int) (zj : List Zv) (z2 : Int) (z6 : Int) (zp : Own) (zd : Own) (zy : okApp zd = true) : Sim (Z2w zn zp) (Z30 zn zu z7 zh zj z2 z6) (EE 28 [(.ptr 0 0)] [(Zk (Zm.mk zn zu z7 zh zj (Zl.mk z2 z6)) zp zd)]) := fun _ h => pick_to h zp zd zy
noncomputable def Z4s (zn : List Int) (zu : Int) (z7 : Int) (zh : Int) (zj : List Zv) (z2 : Int) (z6 : Int) : Option (Z3 × Int × Int × Int × (List Zv) × Int × Int) := pick fun r => ∀ (zp : Own) (zd : Own) (zy : okApp zd = true), RRun (Z2k zn zp) (EE 35 [(.ptr 0 0)] [(Zk (Zm.mk zn zu z7 zh zj (Zl.mk z2 z6)) zp zd)]) r
theorem Z8V (zn : List Int) (zu : Int) (z7 : Int) (zh : Int) (zj : List Zv) (z2 : Int) (z6 : Int) (zp : Own) (zd : Own) (zy : okApp zd = true) : Sim (Z2k zn zp) (Z4s zn zu z7 zh zj z2 z6) (EE 35 [(.ptr 0 0)] [(Zk (Zm.mk zn zu z7 zh zj (Zl.mk z2 z6)) zp zd)]) := fun _ h => pick_to h zp zd zy
noncomputable def Z3H (x3 : List Z3) (zn : List Int) (zu : Int) (z7 : Int) (zh : Int) (zj : List Zv) (z2 : Int) (z6 : Int) : Option (Z3 × Int × Int × Int × (List Zv) × Int × Int) := pick fun r => ∀ (b1 : Z3) (ox3 : Own) (zp : Own) (zd : Own) (zD : Own) (zB : Own) (hox3 : okApp ox3 = true) (zy : okApp zd = true) (zR : okApp zD = true) (zL : okApp zB = true), RRun (Z2k zn zp) (Zcp 1 (.ptr 0 0) (.ptr 1 0) (.p (.lst ox3 (x3.map ZG))) [(Zk (Zm.mk zn zu z7 zh zj (Zl.mk z2 z6)) zp zd), (Zq b1 zD zB)]) r
theorem Z7x (x3 : List Z3) (zn : List Int) (zu : Int) (z7 : Int) (zh : Int) (zj : List Zv) (z2 : Int) (z6 : Int) (b1 : Z3) (ox3 : Own) (zp : Own) (zd : Own) (zD : Own) (zB : Own) (hox3 : okApp ox3 = true) (zy : okApp zd = true) (zR : okApp zD = true) (zL : okApp zB = true) : Sim (Z2k zn zp) (Z3H x3 zn zu z7 zh zj z2 z6) (Zcp 1 (.ptr 0 0) (.ptr 1 0) (.p (.lst ox3 (x3.map ZG))) [(Zk (Zm.mk zn zu z7 zh zj (Zl.mk z2 z6)) zp zd), (Zq b1 zD zB)]) := fun _ h => pick_to h b1 ox3 zp zd zD zB hox3 zy zR zL
noncomputable def Z1J (b0 : Zm) : Option (Int) := pick fun r => ∀ (zp : Own) (zd : Own) (zy : okApp zd = true), RRun (Z4h b0 zp zd) (EE 41 [(.ptr 0 0)] [(Zk b0 zp zd)]) r
theorem Z1P (b0 : Zm) (zp : Own) (zd : Own) (zy : okApp zd = true) : Sim (Z4h b0 zp zd) (Z1J b0) (EE 41 [(.ptr 0 0)] [(Zk b0 zp zd)]) := fun _ h => pick_to h zp zd zy
noncomputable def Z8q (x0 : List Int) (x1 : Int) : Option (Int × Int) := pick fun r => ∀ (ox0 : Own), RRun (Z5m) (EE 45 [(.p (.lst ox0 (x0.map (eI .u8)))), (iv x1)] []) r
theorem ZbZ (x0 : List Int) (x1 : Int) (ox0 : Own) : Sim (Z5m) (Z8q x0 x1) (EE 45 [(.p (.lst ox0 (x0.map (eI .u8)))), (iv x1)] []) := fun _ h => pick_to h ox0
noncomputable def Z5O (x0 : List Int) : Option (Int × Int) := pick fun r => ∀ (ox0 : Own), RRun (Z4I) (EE 53 [(.p (.lst ox0 (x0.map (eI .u8))))] []) r
theorem Z9M (x0 : List Int) (ox0 : Own) : Sim (Z4I) (Z5O x0) (EE 53 [(.p (.lst ox0 (x0.map (eI .u8))))] []) := fun _ h => pick_to h ox0
noncomputable def Z6U (x0 : Int) (x1 : List Z3) : Option (Z3) := pick fun r => ∀ (ox1 : Own), RRun (Z5X) (EE 36 [(iv x0), (.p (.lst ox1 (x1.map ZG)))] []) r
theorem Zai (x0 : Int) (x1 : List Z3) (ox1 : Own) : Sim (Z5X) (Z6U x0 x1) (EE 36 [(iv x0), (.p (.lst ox1 (x1.map ZG)))] []) := fun _ h => pick_to h ox1
noncomputable def Z6f (zn : List Int) (zu : Int) (z7 : Int) (zh : Int) (zj : List Zv) (z2 : Int) (z6 : Int) : Option (Z3 × Bool × Int × Int × Int × (List Zv) × Int × Int) := pick fun r => ∀ (zp : Own) (zd : Own) (zy : okApp zd = true), RRun (Z4f zn zp) (EE 42 [(.ptr 0 0)] [(Zk (Zm.mk zn zu z7 zh zj (Zl.mk z2 z6)) zp zd)]) r
theorem ZbG (zn : List Int) (zu : Int) (z7 : Int) (zh : Int) (zj : List Zv) (z2 : Int) (z6 : Int) (zp : Own) (zd : Own) (zy : okApp zd = true) : Sim (Z4f zn zp) (Z6f zn zu z7 zh zj z2 z6) (EE 42 [(.ptr 0 0)] [(Zk (Zm.mk zn zu z7 zh zj (Zl.mk z2 z6)) zp zd)]) := fun _ h => pick_to h zp zd zy
noncomputable def Z2b (zn : List Int) (zu : Int) : Option (Int × Int) := pick fun r => ∀ (z7 : Int) (zh : Int) (zj : List Zv) (z2 : Int) (z6 : Int) (zp : Own) (zd : Own) (zy : okApp zd = true), RRun (Z56 zn z7 zh zj z2 z6 zp zd) (EE 46 [(.ptr 0 0)] [(Zk (Zm.mk zn zu z7 zh zj (Zl.mk z2 z6)) zp zd)]) r
theorem Z2z (zn : List Int) (zu : Int) (z7 : Int) (zh : Int) (zj : List Zv) (z2 : Int) (z6 : Int) (zp : Own) (zd : Own) (zy : okApp zd = true) : Sim (Z56 zn z7 zh zj z2 z6 zp zd) (Z2b zn zu) (EE 46 [(.ptr 0 0)] [(Zk (Zm.mk zn zu z7 zh zj (Zl.mk z2 z6)) zp zd)]) := fun _ h => pick_to h z7 zh zj z2 z6 zp zd zy
noncomputable def Z1C (x0 : Int) : Option (Z8) := pick fun r => RRun (Z8s) (EE 48 [(iv x0)] []) r
theorem Z1x (x0 : Int) : Sim (Z8s) (Z1C x0) (EE 48 [(iv x0)] []) := fun _ h => pick_to h
noncomputable def Z2M (x0 : Bool) (x1 : List Z8) : Option (Z3) := pick fun r => ∀ (ox1 : Own), RRun (Z7b) (EE 47 [(bv x0), (.p (.lst ox1 (x1.map Zz)))] []) r
theorem Z2W (x0 : Bool) (x1 : List Z8) (ox1 : Own) : Sim (Z7b) (Z2M x0 x1) (EE 47 [(bv x0), (.p (.lst ox1 (x1.map Zz)))] []) := fun _ h => pick_to h ox1
noncomputable def Z9f (x0 : List Z8) : Option ((List Z8) × Int) := pick fun r => ∀ (ox0 : Own), RRun (Z6V) (EE 54 [(.p (.lst ox0 (x0.map Zz)))] []) r
theorem Ze0 (x0 : List Z8) (ox0 : Own) : Sim (Z6V) (Z9f x0) (EE 54 [(.p (.lst ox0 (x0.map Zz)))] []) := fun _ h => pick_to h ox0
noncomputable def Z3m (x0 : List Z8) : Option (Bool) := pick fun r => ∀ (ox0 : Own), RRun (Z2P) (EE 65 [(.p (.lst ox0 (x0.map Zz))), (.clo 66 [] [])] []) r
theorem Z8c (x0 : List Z8) (ox0 : Own) : Sim (Z2P) (Z3m x0) (EE 65 [(.p (.lst ox0 (x0.map Zz))), (.clo 66 [] [])] []) := fun _ h => pick_to h ox0
noncomputable def Z3W (x0 : List Z8) : Option (Int) := pick fun r => ∀ (ox0 : Own), RRun (Z1s) (EE 73 [(.p (.lst ox0 (x0.map Zz))), (.clo 66 [] [])] []) r
theorem Z99 (x0 : List Z8) (ox0 : Own) : Sim (Z1s) (Z3W x0) (EE 73 [(.p (.lst ox0 (x0.map Zz))), (.clo 66 [] [])] []) := fun _ h => pick_to h ox0
noncomputable def Z2T (x0 : List Z8) (x7 : Int) (x8 : Int) : Option (Int) := pick fun r => ∀ (ox0 : Own), RRun (Z1s) (ZbX 0 (.p (.lst ox0 (x0.map Zz))) (.clo 66 [] []) (iv x7) (iv x8) []) r
theorem Z5J (x0 : List Z8) (x7 : Int) (x8 : Int) (ox0 : Own) : Sim (Z1s) (Z2T x0 x7 x8) (ZbX 0 (.p (.lst ox0 (x0.map Zz))) (.clo 66 [] []) (iv x7) (iv x8) []) := fun _ h => pick_to h ox0
noncomputable def Z7R (x0 : Z8) : Option (Bool) := pick fun r => RRun (Z6I) (EE 66 [(.p (.agg (ZH x0)))] []) r
theorem ZdD (x0 : Z8) : Sim (Z6I) (Z7R x0) (EE 66 [(.p (.agg (ZH x0)))] []) := fun _ h => pick_to h
noncomputable def Z54 (x0 : Z8) : Option (Bool) := pick fun r => RRun (Z57) (EE 67 [(.p (.agg (ZH x0)))] []) r
theorem Z8w (x0 : Z8) : Sim (Z57) (Z54 x0) (EE 67 [(.p (.agg (ZH x0)))] []) := fun _ h => pick_to h
noncomputable def Z7T (x0 : List Z8) : Option ((List Z8)) := pick fun r => ∀ (ox0 : Own), RRun (Z7O) (EE 68 [(.p (.lst ox0 (x0.map Zz)))] []) r
theorem Zah (x0 : List Z8) (ox0 : Own) : Sim (Z7O) (Z7T x0) (EE 68 [(.p (.lst ox0 (x0.map Zz)))] []) := fun _ h => pick_to h ox0
noncomputable def Z6o (x0 : List Z8) : Option ((List Z8) × Int) := pick fun r => ∀ (ox0 : Own), RRun (Z5w) (EE 55 [(.p (.lst ox0 (x0.map Zz)))] []) r
theorem Za0 (x0 : List Z8) (ox0 : Own) : Sim (Z5w) (Z6o x0) (EE 55 [(.p (.lst ox0 (x0.map Zz)))] []) := fun _ h => pick_to h ox0
noncomputable def Z4y (x0 : List Z8) : Option (Bool) := pick fun r => ∀ (ox0 : Own), RRun (Z1X) (EE 69 [(.p (.lst ox0 (x0.map Zz)))] []) r
theorem Z6O (x0 : List Z8) (ox0 : Own) : Sim (Z1X) (Z4y x0) (EE 69 [(.p (.lst ox0 (x0.map Zz)))] []) := fun _ h => pick_to h ox0
noncomputable def Z4t (x3 : Int) (x6 : List Z8) (x7 : Int) (x8 : Int) : Option (Bool) := pick fun r => ∀ (ox6 : Own), RRun (Z1X) (Zcl 0 (iv x3) (.p (.lst ox6 (x6.map Zz))) (iv x7) (iv x8) []) r
theorem Z7G (x3 : Int) (x6 : List Z8) (x7 : Int) (x8 : Int) (ox6 : Own) : Sim (Z1X) (Z4t x3 x6 x7 x8) (Zcl 0 (iv x3) (.p (.lst ox6 (x6.map Zz))) (iv x7) (iv x8) []) := fun _ h => pick_to h ox6
noncomputable def Z7l (x0 : List Z8) : Option ((List Z8)) := pick fun r => ∀ (ox0 : Own), RRun (Z2n) (EE 70 [(.p (.lst ox0 (x0.map Zz)))] []) r
theorem ZcW (x0 : List Z8) (ox0 : Own) : Sim (Z2n) (Z7l x0) (EE 70 [(.p (.lst ox0 (x0.map Zz)))] []) := fun _ h => pick_to h ox0
noncomputable def Z5t (x3 : List Z8) (x4 : Int) (x7 : List Z8) (x8 : Int) (x9 : Int) : Option ((List Z8)) := pick fun r => ∀ (ox3 : Own) (ox7 : Own) (hox3 : okApp ox3 = true), RRun (Z2n) (Zc6 0 (.p (.lst ox3 (x3.map Zz))) (iv x4) (.p (.lst ox7 (x7.map Zz))) (iv x8) (iv x9) []) r
theorem Z8W (x3 : List Z8) (x4 : Int) (x7 : List Z8) (x8 : Int) (x9 : Int) (ox3 : Own) (ox7 : Own) (hox3 : okApp ox3 = true) : Sim (Z2n) (Z5t x3 x4 x7 x8 x9) (Zc6 0 (.p (.lst ox3 (x3.map Zz))) (iv x4) (.p (.lst ox7 (x7.map Zz))) (iv x8) (iv x9) []) := fun _ h => pick_to h ox3 ox7 hox3
noncomputable def Z3c (x1 : Int) (zn : List Int) (zu : Int) (z7 : Int) (zh : Int) (zj : List Zv) (z2 : Int) (z6 : Int) : Option (Z3 × Int × (List Zv) × Int × Int) := pick fun r => ∀ (zp : Own) (zd : Own) (zy : okApp zd = true), RRun (Z2J zn z7 zh zp) (EE 49 [(.ptr 0 0), (iv x1)] [(Zk (Zm.mk zn zu z7 zh zj (Zl.mk z2 z6)) zp zd)]) r
theorem ZaY (x1 : Int) (zn : List Int) (zu : Int) (z7 : Int) (zh : Int) (zj : List Zv) (z2 : Int) (z6 : Int) (zp : Own) (zd : Own) (zy : okApp zd = true) : Sim (Z2J zn z7 zh zp) (Z3c x1 zn zu z7 zh zj z2 z6) (EE 49 [(.ptr 0 0), (iv x1)] [(Zk (Zm.mk zn zu z7 zh zj (Zl.mk z2 z6)) zp zd)]) := fun _ h => pick_to h zp zd zy
noncomputable def ZU (x1 : Int) (x2 : Int) (zn : List Int) (z2 : Int) (z6 : Int) : Option (Int × Int × Int) := pick fun r => ∀ (zu : Int) (z7 : Int) (zh : Int) (zj : List Zv) (zp : Own) (zd : Own) (zy : okApp zd = true), RRun (Z4g zn z7 zh zj zp zd) (EE 29 [(.ptr 0 0), (iv x1), (iv x2)] [(Zk (Zm.mk zn zu z7 zh zj (Zl.mk z2 z6)) zp zd)]) r
theorem ZX (x1 : Int) (x2 : Int) (zn : List Int) (zu : Int) (z7 : Int) (zh : Int) (zj : List Zv) (z2 : Int) (z6 : Int) (zp : Own) (zd : Own) (zy : okApp zd = true) : Sim (Z4g zn z7 zh zj zp zd) (ZU x1 x2 zn z2 z6) (EE 29 [(.ptr 0 0), (iv x1), (iv x2)] [(Zk (Zm.mk zn zu z7 zh zj (Zl.mk z2 z6)) zp zd)]) := fun _ h => pick_to h zu z7 zh zj zp zd zy
noncomputable def Z4X (x0 : Int) : Option ((Own × (List Z8))) := pick fun r => RRun (Z51) (EE 56 [(iv x0)] []) r
theorem Z6Y (x0 : Int) : Sim (Z51) (Z4X x0) (EE 56 [(iv x0)] []) := fun _ h => pick_to h
noncomputable def Z4Q (x1 : Int) (x2 : Int) (zn : List Int) (zu : Int) (z7 : Int) (zh : Int) (zj : List Zv) (z2 : Int) (z6 : Int) : Option (Int × Int × Int × Int) := pick fun r => ∀ (zp : Own) (zd : Own) (zy : okApp zd = true), RRun (Z3j zn z7 zh zj zp zd) (EE 57 [(.ptr 0 0), (iv x1), (iv x2)] [(Zk (Zm.mk zn zu z7 zh zj (Zl.mk z2 z6)) zp zd)]) r
theorem Z8a (x1 : Int) (x2 : Int) (zn : List Int) (zu : Int) (z7 : Int) (zh : Int) (zj : List Zv) (z2 : Int) (z6 : Int) (zp : Own) (zd : Own) (zy : okApp zd = true) : Sim (Z3j zn z7 zh zj zp zd) (Z4Q x1 x2 zn zu z7 zh zj z2 z6) (EE 57 [(.ptr 0 0), (iv x1), (iv x2)] [(Zk (Zm.mk zn zu z7 zh zj (Zl.mk z2 z6)) zp zd)]) := fun _ h => pick_to h zp zd zy
noncomputable def Z8y (x0 : Int) : Option (Int) := pick fun r => RRun (Z5i) (EE 71 [(iv x0)] []) r
theorem Zc9 (x0 : Int) : Sim (Z5i) (Z8y x0) (EE 71 [(iv x0)] []) := fun _ h => pick_to h
noncomputable def Z6u (x0 : List Z8) (x1 : Int) : Option (Bool) := pick fun r => ∀ (ox0 : Own), RRun (Z6t) (EE 19 [(.p (.lst ox0 (x0.map Zz))), (iv x1)] []) r
theorem Zdb (x0 : List Z8) (x1 : Int) (ox0 : Own) : Sim (Z6t) (Z6u x0 x1) (EE 19 [(.p (.lst ox0 (x0.map Zz))), (iv x1)] []) := fun _ h => pick_to h ox0
noncomputable def Z3q (x0 : List Z8) (z11 : Int) : Option (Bool) := pick fun r => ∀ (ox0 : Own), RRun (Z2O z11) (EE 30 [(.p (.lst ox0 (x0.map Zz))), (.clo 31 [] [(.ptr 0 0)])] [[(iv z11)]]) r
theorem Z8i (x0 : List Z8) (z11 : Int) (ox0 : Own) : Sim (Z2O z11) (Z3q x0 z11) (EE 30 [(.p (.lst ox0 (x0.map Zz))), (.clo 31 [] [(.ptr 0 0)])] [[(iv z11)]]) := fun _ h => pick_to h ox0
noncomputable def Z3Y (x0 : List Z8) (z11 : Int) : Option (Int) := pick fun r => ∀ (ox0 : Own), RRun (Z1t z11) (EE 37 [(.p (.lst ox0 (x0.map Zz))), (.clo 31 [] [(.ptr 0 0)])] [[(iv z11)]]) r
theorem Z97 (x0 : List Z8) (z11 : Int) (ox0 : Own) : Sim (Z1t z11) (Z3Y x0 z11) (EE 37 [(.p (.lst ox0 (x0.map Zz))), (.clo 31 [] [(.ptr 0 0)])] [[(iv z11)]]) := fun _ h => pick_to h ox0
noncomputable def Z2Q (x0 : List Z8) (x7 : Int) (x8 : Int) (z11 : Int) : Option (Int) := pick fun r => ∀ (ox0 : Own), RRun (Z1t z11) (ZbN 1 (.p (.lst ox0 (x0.map Zz))) (.clo 31 [] [(.ptr 0 0)]) (iv x7) (iv x8) [[(iv z11)]]) r
theorem Z5F (x0 : List Z8) (x7 : Int) (x8 : Int) (z11 : Int) (ox0 : Own) : Sim (Z1t z11) (Z2Q x0 x7 x8 z11) (ZbN 1 (.p (.lst ox0 (x0.map Zz))) (.clo 31 [] [(.ptr 0 0)]) (iv x7) (iv x8) [[(iv z11)]]) := fun _ h => pick_to h ox0
noncomputable def Z6F (x0 : Z8) (z11 : Int) : Option (Bool) := pick fun r => RRun (Z5K z11) (EE 31 [(.p (.agg (ZH x0))), (.ptr 0 0)] [[(iv z11)]]) r
theorem ZcH (x0 : Z8) (z11 : Int) : Sim (Z5K z11) (Z6F x0 z11) (EE 31 [(.p (.agg (ZH x0))), (.ptr 0 0)] [[(iv z11)]]) := fun _ h => pick_to h
noncomputable def Z5R (x1 : Int) (zn : List Int) (zu : Int) (z7 : Int) (zh : Int) (zj : List Zv) (z2 : Int) (z6 : Int) : Option (Z3 × Int × Int × Int) := pick fun r => ∀ (zp : Own) (zd : Own) (zy : okApp zd = true), RRun (Z1b zn z7 zh zj zp zd) (EE 50 [(.ptr 0 0), (iv x1)] [(Zk (Zm.mk zn zu z7 zh zj (Zl.mk z2 z6)) zp zd)]) r
theorem Zba (x1 : Int) (zn : List Int) (zu : Int) (z7 : Int) (zh : Int) (zj : List Zv) (z2 : Int) (z6 : Int) (zp : Own) (zd : Own) (zy : okApp zd = true) : Sim (Z1b zn z7 zh zj zp zd) (Z5R x1 zn zu z7 zh zj z2 z6) (EE 50 [(.ptr 0 0), (iv x1)] [(Zk (Zm.mk zn zu z7 zh zj (Zl.mk z2 z6)) zp zd)]) := fun _ h => pick_to h zp zd zy
noncomputable def Z2U (x1 : Int) (x5 : Bool) (x8 : Int) (zn : List Int) (zu : Int) (z7 : Int) (zh : Int) (zj : List Zv) (z2 : Int) (z6 : Int) (z13 : List Z8) : Option (Z3 × Int × Int × Int) := pick fun r => ∀ (b1 : Z3) (zp : Own) (zd : Own) (zD : Own) (zB : Own) (z1h : Own) (zy : okApp zd = true) (zR : okApp zD = true) (zL : okApp zB = true), RRun (Z1b zn z7 zh zj zp zd) (Zc2 1 (.ptr 0 0) (iv x1) (.ptr 1 0) (bv x5) (.ptr 2 0) (.clo 58 [] [(.ptr 2 0)]) (iv x8) [(Zk (Zm.mk zn zu z7 zh zj (Zl.mk z2 z6)) zp zd), (Zq b1 zD zB), [(.p (.lst z1h (z13.map Zz)))]]) r
theorem Z79 (x1 : Int) (x5 : Bool) (x8 : Int) (zn : List Int) (zu : Int) (z7 : Int) (zh : Int) (zj : List Zv) (z2 : Int) (z6 : Int) (b1 : Z3) (z13 : List Z8) (zp : Own) (zd : Own) (zD : Own) (zB : Own) (z1h : Own) (zy : okApp zd = true) (zR : okApp zD = true) (zL : okApp zB = true) : Sim (Z1b zn z7 zh zj zp zd) (Z2U x1 x5 x8 zn zu z7 zh zj z2 z6 z13) (Zc2 1 (.ptr 0 0) (iv x1) (.ptr 1 0) (bv x5) (.ptr 2 0) (.clo 58 [] [(.ptr 2 0)]) (iv x8) [(Zk (Zm.mk zn zu z7 zh zj (Zl.mk z2 z6)) zp zd), (Zq b1 zD zB), [(.p (.lst z1h (z13.map Zz)))]]) := fun _ h => pick_to h b1 zp zd zD zB z1h zy zR zL
noncomputable def Z3G (zn : List Int) (zu : Int) (z7 : Int) (zh : Int) (zj : List Zv) (z2 : Int) (z6 : Int) : Option (Int × (Own × (List Z8)) × Bool × Int × Int × Int) := pick fun r => ∀ (zp : Own) (zd : Own) (zy : okApp zd = true), RRun (Z2K zn z7 zh zj zp zd) (EE 60 [(.ptr 0 0)] [(Zk (Zm.mk zn zu z7 zh zj (Zl.mk z2 z6)) zp zd)]) r
theorem Z7E (zn : List Int) (zu : Int) (z7 : Int) (zh : Int) (zj : List Zv) (z2 : Int) (z6 : Int) (zp : Own) (zd : Own) (zy : okApp zd = true) : Sim (Z2K zn z7 zh zj zp zd) (Z3G zn zu z7 zh zj z2 z6) (EE 60 [(.ptr 0 0)] [(Zk (Zm.mk zn zu z7 zh zj (Zl.mk z2 z6)) zp zd)]) := fun _ h => pick_to h zp zd zy
noncomputable def Z4j (x0 : List Z8) (z11 : List Z8) : Option ((List Z8)) := pick fun r => ∀ (ox0 : Own) (z9O : Own), RRun (Z4l) (EE 58 [(.p (.lst ox0 (x0.map Zz))), (.ptr 0 0)] [[(.p (.lst z9O (z11.map Zz)))]]) r
theorem Z7i (x0 : List Z8) (z11 : List Z8) (ox0 : Own) (z9O : Own) : Sim (Z4l) (Z4j x0 z11) (EE 58 [(.p (.lst ox0 (x0.map Zz))), (.ptr 0 0)] [[(.p (.lst z9O (z11.map Zz)))]]) := fun _ h => pick_to h ox0 z9O
noncomputable def Z87 (x0 : List Z8) (x1 : List Z8) : Option ((List Z8) × Int) := pick fun r => ∀ (ox0 : Own) (ox1 : Own), RRun (Z59) (EE 59 [(.p (.lst ox0 (x0.map Zz))), (.p (.lst ox1 (x1.map Zz)))] []) r
theorem Zdy (x0 : List Z8) (x1 : List Z8) (ox0 : Own) (ox1 : Own) : Sim (Z59) (Z87 x0 x1) (EE 59 [(.p (.lst ox0 (x0.map Zz))), (.p (.lst ox1 (x1.map Zz)))] []) := fun _ h => pick_to h ox0 ox1
noncomputable def Z6N (x0 : List (List Z8)) : Option ((List Z8)) := pick fun r => ∀ (ox0 : Own), RRun (Z5E) (EE 72 [(.p (.lst ox0 (x0.map (eL Zz))))] []) r
theorem ZaS (x0 : List (List Z8)) (ox0 : Own) : Sim (Z5E) (Z6N x0) (EE 72 [(.p (.lst ox0 (x0.map (eL Zz))))] []) := fun _ h => pick_to h ox0
noncomputable def Z3h (x1 : Int) (zn : List Int) (zu : Int) (z7 : Int) (zh : Int) (zj : List Zv) (z2 : Int) (z6 : Int) : Option (Z3 × Bool × Int × Int × Int × (List Zv) × Int × Int) := pick fun r => ∀ (zp : Own) (zd : Own) (zy : okApp zd = true), RRun (Z2h zn zp) (EE 51 [(.ptr 0 0), (iv x1)] [(Zk (Zm.mk zn zu z7 zh zj (Zl.mk z2 z6)) zp zd)]) r
theorem Zb9 (x1 : Int) (zn : List Int) (zu : Int) (z7 : Int) (zh : Int) (zj : List Zv) (z2 : Int) (z6 : Int) (zp : Own) (zd : Own) (zy : okApp zd = true) : Sim (Z2h zn zp) (Z3h x1 zn zu z7 zh zj z2 z6) (EE 51 [(.ptr 0 0), (iv x1)] [(Zk (Zm.mk zn zu z7 zh zj (Zl.mk z2 z6)) zp zd)]) := fun _ h => pick_to h zp zd zy
noncomputable def Z8G  : Option ((List ByteArray)) := pick fun r => RRun (Z7a) (EE 62 [] []) r
theorem ZdL  : Sim (Z7a) (Z8G) (EE 62 [] []) := fun _ h => pick_to h
noncomputable def Z3M (x0 : List ByteArray) (zn : List Int) (zu : Int) : Option (Int × Int) := pick fun r => ∀ (z7 : Int) (zh : Int) (zj : List Zv) (z2 : Int) (z6 : Int) (ox0 : Own) (zp : Own) (zd : Own) (zy : okApp zd = true), RRun (Z1o zn z7 zh zj z2 z6 zp zd) (EE 61 [(.p (.lst ox0 (x0.map eS))), (.clo 27 [(.ptr 0 0)] [])] [(Zk (Zm.mk zn zu z7 zh zj (Zl.mk z2 z6)) zp zd)]) r
theorem Z8M (x0 : List ByteArray) (zn : List Int) (zu : Int) (z7 : Int) (zh : Int) (zj : List Zv) (z2 : Int) (z6 : Int) (ox0 : Own) (zp : Own) (zd : Own) (zy : okApp zd = true) : Sim (Z1o zn z7 zh zj z2 z6 zp zd) (Z3M x0 zn zu) (EE 61 [(.p (.lst ox0 (x0.map eS))), (.clo 27 [(.ptr 0 0)] [])] [(Zk (Zm.mk zn zu z7 zh zj (Zl.mk z2 z6)) zp zd)]) := fun _ h => pick_to h z7 zh zj z2 z6 ox0 zp zd zy
noncomputable def Z1y (x0 : List ByteArray) (x7 : Int) (x8 : Int) (zn : List Int) (zu : Int) : Option (Int × Int) := pick fun r => ∀ (z7 : Int) (zh : Int) (zj : List Zv) (z2 : Int) (z6 : Int) (ox0 : Own) (zp : Own) (zd : Own) (zy : okApp zd = true), RRun (Z1o zn z7 zh zj z2 z6 zp zd) (Zck 1 (.p (.lst ox0 (x0.map eS))) (.clo 27 [(.ptr 0 0)] []) (iv x7) (iv x8) [(Zk (Zm.mk zn zu z7 zh zj (Zl.mk z2 z6)) zp zd)]) r
theorem Z5z (x0 : List ByteArray) (x7 : Int) (x8 : Int) (zn : List Int) (zu : Int) (z7 : Int) (zh : Int) (zj : List Zv) (z2 : Int) (z6 : Int) (ox0 : Own) (zp : Own) (zd : Own) (zy : okApp zd = true) : Sim (Z1o zn z7 zh zj z2 z6 zp zd) (Z1y x0 x7 x8 zn zu) (Zck 1 (.p (.lst ox0 (x0.map eS))) (.clo 27 [(.ptr 0 0)] []) (iv x7) (iv x8) [(Zk (Zm.mk zn zu z7 zh zj (Zl.mk z2 z6)) zp zd)]) := fun _ h => pick_to h z7 zh zj z2 z6 ox0 zp zd zy
noncomputable def Z4C (x1 : Z3) (x2 : Bool) (zn : List Int) (zu : Int) (z7 : Int) (zh : Int) (zj : List Zv) (z2 : Int) (z6 : Int) : Option (Z3 × Int × Int × Int) := pick fun r => ∀ (z2f : Own) (z1R : Own) (zp : Own) (zd : Own) (zy : okApp zd = true), RRun (Z2I zn z7 zh zj zp zd) (EE 43 [(.ptr 0 0), (.p (.agg (ZC x1 z2f z1R))), (bv x2)] [(Zk (Zm.mk zn zu z7 zh zj (Zl.mk z2 z6)) zp zd)]) r
theorem ZaX (x1 : Z3) (x2 : Bool) (zn : List Int) (zu : Int) (z7 : Int) (zh : Int) (zj : List Zv) (z2 : Int) (z6 : Int) (z2f : Own) (z1R : Own) (zp : Own) (zd : Own) (zy : okApp zd = true) : Sim (Z2I zn z7 zh zj zp zd) (Z4C x1 x2 zn zu z7 zh zj z2 z6) (EE 43 [(.ptr 0 0), (.p (.agg (ZC x1 z2f z1R))), (bv x2)] [(Zk (Zm.mk zn zu z7 zh zj (Zl.mk z2 z6)) zp zd)]) := fun _ h => pick_to h z2f z1R zp zd zy
noncomputable def Z4x (x1 : Int) (zn : List Int) (zu : Int) (z7 : Int) (zh : Int) (zj : List Zv) (z2 : Int) (z6 : Int) : Option (Int × Int × Int × Int × Int) := pick fun r => ∀ (zp : Own) (zd : Own) (zy : okApp zd = true), RRun (Z1V zn z7 zh zj zp zd) (EE 52 [(.ptr 0 0), (iv x1)] [(Zk (Zm.mk zn zu z7 zh zj (Zl.mk z2 z6)) zp zd)]) r
theorem Zb2 (x1 : Int) (zn : List Int) (zu : Int) (z7 : Int) (zh : Int) (zj : List Zv) (z2 : Int) (z6 : Int) (zp : Own) (zd : Own) (zy : okApp zd = true) : Sim (Z1V zn z7 zh zj zp zd) (Z4x x1 zn zu z7 zh zj z2 z6) (EE 52 [(.ptr 0 0), (iv x1)] [(Zk (Zm.mk zn zu z7 zh zj (Zl.mk z2 z6)) zp zd)]) := fun _ h => pick_to h zp zd zy
noncomputable def Z3F (zn : List Int) (zu : Int) (z7 : Int) (zh : Int) (zj : List Zv) (z2 : Int) (z6 : Int) : Option (Int × Int) := pick fun r => ∀ (zp : Own) (zd : Own) (zy : okApp zd = true), RRun (Z2a zn z7 zh zj z2 z6 zp zd) (EE 63 [(.ptr 0 0)] [(Zk (Zm.mk zn zu z7 zh zj (Zl.mk z2 z6)) zp zd)]) r
theorem Z7A (zn : List Int) (zu : Int) (z7 : Int) (zh : Int) (zj : List Zv) (z2 : Int) (z6 : Int) (zp : Own) (zd : Own) (zy : okApp zd = true) : Sim (Z2a zn z7 zh zj z2 z6 zp zd) (Z3F zn zu z7 zh zj z2 z6) (EE 63 [(.ptr 0 0)] [(Zk (Zm.mk zn zu z7 zh zj (Zl.mk z2 z6)) zp zd)]) := fun _ h => pick_to h zp zd zy
noncomputable def Z2E (x3 : Int) (x4 : Int) (zn : List Int) (zu : Int) (z7 : Int) (zh : Int) (zj : List Zv) (z2 : Int) (z6 : Int) : Option (Int × Int) := pick fun r => ∀ (zp : Own) (zd : Own) (zy : okApp zd = true), RRun (Z2a zn z7 zh zj z2 z6 zp zd) (Zcm 1 (.ptr 0 0) (iv x3) (iv x4) [(Zk (Zm.mk zn zu z7 zh zj (Zl.mk z2 z6)) zp zd)]) r
theorem Z6X (x3 : Int) (x4 : Int) (zn : List Int) (zu : Int) (z7 : Int) (zh : Int) (zj : List Zv) (z2 : Int) (z6 : Int) (zp : Own) (zd : Own) (zy : okApp zd = true) : Sim (Z2a zn z7 zh zj z2 z6 zp zd) (Z2E x3 x4 zn zu z7 zh zj z2 z6) (Zcm 1 (.ptr 0 0) (iv x3) (iv x4) [(Zk (Zm.mk zn zu z7 zh zj (Zl.mk z2 z6)) zp zd)]) := fun _ h => pick_to h zp zd zy
noncomputable def Z3C (x3 : List Z3) (zn : List Int) (zu : Int) (z7 : Int) (zh : Int) (zj : List Zv) (z2 : Int) (z6 : Int) : Option (Z3 × Int × Int × Int × (List Zv) × Int × Int) := pick fun r => ∀ (b1 : Z3) (ox3 : Own) (zp : Own) (zd : Own) (zD : Own) (zB : Own) (hox3 : okApp ox3 = true) (zy : okApp zd = true) (zR : okApp zD = true) (zL : okApp zB = true), RRun (Z2w zn zp) (Zcj 1 (.ptr 0 0) (.ptr 1 0) (.p (.lst ox3 (x3.map ZG))) [(Zk (Zm.mk zn zu z7 zh zj (Zl.mk z2 z6)) zp zd), (Zq b1 zD zB)]) r
theorem Z7u (x3 : List Z3) (zn : List Int) (zu : Int) (z7 : Int) (zh : Int) (zj : List Zv) (z2 : Int) (z6 : Int) (b1 : Z3) (ox3 : Own) (zp : Own) (zd : Own) (zD : Own) (zB : Own) (hox3 : okApp ox3 = true) (zy : okApp zd = true) (zR : okApp zD = true) (zL : okApp zB = true) : Sim (Z2w zn zp) (Z3C x3 zn zu z7 zh zj z2 z6) (Zcj 1 (.ptr 0 0) (.ptr 1 0) (.p (.lst ox3 (x3.map ZG))) [(Zk (Zm.mk zn zu z7 zh zj (Zl.mk z2 z6)) zp zd), (Zq b1 zD zB)]) := fun _ h => pick_to h b1 ox3 zp zd zD zB hox3 zy zR zL
noncomputable def Z5g (x50 : List Zv) (x51 : Int) (x52 : Int) (z20 : List Int) (zS : Int) (zK : Int) (zT : Int) (zM : Int) (zV : Int) (zW : Int) (zN : Int) (zQ : Int) (zP : List Z8) (zO : List Z3) (z15 : Bool) : Option (ZE × Zl) := pick fun r => ∀ (b0 : ZE) (b1 : Zl) (z1Q : Int) (z1D : Int) (z1j : List Zv) (z1w : Int) (ox50 : Own) (zJ : Own) (zI : Own) (z2o : Own) (z1a : Own) (z12 : Own) (zZ : Own) (z1A : okApp zJ = true) (z1r : okApp zI = true) (z2v : okApp z1a = true), RRun (Z2p) (ZbW 0 (.ptr 0 0) (.ptr 1 0) (.ptr 2 0) (.ptr 3 0) (.p (.lst ox50 (x50.map Z1G))) (iv x51) (iv x52) [(ZA b0 zJ zI), (ZF b1), (Zk (Zm.mk z20 z1Q zS z1D z1j (Zl.mk zK zT)) z2o z1a), (ZA (ZE.mk (Z3.mk zM zV zW zN zQ zP zO) z1w z15) z12 zZ)]) r
theorem Z9t (x50 : List Zv) (x51 : Int) (x52 : Int) (b0 : ZE) (b1 : Zl) (z20 : List Int) (z1Q : Int) (zS : Int) (z1D : Int) (z1j : List Zv) (zK : Int) (zT : Int) (zM : Int) (zV : Int) (zW : Int) (zN : Int) (zQ : Int) (zP : List Z8) (zO : List Z3) (z1w : Int) (z15 : Bool) (ox50 : Own) (zJ : Own) (zI : Own) (z2o : Own) (z1a : Own) (z12 : Own) (zZ : Own) (z1A : okApp zJ = true) (z1r : okApp zI = true) (z2v : okApp z1a = true) : Sim (Z2p) (Z5g x50 x51 x52 z20 zS zK zT zM zV zW zN zQ zP zO z15) (ZbW 0 (.ptr 0 0) (.ptr 1 0) (.ptr 2 0) (.ptr 3 0) (.p (.lst ox50 (x50.map Z1G))) (iv x51) (iv x52) [(ZA b0 zJ zI), (ZF b1), (Zk (Zm.mk z20 z1Q zS z1D z1j (Zl.mk zK zT)) z2o z1a), (ZA (ZE.mk (Z3.mk zM zV zW zN zQ zP zO) z1w z15) z12 zZ)]) := fun _ h => pick_to h b0 b1 z1Q z1D z1j z1w ox50 zJ zI z2o z1a z12 zZ z1A z1r z2v
noncomputable def Z1n (x0 : Z3) : Option (Int × Int) := pick fun r => ∀ (z1e : Own) (z10 : Own), RRun (Z28) (EE 24 [(.p (.agg (ZC x0 z1e z10)))] []) r
theorem Z32 (x0 : Z3) (z1e : Own) (z10 : Own) : Sim (Z28) (Z1n x0) (EE 24 [(.p (.agg (ZC x0 z1e z10)))] []) := fun _ h => pick_to h z1e z10
noncomputable def Z5a (x2 : Int) (x3 : Int) (x23 : List Z3) (x24 : Int) (x25 : Int) : Option (Int × Int) := pick fun r => ∀ (ox23 : Own), RRun (Z28) (Zcg 0 (iv x2) (iv x3) (.p (.lst ox23 (x23.map ZG))) (iv x24) (iv x25) []) r
theorem Z9s (x2 : Int) (x3 : Int) (x23 : List Z3) (x24 : Int) (x25 : Int) (ox23 : Own) : Sim (Z28) (Z5a x2 x3 x23 x24 x25) (Zcg 0 (iv x2) (iv x3) (.p (.lst ox23 (x23.map ZG))) (iv x24) (iv x25) []) := fun _ h => pick_to h ox23
noncomputable def Z49 (x2 : Int) (x3 : Int) (x45 : List Z3) (x46 : Int) (x47 : Int) : Option (Int × Int) := pick fun r => ∀ (ox45 : Own), RRun (Z28) (ZaH 0 (iv x2) (iv x3) (.p (.lst ox45 (x45.map ZG))) (iv x46) (iv x47) []) r
theorem Z9g (x2 : Int) (x3 : Int) (x45 : List Z3) (x46 : Int) (x47 : Int) (ox45 : Own) : Sim (Z28) (Z49 x2 x3 x45 x46 x47) (ZaH 0 (iv x2) (iv x3) (.p (.lst ox45 (x45.map ZG))) (iv x46) (iv x47) []) := fun _ h => pick_to h ox45
noncomputable def Z6i (x0 : Int) (x1 : Int) : Option (Int) := pick fun r => RRun (Z4n) (EE 33 [(iv x0), (iv x1)] []) r
theorem ZdM (x0 : Int) (x1 : Int) : Sim (Z4n) (Z6i x0 x1) (EE 33 [(iv x0), (iv x1)] []) := fun _ h => pick_to h
noncomputable def Z7z (x0 : Int) : Option (Int) := pick fun r => RRun (Z6Q) (EE 38 [(iv x0)] []) r
theorem Zbl (x0 : Int) : Sim (Z6Q) (Z7z x0) (EE 38 [(iv x0)] []) := fun _ h => pick_to h
noncomputable def Z9S (x0 : Int) (x1 : Int) : Option (Int) := pick fun r => RRun (Z6w) (EE 32 [(iv x0), (iv x1)] []) r
theorem ZeU (x0 : Int) (x1 : Int) : Sim (Z6w) (Z9S x0 x1) (EE 32 [(iv x0), (iv x1)] []) := fun _ h => pick_to h
noncomputable def Z22 (x0 : Z3) : Option (Int) := pick fun r => ∀ (z1e : Own) (z10 : Own), RRun (Z3l) (EE 25 [(.p (.agg (ZC x0 z1e z10)))] []) r
theorem Z5C (x0 : Z3) (z1e : Own) (z10 : Own) : Sim (Z3l) (Z22 x0) (EE 25 [(.p (.agg (ZC x0 z1e z10)))] []) := fun _ h => pick_to h z1e z10
noncomputable def Z3w (x3 : Int) (x8 : List Z3) (x9 : Int) (x10 : Int) (b0 : Z3) : Option (Int) := pick fun r => ∀ (ox8 : Own) (z1f : Own) (z14 : Own), RRun (Z3l) (Zci 0 (.ptr 0 0) (iv x3) (.p (.lst ox8 (x8.map ZG))) (iv x9) (iv x10) [(Zq b0 z1f z14)]) r
theorem Za4 (x3 : Int) (x8 : List Z3) (x9 : Int) (x10 : Int) (b0 : Z3) (ox8 : Own) (z1f : Own) (z14 : Own) : Sim (Z3l) (Z3w x3 x8 x9 x10 b0) (Zci 0 (.ptr 0 0) (iv x3) (.p (.lst ox8 (x8.map ZG))) (iv x9) (iv x10) [(Zq b0 z1f z14)]) := fun _ h => pick_to h ox8 z1f z14
noncomputable def Z8D (x0 : ZE) : Option (Int) := pick fun r => ∀ (z2G : Own) (z2q : Own), RRun (Z6j) (EE 26 [(.p (.agg (Z1k x0 z2G z2q)))] []) r
theorem ZdK (x0 : ZE) (z2G : Own) (z2q : Own) : Sim (Z6j) (Z8D x0) (EE 26 [(.p (.agg (Z1k x0 z2G z2q)))] []) := fun _ h => pick_to h z2G z2q
noncomputable def Z2X (x0 : Z3) : Option (Bool) := pick fun r => ∀ (z1e : Own) (z10 : Own), RRun (Z4e) (EE 34 [(.p (.agg (ZC x0 z1e z10)))] []) r
theorem Z9Z (x0 : Z3) (z1e : Own) (z10 : Own) : Sim (Z4e) (Z2X x0) (EE 34 [(.p (.agg (ZC x0 z1e z10)))] []) := fun _ h => pick_to h z1e z10
noncomputable def Z3x (x0 : List Z3) : Option (Bool) := pick fun r => ∀ (ox0 : Own), RRun (Z2Y) (EE 39 [(.p (.lst ox0 (x0.map ZG))), (.clo 40 [] [])] []) r
theorem Z8r (x0 : List Z3) (ox0 : Own) : Sim (Z2Y) (Z3x x0) (EE 39 [(.p (.lst ox0 (x0.map ZG))), (.clo 40 [] [])] []) := fun _ h => pick_to h ox0
noncomputable def Z4d (x0 : List Z3) : Option (Int) := pick fun r => ∀ (ox0 : Own), RRun (Z1v) (EE 44 [(.p (.lst ox0 (x0.map ZG))), (.clo 40 [] [])] []) r
theorem Z9h (x0 : List Z3) (ox0 : Own) : Sim (Z1v) (Z4d x0) (EE 44 [(.p (.lst ox0 (x0.map ZG))), (.clo 40 [] [])] []) := fun _ h => pick_to h ox0
noncomputable def Z2Z (x0 : List Z3) (x7 : Int) (x8 : Int) : Option (Int) := pick fun r => ∀ (ox0 : Own), RRun (Z1v) (Zc0 0 (.p (.lst ox0 (x0.map ZG))) (.clo 40 [] []) (iv x7) (iv x8) []) r
theorem Z5U (x0 : List Z3) (x7 : Int) (x8 : Int) (ox0 : Own) : Sim (Z1v) (Z2Z x0 x7 x8) (Zc0 0 (.p (.lst ox0 (x0.map ZG))) (.clo 40 [] []) (iv x7) (iv x8) []) := fun _ h => pick_to h ox0
noncomputable def Z6D (x0 : Z3) : Option (Bool) := pick fun r => ∀ (z1e : Own) (z10 : Own), RRun (Z5G) (EE 40 [(.p (.agg (ZC x0 z1e z10)))] []) r
theorem ZcE (x0 : Z3) (z1e : Own) (z10 : Own) : Sim (Z5G) (Z6D x0) (EE 40 [(.p (.agg (ZC x0 z1e z10)))] []) := fun _ h => pick_to h z1e z10
end Go.Proofs.YtadodmjdkphddaaDoor.N2
end
