/- The functions, read typed: their types, and what they stand for. No condition. -/
import Derived.Test.YtocikhhkicahoaaDoorSim
import Derived.Test.YtocikhhkicahoaaDoorEqs

set_option linter.unusedSimpArgs false
set_option linter.unusedVariables false
set_option linter.defProp false
noncomputable section
namespace Go.Proofs.YtocikhhkicahoaaDoor.N2
open Go Go.Abs
set_option maxRecDepth 100000
theorem gj_ (n : Nat) {l k : List PV} (h : l = k) : l.getD n .junk = k.getD n .junk := congrArg (fun l => l.getD n .junk) h
structure Z8 where
 Lo : Int
 Hi : Int
 deriving Inhabited
def Z6a (a : Z8) : List PV := [(eI .i64) a.Lo, (eI .i64) a.Hi]
def Zp (a : Z8) : PV := .agg (Z6a a)
def ZN (a : Z8) : List PV := [(eI .i64) a.Lo, (eI .i64) a.Hi]
def Z2h (a : Z8) : Row := [.p ((eI .i64) a.Lo), .p ((eI .i64) a.Hi)]
theorem ZgN {a b : Z8} (h : Z6a a = Z6a b) : a = b := by
 have h0 : a.Lo = b.Lo := Z8p _ _ (gj_ 0 h)
 have h1 : a.Hi = b.Hi := Z8p _ _ (gj_ 1 h)
 cases a; cases b
 cases h0
 cases h1
 rfl
theorem Z5S (a b : Z8) (h : Zp a = Zp b) : a = b := ZgN (congrArg pC h)
structure Zo where
 Op : Int
 A : Int
 B : Int
 C : Int
 D : Int
 Set : (List Z8)
 deriving Inhabited
def Z4B (a : Zo) : List PV := [(eI .i64) a.Op, (eI .i64) a.A, (eI .i64) a.B, (eI .i64) a.C, (eI .i64) a.D, (eL Zp) a.Set]
def ZC (a : Zo) : PV := .agg (Z4B a)
def Z1m (a : Zo) (o0 : Own) : List PV := [(eI .i64) a.Op, (eI .i64) a.A, (eI .i64) a.B, (eI .i64) a.C, (eI .i64) a.D, .lst o0 (a.Set.map Zp)]
def Z1k (a : Zo) (o0 : Own) : Row := [.p ((eI .i64) a.Op), .p ((eI .i64) a.A), .p ((eI .i64) a.B), .p ((eI .i64) a.C), .p ((eI .i64) a.D), .p (.lst o0 (a.Set.map Zp))]
theorem ZoS {a b : Zo} (h : Z4B a = Z4B b) : a = b := by
 have h0 : a.Op = b.Op := Z8p _ _ (gj_ 0 h)
 have h1 : a.A = b.A := Z8p _ _ (gj_ 1 h)
 have h2 : a.B = b.B := Z8p _ _ (gj_ 2 h)
 have h3 : a.C = b.C := Z8p _ _ (gj_ 3 h)
 have h4 : a.D = b.D := Z8p _ _ (gj_ 4 h)
 have h5 : a.Set = b.Set := (ZzR Z5S) _ _ (gj_ 5 h)
 cases a; cases b
 cases h0
 cases h1
 cases h2
 cases h3
 cases h4
 cases h5
 rfl
theorem Z6F (a b : Zo) (h : ZC a = ZC b) : a = b := ZoS (congrArg pC h)
structure Z9 where
 Kind : Int
 Lo : Int
 Hi : Int
 Mode : Int
 Ref : Int
 Set : (List Z8)
 Kids : (List Z9)
instance : Inhabited Z9 := ⟨⟨default, default, default, default, default, default, default⟩⟩
mutual
def ZI : Z9 → PV
 | ⟨Kind_, Lo_, Hi_, Mode_, Ref_, Set_, Kids_⟩ => .agg [(eI .i64) Kind_, (eI .i64) Lo_, (eI .i64) Hi_, (eI .i64) Mode_, (eI .i64) Ref_, (eL Zp) Set_, .lst .sh (Z6b Kids_)]
def Z6b : List Z9 → List PV
 | [] => []
 | x :: r => ZI x :: Z6b r
end
theorem ZhP : ∀ l, Z6b l = l.map ZI
 | [] => rfl
 | x :: r => by rw [Z6b, ZhP r]; rfl
def Z1W (a : Z9) : List PV := [(eI .i64) a.Kind, (eI .i64) a.Lo, (eI .i64) a.Hi, (eI .i64) a.Mode, (eI .i64) a.Ref, (eL Zp) a.Set, (eL ZI) a.Kids]
theorem Z4W (a : Z9) : ZI a = .agg (Z1W a) := by
 cases a; rw [ZI, ZhP]; rfl
theorem Z2J (a : Z9) : Z1n (ZI a) = Z1W a := by rw [Z4W]; rfl
theorem Zgn (a : Z9) : (Z1n (ZI a)).length = 7 := by rw [Z4W]; rfl
def ZH (a : Z9) (o0 o1 : Own) : List PV := [(eI .i64) a.Kind, (eI .i64) a.Lo, (eI .i64) a.Hi, (eI .i64) a.Mode, (eI .i64) a.Ref, .lst o0 (a.Set.map Zp), .lst o1 (a.Kids.map ZI)]
def Zk (a : Z9) (o0 o1 : Own) : Row := [.p ((eI .i64) a.Kind), .p ((eI .i64) a.Lo), .p ((eI .i64) a.Hi), .p ((eI .i64) a.Mode), .p ((eI .i64) a.Ref), .p (.lst o0 (a.Set.map Zp)), .p (.lst o1 (a.Kids.map ZI))]
mutual
theorem ZhO : ∀ a b : Z9, ZI a = ZI b → a = b
 | ⟨Kind_, Lo_, Hi_, Mode_, Ref_, Set_, Kids_⟩, ⟨Kind_2, Lo_2, Hi_2, Mode_2, Ref_2, Set_2, Kids_2⟩, h => by
  rw [ZI, ZI] at h
  have h0 : Kind_ = Kind_2 := Z8p _ _ (congrArg (fun l => (pC l).getD 0 .junk) h)
  have h1 : Lo_ = Lo_2 := Z8p _ _ (congrArg (fun l => (pC l).getD 1 .junk) h)
  have h2 : Hi_ = Hi_2 := Z8p _ _ (congrArg (fun l => (pC l).getD 2 .junk) h)
  have h3 : Mode_ = Mode_2 := Z8p _ _ (congrArg (fun l => (pC l).getD 3 .junk) h)
  have h4 : Ref_ = Ref_2 := Z8p _ _ (congrArg (fun l => (pC l).getD 4 .junk) h)
  have h5 : Set_ = Set_2 := (ZzR Z5S) _ _ (congrArg (fun l => (pC l).getD 5 .junk) h)
  have h6 : Kids_ = Kids_2 := ZgO Kids_ Kids_2 (congrArg (fun l => pL ((pC l).getD 6 .junk)) h)
  subst h0
  subst h1
  subst h2
  subst h3
  subst h4
  subst h5
  subst h6
  rfl
theorem ZgO : ∀ a b : List Z9, Z6b a = Z6b b → a = b
 | [], [], _ => rfl
 | [], _ :: _, h => by simp [Z6b] at h
 | _ :: _, [], h => by simp [Z6b] at h
 | x :: r, y :: t, h => by
  simp only [Z6b, Zm1] at h
  rw [ZhO x y h.1, ZgO r t h.2]
end
theorem Z7E {a b : Z9} (h : Z1W a = Z1W b) : a = b := ZhO a b (by rw [Z4W, Z4W, h])
structure Z1b where
 Root : Z9
 Groups : Int
 Fold : Bool
 deriving Inhabited
def ZiT (a : Z1b) : List PV := [(eI .i64) a.Root.Kind, (eI .i64) a.Root.Lo, (eI .i64) a.Root.Hi, (eI .i64) a.Root.Mode, (eI .i64) a.Root.Ref, (eL Zp) a.Root.Set, (eL ZI) a.Root.Kids, (eI .i64) a.Groups, eB a.Fold]
def Z2O (a : Z1b) (o0 o1 : Own) : List PV := [(eI .i64) a.Root.Kind, (eI .i64) a.Root.Lo, (eI .i64) a.Root.Hi, (eI .i64) a.Root.Mode, (eI .i64) a.Root.Ref, .lst o0 (a.Root.Set.map Zp), .lst o1 (a.Root.Kids.map ZI), (eI .i64) a.Groups, eB a.Fold]
def ZR (a : Z1b) (o0 o1 : Own) : Row := [.p ((eI .i64) a.Root.Kind), .p ((eI .i64) a.Root.Lo), .p ((eI .i64) a.Root.Hi), .p ((eI .i64) a.Root.Mode), .p ((eI .i64) a.Root.Ref), .p (.lst o0 (a.Root.Set.map Zp)), .p (.lst o1 (a.Root.Kids.map ZI)), .p ((eI .i64) a.Groups), .p (eB a.Fold)]
theorem Zll {a b : Z1b} (h : ZiT a = ZiT b) : a = b := by
 have h0 : a.Root = b.Root := Z7E (congrArg (fun l => (l.drop 0).take 7) h)
 have h1 : a.Groups = b.Groups := Z8p _ _ (gj_ 7 h)
 have h2 : a.Fold = b.Fold := ZFR _ _ (gj_ 8 h)
 cases a; cases b
 cases h0
 cases h1
 cases h2
 rfl
structure Z12 where
 Code : Int
 At : Int
 deriving Inhabited
def Zkm (a : Z12) : List PV := [(eI .i64) a.Code, (eI .i64) a.At]
def Z5e (a : Z12) : List PV := [(eI .i64) a.Code, (eI .i64) a.At]
def Z1z (a : Z12) : Row := [.p ((eI .i64) a.Code), .p ((eI .i64) a.At)]
theorem Zmw {a b : Z12} (h : Zkm a = Zkm b) : a = b := by
 have h0 : a.Code = b.Code := Z8p _ _ (gj_ 0 h)
 have h1 : a.At = b.At := Z8p _ _ (gj_ 1 h)
 cases a; cases b
 cases h0
 cases h1
 rfl
structure Zz where
 group : Int
 at_ : Int
 deriving Inhabited
def Zbs (a : Zz) : List PV := [(eI .i64) a.group, (eI .i64) a.at_]
def Z2W (a : Zz) : PV := .agg (Zbs a)
def Zev (a : Zz) : List PV := [(eI .i64) a.group, (eI .i64) a.at_]
def ZeA (a : Zz) : Row := [.p ((eI .i64) a.group), .p ((eI .i64) a.at_)]
theorem Zlm {a b : Zz} (h : Zbs a = Zbs b) : a = b := by
 have h0 : a.group = b.group := Z8p _ _ (gj_ 0 h)
 have h1 : a.at_ = b.at_ := Z8p _ _ (gj_ 1 h)
 cases a; cases b
 cases h0
 cases h1
 rfl
theorem Zbt (a b : Zz) (h : Z2W a = Z2W b) : a = b := Zlm (congrArg pC h)
structure Z1y where
 b : (List Int)
 at_ : Int
 groups : Int
 deep : Int
 refs : (List Zz)
 fault : Z12
 deriving Inhabited
def Zr4 (a : Z1y) (o0 o1 : Own) : List PV := [.lst o0 (a.b.map (eI .u8)), (eI .i64) a.at_, (eI .i64) a.groups, (eI .i64) a.deep, .lst o1 (a.refs.map Z2W), (eI .i64) a.fault.Code, (eI .i64) a.fault.At]
def Z3T (a : Z1y) (o0 o1 : Own) : Row := [.p (.lst o0 (a.b.map (eI .u8))), .p ((eI .i64) a.at_), .p ((eI .i64) a.groups), .p ((eI .i64) a.deep), .p (.lst o1 (a.refs.map Z2W)), .p ((eI .i64) a.fault.Code), .p ((eI .i64) a.fault.At)]
structure Zms where
 out : (List Zo)
 fold : Bool
 loops : Int
 deriving Inhabited
def Zsa (a : Zms) (o0 : Own) : List PV := [.lst o0 (a.out.map ZC), eB a.fold, (eI .i64) a.loops]
end Go.Proofs.YtocikhhkicahoaaDoor.N2
end
noncomputable section
namespace Go.Proofs.YtocikhhkicahoaaDoor.N2
open Go Go.Abs
set_option maxRecDepth 100000
theorem et_ {α : Type} {a b c : α} (h : b = c) (g : a = b := by kernel_rfl) : a = c := g.trans h
theorem ru_ {R : Type} {Q : R → Res → Prop} {e : Option Res} {a b : R} (u : ∀ a b q, Q a q → Q b q → a = b) (h : RRun Q e a) (g : RRun Q e b) : a = b := RRun.uniq u h g
abbrev Zpy := Zo.mk 0 0 0 0 0 ([] : List Z8)
abbrev ZdK := Z1b.mk (Z9.mk 0 0 0 0 0 ([] : List Z8) ([] : List Z9)) 0 false
abbrev Zfz := Z12.mk 0 0
abbrev Z1A := Z9.mk 0 0 0 0 0 ([] : List Z8) ([] : List Z9)
abbrev Zzx := Z8.mk 0 0
abbrev ZK a0 a1 a2 a3 a4 a5 a6 o0 o1 := Z3T (Z1y.mk a0 a1 a2 a3 a4 (Z12.mk a5 a6)) o0 o1
abbrev Z9z a0 a1 a2 a3 a4 a5 a6 a7 a8 o0 o1 := ZR (Z1b.mk (Z9.mk a0 a1 a2 a3 a4 a5 a6) a7 a8) o0 o1
abbrev Z2Q a0 a1 a2 a3 a4 a5 a6 o0 o1 := Zk (Z9.mk a0 a1 a2 a3 a4 a5 a6) o0 o1
abbrev ZO (o : Own) (l : List PV) : AV := .p (.lst o l)
abbrev pA_ (l : List PV) : AV := .p (.agg l)
abbrev Z6u (zl : List Int) (z7 zh : Int) (zj : List Zz) (z2 z6 : Int) (zn zd : Own) : (Bool × Int) → Res → Prop := fun r q => ∃ (ex : List Row), q = ((bv r.1), [(ZK zl r.2 z7 zh zj z2 z6 zn zd)] ++ ex)
theorem Zkl (zl : List Int) (z7 zh : Int) (zj : List Zz) (z2 z6 : Int) (zn zd : Own) : ∀ a b q, Z6u zl z7 zh zj z2 z6 zn zd a q → Z6u zl z7 zh zj z2 z6 zn zd b q → a = b := by
 rintro a b q ⟨_, e1⟩ ⟨_, e2⟩
 have e := e1.symm.trans e2
 exact Z3D (congrArg (fun q : Res => pB (pA q.1)) e) (congrArg (fun q : Res => pI (pA (cellAt q 0 1))) e)
abbrev Z96 : (Int × Int) → Res → Prop := fun r q => ∃ (ex : List Row), q = ((.p (.tup [(.v (.int .i32 r.1)), (.v (.int .i64 r.2))])), ex)
theorem ZgL : ∀ a b q, Z96 a q → Z96 b q → a = b := by
 rintro a b q ⟨_, e1⟩ ⟨_, e2⟩
 have e := e1.symm.trans e2
 exact Z3D (congrArg (fun q : Res => pI ((pT (pA q.1)).getD 0 .junk)) e) (congrArg (fun q : Res => pI ((pT (pA q.1)).getD 1 .junk)) e)
abbrev Z3j : (Int × Int) → Res → Prop := fun r q => ∃ (ex : List Row), q = ((.p (.tup [(.v (.int .i64 r.1)), (.v (.int .i64 r.2))])), ex)
theorem Ze8 : ∀ a b q, Z3j a q → Z3j b q → a = b := by
 rintro a b q ⟨_, e1⟩ ⟨_, e2⟩
 have e := e1.symm.trans e2
 exact Z3D (congrArg (fun q : Res => pI ((pT (pA q.1)).getD 0 .junk)) e) (congrArg (fun q : Res => pI ((pT (pA q.1)).getD 1 .junk)) e)
abbrev Z7R (b0 : Z1y) (zn zd : Own) : Int → Res → Prop := fun r q => ∃ (ex : List Row), q = ((iv r), [(Z3T b0 zn zd)] ++ ex)
theorem Zkk (b0 : Z1y) (zn zd : Own) : ∀ a b q, Z7R b0 zn zd a q → Z7R b0 zn zd b q → a = b := by
 rintro a b q ⟨_, e1⟩ ⟨_, e2⟩
 have e := e1.symm.trans e2
 exact congrArg (fun q : Res => pI (pA q.1)) e
abbrev Z6L : Z9 → Res → Prop := fun r q => ∃ (ex : List Row), q = ((pA_ (ZH r .sh .sh)), ex)
theorem ZiO : ∀ a b q, Z6L a q → Z6L b q → a = b := by
 rintro a b q ⟨_, e1⟩ ⟨_, e2⟩
 have e := e1.symm.trans e2
 exact Z7E (congrArg (fun q : Res => pC (pA q.1)) e)
abbrev Z2a (zl : List Int) (z7 zh : Int) (zj : List Zz) (z2 z6 : Int) (zn zd : Own) : (Int × Int) → Res → Prop := fun r q => ∃ (ex : List Row), q = ((iv r.1), [(ZK zl r.2 z7 zh zj z2 z6 zn zd)] ++ ex)
theorem Z6M (zl : List Int) (z7 zh : Int) (zj : List Zz) (z2 z6 : Int) (zn zd : Own) : ∀ a b q, Z2a zl z7 zh zj z2 z6 zn zd a q → Z2a zl z7 zh zj z2 z6 zn zd b q → a = b := by
 rintro a b q ⟨_, e1⟩ ⟨_, e2⟩
 have e := e1.symm.trans e2
 exact Z3D (congrArg (fun q : Res => pI (pA q.1)) e) (congrArg (fun q : Res => pI (pA (cellAt q 0 1))) e)
abbrev ZgA : Z8 → Res → Prop := fun r q => ∃ (ex : List Row), q = ((pA_ (ZN r)), ex)
theorem ZsP : ∀ a b q, ZgA a q → ZgA b q → a = b := by
 rintro a b q ⟨_, e1⟩ ⟨_, e2⟩
 have e := e1.symm.trans e2
 exact ZgN (congrArg (fun q : Res => pC (pA q.1)) e)
abbrev ZP : Bool → Res → Prop := fun r q => ∃ (ex : List Row), q = ((bv r), ex)
theorem Z2p : ∀ a b q, ZP a q → ZP b q → a = b := by
 rintro a b q ⟨_, e1⟩ ⟨_, e2⟩
 have e := e1.symm.trans e2
 exact congrArg (fun q : Res => pB (pA q.1)) e
abbrev ZJ : Int → Res → Prop := fun r q => ∃ (ex : List Row), q = ((iv r), ex)
theorem Z1J : ∀ a b q, ZJ a q → ZJ b q → a = b := by
 rintro a b q ⟨_, e1⟩ ⟨_, e2⟩
 have e := e1.symm.trans e2
 exact congrArg (fun q : Res => pI (pA q.1)) e
abbrev Z3P : (List Z8) → Res → Prop := fun r q => ∃ (ex : List Row), q = ((ZO .sh (r.map Zp)), ex)
theorem Zbk : ∀ a b q, Z3P a q → Z3P b q → a = b := by
 rintro a b q ⟨_, e1⟩ ⟨_, e2⟩
 have e := e1.symm.trans e2
 exact Z5j Z5S (congrArg (fun q : Res => pL (pA q.1)) e)
abbrev Z2R : ((List Z8) × Int) → Res → Prop := fun r q => ∃ (ex : List Row), q = ((.p (.tup [(.lst .sh (r.1.map Zp)), (.v (.int .i64 r.2))])), ex)
theorem ZaQ : ∀ a b q, Z2R a q → Z2R b q → a = b := by
 rintro a b q ⟨_, e1⟩ ⟨_, e2⟩
 have e := e1.symm.trans e2
 exact Z3D (Z5j Z5S (congrArg (fun q : Res => pL ((pT (pA q.1)).getD 0 .junk)) e)) (congrArg (fun q : Res => pI ((pT (pA q.1)).getD 1 .junk)) e)
abbrev Z7Q (zl : List Int) (z7 zh : Int) (zj : List Zz) (zn zd : Own) : (Int × Int × Int) → Res → Prop := fun r q => ∃ (ex : List Row), q = ((.p (.tup [])), [(ZK zl r.1 z7 zh zj r.2.1 r.2.2 zn zd)] ++ ex)
theorem Zkj (zl : List Int) (z7 zh : Int) (zj : List Zz) (zn zd : Own) : ∀ a b q, Z7Q zl z7 zh zj zn zd a q → Z7Q zl z7 zh zj zn zd b q → a = b := by
 rintro a b q ⟨_, e1⟩ ⟨_, e2⟩
 have e := e1.symm.trans e2
 exact Z3D (congrArg (fun q : Res => pI (pA (cellAt q 0 1))) e) (Z3D (congrArg (fun q : Res => pI (pA (cellAt q 0 5))) e) (congrArg (fun q : Res => pI (pA (cellAt q 0 6))) e))
abbrev Z7C : (Own × (List Z8)) → Res → Prop := fun r q => ∃ (ex : List Row), q = ((ZO r.1 (r.2.map Zp)), ex)
theorem ZfN : ∀ a b q, Z7C a q → Z7C b q → a = b := by
 rintro a b q ⟨_, e1⟩ ⟨_, e2⟩
 have e := e1.symm.trans e2
 exact Z3D (congrArg (fun q : Res => pOwn (pA q.1)) e) (Z5j Z5S (congrArg (fun q : Res => pL (pA q.1)) e))
abbrev Z7B (z1x : Int) : Bool → Res → Prop := fun r q => ∃ (ex : List Row), q = ((bv r), [[(iv z1x)]] ++ ex)
theorem ZfM (z1x : Int) : ∀ a b q, Z7B z1x a q → Z7B z1x b q → a = b := by
 rintro a b q ⟨_, e1⟩ ⟨_, e2⟩
 have e := e1.symm.trans e2
 exact congrArg (fun q : Res => pB (pA q.1)) e
abbrev Z2I (z1x : Int) : Int → Res → Prop := fun r q => ∃ (ex : List Row), q = ((iv r), [[(iv z1x)]] ++ ex)
theorem Za4 (z1x : Int) : ∀ a b q, Z2I z1x a q → Z2I z1x b q → a = b := by
 rintro a b q ⟨_, e1⟩ ⟨_, e2⟩
 have e := e1.symm.trans e2
 exact congrArg (fun q : Res => pI (pA q.1)) e
abbrev Z60 (zl : List Int) (z7 zh : Int) (zj : List Zz) (zn zd : Own) : (Int × Int × Int × Int) → Res → Prop := fun r q => ∃ (ex : List Row), q = ((iv r.1), [(ZK zl r.2.1 z7 zh zj r.2.2.1 r.2.2.2 zn zd)] ++ ex)
theorem ZjV (zl : List Int) (z7 zh : Int) (zj : List Zz) (zn zd : Own) : ∀ a b q, Z60 zl z7 zh zj zn zd a q → Z60 zl z7 zh zj zn zd b q → a = b := by
 rintro a b q ⟨_, e1⟩ ⟨_, e2⟩
 have e := e1.symm.trans e2
 exact Z3D (congrArg (fun q : Res => pI (pA q.1)) e) (Z3D (congrArg (fun q : Res => pI (pA (cellAt q 0 1))) e) (Z3D (congrArg (fun q : Res => pI (pA (cellAt q 0 5))) e) (congrArg (fun q : Res => pI (pA (cellAt q 0 6))) e)))
abbrev Z4s (zl : List Int) (z7 zh : Int) (zn : Own) : (Z9 × Int × (List Zz) × Int × Int) → Res → Prop := fun r q => ∃ (p0_4 : Own) (ex : List Row), ZL p0_4 = true ∧ q = ((pA_ (ZH r.1 .sh .sh)), [(ZK zl r.2.1 z7 zh r.2.2.1 r.2.2.2.1 r.2.2.2.2 zn p0_4)] ++ ex)
theorem Zjm (zl : List Int) (z7 zh : Int) (zn : Own) : ∀ a b q, Z4s zl z7 zh zn a q → Z4s zl z7 zh zn b q → a = b := by
 rintro a b q ⟨_, _, _, e1⟩ ⟨_, _, _, e2⟩
 have e := e1.symm.trans e2
 exact Z3D (Z7E (congrArg (fun q : Res => pC (pA q.1)) e)) (Z3D (congrArg (fun q : Res => pI (pA (cellAt q 0 1))) e) (Z3D (Z5j Zbt (congrArg (fun q : Res => pL (pA (cellAt q 0 4))) e)) (Z3D (congrArg (fun q : Res => pI (pA (cellAt q 0 5))) e) (congrArg (fun q : Res => pI (pA (cellAt q 0 6))) e))))
abbrev Z4t (zl : List Int) (z7 zh : Int) (zj : List Zz) (zn zd : Own) : (Int × (Own × (List Z8)) × Bool × Int × Int × Int) → Res → Prop := fun r q => ∃ (ex : List Row), q = ((.p (.tup [(.v (.int .i64 r.1)), (.lst r.2.1.1 (r.2.1.2.map Zp)), (.v (.bool r.2.2.1))])), [(ZK zl r.2.2.2.1 z7 zh zj r.2.2.2.2.1 r.2.2.2.2.2 zn zd)] ++ ex)
theorem Zjn (zl : List Int) (z7 zh : Int) (zj : List Zz) (zn zd : Own) : ∀ a b q, Z4t zl z7 zh zj zn zd a q → Z4t zl z7 zh zj zn zd b q → a = b := by
 rintro a b q ⟨_, e1⟩ ⟨_, e2⟩
 have e := e1.symm.trans e2
 exact Z3D (congrArg (fun q : Res => pI ((pT (pA q.1)).getD 0 .junk)) e) (Z3D (Z3D (congrArg (fun q : Res => pOwn ((pT (pA q.1)).getD 1 .junk)) e) (Z5j Z5S (congrArg (fun q : Res => pL ((pT (pA q.1)).getD 1 .junk)) e))) (Z3D (congrArg (fun q : Res => pB ((pT (pA q.1)).getD 2 .junk)) e) (Z3D (congrArg (fun q : Res => pI (pA (cellAt q 0 1))) e) (Z3D (congrArg (fun q : Res => pI (pA (cellAt q 0 5))) e) (congrArg (fun q : Res => pI (pA (cellAt q 0 6))) e)))))
abbrev Z88 : (List Z8) → Res → Prop := fun r q => ∃ (p0_0 : Own) (ex : List Row), q = ((.p (.tup [])), [[(ZO p0_0 (r.map Zp))]] ++ ex)
theorem ZiP : ∀ a b q, Z88 a q → Z88 b q → a = b := by
 rintro a b q ⟨_, _, e1⟩ ⟨_, _, e2⟩
 have e := e1.symm.trans e2
 exact Z5j Z5S (congrArg (fun q : Res => pL (pA (cellAt q 0 0))) e)
abbrev Z1G (zl : List Int) (z7 zh : Int) (zj : List Zz) (zn zd : Own) : (Z9 × Int × Int × Int) → Res → Prop := fun r q => ∃ (ex : List Row), q = ((pA_ (ZH r.1 .sh .sh)), [(ZK zl r.2.1 z7 zh zj r.2.2.1 r.2.2.2 zn zd)] ++ ex)
theorem Zau (zl : List Int) (z7 zh : Int) (zj : List Zz) (zn zd : Own) : ∀ a b q, Z1G zl z7 zh zj zn zd a q → Z1G zl z7 zh zj zn zd b q → a = b := by
 rintro a b q ⟨_, e1⟩ ⟨_, e2⟩
 have e := e1.symm.trans e2
 exact Z3D (Z7E (congrArg (fun q : Res => pC (pA q.1)) e)) (Z3D (congrArg (fun q : Res => pI (pA (cellAt q 0 1))) e) (Z3D (congrArg (fun q : Res => pI (pA (cellAt q 0 5))) e) (congrArg (fun q : Res => pI (pA (cellAt q 0 6))) e)))
abbrev Ze7 : (List ByteArray) → Res → Prop := fun r q => ∃ (ex : List Row), q = ((ZO .sh (r.map eS)), ex)
theorem ZpB : ∀ a b q, Ze7 a q → Ze7 b q → a = b := by
 rintro a b q ⟨_, e1⟩ ⟨_, e2⟩
 have e := e1.symm.trans e2
 exact Z5j ZFS (congrArg (fun q : Res => pL (pA q.1)) e)
abbrev Z2V (zl : List Int) (zn : Own) : (Z9 × Bool × Int × Int × Int × (List Zz) × Int × Int) → Res → Prop := fun r q => ∃ (p0_4 : Own) (ex : List Row), ZL p0_4 = true ∧ q = ((.p (.tup [(.agg (ZH r.1 .sh .sh)), (.v (.bool r.2.1))])), [(ZK zl r.2.2.1 r.2.2.2.1 r.2.2.2.2.1 r.2.2.2.2.2.1 r.2.2.2.2.2.2.1 r.2.2.2.2.2.2.2 zn p0_4)] ++ ex)
theorem ZdL (zl : List Int) (zn : Own) : ∀ a b q, Z2V zl zn a q → Z2V zl zn b q → a = b := by
 rintro a b q ⟨_, _, _, e1⟩ ⟨_, _, _, e2⟩
 have e := e1.symm.trans e2
 exact Z3D (Z7E (congrArg (fun q : Res => pC ((pT (pA q.1)).getD 0 .junk)) e)) (Z3D (congrArg (fun q : Res => pB ((pT (pA q.1)).getD 1 .junk)) e) (Z3D (congrArg (fun q : Res => pI (pA (cellAt q 0 1))) e) (Z3D (congrArg (fun q : Res => pI (pA (cellAt q 0 2))) e) (Z3D (congrArg (fun q : Res => pI (pA (cellAt q 0 3))) e) (Z3D (Z5j Zbt (congrArg (fun q : Res => pL (pA (cellAt q 0 4))) e)) (Z3D (congrArg (fun q : Res => pI (pA (cellAt q 0 5))) e) (congrArg (fun q : Res => pI (pA (cellAt q 0 6))) e)))))))
abbrev Z3i (zl : List Int) (z7 zh : Int) (zj : List Zz) (zn zd : Own) : (Int × Int × Int × Int × Int) → Res → Prop := fun r q => ∃ (ex : List Row), q = ((.p (.tup [(.v (.int .i64 r.1)), (.v (.int .i64 r.2.1))])), [(ZK zl r.2.2.1 z7 zh zj r.2.2.2.1 r.2.2.2.2 zn zd)] ++ ex)
theorem Zjl (zl : List Int) (z7 zh : Int) (zj : List Zz) (zn zd : Own) : ∀ a b q, Z3i zl z7 zh zj zn zd a q → Z3i zl z7 zh zj zn zd b q → a = b := by
 rintro a b q ⟨_, e1⟩ ⟨_, e2⟩
 have e := e1.symm.trans e2
 exact Z3D (congrArg (fun q : Res => pI ((pT (pA q.1)).getD 0 .junk)) e) (Z3D (congrArg (fun q : Res => pI ((pT (pA q.1)).getD 1 .junk)) e) (Z3D (congrArg (fun q : Res => pI (pA (cellAt q 0 1))) e) (Z3D (congrArg (fun q : Res => pI (pA (cellAt q 0 5))) e) (congrArg (fun q : Res => pI (pA (cellAt q 0 6))) e))))
abbrev Z2y (zl : List Int) (zn : Own) : (Z9 × Int × Int × Int × (List Zz) × Int × Int) → Res → Prop := fun r q => ∃ (p0_4 : Own) (ex : List Row), ZL p0_4 = true ∧ q = ((pA_ (ZH r.1 .sh .sh)), [(ZK zl r.2.1 r.2.2.1 r.2.2.2.1 r.2.2.2.2.1 r.2.2.2.2.2.1 r.2.2.2.2.2.2 zn p0_4)] ++ ex)
theorem Z95 (zl : List Int) (zn : Own) : ∀ a b q, Z2y zl zn a q → Z2y zl zn b q → a = b := by
 rintro a b q ⟨_, _, _, e1⟩ ⟨_, _, _, e2⟩
 have e := e1.symm.trans e2
 exact Z3D (Z7E (congrArg (fun q : Res => pC (pA q.1)) e)) (Z3D (congrArg (fun q : Res => pI (pA (cellAt q 0 1))) e) (Z3D (congrArg (fun q : Res => pI (pA (cellAt q 0 2))) e) (Z3D (congrArg (fun q : Res => pI (pA (cellAt q 0 3))) e) (Z3D (Z5j Zbt (congrArg (fun q : Res => pL (pA (cellAt q 0 4))) e)) (Z3D (congrArg (fun q : Res => pI (pA (cellAt q 0 5))) e) (congrArg (fun q : Res => pI (pA (cellAt q 0 6))) e))))))
abbrev Z48 : (Z1b × Z12) → Res → Prop := fun r q => ∃ (ex : List Row), q = ((.p (.tup [(.agg (Z2O r.1 .sh .sh)), (.agg (Z5e r.2))])), ex)
theorem ZjF : ∀ a b q, Z48 a q → Z48 b q → a = b := by
 rintro a b q ⟨_, e1⟩ ⟨_, e2⟩
 have e := e1.symm.trans e2
 exact Z3D (Zll (congrArg (fun q : Res => pC ((pT (pA q.1)).getD 0 .junk)) e)) (Zmw (congrArg (fun q : Res => pC ((pT (pA q.1)).getD 1 .junk)) e))
abbrev Z8A (zy : Bool) (zB : Int) : (Int × (List Zo)) → Res → Prop := fun r q => ∃ (ex : List Row), q = ((iv r.1), [[(.p (.ml 6 (r.2.map ZC))), (bv zy), (iv zB)]] ++ ex)
theorem Zjo (zy : Bool) (zB : Int) : ∀ a b q, Z8A zy zB a q → Z8A zy zB b q → a = b := by
 rintro a b q ⟨_, e1⟩ ⟨_, e2⟩
 have e := e1.symm.trans e2
 exact Z3D (congrArg (fun q : Res => pI (pA q.1)) e) (Z5j Z6F (congrArg (fun q : Res => pL (pA (cellAt q 0 0))) e))
abbrev Z6j (zy : Bool) (zB : Int) : (List Zo) → Res → Prop := fun r q => ∃ (ex : List Row), q = ((.p (.tup [])), [[(.p (.ml 6 (r.map ZC))), (bv zy), (iv zB)]] ++ ex)
theorem ZhU (zy : Bool) (zB : Int) : ∀ a b q, Z6j zy zB a q → Z6j zy zB b q → a = b := by
 rintro a b q ⟨_, e1⟩ ⟨_, e2⟩
 have e := e1.symm.trans e2
 exact Z5j Z6F (congrArg (fun q : Res => pL (pA (cellAt q 0 0))) e)
abbrev Z14 (zy : Bool) : ((List Zo) × Int) → Res → Prop := fun r q => ∃ (ex : List Row), q = ((.p (.tup [])), [[(.p (.ml 6 (r.1.map ZC))), (bv zy), (iv r.2)]] ++ ex)
theorem Z2X (zy : Bool) : ∀ a b q, Z14 zy a q → Z14 zy b q → a = b := by
 rintro a b q ⟨_, e1⟩ ⟨_, e2⟩
 have e := e1.symm.trans e2
 exact Z3D (Z5j Z6F (congrArg (fun q : Res => pL (pA (cellAt q 0 0))) e)) (congrArg (fun q : Res => pI (pA (cellAt q 0 2))) e)
abbrev Z3w (b1 : Z9) (z1L : Bool) (zG zD : Own) : ((List Zo) × Int) → Res → Prop := fun r q => ∃ (ex : List Row), q = ((.p (.tup [])), [[(.ptr 2 0)], (Zk b1 zG zD), [(.p (.ml 6 (r.1.map ZC))), (bv z1L), (iv r.2)]] ++ ex)
theorem Z8O (b1 : Z9) (z1L : Bool) (zG zD : Own) : ∀ a b q, Z3w b1 z1L zG zD a q → Z3w b1 z1L zG zD b q → a = b := by
 rintro a b q ⟨_, e1⟩ ⟨_, e2⟩
 have e := e1.symm.trans e2
 exact Z3D (Z5j Z6F (congrArg (fun q : Res => pL (pA (cellAt q 2 0))) e)) (congrArg (fun q : Res => pI (pA (cellAt q 2 2))) e)
abbrev Z3x (zy : Bool) (b2 : Z9) (z18 zY : Own) : ((List Zo) × Int) → Res → Prop := fun r q => ∃ (ex : List Row), q = ((.p (.tup [])), [[(.p (.ml 6 (r.1.map ZC))), (bv zy), (iv r.2)], [(.ptr 0 0)], (Zk b2 z18 zY)] ++ ex)
theorem Z8P (zy : Bool) (b2 : Z9) (z18 zY : Own) : ∀ a b q, Z3x zy b2 z18 zY a q → Z3x zy b2 z18 zY b q → a = b := by
 rintro a b q ⟨_, e1⟩ ⟨_, e2⟩
 have e := e1.symm.trans e2
 exact Z3D (Z5j Z6F (congrArg (fun q : Res => pL (pA (cellAt q 0 0))) e)) (congrArg (fun q : Res => pI (pA (cellAt q 0 2))) e)
abbrev ZaR : ((List Zo) × Int) → Res → Prop := fun r q => ∃ (ex : List Row), q = ((.p (.tup [(.lst .sh (r.1.map ZC)), (.v (.int .i64 r.2))])), ex)
theorem ZoN : ∀ a b q, ZaR a q → ZaR b q → a = b := by
 rintro a b q ⟨_, e1⟩ ⟨_, e2⟩
 have e := e1.symm.trans e2
 exact Z3D (Z5j Z6F (congrArg (fun q : Res => pL ((pT (pA q.1)).getD 0 .junk)) e)) (congrArg (fun q : Res => pI ((pT (pA q.1)).getD 1 .junk)) e)
abbrev Z7b : ((List Zo) × Int × Int) → Res → Prop := fun r q => ∃ (ex : List Row), q = ((.p (.tup [(.lst .sh (r.1.map ZC)), (.v (.int .i64 r.2.1)), (.v (.int .i64 r.2.2))])), ex)
theorem ZjU : ∀ a b q, Z7b a q → Z7b b q → a = b := by
 rintro a b q ⟨_, e1⟩ ⟨_, e2⟩
 have e := e1.symm.trans e2
 exact Z3D (Z5j Z6F (congrArg (fun q : Res => pL ((pT (pA q.1)).getD 0 .junk)) e)) (Z3D (congrArg (fun q : Res => pI ((pT (pA q.1)).getD 1 .junk)) e) (congrArg (fun q : Res => pI ((pT (pA q.1)).getD 2 .junk)) e))
def Z99 (x0 : ByteArray) : Option Bool := pick fun r => RRun ZP (EE 4 [(.p (.v (.string x0)))] []) r
def ZfW x0 r (h : Z99 x0 = some r) := Z1i h
def Z8g : Option Bool := pick fun r => RRun ZP (EE 8 [] []) r
def Zi5 r (h : Z8g = some r) := Z1i h
def Z2l (x0 : ByteArray) : Option ((List Zo) × Int × Int) := pick fun r => RRun Z7b (EE 9 [(.p (.v (.string x0)))] []) r
def Z7O x0 r (h : Z2l x0 = some r) := Z1i h
def Zed (x0 : ByteArray) : Option (Z1b × Z12) := pick fun r => RRun Z48 (EE 10 [(.p (.v (.string x0)))] []) r
def ZoZ x0 r (h : Zed x0 = some r) := Z1i h
def Z1H (x1 : ByteArray) (zl : List Int) (zm : Int) : Option (Bool × Int) := pick fun r => ∀ (z7 zh : Int) (zj : List Zz) (z2 z6 : Int) (zn zd : Own) (zu : ZL zd = true), RRun (Z6u zl z7 zh zj z2 z6 zn zd) (EE 19 [(.ptr 0 0), (.p (.v (.string x1)))] [(ZK zl zm z7 zh zj z2 z6 zn zd)]) r
def Z1P x1 zl zm z7 zh zj z2 z6 zn zd zu r (h : Z1H x1 zl zm = some r) := Z1i h z7 zh zj z2 z6 zn zd zu
def Z4e (zl : List Int) (zm z7 zh : Int) (zj : List Zz) (z2 z6 : Int) : Option (Z9 × Int × Int × Int × (List Zz) × Int × Int) := pick fun r => ∀ (zn zd : Own) (zu : ZL zd = true), RRun (Z2y zl zn) (EE 20 [(.ptr 0 0)] [(ZK zl zm z7 zh zj z2 z6 zn zd)]) r
def ZeK zl zm z7 zh zj z2 z6 zn zd zu r (h : Z4e zl zm z7 zh zj z2 z6 = some r) := Z1i h zn zd zu
def Z6W (zl : List Int) (zm z7 zh : Int) (zj : List Zz) (z2 z6 : Int) : Option (Z9 × Int × Int × Int × (List Zz) × Int × Int) := pick fun r => ∀ (zn zd : Own) (zu : ZL zd = true), RRun (Z2y zl zn) (EE 30 [(.ptr 0 0)] [(ZK zl zm z7 zh zj z2 z6 zn zd)]) r
def ZeM zl zm z7 zh zj z2 z6 zn zd zu r (h : Z6W zl zm z7 zh zj z2 z6 = some r) := Z1i h zn zd zu
def Z5C (x3 : List Z9) (zl : List Int) (zm z7 zh : Int) (zj : List Zz) (z2 z6 : Int) : Option (Z9 × Int × Int × Int × (List Zz) × Int × Int) := pick fun r => ∀ (b1 : Z9) (ox3 zn zd zG zD : Own) (hox3 : ZL ox3 = true) (zu : ZL zd = true) (z15 : ZL zG = true) (zV : ZL zD = true), RRun (Z2y zl zn) (ZmI 1 (.ptr 0 0) (.ptr 1 0) (ZO ox3 (x3.map ZI)) [(ZK zl zm z7 zh zj z2 z6 zn zd), (Zk b1 zG zD)]) r
def Zcu x3 zl zm z7 zh zj z2 z6 b1 ox3 zn zd zG zD hox3 zu z15 zV r (h : Z5C x3 zl zm z7 zh zj z2 z6 = some r) := Z1i h b1 ox3 zn zd zG zD hox3 zu z15 zV
def Z2G (b0 : Z1y) : Option Int := pick fun r => ∀ (zn zd : Own) (zu : ZL zd = true), RRun (Z7R b0 zn zd) (EE 47 [(.ptr 0 0)] [(Z3T b0 zn zd)]) r
def Z2S b0 zn zd zu r (h : Z2G b0 = some r) := Z1i h zn zd zu
def Ze3 (x0 : List Int) (x1 : Int) : Option (Int × Int) := pick fun r => ∀ (ox0 : Own), RRun Z3j (EE 62 [(ZO ox0 (x0.map (eI .u8))), (iv x1)] []) r
def ZkW x0 x1 ox0 r (h : Ze3 x0 x1 = some r) := Z1i h ox0
def Z9c (x0 : List Int) : Option (Int × Int) := pick fun r => ∀ (ox0 : Own), RRun Z96 (EE 76 [(ZO ox0 (x0.map (eI .u8)))] []) r
def Zgk x0 ox0 r (h : Z9c x0 = some r) := Z1i h ox0
def Zb2 (x0 : Int) (x1 : List Z9) : Option Z9 := pick fun r => ∀ (ox1 : Own), RRun Z6L (EE 31 [(iv x0), (ZO ox1 (x1.map ZI))] []) r
def ZhS x0 x1 ox1 r (h : Zb2 x0 x1 = some r) := Z1i h ox1
def Z9P (zl : List Int) (zm z7 zh : Int) (zj : List Zz) (z2 z6 : Int) : Option (Z9 × Bool × Int × Int × Int × (List Zz) × Int × Int) := pick fun r => ∀ (zn zd : Own) (zu : ZL zd = true), RRun (Z2V zl zn) (EE 48 [(.ptr 0 0)] [(ZK zl zm z7 zh zj z2 z6 zn zd)]) r
def Zk5 zl zm z7 zh zj z2 z6 zn zd zu r (h : Z9P zl zm z7 zh zj z2 z6 = some r) := Z1i h zn zd zu
def Z3n (zl : List Int) (zm : Int) : Option (Int × Int) := pick fun r => ∀ (z7 zh : Int) (zj : List Zz) (z2 z6 : Int) (zn zd : Own) (zu : ZL zd = true), RRun (Z2a zl z7 zh zj z2 z6 zn zd) (EE 63 [(.ptr 0 0)] [(ZK zl zm z7 zh zj z2 z6 zn zd)]) r
def Z3N zl zm z7 zh zj z2 z6 zn zd zu r (h : Z3n zl zm = some r) := Z1i h z7 zh zj z2 z6 zn zd zu
def Z2v (x0 : Int) : Option Z8 := pick fun r => RRun ZgA (EE 65 [(iv x0)] []) r
def Z2k x0 r (h : Z2v x0 = some r) := Z1i h
def Z41 (x0 : Bool) (x1 : List Z8) : Option Z9 := pick fun r => ∀ (ox1 : Own), RRun Z6L (EE 64 [(bv x0), (ZO ox1 (x1.map Zp))] []) r
def Z4a x0 x1 ox1 r (h : Z41 x0 x1 = some r) := Z1i h ox1
def Zfa (x0 : List Z8) : Option ((List Z8) × Int) := pick fun r => ∀ (ox0 : Own), RRun Z2R (EE 77 [(ZO ox0 (x0.map Zp))] []) r
def ZqO x0 ox0 r (h : Zfa x0 = some r) := Z1i h ox0
def Z5a (x0 : List Z8) : Option Bool := pick fun r => ∀ (ox0 : Own), RRun ZP (EE 96 [(ZO ox0 (x0.map Zp)), (.clo 97 [] [])] []) r
def Zdz x0 ox0 r (h : Z5a x0 = some r) := Z1i h ox0
def Z6g (x0 : List Z8) : Option Int := pick fun r => ∀ (ox0 : Own), RRun ZJ (EE 104 [(ZO ox0 (x0.map Zp)), (.clo 97 [] [])] []) r
def Zf2 x0 ox0 r (h : Z6g x0 = some r) := Z1i h ox0
def Z45 (x0 : List Z8) (x7 x8 : Int) : Option Int := pick fun r => ∀ (ox0 : Own), RRun ZJ (Zkp 0 (ZO ox0 (x0.map Zp)) (.clo 97 [] []) (iv x7) (iv x8) []) r
def Z93 x0 x7 x8 ox0 r (h : Z45 x0 x7 x8 = some r) := Z1i h ox0
def Zd6 (x0 : Z8) : Option Bool := pick fun r => RRun ZP (EE 97 [(pA_ (ZN x0))] []) r
def Zoj x0 r (h : Zd6 x0 = some r) := Z1i h
def Z7V (x0 : Z8) : Option Bool := pick fun r => RRun ZP (EE 22 [(pA_ (ZN x0))] []) r
def ZdO x0 r (h : Z7V x0 = some r) := Z1i h
def ZaZ (x0 : List Z8) : Option (List Z8) := pick fun r => ∀ (ox0 : Own), RRun Z3P (EE 25 [(ZO ox0 (x0.map Zp))] []) r
def Zdu x0 ox0 r (h : ZaZ x0 = some r) := Z1i h ox0
def Zai (x0 : List Z8) : Option ((List Z8) × Int) := pick fun r => ∀ (ox0 : Own), RRun Z2R (EE 17 [(ZO ox0 (x0.map Zp))] []) r
def ZgV x0 ox0 r (h : Zai x0 = some r) := Z1i h ox0
def Z5T (x0 : List Z8) : Option Bool := pick fun r => ∀ (ox0 : Own), RRun ZP (EE 12 [(ZO ox0 (x0.map Zp))] []) r
def Z8K x0 ox0 r (h : Z5T x0 = some r) := Z1i h ox0
def Z6V (x3 : Int) (x6 : List Z8) (x7 x8 : Int) : Option Bool := pick fun r => ∀ (ox6 : Own), RRun ZP (ZmA 0 (iv x3) (ZO ox6 (x6.map Zp)) (iv x7) (iv x8) []) r
def Zcq x3 x6 x7 x8 ox6 r (h : Z6V x3 x6 x7 x8 = some r) := Z1i h ox6
def Zc8 (x0 : List Z8) : Option (List Z8) := pick fun r => ∀ (ox0 : Own), RRun Z3P (EE 26 [(ZO ox0 (x0.map Zp))] []) r
def Zn4 x0 ox0 r (h : Zc8 x0 = some r) := Z1i h ox0
def Z8q (x3 : List Z8) (x4 : Int) (x7 : List Z8) (x8 x9 : Int) : Option (List Z8) := pick fun r => ∀ (ox3 ox7 : Own) (hox3 : ZL ox3 = true), RRun Z3P (ZmG 0 (ZO ox3 (x3.map Zp)) (iv x4) (ZO ox7 (x7.map Zp)) (iv x8) (iv x9) []) r
def ZeH x3 x4 x7 x8 x9 ox3 ox7 hox3 r (h : Z8q x3 x4 x7 x8 x9 = some r) := Z1i h ox3 ox7 hox3
def Z4C (x1 : Int) (zl : List Int) (zm z7 zh : Int) (zj : List Zz) (z2 z6 : Int) : Option (Z9 × Int × (List Zz) × Int × Int) := pick fun r => ∀ (zn zd : Own) (zu : ZL zd = true), RRun (Z4s zl z7 zh zn) (EE 66 [(.ptr 0 0), (iv x1)] [(ZK zl zm z7 zh zj z2 z6 zn zd)]) r
def Zj1 x1 zl zm z7 zh zj z2 z6 zn zd zu r (h : Z4C x1 zl zm z7 zh zj z2 z6 = some r) := Z1i h zn zd zu
def Z1c (x1 x2 : Int) (zl : List Int) (z2 z6 : Int) : Option (Int × Int × Int) := pick fun r => ∀ (zm z7 zh : Int) (zj : List Zz) (zn zd : Own) (zu : ZL zd = true), RRun (Z7Q zl z7 zh zj zn zd) (EE 21 [(.ptr 0 0), (iv x1), (iv x2)] [(ZK zl zm z7 zh zj z2 z6 zn zd)]) r
def Z1g x1 x2 zl zm z7 zh zj z2 z6 zn zd zu r (h : Z1c x1 x2 zl z2 z6 = some r) := Z1i h zm z7 zh zj zn zd zu
def Z7G (x0 : Int) : Option (Own × (List Z8)) := pick fun r => RRun Z7C (EE 78 [(iv x0)] []) r
def Zbw x0 r (h : Z7G x0 = some r) := Z1i h
def Z7w (x1 x2 : Int) (zl : List Int) (zm z7 zh : Int) (zj : List Zz) (z2 z6 : Int) : Option (Int × Int × Int × Int) := pick fun r => ∀ (zn zd : Own) (zu : ZL zd = true), RRun (Z60 zl z7 zh zj zn zd) (EE 79 [(.ptr 0 0), (iv x1), (iv x2)] [(ZK zl zm z7 zh zj z2 z6 zn zd)]) r
def Zdr x1 x2 zl zm z7 zh zj z2 z6 zn zd zu r (h : Z7w x1 x2 zl zm z7 zh zj z2 z6 = some r) := Z1i h zn zd zu
def ZdX (x0 : Int) : Option Int := pick fun r => RRun ZJ (EE 98 [(iv x0)] []) r
def ZkO x0 r (h : ZdX x0 = some r) := Z1i h
def Z7v (x0 : List Z8) (x1 : Int) : Option Bool := pick fun r => ∀ (ox0 : Own), RRun ZP (EE 24 [(ZO ox0 (x0.map Zp)), (iv x1)] []) r
def Zco x0 x1 ox0 r (h : Z7v x0 x1 = some r) := Z1i h ox0
def Z59 (x0 : List Z8) (z1x : Int) : Option Bool := pick fun r => ∀ (ox0 : Own), RRun (Z7B z1x) (EE 32 [(ZO ox0 (x0.map Zp)), (.clo 33 [] [(.ptr 0 0)])] [[(iv z1x)]]) r
def Zdx x0 z1x ox0 r (h : Z59 x0 z1x = some r) := Z1i h ox0
def Z6f (x0 : List Z8) (z1x : Int) : Option Int := pick fun r => ∀ (ox0 : Own), RRun (Z2I z1x) (EE 50 [(ZO ox0 (x0.map Zp)), (.clo 33 [] [(.ptr 0 0)])] [[(iv z1x)]]) r
def Zf0 x0 z1x ox0 r (h : Z6f x0 z1x = some r) := Z1i h ox0
def Z44 (x0 : List Z8) (x7 x8 z1x : Int) : Option Int := pick fun r => ∀ (ox0 : Own), RRun (Z2I z1x) (ZmQ 1 (ZO ox0 (x0.map Zp)) (.clo 33 [] [(.ptr 0 0)]) (iv x7) (iv x8) [[(iv z1x)]]) r
def Z91 x0 x7 x8 z1x ox0 r (h : Z44 x0 x7 x8 z1x = some r) := Z1i h ox0
def ZaL (x0 : Z8) (z1x : Int) : Option Bool := pick fun r => RRun (Z7B z1x) (EE 33 [(pA_ (ZN x0)), (.ptr 0 0)] [[(iv z1x)]]) r
def Zls x0 z1x r (h : ZaL x0 z1x = some r) := Z1i h
def Z9b (x1 : Int) (zl : List Int) (zm z7 zh : Int) (zj : List Zz) (z2 z6 : Int) : Option (Z9 × Int × Int × Int) := pick fun r => ∀ (zn zd : Own) (zu : ZL zd = true), RRun (Z1G zl z7 zh zj zn zd) (EE 67 [(.ptr 0 0), (iv x1)] [(ZK zl zm z7 zh zj z2 z6 zn zd)]) r
def Zjx x1 zl zm z7 zh zj z2 z6 zn zd zu r (h : Z9b x1 zl zm z7 zh zj z2 z6 = some r) := Z1i h zn zd zu
def Z46 (x1 : Int) (x5 : Bool) (x8 : Int) (zl : List Int) (zm z7 zh : Int) (zj : List Zz) (z2 z6 : Int) (z1s : List Z8) : Option (Z9 × Int × Int × Int) := pick fun r => ∀ (b1 : Z9) (zn zd zG zD z1T : Own) (zu : ZL zd = true) (z15 : ZL zG = true) (zV : ZL zD = true), RRun (Z1G zl z7 zh zj zn zd) (ZmS 1 (.ptr 0 0) (iv x1) (.ptr 1 0) (bv x5) (.ptr 2 0) (.clo 80 [] [(.ptr 2 0)]) (iv x8) [(ZK zl zm z7 zh zj z2 z6 zn zd), (Zk b1 zG zD), [(ZO z1T (z1s.map Zp))]]) r
def ZbL x1 x5 x8 zl zm z7 zh zj z2 z6 b1 z1s zn zd zG zD z1T zu z15 zV r (h : Z46 x1 x5 x8 zl zm z7 zh zj z2 z6 z1s = some r) := Z1i h b1 zn zd zG zD z1T zu z15 zV
def Z5D (zl : List Int) (zm z7 zh : Int) (zj : List Zz) (z2 z6 : Int) : Option (Int × (Own × (List Z8)) × Bool × Int × Int × Int) := pick fun r => ∀ (zn zd : Own) (zu : ZL zd = true), RRun (Z4t zl z7 zh zj zn zd) (EE 81 [(.ptr 0 0)] [(ZK zl zm z7 zh zj z2 z6 zn zd)]) r
def Zcx zl zm z7 zh zj z2 z6 zn zd zu r (h : Z5D zl zm z7 zh zj z2 z6 = some r) := Z1i h zn zd zu
def Z6A (x0 z1x : List Z8) : Option (List Z8) := pick fun r => ∀ (ox0 ziu : Own), RRun Z88 (EE 80 [(ZO ox0 (x0.map Zp)), (.ptr 0 0)] [[(ZO ziu (z1x.map Zp))]]) r
def Zc9 x0 z1x ox0 ziu r (h : Z6A x0 z1x = some r) := Z1i h ox0 ziu
def Z9k (x0 x1 : List Z8) : Option ((List Z8) × Int) := pick fun r => ∀ (ox0 ox1 : Own), RRun Z2R (EE 39 [(ZO ox0 (x0.map Zp)), (ZO ox1 (x1.map Zp))] []) r
def ZhR x0 x1 ox0 ox1 r (h : Z9k x0 x1 = some r) := Z1i h ox0 ox1
def Zb9 (x0 : List (List Z8)) : Option (List Z8) := pick fun r => ∀ (ox0 : Own), RRun Z3P (EE 57 [(ZO ox0 (x0.map (eL Zp)))] []) r
def Zj9 x0 ox0 r (h : Zb9 x0 = some r) := Z1i h ox0
def Z4X (x1 : Int) (zl : List Int) (zm z7 zh : Int) (zj : List Zz) (z2 z6 : Int) : Option (Z9 × Bool × Int × Int × Int × (List Zz) × Int × Int) := pick fun r => ∀ (zn zd : Own) (zu : ZL zd = true), RRun (Z2V zl zn) (EE 68 [(.ptr 0 0), (iv x1)] [(ZK zl zm z7 zh zj z2 z6 zn zd)]) r
def Zjz x1 zl zm z7 zh zj z2 z6 zn zd zu r (h : Z4X x1 zl zm z7 zh zj z2 z6 = some r) := Z1i h zn zd zu
def Zee : Option (List ByteArray) := pick fun r => RRun Ze7 (EE 83 [] []) r
def Zp1 r (h : Zee = some r) := Z1i h
def Z5M (x0 : List ByteArray) (zl : List Int) (zm : Int) : Option (Int × Int) := pick fun r => ∀ (z7 zh : Int) (zj : List Zz) (z2 z6 : Int) (ox0 zn zd : Own) (zu : ZL zd = true), RRun (Z2a zl z7 zh zj z2 z6 zn zd) (EE 82 [(ZO ox0 (x0.map eS)), (.clo 19 [(.ptr 0 0)] [])] [(ZK zl zm z7 zh zj z2 z6 zn zd)]) r
def Zet x0 zl zm z7 zh zj z2 z6 ox0 zn zd zu r (h : Z5M x0 zl zm = some r) := Z1i h z7 zh zj z2 z6 ox0 zn zd zu
def Z2m (x0 : List ByteArray) (x7 x8 : Int) (zl : List Int) (zm : Int) : Option (Int × Int) := pick fun r => ∀ (z7 zh : Int) (zj : List Zz) (z2 z6 : Int) (ox0 zn zd : Own) (zu : ZL zd = true), RRun (Z2a zl z7 zh zj z2 z6 zn zd) (ZmV 1 (ZO ox0 (x0.map eS)) (.clo 19 [(.ptr 0 0)] []) (iv x7) (iv x8) [(ZK zl zm z7 zh zj z2 z6 zn zd)]) r
def Z8M x0 x7 x8 zl zm z7 zh zj z2 z6 ox0 zn zd zu r (h : Z2m x0 x7 x8 zl zm = some r) := Z1i h z7 zh zj z2 z6 ox0 zn zd zu
def Z6Y (x1 : Z9) (x2 : Bool) (zl : List Int) (zm z7 zh : Int) (zj : List Zz) (z2 z6 : Int) : Option (Z9 × Int × Int × Int) := pick fun r => ∀ (zM zU zn zd : Own) (zu : ZL zd = true), RRun (Z1G zl z7 zh zj zn zd) (EE 49 [(.ptr 0 0), (pA_ (ZH x1 zM zU)), (bv x2)] [(ZK zl zm z7 zh zj z2 z6 zn zd)]) r
def Zj5 x1 x2 zl zm z7 zh zj z2 z6 zM zU zn zd zu r (h : Z6Y x1 x2 zl zm z7 zh zj z2 z6 = some r) := Z1i h zM zU zn zd zu
def Z6X (x1 : Int) (zl : List Int) (zm z7 zh : Int) (zj : List Zz) (z2 z6 : Int) : Option (Int × Int × Int × Int × Int) := pick fun r => ∀ (zn zd : Own) (zu : ZL zd = true), RRun (Z3i zl z7 zh zj zn zd) (EE 69 [(.ptr 0 0), (iv x1)] [(ZK zl zm z7 zh zj z2 z6 zn zd)]) r
def ZiZ x1 zl zm z7 zh zj z2 z6 zn zd zu r (h : Z6X x1 zl zm z7 zh zj z2 z6 = some r) := Z1i h zn zd zu
def Z5E (zl : List Int) (zm z7 zh : Int) (zj : List Zz) (z2 z6 : Int) : Option (Int × Int) := pick fun r => ∀ (zn zd : Own) (zu : ZL zd = true), RRun (Z2a zl z7 zh zj z2 z6 zn zd) (EE 84 [(.ptr 0 0)] [(ZK zl zm z7 zh zj z2 z6 zn zd)]) r
def Zcy zl zm z7 zh zj z2 z6 zn zd zu r (h : Z5E zl zm z7 zh zj z2 z6 = some r) := Z1i h zn zd zu
def Z3W (x3 x4 : Int) (zl : List Int) (zm z7 zh : Int) (zj : List Zz) (z2 z6 : Int) : Option (Int × Int) := pick fun r => ∀ (zn zd : Own) (zu : ZL zd = true), RRun (Z2a zl z7 zh zj z2 z6 zn zd) (ZmW 1 (.ptr 0 0) (iv x3) (iv x4) [(ZK zl zm z7 zh zj z2 z6 zn zd)]) r
def Zbd x3 x4 zl zm z7 zh zj z2 z6 zn zd zu r (h : Z3W x3 x4 zl zm z7 zh zj z2 z6 = some r) := Z1i h zn zd zu
def Z5B (x3 : List Z9) (zl : List Int) (zm z7 zh : Int) (zj : List Zz) (z2 z6 : Int) : Option (Z9 × Int × Int × Int × (List Zz) × Int × Int) := pick fun r => ∀ (b1 : Z9) (ox3 zn zd zG zD : Own) (hox3 : ZL ox3 = true) (zu : ZL zd = true) (z15 : ZL zG = true) (zV : ZL zD = true), RRun (Z2y zl zn) (ZmF 1 (.ptr 0 0) (.ptr 1 0) (ZO ox3 (x3.map ZI)) [(ZK zl zm z7 zh zj z2 z6 zn zd), (Zk b1 zG zD)]) r
def Zcs x3 zl zm z7 zh zj z2 z6 b1 ox3 zn zd zG zD hox3 zu z15 zV r (h : Z5B x3 zl zm z7 zh zj z2 z6 = some r) := Z1i h b1 ox3 zn zd zG zD hox3 zu z15 zV
def Z81 (x50 : List Zz) (x51 x52 : Int) (z36 : List Int) (z1a zT z1d z10 z1f z1e z11 z16 : Int) (z17 : List Z8) (zZ : List Z9) (z1B : Bool) : Option (Z1b × Z12) := pick fun r => ∀ (b0 : Z1b) (b1 : Z12) (z2Y z2C : Int) (z1X : List Zz) (z2q : Int) (ox50 z13 zS z3E z1K z1t z1o : Own) (z2t : ZL z13 = true) (z2f : ZL zS = true) (z3O : ZL z1K = true), RRun Z48 (Zmx 0 (.ptr 0 0) (.ptr 1 0) (.ptr 2 0) (.ptr 3 0) (ZO ox50 (x50.map Z2W)) (iv x51) (iv x52) [(ZR b0 z13 zS), (Z1z b1), (ZK z36 z2Y z1a z2C z1X zT z1d z3E z1K), (Z9z z10 z1f z1e z11 z16 z17 zZ z2q z1B z1t z1o)]) r
def ZfP x50 x51 x52 b0 b1 z36 z2Y z1a z2C z1X zT z1d z10 z1f z1e z11 z16 z17 zZ z2q z1B ox50 z13 zS z3E z1K z1t z1o z2t z2f z3O r (h : Z81 x50 x51 x52 z36 z1a zT z1d z10 z1f z1e z11 z16 z17 zZ z1B = some r) := Z1i h b0 b1 z2Y z2C z1X z2q ox50 z13 zS z3E z1K z1t z1o z2t z2f z3O
def Z9l (x0 : Z1b) : Option ((List Zo) × Int) := pick fun r => ∀ (z2g z20 : Own), RRun ZaR (EE 18 [(pA_ (Z2O x0 z2g z20))] []) r
def Zon x0 z2g z20 r (h : Z9l x0 = some r) := Z1i h z2g z20
def Zef (x0 : Z1b) : Option Int := pick fun r => ∀ (z2g z20 : Own), RRun ZJ (EE 27 [(pA_ (Z2O x0 z2g z20))] []) r
def Zp4 x0 z2g z20 r (h : Zef x0 = some r) := Z1i h z2g z20
def Z4f (x0 : Z9) : Option Bool := pick fun r => ∀ (z23 z1q : Own), RRun ZP (EE 38 [(pA_ (ZH x0 z23 z1q))] []) r
def Zhm x0 z23 z1q r (h : Z4f x0 = some r) := Z1i h z23 z1q
def Z3g (x0 : Z9) : Option (Int × Int) := pick fun r => ∀ (z23 z1q : Own), RRun Z3j (EE 44 [(pA_ (ZH x0 z23 z1q))] []) r
def Z6J x0 z23 z1q r (h : Z3g x0 = some r) := Z1i h z23 z1q
def Z9x (x2 x3 : Int) (x23 : List Z9) (x24 x25 : Int) : Option (Int × Int) := pick fun r => ∀ (ox23 : Own), RRun Z3j (ZmO 0 (iv x2) (iv x3) (ZO ox23 (x23.map ZI)) (iv x24) (iv x25) []) r
def ZfS x2 x3 x23 x24 x25 ox23 r (h : Z9x x2 x3 x23 x24 x25 = some r) := Z1i h ox23
def Z90 (x2 x3 : Int) (x45 : List Z9) (x46 x47 : Int) : Option (Int × Int) := pick fun r => ∀ (ox45 : Own), RRun Z3j (Zky 0 (iv x2) (iv x3) (ZO ox45 (x45.map ZI)) (iv x46) (iv x47) []) r
def Zfg x2 x3 x45 x46 x47 ox45 r (h : Z90 x2 x3 x45 x46 x47 = some r) := Z1i h ox45
def ZbO (x0 x1 : Int) : Option Int := pick fun r => RRun ZJ (EE 61 [(iv x0), (iv x1)] []) r
def Zp9 x0 x1 r (h : ZbO x0 x1 = some r) := Z1i h
def ZcA (x0 : Int) : Option Int := pick fun r => RRun ZJ (EE 75 [(iv x0)] []) r
def ZjJ x0 r (h : ZcA x0 = some r) := Z1i h
def ZgF (x0 x1 : Int) : Option Int := pick fun r => RRun ZJ (EE 60 [(iv x0), (iv x1)] []) r
def Zs7 x0 x1 r (h : ZgF x0 x1 = some r) := Z1i h
def Z5v (x0 : List Z9) : Option Bool := pick fun r => ∀ (ox0 : Own), RRun ZP (EE 55 [(ZO ox0 (x0.map ZI)), (.clo 56 [] [])] []) r
def Ze1 x0 ox0 r (h : Z5v x0 = some r) := Z1i h ox0
def Z6s (x0 : List Z9) : Option Int := pick fun r => ∀ (ox0 : Own), RRun ZJ (EE 73 [(ZO ox0 (x0.map ZI)), (.clo 56 [] [])] []) r
def Zfk x0 ox0 r (h : Z6s x0 = some r) := Z1i h ox0
def Z4g (x0 : List Z9) (x7 x8 : Int) : Option Int := pick fun r => ∀ (ox0 : Own), RRun ZJ (ZmU 0 (ZO ox0 (x0.map ZI)) (.clo 56 [] []) (iv x7) (iv x8) []) r
def Z9i x0 x7 x8 ox0 r (h : Z4g x0 x7 x8 = some r) := Z1i h ox0
def ZaM (x0 : Z9) : Option Bool := pick fun r => ∀ (z23 z1q : Own), RRun ZP (EE 56 [(pA_ (ZH x0 z23 z1q))] []) r
def ZlB x0 z23 z1q r (h : ZaM x0 = some r) := Z1i h z23 z1q
def Z5W (x0 : Z9) : Option Int := pick fun r => ∀ (z23 z1q : Own), RRun ZJ (EE 11 [(pA_ (ZH x0 z23 z1q))] []) r
def ZjI x0 z23 z1q r (h : Z5W x0 = some r) := Z1i h z23 z1q
def Z6r (x3 : Int) (x8 : List Z9) (x9 x10 : Int) (b0 : Z9) : Option Int := pick fun r => ∀ (ox8 z1O z1v : Own), RRun ZJ (Zmz 0 (.ptr 0 0) (iv x3) (ZO ox8 (x8.map ZI)) (iv x9) (iv x10) [(Zk b0 z1O z1v)]) r
def Zhl x3 x8 x9 x10 b0 ox8 z1O z1v r (h : Z6r x3 x8 x9 x10 b0 = some r) := Z1i h ox8 z1O z1v
def Z1j (x1 : Zo) (zE : List Zo) : Option (Int × (List Zo)) := pick fun r => ∀ (zy : Bool) (zB : Int) (zM : Own), RRun (Z8A zy zB) (EE 28 [(.ptr 0 0), (pA_ (Z1m x1 zM))] [[(.p (.ml 6 (zE.map ZC))), (bv zy), (iv zB)]]) r
def Z1r x1 zE zy zB zM r (h : Z1j x1 zE = some r) := Z1i h zy zB zM
def Z1Q (x1 : Z9) (zE : List Zo) (zy : Bool) (zB : Int) : Option ((List Zo) × Int) := pick fun r => ∀ (zM zU : Own), RRun (Z14 zy) (EE 29 [(.ptr 0 0), (pA_ (ZH x1 zM zU))] [[(.p (.ml 6 (zE.map ZC))), (bv zy), (iv zB)]]) r
def Z2L x1 zE zy zB zM zU r (h : Z1Q x1 zE zy zB = some r) := Z1i h zM zU
def Z6H (x0 : List Z8) : Option ((List Z8) × Int) := pick fun r => ∀ (ox0 : Own), RRun Z2R (EE 14 [(ZO ox0 (x0.map Zp))] []) r
def ZfO x0 ox0 r (h : Z6H x0 = some r) := Z1i h ox0
def Zbx (x0 : List Z8) : Option (Own × (List Z8)) := pick fun r => ∀ (ox0 : Own), RRun Z7C (EE 23 [(ZO ox0 (x0.map Zp))] []) r
def ZjE x0 ox0 r (h : Zbx x0 = some r) := Z1i h ox0
def Z7W (x0 x4 : List Z8) (x5 : Int) : Option ((List Z8) × Int) := pick fun r => ∀ (ox0 ox4 : Own) (hox4 : ZL ox4 = true), RRun Z2R (ZmC 0 (ZO ox0 (x0.map Zp)) (ZO ox4 (x4.map Zp)) (.p (.v (.int .i32 x5))) []) r
def ZdQ x0 x4 x5 ox0 ox4 hox4 r (h : Z7W x0 x4 x5 = some r) := Z1i h ox0 ox4 hox4
def Z52 (x36 : List Z9) (x37 x38 : Int) (zE : List Zo) (zy : Bool) (zB : Int) : Option ((List Zo) × Int) := pick fun r => ∀ (ox36 : Own), RRun (Z14 zy) (Zks 1 (.ptr 1 0) (ZO ox36 (x36.map ZI)) (iv x37) (iv x38) [[(.p (.ml 6 (zE.map ZC))), (bv zy), (iv zB)], [(.ptr 0 0)]]) r
def ZaD x36 x37 x38 zE zy zB ox36 r (h : Z52 x36 x37 x38 zE zy zB = some r) := Z1i h ox36
def Z6Z (x1 : List Z9) (zE : List Zo) (zy : Bool) (zB : Int) : Option ((List Zo) × Int) := pick fun r => ∀ (ox1 : Own), RRun (Z14 zy) (EE 40 [(.ptr 0 0), (ZO ox1 (x1.map ZI))] [[(.p (.ml 6 (zE.map ZC))), (bv zy), (iv zB)]]) r
def Zj7 x1 zE zy zB ox1 r (h : Z6Z x1 zE zy zB = some r) := Z1i h ox1
def Z5U (x1 : List Z9) (x4 : List Int) (x5 : Int) (x16 : List Z9) (x17 x18 : Int) (zE : List Zo) (zy : Bool) (zB : Int) : Option ((List Zo) × Int) := pick fun r => ∀ (ox1 ox4 ox16 : Own) (hox4 : ZL ox4 = true), RRun (Z14 zy) (ZmM 1 (.ptr 0 0) (ZO ox1 (x1.map ZI)) (ZO ox4 (x4.map (eI .i64))) (iv x5) (ZO ox16 (x16.map ZI)) (iv x17) (iv x18) [[(.p (.ml 6 (zE.map ZC))), (bv zy), (iv zB)]]) r
def Zbf x1 x4 x5 x16 x17 x18 zE zy zB ox1 ox4 ox16 hox4 r (h : Z5U x1 x4 x5 x16 x17 x18 zE zy zB = some r) := Z1i h ox1 ox4 ox16 hox4
def Z4T (x1 x2 x3 : Int) (x4 : Bool) (zE : List Zo) : Option (List Zo) := pick fun r => ∀ (zy : Bool) (zB : Int), RRun (Z6j zy zB) (EE 58 [(.ptr 0 0), (iv x1), (iv x2), (iv x3), (bv x4)] [[(.p (.ml 6 (zE.map ZC))), (bv zy), (iv zB)]]) r
def Z8R x1 x2 x3 x4 zE zy zB r (h : Z4T x1 x2 x3 x4 zE = some r) := Z1i h zy zB
def Z5u (x51 : List Int) (x52 x53 : Int) (zE : List Zo) (zB : Int) : Option ((List Zo) × Int) := pick fun r => ∀ (zy : Bool) (ox51 : Own), RRun (Z14 zy) (Zku 1 (.ptr 0 0) (ZO ox51 (x51.map (eI .i64))) (iv x52) (iv x53) [[(.p (.ml 6 (zE.map ZC))), (bv zy), (iv zB)]]) r
def Zb8 x51 x52 x53 zE zy zB ox51 r (h : Z5u x51 x52 x53 zE zB = some r) := Z1i h zy ox51
def Z4H (x1 : Zo) (zE : List Zo) (zy : Bool) (zB : Int) (b2 : Z9) : Option ((List Zo) × Int) := pick fun r => ∀ (zM z18 zY : Own), RRun (Z3x zy b2 z18 zY) (EE 41 [(.ptr 0 0), (pA_ (Z1m x1 zM)), (.clo 42 [] [(.ptr 1 0), (.ptr 2 0)])] [[(.p (.ml 6 (zE.map ZC))), (bv zy), (iv zB)], [(.ptr 0 0)], (Zk b2 z18 zY)]) r
def Zhf x1 zE zy zB b2 zM z18 zY r (h : Z4H x1 zE zy zB b2 = some r) := Z1i h zM z18 zY
def Z7x (b1 : Z9) (z2Z : List Zo) (z1L : Bool) (z2e : Int) : Option ((List Zo) × Int) := pick fun r => ∀ (zG zD : Own), RRun (Z3w b1 z1L zG zD) (EE 42 [(.ptr 0 0), (.ptr 1 0)] [[(.ptr 2 0)], (Zk b1 zG zD), [(.p (.ml 6 (z2Z.map ZC))), (bv z1L), (iv z2e)]]) r
def Zh7 b1 z2Z z1L z2e zG zD r (h : Z7x b1 z2Z z1L z2e = some r) := Z1i h zG zD
def Z4E (x1 : Z9) (zE : List Zo) (zy : Bool) (zB : Int) : Option ((List Zo) × Int) := pick fun r => ∀ (zM zU : Own), RRun (Z14 zy) (EE 43 [(.ptr 0 0), (pA_ (ZH x1 zM zU))] [[(.p (.ml 6 (zE.map ZC))), (bv zy), (iv zB)]]) r
def Zbg x1 zE zy zB zM zU r (h : Z4E x1 zE zy zB = some r) := Z1i h zM zU
def Z4O (x4 : Bool) (x13 x14 : Int) (zE : List Zo) (zy : Bool) (zB : Int) (b1 : Z9) : Option ((List Zo) × Int) := pick fun r => ∀ (zG zD : Own), RRun (Z14 zy) (ZmN 1 (.ptr 0 0) (.ptr 1 0) (bv x4) (iv x13) (iv x14) [[(.p (.ml 6 (zE.map ZC))), (bv zy), (iv zB)], (Zk b1 zG zD)]) r
def Zan x4 x13 x14 zE zy zB b1 zG zD r (h : Z4O x4 x13 x14 zE zy zB b1 = some r) := Z1i h zG zD
def Z8i (x1 : Z9) (x2 : Bool) (zE : List Zo) (zy : Bool) (zB : Int) : Option ((List Zo) × Int) := pick fun r => ∀ (zM zU : Own), RRun (Z14 zy) (EE 59 [(.ptr 0 0), (pA_ (ZH x1 zM zU)), (bv x2)] [[(.p (.ml 6 (zE.map ZC))), (bv zy), (iv zB)]]) r
def Zil x1 x2 zE zy zB zM zU r (h : Z8i x1 x2 zE zy zB = some r) := Z1i h zM zU
def Z4F (x4 : Bool) (x6 : List Int) (x49 x50 : Int) (zE : List Zo) (zy : Bool) (zB : Int) (b1 : Z9) : Option ((List Zo) × Int) := pick fun r => ∀ (ox6 zG zD : Own) (hox6 : ZL ox6 = true), RRun (Z14 zy) (Zkv 1 (.ptr 0 0) (.ptr 1 0) (bv x4) (ZO ox6 (x6.map (eI .i64))) (iv x49) (iv x50) [[(.p (.ml 6 (zE.map ZC))), (bv zy), (iv zB)], (Zk b1 zG zD)]) r
def Z9R x4 x6 x49 x50 zE zy zB b1 ox6 zG zD hox6 r (h : Z4F x4 x6 x49 x50 zE zy zB b1 = some r) := Z1i h ox6 zG zD hox6
def Z4G (x4 : Bool) (x65 : List Int) (x66 x67 : Int) (zE : List Zo) (zB : Int) : Option ((List Zo) × Int) := pick fun r => ∀ (zy : Bool) (ox65 : Own), RRun (Z14 zy) (Zkw 1 (.ptr 0 0) (bv x4) (ZO ox65 (x65.map (eI .i64))) (iv x66) (iv x67) [[(.p (.ml 6 (zE.map ZC))), (bv zy), (iv zB)]]) r
def Z9T x4 x65 x66 x67 zE zy zB ox65 r (h : Z4G x4 x65 x66 x67 zE zB = some r) := Z1i h zy ox65
def Z5V (x1 : Zo) (zE : List Zo) (zy : Bool) (zB : Int) (b2 : Z9) : Option ((List Zo) × Int) := pick fun r => ∀ (zM z18 zY : Own), RRun (Z3x zy b2 z18 zY) (EE 41 [(.ptr 0 0), (pA_ (Z1m x1 zM)), (.clo 46 [] [(.ptr 1 0), (.ptr 2 0)])] [[(.p (.ml 6 (zE.map ZC))), (bv zy), (iv zB)], [(.ptr 0 0)], (Zk b2 z18 zY)]) r
def Zhh x1 zE zy zB b2 zM z18 zY r (h : Z5V x1 zE zy zB b2 = some r) := Z1i h zM z18 zY
def Z7z (b1 : Z9) (z2Z : List Zo) (z1L : Bool) (z2e : Int) : Option ((List Zo) × Int) := pick fun r => ∀ (zG zD : Own), RRun (Z3w b1 z1L zG zD) (EE 46 [(.ptr 0 0), (.ptr 1 0)] [[(.ptr 2 0)], (Zk b1 zG zD), [(.p (.ml 6 (z2Z.map ZC))), (bv z1L), (iv z2e)]]) r
def Zhb b1 z2Z z1L z2e zG zD r (h : Z7z b1 z2Z z1L z2e = some r) := Z1i h zG zD
def Z7A (x1 : Zo) (zE : List Zo) (zy : Bool) (zB : Int) (b2 : Z9) : Option ((List Zo) × Int) := pick fun r => ∀ (zM z18 zY : Own), RRun (Z3x zy b2 z18 zY) (EE 41 [(.ptr 0 0), (pA_ (Z1m x1 zM)), (.clo 45 [] [(.ptr 1 0), (.ptr 2 0)])] [[(.p (.ml 6 (zE.map ZC))), (bv zy), (iv zB)], [(.ptr 0 0)], (Zk b2 z18 zY)]) r
def Zhj x1 zE zy zB b2 zM z18 zY r (h : Z7A x1 zE zy zB b2 = some r) := Z1i h zM z18 zY
def Z7y (b1 : Z9) (z2Z : List Zo) (z1L : Bool) (z2e : Int) : Option ((List Zo) × Int) := pick fun r => ∀ (zG zD : Own), RRun (Z3w b1 z1L zG zD) (EE 45 [(.ptr 0 0), (.ptr 1 0)] [[(.ptr 2 0)], (Zk b1 zG zD), [(.p (.ml 6 (z2Z.map ZC))), (bv z1L), (iv z2e)]]) r
def Zh9 b1 z2Z z1L z2e zG zD r (h : Z7y b1 z2Z z1L z2e = some r) := Z1i h zG zD
def Zfb (x0 : List Zo) : Option Int := pick fun r => ∀ (ox0 : Own), RRun ZJ (EE 13 [(ZO ox0 (x0.map ZC))] []) r
def ZqT x0 ox0 r (h : Zfb x0 = some r) := Z1i h ox0
def Zaj (x3 : Int) (x6 : List Zo) (x7 x8 : Int) : Option Int := pick fun r => ∀ (ox6 : Own), RRun ZJ (ZmB 0 (iv x3) (ZO ox6 (x6.map ZC)) (iv x7) (iv x8) []) r
def Zh5 x3 x6 x7 x8 ox6 r (h : Zaj x3 x6 x7 x8 = some r) := Z1i h ox6
def Z4n (x6 x62 : List Zo) (x63 x64 : Int) : Option Bool := pick fun r => ∀ (ox6 ox62 : Own), RRun ZP (ZmP 0 (ZO ox6 (x6.map ZC)) (ZO ox62 (x62.map ZC)) (iv x63) (iv x64) []) r
def Z9w x6 x62 x63 x64 ox6 ox62 r (h : Z4n x6 x62 x63 x64 = some r) := Z1i h ox6 ox62
def Z8h (x0 x1 : List Z8) : Option Bool := pick fun r => ∀ (ox0 ox1 : Own), RRun ZP (EE 15 [(ZO ox0 (x0.map Zp)), (ZO ox1 (x1.map Zp))] []) r
def Zi7 x0 x1 ox0 ox1 r (h : Z8h x0 x1 = some r) := Z1i h ox0 ox1
def Z5t (x1 x12 : List Z8) (x13 x14 : Int) : Option Bool := pick fun r => ∀ (ox1 ox12 : Own), RRun ZP (ZmD 0 (ZO ox1 (x1.map Zp)) (ZO ox12 (x12.map Zp)) (iv x13) (iv x14) []) r
def Zb1 x1 x12 x13 x14 ox1 ox12 r (h : Z5t x1 x12 x13 x14 = some r) := Z1i h ox1 ox12
end Go.Proofs.YtocikhhkicahoaaDoor.N2
end
