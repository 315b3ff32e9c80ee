/- The functions, read typed: their types, and what they stand for. No condition. -/
import Derived.Test.YtocikhhkicahoaaDoorSim
import Derived.Test.YtocikhhkicahoaaDoorEqs

set_option linter.unusedSimpArgs false
set_option linter.unusedVariables false
set_option linter.defProp false
noncomputable section
namespace Go.Proofs.YtocikhhkicahoaaDoor.N2
open Go Go.Abs
set_option maxRecDepth 100000
theorem gj_ (n : Nat) {l k : List PV} (h : l = k) : l.getD n .junk = k.getD n .junk := congrArg (fun l => l.getD n .junk) h
structure Z8 where
 Lo : Int
 Hi : Int
 deriving Inhabited
def Z7Q (a : Z8) : List PV := [(eI .i64) a.Lo, (eI .i64) a.Hi]
def Zv (a : Z8) : PV := .agg (Z7Q a)
def ZU (a : Z8) : List PV := [(eI .i64) a.Lo, (eI .i64) a.Hi]
def Z2x (a : Z8) : Row := [.p ((eI .i64) a.Lo), .p ((eI .i64) a.Hi)]
theorem Zgv {a b : Z8} (h : Z7Q a = Z7Q b) : a = b := by
 have h0 : a.Lo = b.Lo := Z8c _ _ (gj_ 0 h)
 have h1 : a.Hi = b.Hi := Z8c _ _ (gj_ 1 h)
 cases a; cases b
 cases h0
 cases h1
 rfl
theorem Z5Y (a b : Z8) (h : Zv a = Zv b) : a = b := Zgv (congrArg pC h)
structure Zm where
 Op : Int
 A : Int
 B : Int
 C : Int
 D : Int
 Set : (List Z8)
 deriving Inhabited
def Z2U (a : Zm) : List PV := [(eI .i64) a.Op, (eI .i64) a.A, (eI .i64) a.B, (eI .i64) a.C, (eI .i64) a.D, (eL Zv) a.Set]
def ZC (a : Zm) : PV := .agg (Z2U a)
def Z1k (a : Zm) (o0 : Own) : List PV := [(eI .i64) a.Op, (eI .i64) a.A, (eI .i64) a.B, (eI .i64) a.C, (eI .i64) a.D, .lst o0 (a.Set.map Zv)]
def Z1t (a : Zm) (o0 : Own) : Row := [.p ((eI .i64) a.Op), .p ((eI .i64) a.A), .p ((eI .i64) a.B), .p ((eI .i64) a.C), .p ((eI .i64) a.D), .p (.lst o0 (a.Set.map Zv))]
theorem Zoj {a b : Zm} (h : Z2U a = Z2U b) : a = b := by
 have h0 : a.Op = b.Op := Z8c _ _ (gj_ 0 h)
 have h1 : a.A = b.A := Z8c _ _ (gj_ 1 h)
 have h2 : a.B = b.B := Z8c _ _ (gj_ 2 h)
 have h3 : a.C = b.C := Z8c _ _ (gj_ 3 h)
 have h4 : a.D = b.D := Z8c _ _ (gj_ 4 h)
 have h5 : a.Set = b.Set := (Zz9 Z5Y) _ _ (gj_ 5 h)
 cases a; cases b
 cases h0
 cases h1
 cases h2
 cases h3
 cases h4
 cases h5
 rfl
theorem Z6B (a b : Zm) (h : ZC a = ZC b) : a = b := Zoj (congrArg pC h)
structure Z9 where
 Kind : Int
 Lo : Int
 Hi : Int
 Mode : Int
 Ref : Int
 Set : (List Z8)
 Kids : (List Z9)
instance : Inhabited Z9 := ⟨⟨default, default, default, default, default, default, default⟩⟩
mutual
def ZJ : Z9 → PV
 | ⟨Kind_, Lo_, Hi_, Mode_, Ref_, Set_, Kids_⟩ => .agg [(eI .i64) Kind_, (eI .i64) Lo_, (eI .i64) Hi_, (eI .i64) Mode_, (eI .i64) Ref_, (eL Zv) Set_, .lst .sh (Z6a Kids_)]
def Z6a : List Z9 → List PV
 | [] => []
 | x :: r => ZJ x :: Z6a r
end
theorem Zhu : ∀ l, Z6a l = l.map ZJ
 | [] => rfl
 | x :: r => by rw [Z6a, Zhu r]; rfl
def Z22 (a : Z9) : List PV := [(eI .i64) a.Kind, (eI .i64) a.Lo, (eI .i64) a.Hi, (eI .i64) a.Mode, (eI .i64) a.Ref, (eL Zv) a.Set, (eL ZJ) a.Kids]
theorem Z4W (a : Z9) : ZJ a = .agg (Z22 a) := by
 cases a; rw [ZJ, Zhu]; rfl
theorem Z2I (a : Z9) : Z1q (ZJ a) = Z22 a := by rw [Z4W]; rfl
theorem Zg3 (a : Z9) : (Z1q (ZJ a)).length = 7 := by rw [Z4W]; rfl
def ZI (a : Z9) (o0 o1 : Own) : List PV := [(eI .i64) a.Kind, (eI .i64) a.Lo, (eI .i64) a.Hi, (eI .i64) a.Mode, (eI .i64) a.Ref, .lst o0 (a.Set.map Zv), .lst o1 (a.Kids.map ZJ)]
def Zk (a : Z9) (o0 o1 : Own) : Row := [.p ((eI .i64) a.Kind), .p ((eI .i64) a.Lo), .p ((eI .i64) a.Hi), .p ((eI .i64) a.Mode), .p ((eI .i64) a.Ref), .p (.lst o0 (a.Set.map Zv)), .p (.lst o1 (a.Kids.map ZJ))]
mutual
theorem Zht : ∀ a b : Z9, ZJ a = ZJ b → a = b
 | ⟨Kind_, Lo_, Hi_, Mode_, Ref_, Set_, Kids_⟩, ⟨Kind_2, Lo_2, Hi_2, Mode_2, Ref_2, Set_2, Kids_2⟩, h => by
  rw [ZJ, ZJ] at h
  have h0 : Kind_ = Kind_2 := Z8c _ _ (congrArg (fun l => (pC l).getD 0 .junk) h)
  have h1 : Lo_ = Lo_2 := Z8c _ _ (congrArg (fun l => (pC l).getD 1 .junk) h)
  have h2 : Hi_ = Hi_2 := Z8c _ _ (congrArg (fun l => (pC l).getD 2 .junk) h)
  have h3 : Mode_ = Mode_2 := Z8c _ _ (congrArg (fun l => (pC l).getD 3 .junk) h)
  have h4 : Ref_ = Ref_2 := Z8c _ _ (congrArg (fun l => (pC l).getD 4 .junk) h)
  have h5 : Set_ = Set_2 := (Zz9 Z5Y) _ _ (congrArg (fun l => (pC l).getD 5 .junk) h)
  have h6 : Kids_ = Kids_2 := Zgw Kids_ Kids_2 (congrArg (fun l => pL ((pC l).getD 6 .junk)) h)
  subst h0
  subst h1
  subst h2
  subst h3
  subst h4
  subst h5
  subst h6
  rfl
theorem Zgw : ∀ a b : List Z9, Z6a a = Z6a b → a = b
 | [], [], _ => rfl
 | [], _ :: _, h => by simp [Z6a] at h
 | _ :: _, [], h => by simp [Z6a] at h
 | x :: r, y :: t, h => by
  simp only [Z6a, Zlx] at h
  rw [Zht x y h.1, Zgw r t h.2]
end
theorem Z7y {a b : Z9} (h : Z22 a = Z22 b) : a = b := Zht a b (by rw [Z4W, Z4W, h])
structure ZZ where
 Root : Z9
 Groups : Int
 Fold : Bool
 deriving Inhabited
def Zir (a : ZZ) : List PV := [(eI .i64) a.Root.Kind, (eI .i64) a.Root.Lo, (eI .i64) a.Root.Hi, (eI .i64) a.Root.Mode, (eI .i64) a.Root.Ref, (eL Zv) a.Root.Set, (eL ZJ) a.Root.Kids, (eI .i64) a.Groups, eB a.Fold]
def Z2v (a : ZZ) (o0 o1 : Own) : List PV := [(eI .i64) a.Root.Kind, (eI .i64) a.Root.Lo, (eI .i64) a.Root.Hi, (eI .i64) a.Root.Mode, (eI .i64) a.Root.Ref, .lst o0 (a.Root.Set.map Zv), .lst o1 (a.Root.Kids.map ZJ), (eI .i64) a.Groups, eB a.Fold]
def ZP (a : ZZ) (o0 o1 : Own) : Row := [.p ((eI .i64) a.Root.Kind), .p ((eI .i64) a.Root.Lo), .p ((eI .i64) a.Root.Hi), .p ((eI .i64) a.Root.Mode), .p ((eI .i64) a.Root.Ref), .p (.lst o0 (a.Root.Set.map Zv)), .p (.lst o1 (a.Root.Kids.map ZJ)), .p ((eI .i64) a.Groups), .p (eB a.Fold)]
theorem ZkX {a b : ZZ} (h : Zir a = Zir b) : a = b := by
 have h0 : a.Root = b.Root := Z7y (congrArg (fun l => (l.drop 0).take 7) h)
 have h1 : a.Groups = b.Groups := Z8c _ _ (gj_ 7 h)
 have h2 : a.Fold = b.Fold := ZEJ _ _ (gj_ 8 h)
 cases a; cases b
 cases h0
 cases h1
 cases h2
 rfl
structure Z17 where
 Code : Int
 At : Int
 deriving Inhabited
def ZjZ (a : Z17) : List PV := [(eI .i64) a.Code, (eI .i64) a.At]
def Z49 (a : Z17) : List PV := [(eI .i64) a.Code, (eI .i64) a.At]
def Z1s (a : Z17) : Row := [.p ((eI .i64) a.Code), .p ((eI .i64) a.At)]
theorem Zm2 {a b : Z17} (h : ZjZ a = ZjZ b) : a = b := by
 have h0 : a.Code = b.Code := Z8c _ _ (gj_ 0 h)
 have h1 : a.At = b.At := Z8c _ _ (gj_ 1 h)
 cases a; cases b
 cases h0
 cases h1
 rfl
structure Zz where
 group : Int
 at_ : Int
 deriving Inhabited
def Zbe (a : Zz) : List PV := [(eI .i64) a.group, (eI .i64) a.at_]
def Z2X (a : Zz) : PV := .agg (Zbe a)
def Zef (a : Zz) : List PV := [(eI .i64) a.group, (eI .i64) a.at_]
def Zen (a : Zz) : Row := [.p ((eI .i64) a.group), .p ((eI .i64) a.at_)]
theorem ZkY {a b : Zz} (h : Zbe a = Zbe b) : a = b := by
 have h0 : a.group = b.group := Z8c _ _ (gj_ 0 h)
 have h1 : a.at_ = b.at_ := Z8c _ _ (gj_ 1 h)
 cases a; cases b
 cases h0
 cases h1
 rfl
theorem Zbf (a b : Zz) (h : Z2X a = Z2X b) : a = b := ZkY (congrArg pC h)
structure Z1C where
 b : (List Int)
 at_ : Int
 groups : Int
 deep : Int
 refs : (List Zz)
 fault : Z17
 deriving Inhabited
def Zqt (a : Z1C) (o0 o1 : Own) : List PV := [.lst o0 (a.b.map (eI .u8)), (eI .i64) a.at_, (eI .i64) a.groups, (eI .i64) a.deep, .lst o1 (a.refs.map Z2X), (eI .i64) a.fault.Code, (eI .i64) a.fault.At]
def Z3Q (a : Z1C) (o0 o1 : Own) : Row := [.p (.lst o0 (a.b.map (eI .u8))), .p ((eI .i64) a.at_), .p ((eI .i64) a.groups), .p ((eI .i64) a.deep), .p (.lst o1 (a.refs.map Z2X)), .p ((eI .i64) a.fault.Code), .p ((eI .i64) a.fault.At)]
structure ZlZ where
 out : (List Zm)
 fold : Bool
 loops : Int
 deriving Inhabited
def ZrA (a : ZlZ) (o0 : Own) : List PV := [.lst o0 (a.out.map ZC), eB a.fold, (eI .i64) a.loops]
end Go.Proofs.YtocikhhkicahoaaDoor.N2
end
noncomputable section
namespace Go.Proofs.YtocikhhkicahoaaDoor.N2
open Go Go.Abs
set_option maxRecDepth 100000
theorem et_ {α : Type} {a b c : α} (h : b = c) (g : a = b := by kernel_rfl) : a = c := g.trans h
theorem ru_ {R : Type} {Q : R → Res → Prop} {e : Option Res} {a b : R} (u : ∀ a b q, Q a q → Q b q → a = b) (h : RRun Q e a) (g : RRun Q e b) : a = b := RRun.uniq u h g
abbrev ZbK := ZZ.mk (Z9.mk 0 0 0 0 0 ([] : List Z8) ([] : List Z9)) 0 false
abbrev ZdA := Z17.mk 0 0
abbrev ZrL := Zm.mk 0 0 0 0 0 ([] : List Z8)
abbrev Z1D := Z9.mk 0 0 0 0 0 ([] : List Z8) ([] : List Z9)
abbrev ZN a0 a1 a2 a3 a4 a5 a6 o0 o1 := Z3Q (Z1C.mk a0 a1 a2 a3 a4 (Z17.mk a5 a6)) o0 o1
abbrev Z9r a0 a1 a2 a3 a4 a5 a6 a7 a8 o0 o1 := ZP (ZZ.mk (Z9.mk a0 a1 a2 a3 a4 a5 a6) a7 a8) o0 o1
abbrev Z2P a0 a1 a2 a3 a4 a5 a6 o0 o1 := Zk (Z9.mk a0 a1 a2 a3 a4 a5 a6) o0 o1
abbrev ZR (o : Own) (l : List PV) : AV := .p (.lst o l)
abbrev pA_ (l : List PV) : AV := .p (.agg l)
abbrev Z6r (zl : List Int) (z7 zh : Int) (zj : List Zz) (z2 z6 : Int) (zu zd : Own) : (Bool × Int) → Res → Prop := fun r q => ∃ (ex : List Row), q = ((bv r.1), [(ZN zl r.2 z7 zh zj z2 z6 zu zd)] ++ ex)
theorem ZjY (zl : List Int) (z7 zh : Int) (zj : List Zz) (z2 z6 : Int) (zu zd : Own) : ∀ a b q, Z6r zl z7 zh zj z2 z6 zu zd a q → Z6r zl z7 zh zj z2 z6 zu zd b q → a = b := by
 rintro a b q ⟨_, e1⟩ ⟨_, e2⟩
 have e := e1.symm.trans e2
 exact Z3C (congrArg (fun q : Res => pB (pA q.1)) e) (congrArg (fun q : Res => pI (pA (cellAt q 0 1))) e)
abbrev Z8V : (Int × Int) → Res → Prop := fun r q => ∃ (ex : List Row), q = ((.p (.tup [(.v (.int .i32 r.1)), (.v (.int .i64 r.2))])), ex)
theorem Zgt : ∀ a b q, Z8V a q → Z8V b q → a = b := by
 rintro a b q ⟨_, e1⟩ ⟨_, e2⟩
 have e := e1.symm.trans e2
 exact Z3C (congrArg (fun q : Res => pI ((pT (pA q.1)).getD 0 .junk)) e) (congrArg (fun q : Res => pI ((pT (pA q.1)).getD 1 .junk)) e)
abbrev Z3j : (Int × Int) → Res → Prop := fun r q => ∃ (ex : List Row), q = ((.p (.tup [(.v (.int .i64 r.1)), (.v (.int .i64 r.2))])), ex)
theorem ZdW : ∀ a b q, Z3j a q → Z3j b q → a = b := by
 rintro a b q ⟨_, e1⟩ ⟨_, e2⟩
 have e := e1.symm.trans e2
 exact Z3C (congrArg (fun q : Res => pI ((pT (pA q.1)).getD 0 .junk)) e) (congrArg (fun q : Res => pI ((pT (pA q.1)).getD 1 .junk)) e)
abbrev Z7I (b0 : Z1C) (zu zd : Own) : Int → Res → Prop := fun r q => ∃ (ex : List Row), q = ((iv r), [(Z3Q b0 zu zd)] ++ ex)
theorem ZjX (b0 : Z1C) (zu zd : Own) : ∀ a b q, Z7I b0 zu zd a q → Z7I b0 zu zd b q → a = b := by
 rintro a b q ⟨_, e1⟩ ⟨_, e2⟩
 have e := e1.symm.trans e2
 exact congrArg (fun q : Res => pI (pA q.1)) e
abbrev Z6E : Z9 → Res → Prop := fun r q => ∃ (ex : List Row), q = ((pA_ (ZI r .sh .sh)), ex)
theorem Zim : ∀ a b q, Z6E a q → Z6E b q → a = b := by
 rintro a b q ⟨_, e1⟩ ⟨_, e2⟩
 have e := e1.symm.trans e2
 exact Z7y (congrArg (fun q : Res => pC (pA q.1)) e)
abbrev Z2b (zl : List Int) (z7 zh : Int) (zj : List Zz) (z2 z6 : Int) (zu zd : Own) : (Int × Int) → Res → Prop := fun r q => ∃ (ex : List Row), q = ((iv r.1), [(ZN zl r.2 z7 zh zj z2 z6 zu zd)] ++ ex)
theorem Z6F (zl : List Int) (z7 zh : Int) (zj : List Zz) (z2 z6 : Int) (zu zd : Own) : ∀ a b q, Z2b zl z7 zh zj z2 z6 zu zd a q → Z2b zl z7 zh zj z2 z6 zu zd b q → a = b := by
 rintro a b q ⟨_, e1⟩ ⟨_, e2⟩
 have e := e1.symm.trans e2
 exact Z3C (congrArg (fun q : Res => pI (pA q.1)) e) (congrArg (fun q : Res => pI (pA (cellAt q 0 1))) e)
abbrev Zgf : Z8 → Res → Prop := fun r q => ∃ (ex : List Row), q = ((pA_ (ZU r)), ex)
theorem Zsh : ∀ a b q, Zgf a q → Zgf b q → a = b := by
 rintro a b q ⟨_, e1⟩ ⟨_, e2⟩
 have e := e1.symm.trans e2
 exact Zgv (congrArg (fun q : Res => pC (pA q.1)) e)
abbrev ZW : Bool → Res → Prop := fun r q => ∃ (ex : List Row), q = ((bv r), ex)
theorem Z2L : ∀ a b q, ZW a q → ZW b q → a = b := by
 rintro a b q ⟨_, e1⟩ ⟨_, e2⟩
 have e := e1.symm.trans e2
 exact congrArg (fun q : Res => pB (pA q.1)) e
abbrev ZL : Int → Res → Prop := fun r q => ∃ (ex : List Row), q = ((iv r), ex)
theorem Z1N : ∀ a b q, ZL a q → ZL b q → a = b := by
 rintro a b q ⟨_, e1⟩ ⟨_, e2⟩
 have e := e1.symm.trans e2
 exact congrArg (fun q : Res => pI (pA q.1)) e
abbrev Z3M : (List Z8) → Res → Prop := fun r q => ∃ (ex : List Row), q = ((ZR .sh (r.map Zv)), ex)
theorem Zb6 : ∀ a b q, Z3M a q → Z3M b q → a = b := by
 rintro a b q ⟨_, e1⟩ ⟨_, e2⟩
 have e := e1.symm.trans e2
 exact Z5l Z5Y (congrArg (fun q : Res => pL (pA q.1)) e)
abbrev Z2T : ((List Z8) × Int) → Res → Prop := fun r q => ∃ (ex : List Row), q = ((.p (.tup [(.lst .sh (r.1.map Zv)), (.v (.int .i64 r.2))])), ex)
theorem ZaE : ∀ a b q, Z2T a q → Z2T b q → a = b := by
 rintro a b q ⟨_, e1⟩ ⟨_, e2⟩
 have e := e1.symm.trans e2
 exact Z3C (Z5l Z5Y (congrArg (fun q : Res => pL ((pT (pA q.1)).getD 0 .junk)) e)) (congrArg (fun q : Res => pI ((pT (pA q.1)).getD 1 .junk)) e)
abbrev Z7H (zl : List Int) (z7 zh : Int) (zj : List Zz) (zu zd : Own) : (Int × Int × Int) → Res → Prop := fun r q => ∃ (ex : List Row), q = ((.p (.tup [])), [(ZN zl r.1 z7 zh zj r.2.1 r.2.2 zu zd)] ++ ex)
theorem ZjW (zl : List Int) (z7 zh : Int) (zj : List Zz) (zu zd : Own) : ∀ a b q, Z7H zl z7 zh zj zu zd a q → Z7H zl z7 zh zj zu zd b q → a = b := by
 rintro a b q ⟨_, e1⟩ ⟨_, e2⟩
 have e := e1.symm.trans e2
 exact Z3C (congrArg (fun q : Res => pI (pA (cellAt q 0 1))) e) (Z3C (congrArg (fun q : Res => pI (pA (cellAt q 0 5))) e) (congrArg (fun q : Res => pI (pA (cellAt q 0 6))) e))
abbrev Z7w : (Own × (List Z8)) → Res → Prop := fun r q => ∃ (ex : List Row), q = ((ZR r.1 (r.2.map Zv)), ex)
theorem Zfw : ∀ a b q, Z7w a q → Z7w b q → a = b := by
 rintro a b q ⟨_, e1⟩ ⟨_, e2⟩
 have e := e1.symm.trans e2
 exact Z3C (congrArg (fun q : Res => pOwn (pA q.1)) e) (Z5l Z5Y (congrArg (fun q : Res => pL (pA q.1)) e))
abbrev Z7v (z1B : Int) : Bool → Res → Prop := fun r q => ∃ (ex : List Row), q = ((bv r), [[(iv z1B)]] ++ ex)
theorem Zfv (z1B : Int) : ∀ a b q, Z7v z1B a q → Z7v z1B b q → a = b := by
 rintro a b q ⟨_, e1⟩ ⟨_, e2⟩
 have e := e1.symm.trans e2
 exact congrArg (fun q : Res => pB (pA q.1)) e
abbrev Z2H (z1B : Int) : Int → Res → Prop := fun r q => ∃ (ex : List Row), q = ((iv r), [[(iv z1B)]] ++ ex)
theorem Z9V (z1B : Int) : ∀ a b q, Z2H z1B a q → Z2H z1B b q → a = b := by
 rintro a b q ⟨_, e1⟩ ⟨_, e2⟩
 have e := e1.symm.trans e2
 exact congrArg (fun q : Res => pI (pA q.1)) e
abbrev Z63 (zl : List Int) (z7 zh : Int) (zj : List Zz) (zu zd : Own) : (Int × Int × Int × Int) → Res → Prop := fun r q => ∃ (ex : List Row), q = ((iv r.1), [(ZN zl r.2.1 z7 zh zj r.2.2.1 r.2.2.2 zu zd)] ++ ex)
theorem Zjz (zl : List Int) (z7 zh : Int) (zj : List Zz) (zu zd : Own) : ∀ a b q, Z63 zl z7 zh zj zu zd a q → Z63 zl z7 zh zj zu zd b q → a = b := by
 rintro a b q ⟨_, e1⟩ ⟨_, e2⟩
 have e := e1.symm.trans e2
 exact Z3C (congrArg (fun q : Res => pI (pA q.1)) e) (Z3C (congrArg (fun q : Res => pI (pA (cellAt q 0 1))) e) (Z3C (congrArg (fun q : Res => pI (pA (cellAt q 0 5))) e) (congrArg (fun q : Res => pI (pA (cellAt q 0 6))) e)))
abbrev Z4s (zl : List Int) (z7 zh : Int) (zu : Own) : (Z9 × Int × (List Zz) × Int × Int) → Res → Prop := fun r q => ∃ (p0_4 : Own) (ex : List Row), ZO p0_4 = true ∧ q = ((pA_ (ZI r.1 .sh .sh)), [(ZN zl r.2.1 z7 zh r.2.2.1 r.2.2.2.1 r.2.2.2.2 zu p0_4)] ++ ex)
theorem ZiZ (zl : List Int) (z7 zh : Int) (zu : Own) : ∀ a b q, Z4s zl z7 zh zu a q → Z4s zl z7 zh zu b q → a = b := by
 rintro a b q ⟨_, _, _, e1⟩ ⟨_, _, _, e2⟩
 have e := e1.symm.trans e2
 exact Z3C (Z7y (congrArg (fun q : Res => pC (pA q.1)) e)) (Z3C (congrArg (fun q : Res => pI (pA (cellAt q 0 1))) e) (Z3C (Z5l Zbf (congrArg (fun q : Res => pL (pA (cellAt q 0 4))) e)) (Z3C (congrArg (fun q : Res => pI (pA (cellAt q 0 5))) e) (congrArg (fun q : Res => pI (pA (cellAt q 0 6))) e))))
abbrev Z4t (zl : List Int) (z7 zh : Int) (zj : List Zz) (zu zd : Own) : (Int × (Own × (List Z8)) × Bool × Int × Int × Int) → Res → Prop := fun r q => ∃ (ex : List Row), q = ((.p (.tup [(.v (.int .i64 r.1)), (.lst r.2.1.1 (r.2.1.2.map Zv)), (.v (.bool r.2.2.1))])), [(ZN zl r.2.2.2.1 z7 zh zj r.2.2.2.2.1 r.2.2.2.2.2 zu zd)] ++ ex)
theorem Zj0 (zl : List Int) (z7 zh : Int) (zj : List Zz) (zu zd : Own) : ∀ a b q, Z4t zl z7 zh zj zu zd a q → Z4t zl z7 zh zj zu zd b q → a = b := by
 rintro a b q ⟨_, e1⟩ ⟨_, e2⟩
 have e := e1.symm.trans e2
 exact Z3C (congrArg (fun q : Res => pI ((pT (pA q.1)).getD 0 .junk)) e) (Z3C (Z3C (congrArg (fun q : Res => pOwn ((pT (pA q.1)).getD 1 .junk)) e) (Z5l Z5Y (congrArg (fun q : Res => pL ((pT (pA q.1)).getD 1 .junk)) e))) (Z3C (congrArg (fun q : Res => pB ((pT (pA q.1)).getD 2 .junk)) e) (Z3C (congrArg (fun q : Res => pI (pA (cellAt q 0 1))) e) (Z3C (congrArg (fun q : Res => pI (pA (cellAt q 0 5))) e) (congrArg (fun q : Res => pI (pA (cellAt q 0 6))) e)))))
abbrev Z7Y : (List Z8) → Res → Prop := fun r q => ∃ (p0_0 : Own) (ex : List Row), q = ((.p (.tup [])), [[(ZR p0_0 (r.map Zv))]] ++ ex)
theorem Zin : ∀ a b q, Z7Y a q → Z7Y b q → a = b := by
 rintro a b q ⟨_, _, e1⟩ ⟨_, _, e2⟩
 have e := e1.symm.trans e2
 exact Z5l Z5Y (congrArg (fun q : Res => pL (pA (cellAt q 0 0))) e)
abbrev Z1I (zl : List Int) (z7 zh : Int) (zj : List Zz) (zu zd : Own) : (Z9 × Int × Int × Int) → Res → Prop := fun r q => ∃ (ex : List Row), q = ((pA_ (ZI r.1 .sh .sh)), [(ZN zl r.2.1 z7 zh zj r.2.2.1 r.2.2.2 zu zd)] ++ ex)
theorem Zal (zl : List Int) (z7 zh : Int) (zj : List Zz) (zu zd : Own) : ∀ a b q, Z1I zl z7 zh zj zu zd a q → Z1I zl z7 zh zj zu zd b q → a = b := by
 rintro a b q ⟨_, e1⟩ ⟨_, e2⟩
 have e := e1.symm.trans e2
 exact Z3C (Z7y (congrArg (fun q : Res => pC (pA q.1)) e)) (Z3C (congrArg (fun q : Res => pI (pA (cellAt q 0 1))) e) (Z3C (congrArg (fun q : Res => pI (pA (cellAt q 0 5))) e) (congrArg (fun q : Res => pI (pA (cellAt q 0 6))) e)))
abbrev ZdV : (List ByteArray) → Res → Prop := fun r q => ∃ (ex : List Row), q = ((ZR .sh (r.map eS)), ex)
theorem Zp0 : ∀ a b q, ZdV a q → ZdV b q → a = b := by
 rintro a b q ⟨_, e1⟩ ⟨_, e2⟩
 have e := e1.symm.trans e2
 exact Z5l ZEK (congrArg (fun q : Res => pL (pA q.1)) e)
abbrev Z2W (zl : List Int) (zu : Own) : (Z9 × Bool × Int × Int × Int × (List Zz) × Int × Int) → Res → Prop := fun r q => ∃ (p0_4 : Own) (ex : List Row), ZO p0_4 = true ∧ q = ((.p (.tup [(.agg (ZI r.1 .sh .sh)), (.v (.bool r.2.1))])), [(ZN zl r.2.2.1 r.2.2.2.1 r.2.2.2.2.1 r.2.2.2.2.2.1 r.2.2.2.2.2.2.1 r.2.2.2.2.2.2.2 zu p0_4)] ++ ex)
theorem ZdB (zl : List Int) (zu : Own) : ∀ a b q, Z2W zl zu a q → Z2W zl zu b q → a = b := by
 rintro a b q ⟨_, _, _, e1⟩ ⟨_, _, _, e2⟩
 have e := e1.symm.trans e2
 exact Z3C (Z7y (congrArg (fun q : Res => pC ((pT (pA q.1)).getD 0 .junk)) e)) (Z3C (congrArg (fun q : Res => pB ((pT (pA q.1)).getD 1 .junk)) e) (Z3C (congrArg (fun q : Res => pI (pA (cellAt q 0 1))) e) (Z3C (congrArg (fun q : Res => pI (pA (cellAt q 0 2))) e) (Z3C (congrArg (fun q : Res => pI (pA (cellAt q 0 3))) e) (Z3C (Z5l Zbf (congrArg (fun q : Res => pL (pA (cellAt q 0 4))) e)) (Z3C (congrArg (fun q : Res => pI (pA (cellAt q 0 5))) e) (congrArg (fun q : Res => pI (pA (cellAt q 0 6))) e)))))))
abbrev Z3i (zl : List Int) (z7 zh : Int) (zj : List Zz) (zu zd : Own) : (Int × Int × Int × Int × Int) → Res → Prop := fun r q => ∃ (ex : List Row), q = ((.p (.tup [(.v (.int .i64 r.1)), (.v (.int .i64 r.2.1))])), [(ZN zl r.2.2.1 z7 zh zj r.2.2.2.1 r.2.2.2.2 zu zd)] ++ ex)
theorem ZiY (zl : List Int) (z7 zh : Int) (zj : List Zz) (zu zd : Own) : ∀ a b q, Z3i zl z7 zh zj zu zd a q → Z3i zl z7 zh zj zu zd b q → a = b := by
 rintro a b q ⟨_, e1⟩ ⟨_, e2⟩
 have e := e1.symm.trans e2
 exact Z3C (congrArg (fun q : Res => pI ((pT (pA q.1)).getD 0 .junk)) e) (Z3C (congrArg (fun q : Res => pI ((pT (pA q.1)).getD 1 .junk)) e) (Z3C (congrArg (fun q : Res => pI (pA (cellAt q 0 1))) e) (Z3C (congrArg (fun q : Res => pI (pA (cellAt q 0 5))) e) (congrArg (fun q : Res => pI (pA (cellAt q 0 6))) e))))
abbrev Z2y (zl : List Int) (zu : Own) : (Z9 × Int × Int × Int × (List Zz) × Int × Int) → Res → Prop := fun r q => ∃ (p0_4 : Own) (ex : List Row), ZO p0_4 = true ∧ q = ((pA_ (ZI r.1 .sh .sh)), [(ZN zl r.2.1 r.2.2.1 r.2.2.2.1 r.2.2.2.2.1 r.2.2.2.2.2.1 r.2.2.2.2.2.2 zu p0_4)] ++ ex)
theorem Z8U (zl : List Int) (zu : Own) : ∀ a b q, Z2y zl zu a q → Z2y zl zu b q → a = b := by
 rintro a b q ⟨_, _, _, e1⟩ ⟨_, _, _, e2⟩
 have e := e1.symm.trans e2
 exact Z3C (Z7y (congrArg (fun q : Res => pC (pA q.1)) e)) (Z3C (congrArg (fun q : Res => pI (pA (cellAt q 0 1))) e) (Z3C (congrArg (fun q : Res => pI (pA (cellAt q 0 2))) e) (Z3C (congrArg (fun q : Res => pI (pA (cellAt q 0 3))) e) (Z3C (Z5l Zbf (congrArg (fun q : Res => pL (pA (cellAt q 0 4))) e)) (Z3C (congrArg (fun q : Res => pI (pA (cellAt q 0 5))) e) (congrArg (fun q : Res => pI (pA (cellAt q 0 6))) e))))))
abbrev Z46 : (ZZ × Z17) → Res → Prop := fun r q => ∃ (ex : List Row), q = ((.p (.tup [(.agg (Z2v r.1 .sh .sh)), (.agg (Z49 r.2))])), ex)
theorem Zji : ∀ a b q, Z46 a q → Z46 b q → a = b := by
 rintro a b q ⟨_, e1⟩ ⟨_, e2⟩
 have e := e1.symm.trans e2
 exact Z3C (ZkX (congrArg (fun q : Res => pC ((pT (pA q.1)).getD 0 .junk)) e)) (Zm2 (congrArg (fun q : Res => pC ((pT (pA q.1)).getD 1 .junk)) e))
abbrev Z8l (zB : Bool) (zD : Int) : (Int × (List Zm)) → Res → Prop := fun r q => ∃ (ex : List Row), q = ((iv r.1), [[(.p (.ml 6 (r.2.map ZC))), (bv zB), (iv zD)]] ++ ex)
theorem Zj1 (zB : Bool) (zD : Int) : ∀ a b q, Z8l zB zD a q → Z8l zB zD b q → a = b := by
 rintro a b q ⟨_, e1⟩ ⟨_, e2⟩
 have e := e1.symm.trans e2
 exact Z3C (congrArg (fun q : Res => pI (pA q.1)) e) (Z5l Z6B (congrArg (fun q : Res => pL (pA (cellAt q 0 0))) e))
abbrev Z6h (zB : Bool) (zD : Int) : (List Zm) → Res → Prop := fun r q => ∃ (ex : List Row), q = ((.p (.tup [])), [[(.p (.ml 6 (r.map ZC))), (bv zB), (iv zD)]] ++ ex)
theorem Zhz (zB : Bool) (zD : Int) : ∀ a b q, Z6h zB zD a q → Z6h zB zD b q → a = b := by
 rintro a b q ⟨_, e1⟩ ⟨_, e2⟩
 have e := e1.symm.trans e2
 exact Z5l Z6B (congrArg (fun q : Res => pL (pA (cellAt q 0 0))) e)
abbrev Z18 (zB : Bool) : ((List Zm) × Int) → Res → Prop := fun r q => ∃ (ex : List Row), q = ((.p (.tup [])), [[(.p (.ml 6 (r.1.map ZC))), (bv zB), (iv r.2)]] ++ ex)
theorem Z2Y (zB : Bool) : ∀ a b q, Z18 zB a q → Z18 zB b q → a = b := by
 rintro a b q ⟨_, e1⟩ ⟨_, e2⟩
 have e := e1.symm.trans e2
 exact Z3C (Z5l Z6B (congrArg (fun q : Res => pL (pA (cellAt q 0 0))) e)) (congrArg (fun q : Res => pI (pA (cellAt q 0 2))) e)
abbrev Z3v (b1 : Z9) (z1P : Bool) (zH zE : Own) : ((List Zm) × Int) → Res → Prop := fun r q => ∃ (ex : List Row), q = ((.p (.tup [])), [[(.ptr 2 0)], (Zk b1 zH zE), [(.p (.ml 6 (r.1.map ZC))), (bv z1P), (iv r.2)]] ++ ex)
theorem Z8z (b1 : Z9) (z1P : Bool) (zH zE : Own) : ∀ a b q, Z3v b1 z1P zH zE a q → Z3v b1 z1P zH zE b q → a = b := by
 rintro a b q ⟨_, e1⟩ ⟨_, e2⟩
 have e := e1.symm.trans e2
 exact Z3C (Z5l Z6B (congrArg (fun q : Res => pL (pA (cellAt q 2 0))) e)) (congrArg (fun q : Res => pI (pA (cellAt q 2 2))) e)
abbrev Z3w (zB : Bool) (b2 : Z9) (z1c z12 : Own) : ((List Zm) × Int) → Res → Prop := fun r q => ∃ (ex : List Row), q = ((.p (.tup [])), [[(.p (.ml 6 (r.1.map ZC))), (bv zB), (iv r.2)], [(.ptr 0 0)], (Zk b2 z1c z12)] ++ ex)
theorem Z8A (zB : Bool) (b2 : Z9) (z1c z12 : Own) : ∀ a b q, Z3w zB b2 z1c z12 a q → Z3w zB b2 z1c z12 b q → a = b := by
 rintro a b q ⟨_, e1⟩ ⟨_, e2⟩
 have e := e1.symm.trans e2
 exact Z3C (Z5l Z6B (congrArg (fun q : Res => pL (pA (cellAt q 0 0))) e)) (congrArg (fun q : Res => pI (pA (cellAt q 0 2))) e)
abbrev ZaF : ((List Zm) × Int) → Res → Prop := fun r q => ∃ (ex : List Row), q = ((.p (.tup [(.lst .sh (r.1.map ZC)), (.v (.int .i64 r.2))])), ex)
theorem Zog : ∀ a b q, ZaF a q → ZaF b q → a = b := by
 rintro a b q ⟨_, e1⟩ ⟨_, e2⟩
 have e := e1.symm.trans e2
 exact Z3C (Z5l Z6B (congrArg (fun q : Res => pL ((pT (pA q.1)).getD 0 .junk)) e)) (congrArg (fun q : Res => pI ((pT (pA q.1)).getD 1 .junk)) e)
abbrev Z74 : ((List Zm) × Int × Int) → Res → Prop := fun r q => ∃ (ex : List Row), q = ((.p (.tup [(.lst .sh (r.1.map ZC)), (.v (.int .i64 r.2.1)), (.v (.int .i64 r.2.2))])), ex)
theorem Zjy : ∀ a b q, Z74 a q → Z74 b q → a = b := by
 rintro a b q ⟨_, e1⟩ ⟨_, e2⟩
 have e := e1.symm.trans e2
 exact Z3C (Z5l Z6B (congrArg (fun q : Res => pL ((pT (pA q.1)).getD 0 .junk)) e)) (Z3C (congrArg (fun q : Res => pI ((pT (pA q.1)).getD 1 .junk)) e) (congrArg (fun q : Res => pI ((pT (pA q.1)).getD 2 .junk)) e))
def Z8C (x0 : ByteArray) : Option Bool := pick fun r => RRun ZW (EE 3 [(.p (.v (.string x0)))] []) r
def Zfo x0 r (h : Z8C x0 = some r) := Z1m h
def Z85 : Option Bool := pick fun r => RRun ZW (EE 8 [] []) r
def ZhJ r (h : Z85 = some r) := Z1m h
def Z3b (x0 : ByteArray) : Option ((List Zm) × Int × Int) := pick fun r => RRun Z74 (EE 9 [(.p (.v (.string x0)))] []) r
def Z9M x0 r (h : Z3b x0 = some r) := Z1m h
def Zbs (x0 : ByteArray) : Option (ZZ × Z17) := pick fun r => RRun Z46 (EE 10 [(.p (.v (.string x0)))] []) r
def Ziw x0 r (h : Zbs x0 = some r) := Z1m h
def Z1J (x1 : ByteArray) (zl : List Int) (zn : Int) : Option (Bool × Int) := pick fun r => ∀ (z7 zh : Int) (zj : List Zz) (z2 z6 : Int) (zu zd : Own) (zy : ZO zd = true), RRun (Z6r zl z7 zh zj z2 z6 zu zd) (EE 19 [(.ptr 0 0), (.p (.v (.string x1)))] [(ZN zl zn z7 zh zj z2 z6 zu zd)]) r
def Z1U x1 zl zn z7 zh zj z2 z6 zu zd zy r (h : Z1J x1 zl zn = some r) := Z1m h z7 zh zj z2 z6 zu zd zy
def Z4f (zl : List Int) (zn z7 zh : Int) (zj : List Zz) (z2 z6 : Int) : Option (Z9 × Int × Int × Int × (List Zz) × Int × Int) := pick fun r => ∀ (zu zd : Own) (zy : ZO zd = true), RRun (Z2y zl zu) (EE 20 [(.ptr 0 0)] [(ZN zl zn z7 zh zj z2 z6 zu zd)]) r
def Zev zl zn z7 zh zj z2 z6 zu zd zy r (h : Z4f zl zn z7 zh zj z2 z6 = some r) := Z1m h zu zd zy
def Z6Q (zl : List Int) (zn z7 zh : Int) (zj : List Zz) (z2 z6 : Int) : Option (Z9 × Int × Int × Int × (List Zz) × Int × Int) := pick fun r => ∀ (zu zd : Own) (zy : ZO zd = true), RRun (Z2y zl zu) (EE 30 [(.ptr 0 0)] [(ZN zl zn z7 zh zj z2 z6 zu zd)]) r
def Zex zl zn z7 zh zj z2 z6 zu zd zy r (h : Z6Q zl zn z7 zh zj z2 z6 = some r) := Z1m h zu zd zy
def Z5I (x3 : List Z9) (zl : List Int) (zn z7 zh : Int) (zj : List Zz) (z2 z6 : Int) : Option (Z9 × Int × Int × Int × (List Zz) × Int × Int) := pick fun r => ∀ (b1 : Z9) (ox3 zu zd zH zE : Own) (hox3 : ZO ox3 = true) (zy : ZO zd = true) (z19 : ZO zH = true) (z11 : ZO zE = true), RRun (Z2y zl zu) (Zmc 1 (.ptr 0 0) (.ptr 1 0) (ZR ox3 (x3.map ZJ)) [(ZN zl zn z7 zh zj z2 z6 zu zd), (Zk b1 zH zE)]) r
def Zcf x3 zl zn z7 zh zj z2 z6 b1 ox3 zu zd zH zE hox3 zy z19 z11 r (h : Z5I x3 zl zn z7 zh zj z2 z6 = some r) := Z1m h b1 ox3 zu zd zH zE hox3 zy z19 z11
def Z2F (b0 : Z1C) : Option Int := pick fun r => ∀ (zu zd : Own) (zy : ZO zd = true), RRun (Z7I b0 zu zd) (EE 47 [(.ptr 0 0)] [(Z3Q b0 zu zd)]) r
def Z2V b0 zu zd zy r (h : Z2F b0 = some r) := Z1m h zu zd zy
def ZdR (x0 : List Int) (x1 : Int) : Option (Int × Int) := pick fun r => ∀ (ox0 : Own), RRun Z3j (EE 62 [(ZR ox0 (x0.map (eI .u8))), (iv x1)] []) r
def Zkx x0 x1 ox0 r (h : ZdR x0 x1 = some r) := Z1m h ox0
def Z8Z (x0 : List Int) : Option (Int × Int) := pick fun r => ∀ (ox0 : Own), RRun Z8V (EE 76 [(ZR ox0 (x0.map (eI .u8)))] []) r
def Zg0 x0 ox0 r (h : Z8Z x0 = some r) := Z1m h ox0
def ZaO (x0 : Int) (x1 : List Z9) : Option Z9 := pick fun r => ∀ (ox1 : Own), RRun Z6E (EE 31 [(iv x0), (ZR ox1 (x1.map ZJ))] []) r
def Zhx x0 x1 ox1 r (h : ZaO x0 x1 = some r) := Z1m h ox1
def Z9G (zl : List Int) (zn z7 zh : Int) (zj : List Zz) (z2 z6 : Int) : Option (Z9 × Bool × Int × Int × Int × (List Zz) × Int × Int) := pick fun r => ∀ (zu zd : Own) (zy : ZO zd = true), RRun (Z2W zl zu) (EE 48 [(.ptr 0 0)] [(ZN zl zn z7 zh zj z2 z6 zu zd)]) r
def ZjJ zl zn z7 zh zj z2 z6 zu zd zy r (h : Z9G zl zn z7 zh zj z2 z6 = some r) := Z1m h zu zd zy
def Z3m (zl : List Int) (zn : Int) : Option (Int × Int) := pick fun r => ∀ (z7 zh : Int) (zj : List Zz) (z2 z6 : Int) (zu zd : Own) (zy : ZO zd = true), RRun (Z2b zl z7 zh zj z2 z6 zu zd) (EE 63 [(.ptr 0 0)] [(ZN zl zn z7 zh zj z2 z6 zu zd)]) r
def Z3K zl zn z7 zh zj z2 z6 zu zd zy r (h : Z3m zl zn = some r) := Z1m h z7 zh zj z2 z6 zu zd zy
def Z2w (x0 : Int) : Option Z8 := pick fun r => RRun Zgf (EE 65 [(iv x0)] []) r
def Z2l x0 r (h : Z2w x0 = some r) := Z1m h
def Z3Y (x0 : Bool) (x1 : List Z8) : Option Z9 := pick fun r => ∀ (ox1 : Own), RRun Z6E (EE 64 [(bv x0), (ZR ox1 (x1.map Zv))] []) r
def Z48 x0 x1 ox1 r (h : Z3Y x0 x1 = some r) := Z1m h ox1
def ZeX (x0 : List Z8) : Option ((List Z8) × Int) := pick fun r => ∀ (ox0 : Own), RRun Z2T (EE 77 [(ZR ox0 (x0.map Zv))] []) r
def Zqe x0 ox0 r (h : ZeX x0 = some r) := Z1m h ox0
def Z5b (x0 : List Z8) : Option Bool := pick fun r => ∀ (ox0 : Own), RRun ZW (EE 96 [(ZR ox0 (x0.map Zv)), (.clo 97 [] [])] []) r
def Zdr x0 ox0 r (h : Z5b x0 = some r) := Z1m h ox0
def Z6f (x0 : List Z8) : Option Int := pick fun r => ∀ (ox0 : Own), RRun ZL (EE 104 [(ZR ox0 (x0.map Zv)), (.clo 97 [] [])] []) r
def ZeP x0 ox0 r (h : Z6f x0 = some r) := Z1m h ox0
def Z42 (x0 : List Z8) (x7 x8 : Int) : Option Int := pick fun r => ∀ (ox0 : Own), RRun ZL (Zk2 0 (ZR ox0 (x0.map Zv)) (.clo 97 [] []) (iv x7) (iv x8) []) r
def Z8Q x0 x7 x8 ox0 r (h : Z42 x0 x7 x8 = some r) := Z1m h ox0
def ZcR (x0 : Z8) : Option Bool := pick fun r => RRun ZW (EE 97 [(pA_ (ZU x0))] []) r
def ZnN x0 r (h : ZcR x0 = some r) := Z1m h
def Z7M (x0 : Z8) : Option Bool := pick fun r => RRun ZW (EE 22 [(pA_ (ZU x0))] []) r
def ZdE x0 r (h : Z7M x0 = some r) := Z1m h
def ZaN (x0 : List Z8) : Option (List Z8) := pick fun r => ∀ (ox0 : Own), RRun Z3M (EE 25 [(ZR ox0 (x0.map Zv))] []) r
def Zdh x0 ox0 r (h : ZaN x0 = some r) := Z1m h ox0
def Za9 (x0 : List Z8) : Option ((List Z8) × Int) := pick fun r => ∀ (ox0 : Own), RRun Z2T (EE 17 [(ZR ox0 (x0.map Zv))] []) r
def ZgC x0 ox0 r (h : Za9 x0 = some r) := Z1m h ox0
def Z4N (x0 : List Z8) : Option Bool := pick fun r => ∀ (ox0 : Own), RRun ZW (EE 12 [(ZR ox0 (x0.map Zv))] []) r
def Z6P x0 ox0 r (h : Z4N x0 = some r) := Z1m h ox0
def Z6O (x3 : Int) (x6 : List Z8) (x7 x8 : Int) : Option Bool := pick fun r => ∀ (ox6 : Own), RRun ZW (Zm6 0 (iv x3) (ZR ox6 (x6.map Zv)) (iv x7) (iv x8) []) r
def Zcb x3 x6 x7 x8 ox6 r (h : Z6O x3 x6 x7 x8 = some r) := Z1m h ox6
def ZbV (x0 : List Z8) : Option (List Z8) := pick fun r => ∀ (ox0 : Own), RRun Z3M (EE 26 [(ZR ox0 (x0.map Zv))] []) r
def Zmy x0 ox0 r (h : ZbV x0 = some r) := Z1m h ox0
def Z8d (x3 : List Z8) (x4 : Int) (x7 : List Z8) (x8 x9 : Int) : Option (List Z8) := pick fun r => ∀ (ox3 ox7 : Own) (hox3 : ZO ox3 = true), RRun Z3M (Zma 0 (ZR ox3 (x3.map Zv)) (iv x4) (ZR ox7 (x7.map Zv)) (iv x8) (iv x9) []) r
def Zes x3 x4 x7 x8 x9 ox3 ox7 hox3 r (h : Z8d x3 x4 x7 x8 x9 = some r) := Z1m h ox3 ox7 hox3
def Z4B (x1 : Int) (zl : List Int) (zn z7 zh : Int) (zj : List Zz) (z2 z6 : Int) : Option (Z9 × Int × (List Zz) × Int × Int) := pick fun r => ∀ (zu zd : Own) (zy : ZO zd = true), RRun (Z4s zl z7 zh zu) (EE 66 [(.ptr 0 0), (iv x1)] [(ZN zl zn z7 zh zj z2 z6 zu zd)]) r
def ZiA x1 zl zn z7 zh zj z2 z6 zu zd zy r (h : Z4B x1 zl zn z7 zh zj z2 z6 = some r) := Z1m h zu zd zy
def Z1f (x1 x2 : Int) (zl : List Int) (z2 z6 : Int) : Option (Int × Int × Int) := pick fun r => ∀ (zn z7 zh : Int) (zj : List Zz) (zu zd : Own) (zy : ZO zd = true), RRun (Z7H zl z7 zh zj zu zd) (EE 21 [(.ptr 0 0), (iv x1), (iv x2)] [(ZN zl zn z7 zh zj z2 z6 zu zd)]) r
def Z1j x1 x2 zl zn z7 zh zj z2 z6 zu zd zy r (h : Z1f x1 x2 zl z2 z6 = some r) := Z1m h zn z7 zh zj zu zd zy
def Z7A (x0 : Int) : Option (Own × (List Z8)) := pick fun r => RRun Z7w (EE 78 [(iv x0)] []) r
def Zbh x0 r (h : Z7A x0 = some r) := Z1m h
def Z7p (x1 x2 : Int) (zl : List Int) (zn z7 zh : Int) (zj : List Zz) (z2 z6 : Int) : Option (Int × Int × Int × Int) := pick fun r => ∀ (zu zd : Own) (zy : ZO zd = true), RRun (Z63 zl z7 zh zj zu zd) (EE 79 [(.ptr 0 0), (iv x1), (iv x2)] [(ZN zl zn z7 zh zj z2 z6 zu zd)]) r
def Zde x1 x2 zl zn z7 zh zj z2 z6 zu zd zy r (h : Z7p x1 x2 zl zn z7 zh zj z2 z6 = some r) := Z1m h zu zd zy
def ZdL (x0 : Int) : Option Int := pick fun r => RRun ZL (EE 98 [(iv x0)] []) r
def Zkp x0 r (h : ZdL x0 = some r) := Z1m h
def Z7o (x0 : List Z8) (x1 : Int) : Option Bool := pick fun r => ∀ (ox0 : Own), RRun ZW (EE 24 [(ZR ox0 (x0.map Zv)), (iv x1)] []) r
def Zc9 x0 x1 ox0 r (h : Z7o x0 x1 = some r) := Z1m h ox0
def Z5a (x0 : List Z8) (z1B : Int) : Option Bool := pick fun r => ∀ (ox0 : Own), RRun (Z7v z1B) (EE 32 [(ZR ox0 (x0.map Zv)), (.clo 33 [] [(.ptr 0 0)])] [[(iv z1B)]]) r
def Zdp x0 z1B ox0 r (h : Z5a x0 z1B = some r) := Z1m h ox0
def Z6e (x0 : List Z8) (z1B : Int) : Option Int := pick fun r => ∀ (ox0 : Own), RRun (Z2H z1B) (EE 50 [(ZR ox0 (x0.map Zv)), (.clo 33 [] [(.ptr 0 0)])] [[(iv z1B)]]) r
def ZeN x0 z1B ox0 r (h : Z6e x0 z1B = some r) := Z1m h ox0
def Z41 (x0 : List Z8) (x7 x8 z1B : Int) : Option Int := pick fun r => ∀ (ox0 : Own), RRun (Z2H z1B) (Zmk 1 (ZR ox0 (x0.map Zv)) (.clo 33 [] [(.ptr 0 0)]) (iv x7) (iv x8) [[(iv z1B)]]) r
def Z8O x0 x7 x8 z1B ox0 r (h : Z41 x0 x7 x8 z1B = some r) := Z1m h ox0
def ZaB (x0 : Z8) (z1B : Int) : Option Bool := pick fun r => RRun (Z7v z1B) (EE 33 [(pA_ (ZU x0)), (.ptr 0 0)] [[(iv z1B)]]) r
def Zl5 x0 z1B r (h : ZaB x0 z1B = some r) := Z1m h
def Z8Y (x1 : Int) (zl : List Int) (zn z7 zh : Int) (zj : List Zz) (z2 z6 : Int) : Option (Z9 × Int × Int × Int) := pick fun r => ∀ (zu zd : Own) (zy : ZO zd = true), RRun (Z1I zl z7 zh zj zu zd) (EE 67 [(.ptr 0 0), (iv x1)] [(ZN zl zn z7 zh zj z2 z6 zu zd)]) r
def Zja x1 zl zn z7 zh zj z2 z6 zu zd zy r (h : Z8Y x1 zl zn z7 zh zj z2 z6 = some r) := Z1m h zu zd zy
def Z43 (x1 : Int) (x5 : Bool) (x8 : Int) (zl : List Int) (zn z7 zh : Int) (zj : List Zz) (z2 z6 : Int) (z1x : List Z8) : Option (Z9 × Int × Int × Int) := pick fun r => ∀ (b1 : Z9) (zu zd zH zE z1Z : Own) (zy : ZO zd = true) (z19 : ZO zH = true) (z11 : ZO zE = true), RRun (Z1I zl z7 zh zj zu zd) (Zmm 1 (.ptr 0 0) (iv x1) (.ptr 1 0) (bv x5) (.ptr 2 0) (.clo 80 [] [(.ptr 2 0)]) (iv x8) [(ZN zl zn z7 zh zj z2 z6 zu zd), (Zk b1 zH zE), [(ZR z1Z (z1x.map Zv))]]) r
def Zbu x1 x5 x8 zl zn z7 zh zj z2 z6 b1 z1x zu zd zH zE z1Z zy z19 z11 r (h : Z43 x1 x5 x8 zl zn z7 zh zj z2 z6 z1x = some r) := Z1m h b1 zu zd zH zE z1Z zy z19 z11
def Z5J (zl : List Int) (zn z7 zh : Int) (zj : List Zz) (z2 z6 : Int) : Option (Int × (Own × (List Z8)) × Bool × Int × Int × Int) := pick fun r => ∀ (zu zd : Own) (zy : ZO zd = true), RRun (Z4t zl z7 zh zj zu zd) (EE 81 [(.ptr 0 0)] [(ZN zl zn z7 zh zj z2 z6 zu zd)]) r
def Zci zl zn z7 zh zj z2 z6 zu zd zy r (h : Z5J zl zn z7 zh zj z2 z6 = some r) := Z1m h zu zd zy
def Z6v (x0 z1B : List Z8) : Option (List Z8) := pick fun r => ∀ (ox0 zi5 : Own), RRun Z7Y (EE 80 [(ZR ox0 (x0.map Zv)), (.ptr 0 0)] [[(ZR zi5 (z1B.map Zv))]]) r
def ZbW x0 z1B ox0 zi5 r (h : Z6v x0 z1B = some r) := Z1m h ox0 zi5
def Z9c (x0 x1 : List Z8) : Option ((List Z8) × Int) := pick fun r => ∀ (ox0 ox1 : Own), RRun Z2T (EE 39 [(ZR ox0 (x0.map Zv)), (ZR ox1 (x1.map Zv))] []) r
def Zhw x0 x1 ox0 ox1 r (h : Z9c x0 x1 = some r) := Z1m h ox0 ox1
def ZaV (x0 : List (List Z8)) : Option (List Z8) := pick fun r => ∀ (ox0 : Own), RRun Z3M (EE 57 [(ZR ox0 (x0.map (eL Zv)))] []) r
def ZiI x0 ox0 r (h : ZaV x0 = some r) := Z1m h ox0
def Z4X (x1 : Int) (zl : List Int) (zn z7 zh : Int) (zj : List Zz) (z2 z6 : Int) : Option (Z9 × Bool × Int × Int × Int × (List Zz) × Int × Int) := pick fun r => ∀ (zu zd : Own) (zy : ZO zd = true), RRun (Z2W zl zu) (EE 68 [(.ptr 0 0), (iv x1)] [(ZN zl zn z7 zh zj z2 z6 zu zd)]) r
def Zjc x1 zl zn z7 zh zj z2 z6 zu zd zy r (h : Z4X x1 zl zn z7 zh zj z2 z6 = some r) := Z1m h zu zd zy
def Ze1 : Option (List ByteArray) := pick fun r => RRun ZdV (EE 83 [] []) r
def Zoq r (h : Ze1 = some r) := Z1m h
def Z5S (x0 : List ByteArray) (zl : List Int) (zn : Int) : Option (Int × Int) := pick fun r => ∀ (z7 zh : Int) (zj : List Zz) (z2 z6 : Int) (ox0 zu zd : Own) (zy : ZO zd = true), RRun (Z2b zl z7 zh zj z2 z6 zu zd) (EE 82 [(ZR ox0 (x0.map eS)), (.clo 19 [(.ptr 0 0)] [])] [(ZN zl zn z7 zh zj z2 z6 zu zd)]) r
def Zed x0 zl zn z7 zh zj z2 z6 ox0 zu zd zy r (h : Z5S x0 zl zn = some r) := Z1m h z7 zh zj z2 z6 ox0 zu zd zy
def Z2m (x0 : List ByteArray) (x7 x8 : Int) (zl : List Int) (zn : Int) : Option (Int × Int) := pick fun r => ∀ (z7 zh : Int) (zj : List Zz) (z2 z6 : Int) (ox0 zu zd : Own) (zy : ZO zd = true), RRun (Z2b zl z7 zh zj z2 z6 zu zd) (Zmp 1 (ZR ox0 (x0.map eS)) (.clo 19 [(.ptr 0 0)] []) (iv x7) (iv x8) [(ZN zl zn z7 zh zj z2 z6 zu zd)]) r
def Z8v x0 x7 x8 zl zn z7 zh zj z2 z6 ox0 zu zd zy r (h : Z2m x0 x7 x8 zl zn = some r) := Z1m h z7 zh zj z2 z6 ox0 zu zd zy
def Z6S (x1 : Z9) (x2 : Bool) (zl : List Int) (zn z7 zh : Int) (zj : List Zz) (z2 z6 : Int) : Option (Z9 × Int × Int × Int) := pick fun r => ∀ (zQ z10 zu zd : Own) (zy : ZO zd = true), RRun (Z1I zl z7 zh zj zu zd) (EE 49 [(.ptr 0 0), (pA_ (ZI x1 zQ z10)), (bv x2)] [(ZN zl zn z7 zh zj z2 z6 zu zd)]) r
def ZiE x1 x2 zl zn z7 zh zj z2 z6 zQ z10 zu zd zy r (h : Z6S x1 x2 zl zn z7 zh zj z2 z6 = some r) := Z1m h zQ z10 zu zd zy
def Z6R (x1 : Int) (zl : List Int) (zn z7 zh : Int) (zj : List Zz) (z2 z6 : Int) : Option (Int × Int × Int × Int × Int) := pick fun r => ∀ (zu zd : Own) (zy : ZO zd = true), RRun (Z3i zl z7 zh zj zu zd) (EE 69 [(.ptr 0 0), (iv x1)] [(ZN zl zn z7 zh zj z2 z6 zu zd)]) r
def Ziy x1 zl zn z7 zh zj z2 z6 zu zd zy r (h : Z6R x1 zl zn z7 zh zj z2 z6 = some r) := Z1m h zu zd zy
def Z5K (zl : List Int) (zn z7 zh : Int) (zj : List Zz) (z2 z6 : Int) : Option (Int × Int) := pick fun r => ∀ (zu zd : Own) (zy : ZO zd = true), RRun (Z2b zl z7 zh zj z2 z6 zu zd) (EE 84 [(.ptr 0 0)] [(ZN zl zn z7 zh zj z2 z6 zu zd)]) r
def Zcj zl zn z7 zh zj z2 z6 zu zd zy r (h : Z5K zl zn z7 zh zj z2 z6 = some r) := Z1m h zu zd zy
def Z3U (x3 x4 : Int) (zl : List Int) (zn z7 zh : Int) (zj : List Zz) (z2 z6 : Int) : Option (Int × Int) := pick fun r => ∀ (zu zd : Own) (zy : ZO zd = true), RRun (Z2b zl z7 zh zj z2 z6 zu zd) (Zmq 1 (.ptr 0 0) (iv x3) (iv x4) [(ZN zl zn z7 zh zj z2 z6 zu zd)]) r
def ZaZ x3 x4 zl zn z7 zh zj z2 z6 zu zd zy r (h : Z3U x3 x4 zl zn z7 zh zj z2 z6 = some r) := Z1m h zu zd zy
def Z5H (x3 : List Z9) (zl : List Int) (zn z7 zh : Int) (zj : List Zz) (z2 z6 : Int) : Option (Z9 × Int × Int × Int × (List Zz) × Int × Int) := pick fun r => ∀ (b1 : Z9) (ox3 zu zd zH zE : Own) (hox3 : ZO ox3 = true) (zy : ZO zd = true) (z19 : ZO zH = true) (z11 : ZO zE = true), RRun (Z2y zl zu) (Zm9 1 (.ptr 0 0) (.ptr 1 0) (ZR ox3 (x3.map ZJ)) [(ZN zl zn z7 zh zj z2 z6 zu zd), (Zk b1 zH zE)]) r
def Zcd x3 zl zn z7 zh zj z2 z6 b1 ox3 zu zd zH zE hox3 zy z19 z11 r (h : Z5H x3 zl zn z7 zh zj z2 z6 = some r) := Z1m h b1 ox3 zu zd zH zE hox3 zy z19 z11
def Z7S (x50 : List Zz) (x51 x52 : Int) (z37 : List Int) (z1e zY z1g z14 z1i z1h z15 z1a : Int) (z1b : List Z8) (z13 : List Z9) (z1E : Bool) : Option (ZZ × Z17) := pick fun r => ∀ (b0 : ZZ) (b1 : Z17) (z2Z z2C : Int) (z23 : List Zz) (z2q : Int) (ox50 zM zK z3D z1O z1y z1r : Own) (z2t : ZO zM = true) (z2g : ZO zK = true) (z3L : ZO z1O = true), RRun Z46 (Zm3 0 (.ptr 0 0) (.ptr 1 0) (.ptr 2 0) (.ptr 3 0) (ZR ox50 (x50.map Z2X)) (iv x51) (iv x52) [(ZP b0 zM zK), (Z1s b1), (ZN z37 z2Z z1e z2C z23 zY z1g z3D z1O), (Z9r z14 z1i z1h z15 z1a z1b z13 z2q z1E z1y z1r)]) r
def Zfx x50 x51 x52 b0 b1 z37 z2Z z1e z2C z23 zY z1g z14 z1i z1h z15 z1a z1b z13 z2q z1E ox50 zM zK z3D z1O z1y z1r z2t z2g z3L r (h : Z7S x50 x51 x52 z37 z1e zY z1g z14 z1i z1h z15 z1a z1b z13 z1E = some r) := Z1m h b0 b1 z2Z z2C z23 z2q ox50 zM zK z3D z1O z1y z1r z2t z2g z3L
def Z9d (x0 : ZZ) : Option ((List Zm) × Int) := pick fun r => ∀ (z2h z26 : Own), RRun ZaF (EE 18 [(pA_ (Z2v x0 z2h z26))] []) r
def ZnR x0 z2h z26 r (h : Z9d x0 = some r) := Z1m h z2h z26
def Ze2 (x0 : ZZ) : Option Int := pick fun r => ∀ (z2h z26 : Own), RRun ZL (EE 27 [(pA_ (Z2v x0 z2h z26))] []) r
def Zot x0 z2h z26 r (h : Ze2 x0 = some r) := Z1m h z2h z26
def Z4g (x0 : Z9) : Option Bool := pick fun r => ∀ (z27 z1u : Own), RRun ZW (EE 38 [(pA_ (ZI x0 z27 z1u))] []) r
def Zh3 x0 z27 z1u r (h : Z4g x0 = some r) := Z1m h z27 z1u
def Z3h (x0 : Z9) : Option (Int × Int) := pick fun r => ∀ (z27 z1u : Own), RRun Z3j (EE 44 [(pA_ (ZI x0 z27 z1u))] []) r
def Z6D x0 z27 z1u r (h : Z3h x0 = some r) := Z1m h z27 z1u
def Z9o (x2 x3 : Int) (x23 : List Z9) (x24 x25 : Int) : Option (Int × Int) := pick fun r => ∀ (ox23 : Own), RRun Z3j (Zmj 0 (iv x2) (iv x3) (ZR ox23 (x23.map ZJ)) (iv x24) (iv x25) []) r
def ZfA x2 x3 x23 x24 x25 ox23 r (h : Z9o x2 x3 x23 x24 x25 = some r) := Z1m h ox23
def Z8N (x2 x3 : Int) (x45 : List Z9) (x46 x47 : Int) : Option (Int × Int) := pick fun r => ∀ (ox45 : Own), RRun Z3j (Zkb 0 (iv x2) (iv x3) (ZR ox45 (x45.map ZJ)) (iv x46) (iv x47) []) r
def Zf4 x2 x3 x45 x46 x47 ox45 r (h : Z8N x2 x3 x45 x46 x47 = some r) := Z1m h ox45
def Zbx (x0 x1 : Int) : Option Int := pick fun r => RRun ZL (EE 61 [(iv x0), (iv x1)] []) r
def Zoy x0 x1 r (h : Zbx x0 x1 = some r) := Z1m h
def Zcm (x0 : Int) : Option Int := pick fun r => RRun ZL (EE 75 [(iv x0)] []) r
def Zjm x0 r (h : Zcm x0 = some r) := Z1m h
def Zgk (x0 x1 : Int) : Option Int := pick fun r => RRun ZL (EE 60 [(iv x0), (iv x1)] []) r
def Zrw x0 x1 r (h : Zgk x0 x1 = some r) := Z1m h
def Z5A (x0 : List Z9) : Option Bool := pick fun r => ∀ (ox0 : Own), RRun ZW (EE 55 [(ZR ox0 (x0.map ZJ)), (.clo 56 [] [])] []) r
def ZdP x0 ox0 r (h : Z5A x0 = some r) := Z1m h ox0
def Z6q (x0 : List Z9) : Option Int := pick fun r => ∀ (ox0 : Own), RRun ZL (EE 73 [(ZR ox0 (x0.map ZJ)), (.clo 56 [] [])] []) r
def Zf8 x0 ox0 r (h : Z6q x0 = some r) := Z1m h ox0
def Z4h (x0 : List Z9) (x7 x8 : Int) : Option Int := pick fun r => ∀ (ox0 : Own), RRun ZL (Zmo 0 (ZR ox0 (x0.map ZJ)) (.clo 56 [] []) (iv x7) (iv x8) []) r
def Z99 x0 x7 x8 ox0 r (h : Z4h x0 x7 x8 = some r) := Z1m h ox0
def ZaC (x0 : Z9) : Option Bool := pick fun r => ∀ (z27 z1u : Own), RRun ZW (EE 56 [(pA_ (ZI x0 z27 z1u))] []) r
def Zle x0 z27 z1u r (h : ZaC x0 = some r) := Z1m h z27 z1u
def Z53 (x0 : Z9) : Option Int := pick fun r => ∀ (z27 z1u : Own), RRun ZL (EE 11 [(pA_ (ZI x0 z27 z1u))] []) r
def Zf2 x0 z27 z1u r (h : Z53 x0 = some r) := Z1m h z27 z1u
def Z6p (x3 : Int) (x8 : List Z9) (x9 x10 : Int) (b0 : Z9) : Option Int := pick fun r => ∀ (ox8 z1Y z1A : Own), RRun ZL (Zm5 0 (.ptr 0 0) (iv x3) (ZR ox8 (x8.map ZJ)) (iv x9) (iv x10) [(Zk b0 z1Y z1A)]) r
def Zh2 x3 x8 x9 x10 b0 ox8 z1Y z1A r (h : Z6p x3 x8 x9 x10 b0 = some r) := Z1m h ox8 z1Y z1A
def Z1n (x1 : Zm) (zG : List Zm) : Option (Int × (List Zm)) := pick fun r => ∀ (zB : Bool) (zD : Int) (zQ : Own), RRun (Z8l zB zD) (EE 28 [(.ptr 0 0), (pA_ (Z1k x1 zQ))] [[(.p (.ml 6 (zG.map ZC))), (bv zB), (iv zD)]]) r
def Z1w x1 zG zB zD zQ r (h : Z1n x1 zG = some r) := Z1m h zB zD zQ
def Z1V (x1 : Z9) (zG : List Zm) (zB : Bool) (zD : Int) : Option ((List Zm) × Int) := pick fun r => ∀ (zQ z10 : Own), RRun (Z18 zB) (EE 29 [(.ptr 0 0), (pA_ (ZI x1 zQ z10))] [[(.p (.ml 6 (zG.map ZC))), (bv zB), (iv zD)]]) r
def Z2J x1 zG zB zD zQ z10 r (h : Z1V x1 zG zB zD = some r) := Z1m h zQ z10
def Z9n (x0 : List Z8) : Option ((List Z8) × Int) := pick fun r => ∀ (ox0 : Own), RRun Z2T (EE 14 [(ZR ox0 (x0.map Zv))] []) r
def ZlN x0 ox0 r (h : Z9n x0 = some r) := Z1m h ox0
def Zbi (x0 : List Z8) : Option (Own × (List Z8)) := pick fun r => ∀ (ox0 : Own), RRun Z7w (EE 23 [(ZR ox0 (x0.map Zv))] []) r
def Zjh x0 ox0 r (h : Zbi x0 = some r) := Z1m h ox0
def Z7N (x0 x4 : List Z8) (x5 : Int) : Option ((List Z8) × Int) := pick fun r => ∀ (ox0 ox4 : Own) (hox4 : ZO ox4 = true), RRun Z2T (Zm8 0 (ZR ox0 (x0.map Zv)) (ZR ox4 (x4.map Zv)) (.p (.v (.int .i32 x5))) []) r
def ZdG x0 x4 x5 ox0 ox4 hox4 r (h : Z7N x0 x4 x5 = some r) := Z1m h ox0 ox4 hox4
def Z52 (x36 : List Z9) (x37 x38 : Int) (zG : List Zm) (zB : Bool) (zD : Int) : Option ((List Zm) × Int) := pick fun r => ∀ (ox36 : Own), RRun (Z18 zB) (Zk5 1 (.ptr 1 0) (ZR ox36 (x36.map ZJ)) (iv x37) (iv x38) [[(.p (.ml 6 (zG.map ZC))), (bv zB), (iv zD)], [(.ptr 0 0)]]) r
def Zat x36 x37 x38 zG zB zD ox36 r (h : Z52 x36 x37 x38 zG zB zD = some r) := Z1m h ox36
def Z6T (x1 : List Z9) (zG : List Zm) (zB : Bool) (zD : Int) : Option ((List Zm) × Int) := pick fun r => ∀ (ox1 : Own), RRun (Z18 zB) (EE 40 [(.ptr 0 0), (ZR ox1 (x1.map ZJ))] [[(.p (.ml 6 (zG.map ZC))), (bv zB), (iv zD)]]) r
def ZiG x1 zG zB zD ox1 r (h : Z6T x1 zG zB zD = some r) := Z1m h ox1
def Z5Z (x1 : List Z9) (x4 : List Int) (x5 : Int) (x16 : List Z9) (x17 x18 : Int) (zG : List Zm) (zB : Bool) (zD : Int) : Option ((List Zm) × Int) := pick fun r => ∀ (ox1 ox4 ox16 : Own) (hox4 : ZO ox4 = true), RRun (Z18 zB) (Zmh 1 (.ptr 0 0) (ZR ox1 (x1.map ZJ)) (ZR ox4 (x4.map (eI .i64))) (iv x5) (ZR ox16 (x16.map ZJ)) (iv x17) (iv x18) [[(.p (.ml 6 (zG.map ZC))), (bv zB), (iv zD)]]) r
def Zb1 x1 x4 x5 x16 x17 x18 zG zB zD ox1 ox4 ox16 hox4 r (h : Z5Z x1 x4 x5 x16 x17 x18 zG zB zD = some r) := Z1m h ox1 ox4 ox16 hox4
def Z4T (x1 x2 x3 : Int) (x4 : Bool) (zG : List Zm) : Option (List Zm) := pick fun r => ∀ (zB : Bool) (zD : Int), RRun (Z6h zB zD) (EE 58 [(.ptr 0 0), (iv x1), (iv x2), (iv x3), (bv x4)] [[(.p (.ml 6 (zG.map ZC))), (bv zB), (iv zD)]]) r
def Z8D x1 x2 x3 x4 zG zB zD r (h : Z4T x1 x2 x3 x4 zG = some r) := Z1m h zB zD
def Z5z (x51 : List Int) (x52 x53 : Int) (zG : List Zm) (zD : Int) : Option ((List Zm) × Int) := pick fun r => ∀ (zB : Bool) (ox51 : Own), RRun (Z18 zB) (Zk7 1 (.ptr 0 0) (ZR ox51 (x51.map (eI .i64))) (iv x52) (iv x53) [[(.p (.ml 6 (zG.map ZC))), (bv zB), (iv zD)]]) r
def ZaU x51 x52 x53 zG zB zD ox51 r (h : Z5z x51 x52 x53 zG zD = some r) := Z1m h zB ox51
def Z4G (x1 : Zm) (zG : List Zm) (zB : Bool) (zD : Int) (b2 : Z9) : Option ((List Zm) × Int) := pick fun r => ∀ (zQ z1c z12 : Own), RRun (Z3w zB b2 z1c z12) (EE 41 [(.ptr 0 0), (pA_ (Z1k x1 zQ)), (.clo 42 [] [(.ptr 1 0), (.ptr 2 0)])] [[(.p (.ml 6 (zG.map ZC))), (bv zB), (iv zD)], [(.ptr 0 0)], (Zk b2 z1c z12)]) r
def ZgW x1 zG zB zD b2 zQ z1c z12 r (h : Z4G x1 zG zB zD b2 = some r) := Z1m h zQ z1c z12
def Z7q (b1 : Z9) (z31 : List Zm) (z1P : Bool) (z2f : Int) : Option ((List Zm) × Int) := pick fun r => ∀ (zH zE : Own), RRun (Z3v b1 z1P zH zE) (EE 42 [(.ptr 0 0), (.ptr 1 0)] [[(.ptr 2 0)], (Zk b1 zH zE), [(.p (.ml 6 (z31.map ZC))), (bv z1P), (iv z2f)]]) r
def ZgO b1 z31 z1P z2f zH zE r (h : Z7q b1 z31 z1P z2f = some r) := Z1m h zH zE
def Z4D (x1 : Z9) (zG : List Zm) (zB : Bool) (zD : Int) : Option ((List Zm) × Int) := pick fun r => ∀ (zQ z10 : Own), RRun (Z18 zB) (EE 43 [(.ptr 0 0), (pA_ (ZI x1 zQ z10))] [[(.p (.ml 6 (zG.map ZC))), (bv zB), (iv zD)]]) r
def Zb2 x1 zG zB zD zQ z10 r (h : Z4D x1 zG zB zD = some r) := Z1m h zQ z10
def Z4O (x4 : Bool) (x13 x14 : Int) (zG : List Zm) (zB : Bool) (zD : Int) (b1 : Z9) : Option ((List Zm) × Int) := pick fun r => ∀ (zH zE : Own), RRun (Z18 zB) (Zmi 1 (.ptr 0 0) (.ptr 1 0) (bv x4) (iv x13) (iv x14) [[(.p (.ml 6 (zG.map ZC))), (bv zB), (iv zD)], (Zk b1 zH zE)]) r
def Zae x4 x13 x14 zG zB zD b1 zH zE r (h : Z4O x4 x13 x14 zG zB zD b1 = some r) := Z1m h zH zE
def Z86 (x1 : Z9) (x2 : Bool) (zG : List Zm) (zB : Bool) (zD : Int) : Option ((List Zm) × Int) := pick fun r => ∀ (zQ z10 : Own), RRun (Z18 zB) (EE 59 [(.ptr 0 0), (pA_ (ZI x1 zQ z10)), (bv x2)] [[(.p (.ml 6 (zG.map ZC))), (bv zB), (iv zD)]]) r
def ZhX x1 x2 zG zB zD zQ z10 r (h : Z86 x1 x2 zG zB zD = some r) := Z1m h zQ z10
def Z4E (x4 : Bool) (x6 : List Int) (x49 x50 : Int) (zG : List Zm) (zB : Bool) (zD : Int) (b1 : Z9) : Option ((List Zm) × Int) := pick fun r => ∀ (ox6 zH zE : Own) (hox6 : ZO ox6 = true), RRun (Z18 zB) (Zk8 1 (.ptr 0 0) (.ptr 1 0) (bv x4) (ZR ox6 (x6.map (eI .i64))) (iv x49) (iv x50) [[(.p (.ml 6 (zG.map ZC))), (bv zB), (iv zD)], (Zk b1 zH zE)]) r
def Z9I x4 x6 x49 x50 zG zB zD b1 ox6 zH zE hox6 r (h : Z4E x4 x6 x49 x50 zG zB zD b1 = some r) := Z1m h ox6 zH zE hox6
def Z4F (x4 : Bool) (x65 : List Int) (x66 x67 : Int) (zG : List Zm) (zD : Int) : Option ((List Zm) × Int) := pick fun r => ∀ (zB : Bool) (ox65 : Own), RRun (Z18 zB) (Zk9 1 (.ptr 0 0) (bv x4) (ZR ox65 (x65.map (eI .i64))) (iv x66) (iv x67) [[(.p (.ml 6 (zG.map ZC))), (bv zB), (iv zD)]]) r
def Z9K x4 x65 x66 x67 zG zB zD ox65 r (h : Z4F x4 x65 x66 x67 zG zD = some r) := Z1m h zB ox65
def Z60 (x1 : Zm) (zG : List Zm) (zB : Bool) (zD : Int) (b2 : Z9) : Option ((List Zm) × Int) := pick fun r => ∀ (zQ z1c z12 : Own), RRun (Z3w zB b2 z1c z12) (EE 41 [(.ptr 0 0), (pA_ (Z1k x1 zQ)), (.clo 46 [] [(.ptr 1 0), (.ptr 2 0)])] [[(.p (.ml 6 (zG.map ZC))), (bv zB), (iv zD)], [(.ptr 0 0)], (Zk b2 z1c z12)]) r
def ZgY x1 zG zB zD b2 zQ z1c z12 r (h : Z60 x1 zG zB zD b2 = some r) := Z1m h zQ z1c z12
def Z7s (b1 : Z9) (z31 : List Zm) (z1P : Bool) (z2f : Int) : Option ((List Zm) × Int) := pick fun r => ∀ (zH zE : Own), RRun (Z3v b1 z1P zH zE) (EE 46 [(.ptr 0 0), (.ptr 1 0)] [[(.ptr 2 0)], (Zk b1 zH zE), [(.p (.ml 6 (z31.map ZC))), (bv z1P), (iv z2f)]]) r
def ZgS b1 z31 z1P z2f zH zE r (h : Z7s b1 z31 z1P z2f = some r) := Z1m h zH zE
def Z7t (x1 : Zm) (zG : List Zm) (zB : Bool) (zD : Int) (b2 : Z9) : Option ((List Zm) × Int) := pick fun r => ∀ (zQ z1c z12 : Own), RRun (Z3w zB b2 z1c z12) (EE 41 [(.ptr 0 0), (pA_ (Z1k x1 zQ)), (.clo 45 [] [(.ptr 1 0), (.ptr 2 0)])] [[(.p (.ml 6 (zG.map ZC))), (bv zB), (iv zD)], [(.ptr 0 0)], (Zk b2 z1c z12)]) r
def Zh0 x1 zG zB zD b2 zQ z1c z12 r (h : Z7t x1 zG zB zD b2 = some r) := Z1m h zQ z1c z12
def Z7r (b1 : Z9) (z31 : List Zm) (z1P : Bool) (z2f : Int) : Option ((List Zm) × Int) := pick fun r => ∀ (zH zE : Own), RRun (Z3v b1 z1P zH zE) (EE 45 [(.ptr 0 0), (.ptr 1 0)] [[(.ptr 2 0)], (Zk b1 zH zE), [(.p (.ml 6 (z31.map ZC))), (bv z1P), (iv z2f)]]) r
def ZgQ b1 z31 z1P z2f zH zE r (h : Z7r b1 z31 z1P z2f = some r) := Z1m h zH zE
def Zcl (x0 : List Zm) : Option Int := pick fun r => ∀ (ox0 : Own), RRun ZL (EE 13 [(ZR ox0 (x0.map ZC))] []) r
def Zjl x0 ox0 r (h : Zcl x0 = some r) := Z1m h ox0
def Zaa (x3 : Int) (x6 : List Zm) (x7 x8 : Int) : Option Int := pick fun r => ∀ (ox6 : Own), RRun ZL (Zm7 0 (iv x3) (ZR ox6 (x6.map ZC)) (iv x7) (iv x8) []) r
def ZgM x3 x6 x7 x8 ox6 r (h : Zaa x3 x6 x7 x8 = some r) := Z1m h ox6
def Z4e (x3 : List Zm) (x8 : Int) (x54 : List Zm) (x55 x56 : Int) (b0 : ZZ) : Option Bool := pick fun r => ∀ (ox3 ox54 zM zK : Own), RRun ZW (Zmg 0 (ZR ox3 (x3.map ZC)) (.ptr 0 0) (iv x8) (ZR ox54 (x54.map ZC)) (iv x55) (iv x56) [(ZP b0 zM zK)]) r
def Z97 x3 x8 x54 x55 x56 b0 ox3 ox54 zM zK r (h : Z4e x3 x8 x54 x55 x56 b0 = some r) := Z1m h ox3 ox54 zM zK
end Go.Proofs.YtocikhhkicahoaaDoor.N2
end
