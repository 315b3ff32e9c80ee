/- The functions, read typed: their types, and what they stand for. No condition. -/
import Derived.Test.YtocikhhkicahoaaDoorSim
import Derived.Test.YtocikhhkicahoaaDoorEqs

set_option linter.unusedSimpArgs false
set_option linter.unusedVariables false
set_option linter.defProp false
noncomputable section
namespace Go.Proofs.YtocikhhkicahoaaDoor.N2
open Go Go.Abs
set_option maxRecDepth 100000
theorem gj_ (n:Nat) {l k:List PV} (h:l = k):l.getD n .junk = k.getD n .junk:=congrArg (fun l => l.getD n .junk) h
structure Z8 where
 Lo:Int
 Hi:Int
 deriving Inhabited
def Z7Z (a:Z8):List PV:=[(eI .i64) a.Lo,(eI .i64) a.Hi]
def Zz (a:Z8):PV:=.agg (Z7Z a)
def ZQ (a:Z8):List PV:=[(eI .i64) a.Lo,(eI .i64) a.Hi]
def Z2B (a:Z8):Row:=[.p ((eI .i64) a.Lo),.p ((eI .i64) a.Hi)]
theorem ZgE {a b:Z8} (h:Z7Z a = Z7Z b):a = b:=by
 have h0:a.Lo = b.Lo:=Z8o _ _ (gj_ 0 h)
 have h1:a.Hi = b.Hi:=Z8o _ _ (gj_ 1 h)
 cases a; cases b
 cases h0
 cases h1
 rfl
theorem Z5Y (a b:Z8) (h:Zz a = Zz b):a = b:=ZgE (congrArg pC h)
structure Zl where
 Op:Int
 A:Int
 B:Int
 C:Int
 D:Int
 Set:(List Z8)
 deriving Inhabited
def Z4G (a:Zl):List PV:=[(eI .i64) a.Op,(eI .i64) a.A,(eI .i64) a.B,(eI .i64) a.C,(eI .i64) a.D,(eL Zz) a.Set]
def ZC (a:Zl):PV:=.agg (Z4G a)
def Z1q (a:Zl) (o0:Own):List PV:=[(eI .i64) a.Op,(eI .i64) a.A,(eI .i64) a.B,(eI .i64) a.C,(eI .i64) a.D,.lst o0 (a.Set.map Zz)]
def ZO (a:Zl) (o0:Own):Row:=[.p ((eI .i64) a.Op),.p ((eI .i64) a.A),.p ((eI .i64) a.B),.p ((eI .i64) a.C),.p ((eI .i64) a.D),.p (.lst o0 (a.Set.map Zz))]
theorem ZoO {a b:Zl} (h:Z4G a = Z4G b):a = b:=by
 have h0:a.Op = b.Op:=Z8o _ _ (gj_ 0 h)
 have h1:a.A = b.A:=Z8o _ _ (gj_ 1 h)
 have h2:a.B = b.B:=Z8o _ _ (gj_ 2 h)
 have h3:a.C = b.C:=Z8o _ _ (gj_ 3 h)
 have h4:a.D = b.D:=Z8o _ _ (gj_ 4 h)
 have h5:a.Set = b.Set:=(ZzJ Z5Y) _ _ (gj_ 5 h)
 cases a; cases b
 cases h0
 cases h1
 cases h2
 cases h3
 cases h4
 cases h5
 rfl
theorem Z6K (a b:Zl) (h:ZC a = ZC b):a = b:=ZoO (congrArg pC h)
structure Z9 where
 Kind:Int
 Lo:Int
 Hi:Int
 Mode:Int
 Ref:Int
 Set:(List Z8)
 Kids:(List Z9)
instance:Inhabited Z9:=⟨⟨default,default,default,default,default,default,default⟩⟩
mutual
def ZJ:Z9 → PV
 | ⟨Kind_,Lo_,Hi_,Mode_,Ref_,Set_,Kids_⟩ => .agg [(eI .i64) Kind_,(eI .i64) Lo_,(eI .i64) Hi_,(eI .i64) Mode_,(eI .i64) Ref_,(eL Zz) Set_,.lst .sh (Z6g Kids_)]
def Z6g:List Z9 → List PV
 | [] => []
 | x :: r => ZJ x :: Z6g r
end
theorem ZhG:∀ l,Z6g l = l.map ZJ
 | [] => rfl
 | x :: r => by rw [Z6g,ZhG r]; rfl
def Z21 (a:Z9):List PV:=[(eI .i64) a.Kind,(eI .i64) a.Lo,(eI .i64) a.Hi,(eI .i64) a.Mode,(eI .i64) a.Ref,(eL Zz) a.Set,(eL ZJ) a.Kids]
theorem Z55 (a:Z9):ZJ a = .agg (Z21 a):=by
 cases a; rw [ZJ,ZhG]; rfl
theorem Z2M (a:Z9):Z1r (ZJ a) = Z21 a:=by rw [Z55]; rfl
theorem Zgc (a:Z9):(Z1r (ZJ a)).length = 7:=by rw [Z55]; rfl
def ZI (a:Z9) (o0 o1:Own):List PV:=[(eI .i64) a.Kind,(eI .i64) a.Lo,(eI .i64) a.Hi,(eI .i64) a.Mode,(eI .i64) a.Ref,.lst o0 (a.Set.map Zz),.lst o1 (a.Kids.map ZJ)]
def Zk (a:Z9) (o0 o1:Own):Row:=[.p ((eI .i64) a.Kind),.p ((eI .i64) a.Lo),.p ((eI .i64) a.Hi),.p ((eI .i64) a.Mode),.p ((eI .i64) a.Ref),.p (.lst o0 (a.Set.map Zz)),.p (.lst o1 (a.Kids.map ZJ))]
mutual
theorem ZhF:∀ a b:Z9,ZJ a = ZJ b → a = b
 | ⟨Kind_,Lo_,Hi_,Mode_,Ref_,Set_,Kids_⟩,⟨Kind_2,Lo_2,Hi_2,Mode_2,Ref_2,Set_2,Kids_2⟩,h => by
  rw [ZJ,ZJ] at h
  have h0:Kind_ = Kind_2:=Z8o _ _ (congrArg (fun l => (pC l).getD 0 .junk) h)
  have h1:Lo_ = Lo_2:=Z8o _ _ (congrArg (fun l => (pC l).getD 1 .junk) h)
  have h2:Hi_ = Hi_2:=Z8o _ _ (congrArg (fun l => (pC l).getD 2 .junk) h)
  have h3:Mode_ = Mode_2:=Z8o _ _ (congrArg (fun l => (pC l).getD 3 .junk) h)
  have h4:Ref_ = Ref_2:=Z8o _ _ (congrArg (fun l => (pC l).getD 4 .junk) h)
  have h5:Set_ = Set_2:=(ZzJ Z5Y) _ _ (congrArg (fun l => (pC l).getD 5 .junk) h)
  have h6:Kids_ = Kids_2:=ZgF Kids_ Kids_2 (congrArg (fun l => pL ((pC l).getD 6 .junk)) h)
  subst h0
  subst h1
  subst h2
  subst h3
  subst h4
  subst h5
  subst h6
  rfl
theorem ZgF:∀ a b:List Z9,Z6g a = Z6g b → a = b
 | [],[],_ => rfl
 | [],_ :: _,h => by simp [Z6g] at h
 | _ :: _,[],h => by simp [Z6g] at h
 | x :: r,y :: t,h => by
  simp only [Z6g,Zj8] at h
  rw [ZhF x y h.1,ZgF r t h.2]
end
theorem Z7F {a b:Z9} (h:Z21 a = Z21 b):a = b:=ZhF a b (by rw [Z55,Z55,h])
structure Z1f where
 Root:Z9
 Groups:Int
 Fold:Bool
 deriving Inhabited
def ZiK (a:Z1f):List PV:=[(eI .i64) a.Root.Kind,(eI .i64) a.Root.Lo,(eI .i64) a.Root.Hi,(eI .i64) a.Root.Mode,(eI .i64) a.Root.Ref,(eL Zz) a.Root.Set,(eL ZJ) a.Root.Kids,(eI .i64) a.Groups,eB a.Fold]
def Z2R (a:Z1f) (o0 o1:Own):List PV:=[(eI .i64) a.Root.Kind,(eI .i64) a.Root.Lo,(eI .i64) a.Root.Hi,(eI .i64) a.Root.Mode,(eI .i64) a.Root.Ref,.lst o0 (a.Root.Set.map Zz),.lst o1 (a.Root.Kids.map ZJ),(eI .i64) a.Groups,eB a.Fold]
def ZT (a:Z1f) (o0 o1:Own):Row:=[.p ((eI .i64) a.Root.Kind),.p ((eI .i64) a.Root.Lo),.p ((eI .i64) a.Root.Hi),.p ((eI .i64) a.Root.Mode),.p ((eI .i64) a.Root.Ref),.p (.lst o0 (a.Root.Set.map Zz)),.p (.lst o1 (a.Root.Kids.map ZJ)),.p ((eI .i64) a.Groups),.p (eB a.Fold)]
theorem Zlm {a b:Z1f} (h:ZiK a = ZiK b):a = b:=by
 have h0:a.Root = b.Root:=Z7F (congrArg (fun l => (l.drop 0).take 7) h)
 have h1:a.Groups = b.Groups:=Z8o _ _ (gj_ 7 h)
 have h2:a.Fold = b.Fold:=ZFw _ _ (gj_ 8 h)
 cases a; cases b
 cases h0
 cases h1
 cases h2
 rfl
structure Z16 where
 Code:Int
 At:Int
 deriving Inhabited
def Zkl (a:Z16):List PV:=[(eI .i64) a.Code,(eI .i64) a.At]
def Z5p (a:Z16):List PV:=[(eI .i64) a.Code,(eI .i64) a.At]
def Z1E (a:Z16):Row:=[.p ((eI .i64) a.Code),.p ((eI .i64) a.At)]
theorem Zmv {a b:Z16} (h:Zkl a = Zkl b):a = b:=by
 have h0:a.Code = b.Code:=Z8o _ _ (gj_ 0 h)
 have h1:a.At = b.At:=Z8o _ _ (gj_ 1 h)
 cases a; cases b
 cases h0
 cases h1
 rfl
structure ZA where
 group:Int
 at_:Int
 deriving Inhabited
def Zbp (a:ZA):List PV:=[(eI .i64) a.group,(eI .i64) a.at_]
def Z2Z (a:ZA):PV:=.agg (Zbp a)
def Zep (a:ZA):List PV:=[(eI .i64) a.group,(eI .i64) a.at_]
def Zex (a:ZA):Row:=[.p ((eI .i64) a.group),.p ((eI .i64) a.at_)]
theorem Zln {a b:ZA} (h:Zbp a = Zbp b):a = b:=by
 have h0:a.group = b.group:=Z8o _ _ (gj_ 0 h)
 have h1:a.at_ = b.at_:=Z8o _ _ (gj_ 1 h)
 cases a; cases b
 cases h0
 cases h1
 rfl
theorem Zbq (a b:ZA) (h:Z2Z a = Z2Z b):a = b:=Zln (congrArg pC h)
structure Z1D where
 b:(List Int)
 at_:Int
 groups:Int
 deep:Int
 refs:(List ZA)
 fault:Z16
 deriving Inhabited
def ZqW (a:Z1D) (o0 o1:Own):List PV:=[.lst o0 (a.b.map (eI .u8)),(eI .i64) a.at_,(eI .i64) a.groups,(eI .i64) a.deep,.lst o1 (a.refs.map Z2Z),(eI .i64) a.fault.Code,(eI .i64) a.fault.At]
def Z3W (a:Z1D) (o0 o1:Own):Row:=[.p (.lst o0 (a.b.map (eI .u8))),.p ((eI .i64) a.at_),.p ((eI .i64) a.groups),.p ((eI .i64) a.deep),.p (.lst o1 (a.refs.map Z2Z)),.p ((eI .i64) a.fault.Code),.p ((eI .i64) a.fault.At)]
structure Zms where
 out:(List Zl)
 fold:Bool
 loops:Int
 deriving Inhabited
def Zs7 (a:Zms) (o0:Own):List PV:=[.lst o0 (a.out.map ZC),eB a.fold,(eI .i64) a.loops]
end Go.Proofs.YtocikhhkicahoaaDoor.N2
end
noncomputable section
namespace Go.Proofs.YtocikhhkicahoaaDoor.N2
open Go Go.Abs
set_option maxRecDepth 100000
theorem et_ {α:Type} {a b c:α} (h:b = c) (g:a = b:=by kernel_rfl):a = c:=g.trans h
theorem ru_ {R:Type} {Q:R → Res → Prop} {e:Option Res} {a b:R} (u:∀ a b q,Q a q → Q b q → a = b) (h:RRun Q e a) (g:RRun Q e b):a = b:=RRun.uniq u h g
abbrev Zps:=Zl.mk 0 0 0 0 0 ([]:List Z8)
abbrev ZdE:=Z1f.mk (Z9.mk 0 0 0 0 0 ([]:List Z8) ([]:List Z9)) 0 false
abbrev Zfw:=Z16.mk 0 0
abbrev Z1F:=Z9.mk 0 0 0 0 0 ([]:List Z8) ([]:List Z9)
abbrev ZL a0 a1 a2 a3 a4 a5 a6 o0 o1:=Z3W (Z1D.mk a0 a1 a2 a3 a4 (Z16.mk a5 a6)) o0 o1
abbrev Z9w a0 a1 a2 a3 a4 a5 a6 a7 a8 o0 o1:=ZT (Z1f.mk (Z9.mk a0 a1 a2 a3 a4 a5 a6) a7 a8) o0 o1
abbrev Z2U a0 a1 a2 a3 a4 a5 a6 o0 o1:=Zk (Z9.mk a0 a1 a2 a3 a4 a5 a6) o0 o1
abbrev ZP (o:Own) (l:List PV):AV:=.p (.lst o l)
abbrev pA_ (l:List PV):AV:=.p (.agg l)
abbrev Z6B (zm:List Int) (z7 zh:Int) (zj:List ZA) (z2 z6:Int) (zu zd:Own):(Bool × Int) → Res → Prop:=fun r q => ∃ (ex:List Row),q = ((bv r.1),[(ZL zm r.2 z7 zh zj z2 z6 zu zd)] ++ ex)
theorem Zki (zm:List Int) (z7 zh:Int) (zj:List ZA) (z2 z6:Int) (zu zd:Own):∀ a b q,Z6B zm z7 zh zj z2 z6 zu zd a q → Z6B zm z7 zh zj z2 z6 zu zd b q → a = b:=by
 rintro a b q ⟨_,e1⟩ ⟨_,e2⟩
 have e:=e1.symm.trans e2
 exact Z3F (congrArg (fun q:Res => pB (pA q.1)) e) (congrArg (fun q:Res => pI (pA (cellAt q 0 1))) e)
abbrev Z92:(Int × Int) → Res → Prop:=fun r q => ∃ (ex:List Row),q = ((.p (.tup [(.v (.int .i32 r.1)),(.v (.int .i64 r.2))])),ex)
theorem ZgC:∀ a b q,Z92 a q → Z92 b q → a = b:=by
 rintro a b q ⟨_,e1⟩ ⟨_,e2⟩
 have e:=e1.symm.trans e2
 exact Z3F (congrArg (fun q:Res => pI ((pT (pA q.1)).getD 0 .junk)) e) (congrArg (fun q:Res => pI ((pT (pA q.1)).getD 1 .junk)) e)
abbrev Z3l:(Int × Int) → Res → Prop:=fun r q => ∃ (ex:List Row),q = ((.p (.tup [(.v (.int .i64 r.1)),(.v (.int .i64 r.2))])),ex)
theorem ZdX:∀ a b q,Z3l a q → Z3l b q → a = b:=by
 rintro a b q ⟨_,e1⟩ ⟨_,e2⟩
 have e:=e1.symm.trans e2
 exact Z3F (congrArg (fun q:Res => pI ((pT (pA q.1)).getD 0 .junk)) e) (congrArg (fun q:Res => pI ((pT (pA q.1)).getD 1 .junk)) e)
abbrev Z7P (b0:Z1D) (zu zd:Own):Int → Res → Prop:=fun r q => ∃ (ex:List Row),q = ((iv r),[(Z3W b0 zu zd)] ++ ex)
theorem Zkh (b0:Z1D) (zu zd:Own):∀ a b q,Z7P b0 zu zd a q → Z7P b0 zu zd b q → a = b:=by
 rintro a b q ⟨_,e1⟩ ⟨_,e2⟩
 have e:=e1.symm.trans e2
 exact congrArg (fun q:Res => pI (pA q.1)) e
abbrev Z6N:Z9 → Res → Prop:=fun r q => ∃ (ex:List Row),q = ((pA_ (ZI r .sh .sh)),ex)
theorem ZiF:∀ a b q,Z6N a q → Z6N b q → a = b:=by
 rintro a b q ⟨_,e1⟩ ⟨_,e2⟩
 have e:=e1.symm.trans e2
 exact Z7F (congrArg (fun q:Res => pC (pA q.1)) e)
abbrev Z2c (zm:List Int) (z7 zh:Int) (zj:List ZA) (z2 z6:Int) (zu zd:Own):(Int × Int) → Res → Prop:=fun r q => ∃ (ex:List Row),q = ((iv r.1),[(ZL zm r.2 z7 zh zj z2 z6 zu zd)] ++ ex)
theorem Z6O (zm:List Int) (z7 zh:Int) (zj:List ZA) (z2 z6:Int) (zu zd:Own):∀ a b q,Z2c zm z7 zh zj z2 z6 zu zd a q → Z2c zm z7 zh zj z2 z6 zu zd b q → a = b:=by
 rintro a b q ⟨_,e1⟩ ⟨_,e2⟩
 have e:=e1.symm.trans e2
 exact Z3F (congrArg (fun q:Res => pI (pA q.1)) e) (congrArg (fun q:Res => pI (pA (cellAt q 0 1))) e)
abbrev Zgp:Z8 → Res → Prop:=fun r q => ∃ (ex:List Row),q = ((pA_ (ZQ r)),ex)
theorem ZsO:∀ a b q,Zgp a q → Zgp b q → a = b:=by
 rintro a b q ⟨_,e1⟩ ⟨_,e2⟩
 have e:=e1.symm.trans e2
 exact ZgE (congrArg (fun q:Res => pC (pA q.1)) e)
abbrev ZS:Bool → Res → Prop:=fun r q => ∃ (ex:List Row),q = ((bv r),ex)
theorem Z2P:∀ a b q,ZS a q → ZS b q → a = b:=by
 rintro a b q ⟨_,e1⟩ ⟨_,e2⟩
 have e:=e1.symm.trans e2
 exact congrArg (fun q:Res => pB (pA q.1)) e
abbrev ZK:Int → Res → Prop:=fun r q => ∃ (ex:List Row),q = ((iv r),ex)
theorem Z1N:∀ a b q,ZK a q → ZK b q → a = b:=by
 rintro a b q ⟨_,e1⟩ ⟨_,e2⟩
 have e:=e1.symm.trans e2
 exact congrArg (fun q:Res => pI (pA q.1)) e
abbrev Z3P:(List Z8) → Res → Prop:=fun r q => ∃ (ex:List Row),q = ((ZP .sh (r.map Zz)),ex)
theorem Zbh:∀ a b q,Z3P a q → Z3P b q → a = b:=by
 rintro a b q ⟨_,e1⟩ ⟨_,e2⟩
 have e:=e1.symm.trans e2
 exact Z5u Z5Y (congrArg (fun q:Res => pL (pA q.1)) e)
abbrev Z2V:((List Z8) × Int) → Res → Prop:=fun r q => ∃ (ex:List Row),q = ((.p (.tup [(.lst .sh (r.1.map Zz)),(.v (.int .i64 r.2))])),ex)
theorem ZaP:∀ a b q,Z2V a q → Z2V b q → a = b:=by
 rintro a b q ⟨_,e1⟩ ⟨_,e2⟩
 have e:=e1.symm.trans e2
 exact Z3F (Z5u Z5Y (congrArg (fun q:Res => pL ((pT (pA q.1)).getD 0 .junk)) e)) (congrArg (fun q:Res => pI ((pT (pA q.1)).getD 1 .junk)) e)
abbrev Z7O (zm:List Int) (z7 zh:Int) (zj:List ZA) (zu zd:Own):(Int × Int × Int) → Res → Prop:=fun r q => ∃ (ex:List Row),q = ((.p (.tup [])),[(ZL zm r.1 z7 zh zj r.2.1 r.2.2 zu zd)] ++ ex)
theorem Zkg (zm:List Int) (z7 zh:Int) (zj:List ZA) (zu zd:Own):∀ a b q,Z7O zm z7 zh zj zu zd a q → Z7O zm z7 zh zj zu zd b q → a = b:=by
 rintro a b q ⟨_,e1⟩ ⟨_,e2⟩
 have e:=e1.symm.trans e2
 exact Z3F (congrArg (fun q:Res => pI (pA (cellAt q 0 1))) e) (Z3F (congrArg (fun q:Res => pI (pA (cellAt q 0 5))) e) (congrArg (fun q:Res => pI (pA (cellAt q 0 6))) e))
abbrev Z7D:(Own × (List Z8)) → Res → Prop:=fun r q => ∃ (ex:List Row),q = ((ZP r.1 (r.2.map Zz)),ex)
theorem ZfE:∀ a b q,Z7D a q → Z7D b q → a = b:=by
 rintro a b q ⟨_,e1⟩ ⟨_,e2⟩
 have e:=e1.symm.trans e2
 exact Z3F (congrArg (fun q:Res => pOwn (pA q.1)) e) (Z5u Z5Y (congrArg (fun q:Res => pL (pA q.1)) e))
abbrev Z7C (z1C:Int):Bool → Res → Prop:=fun r q => ∃ (ex:List Row),q = ((bv r),[[(iv z1C)]] ++ ex)
theorem ZfD (z1C:Int):∀ a b q,Z7C z1C a q → Z7C z1C b q → a = b:=by
 rintro a b q ⟨_,e1⟩ ⟨_,e2⟩
 have e:=e1.symm.trans e2
 exact congrArg (fun q:Res => pB (pA q.1)) e
abbrev Z2L (z1C:Int):Int → Res → Prop:=fun r q => ∃ (ex:List Row),q = ((iv r),[[(iv z1C)]] ++ ex)
theorem Za2 (z1C:Int):∀ a b q,Z2L z1C a q → Z2L z1C b q → a = b:=by
 rintro a b q ⟨_,e1⟩ ⟨_,e2⟩
 have e:=e1.symm.trans e2
 exact congrArg (fun q:Res => pI (pA q.1)) e
abbrev Z65 (zm:List Int) (z7 zh:Int) (zj:List ZA) (zu zd:Own):(Int × Int × Int × Int) → Res → Prop:=fun r q => ∃ (ex:List Row),q = ((iv r.1),[(ZL zm r.2.1 z7 zh zj r.2.2.1 r.2.2.2 zu zd)] ++ ex)
theorem ZjR (zm:List Int) (z7 zh:Int) (zj:List ZA) (zu zd:Own):∀ a b q,Z65 zm z7 zh zj zu zd a q → Z65 zm z7 zh zj zu zd b q → a = b:=by
 rintro a b q ⟨_,e1⟩ ⟨_,e2⟩
 have e:=e1.symm.trans e2
 exact Z3F (congrArg (fun q:Res => pI (pA q.1)) e) (Z3F (congrArg (fun q:Res => pI (pA (cellAt q 0 1))) e) (Z3F (congrArg (fun q:Res => pI (pA (cellAt q 0 5))) e) (congrArg (fun q:Res => pI (pA (cellAt q 0 6))) e)))
abbrev Z4w (zm:List Int) (z7 zh:Int) (zu:Own):(Z9 × Int × (List ZA) × Int × Int) → Res → Prop:=fun r q => ∃ (p0_4:Own) (ex:List Row),ZM p0_4 = true ∧ q = ((pA_ (ZI r.1 .sh .sh)),[(ZL zm r.2.1 z7 zh r.2.2.1 r.2.2.2.1 r.2.2.2.2 zu p0_4)] ++ ex)
theorem Zjf (zm:List Int) (z7 zh:Int) (zu:Own):∀ a b q,Z4w zm z7 zh zu a q → Z4w zm z7 zh zu b q → a = b:=by
 rintro a b q ⟨_,_,_,e1⟩ ⟨_,_,_,e2⟩
 have e:=e1.symm.trans e2
 exact Z3F (Z7F (congrArg (fun q:Res => pC (pA q.1)) e)) (Z3F (congrArg (fun q:Res => pI (pA (cellAt q 0 1))) e) (Z3F (Z5u Zbq (congrArg (fun q:Res => pL (pA (cellAt q 0 4))) e)) (Z3F (congrArg (fun q:Res => pI (pA (cellAt q 0 5))) e) (congrArg (fun q:Res => pI (pA (cellAt q 0 6))) e))))
abbrev Z4x (zm:List Int) (z7 zh:Int) (zj:List ZA) (zu zd:Own):(Int × (Own × (List Z8)) × Bool × Int × Int × Int) → Res → Prop:=fun r q => ∃ (ex:List Row),q = ((.p (.tup [(.v (.int .i64 r.1)),(.lst r.2.1.1 (r.2.1.2.map Zz)),(.v (.bool r.2.2.1))])),[(ZL zm r.2.2.2.1 z7 zh zj r.2.2.2.2.1 r.2.2.2.2.2 zu zd)] ++ ex)
theorem Zjg (zm:List Int) (z7 zh:Int) (zj:List ZA) (zu zd:Own):∀ a b q,Z4x zm z7 zh zj zu zd a q → Z4x zm z7 zh zj zu zd b q → a = b:=by
 rintro a b q ⟨_,e1⟩ ⟨_,e2⟩
 have e:=e1.symm.trans e2
 exact Z3F (congrArg (fun q:Res => pI ((pT (pA q.1)).getD 0 .junk)) e) (Z3F (Z3F (congrArg (fun q:Res => pOwn ((pT (pA q.1)).getD 1 .junk)) e) (Z5u Z5Y (congrArg (fun q:Res => pL ((pT (pA q.1)).getD 1 .junk)) e))) (Z3F (congrArg (fun q:Res => pB ((pT (pA q.1)).getD 2 .junk)) e) (Z3F (congrArg (fun q:Res => pI (pA (cellAt q 0 1))) e) (Z3F (congrArg (fun q:Res => pI (pA (cellAt q 0 5))) e) (congrArg (fun q:Res => pI (pA (cellAt q 0 6))) e)))))
abbrev Z89:(List Z8) → Res → Prop:=fun r q => ∃ (p0_0:Own) (ex:List Row),q = ((.p (.tup [])),[[(ZP p0_0 (r.map Zz))]] ++ ex)
theorem ZiG:∀ a b q,Z89 a q → Z89 b q → a = b:=by
 rintro a b q ⟨_,_,e1⟩ ⟨_,_,e2⟩
 have e:=e1.symm.trans e2
 exact Z5u Z5Y (congrArg (fun q:Res => pL (pA (cellAt q 0 0))) e)
abbrev Z1K (zm:List Int) (z7 zh:Int) (zj:List ZA) (zu zd:Own):(Z9 × Int × Int × Int) → Res → Prop:=fun r q => ∃ (ex:List Row),q = ((pA_ (ZI r.1 .sh .sh)),[(ZL zm r.2.1 z7 zh zj r.2.2.1 r.2.2.2 zu zd)] ++ ex)
theorem Zav (zm:List Int) (z7 zh:Int) (zj:List ZA) (zu zd:Own):∀ a b q,Z1K zm z7 zh zj zu zd a q → Z1K zm z7 zh zj zu zd b q → a = b:=by
 rintro a b q ⟨_,e1⟩ ⟨_,e2⟩
 have e:=e1.symm.trans e2
 exact Z3F (Z7F (congrArg (fun q:Res => pC (pA q.1)) e)) (Z3F (congrArg (fun q:Res => pI (pA (cellAt q 0 1))) e) (Z3F (congrArg (fun q:Res => pI (pA (cellAt q 0 5))) e) (congrArg (fun q:Res => pI (pA (cellAt q 0 6))) e)))
abbrev ZdW:(List ByteArray) → Res → Prop:=fun r q => ∃ (ex:List Row),q = ((ZP .sh (r.map eS)),ex)
theorem Zpv:∀ a b q,ZdW a q → ZdW b q → a = b:=by
 rintro a b q ⟨_,e1⟩ ⟨_,e2⟩
 have e:=e1.symm.trans e2
 exact Z5u ZFx (congrArg (fun q:Res => pL (pA q.1)) e)
abbrev Z2X (zm:List Int) (zu:Own):(Z9 × Bool × Int × Int × Int × (List ZA) × Int × Int) → Res → Prop:=fun r q => ∃ (p0_4:Own) (ex:List Row),ZM p0_4 = true ∧ q = ((.p (.tup [(.agg (ZI r.1 .sh .sh)),(.v (.bool r.2.1))])),[(ZL zm r.2.2.1 r.2.2.2.1 r.2.2.2.2.1 r.2.2.2.2.2.1 r.2.2.2.2.2.2.1 r.2.2.2.2.2.2.2 zu p0_4)] ++ ex)
theorem ZdF (zm:List Int) (zu:Own):∀ a b q,Z2X zm zu a q → Z2X zm zu b q → a = b:=by
 rintro a b q ⟨_,_,_,e1⟩ ⟨_,_,_,e2⟩
 have e:=e1.symm.trans e2
 exact Z3F (Z7F (congrArg (fun q:Res => pC ((pT (pA q.1)).getD 0 .junk)) e)) (Z3F (congrArg (fun q:Res => pB ((pT (pA q.1)).getD 1 .junk)) e) (Z3F (congrArg (fun q:Res => pI (pA (cellAt q 0 1))) e) (Z3F (congrArg (fun q:Res => pI (pA (cellAt q 0 2))) e) (Z3F (congrArg (fun q:Res => pI (pA (cellAt q 0 3))) e) (Z3F (Z5u Zbq (congrArg (fun q:Res => pL (pA (cellAt q 0 4))) e)) (Z3F (congrArg (fun q:Res => pI (pA (cellAt q 0 5))) e) (congrArg (fun q:Res => pI (pA (cellAt q 0 6))) e)))))))
abbrev Z3k (zm:List Int) (z7 zh:Int) (zj:List ZA) (zu zd:Own):(Int × Int × Int × Int × Int) → Res → Prop:=fun r q => ∃ (ex:List Row),q = ((.p (.tup [(.v (.int .i64 r.1)),(.v (.int .i64 r.2.1))])),[(ZL zm r.2.2.1 z7 zh zj r.2.2.2.1 r.2.2.2.2 zu zd)] ++ ex)
theorem Zje (zm:List Int) (z7 zh:Int) (zj:List ZA) (zu zd:Own):∀ a b q,Z3k zm z7 zh zj zu zd a q → Z3k zm z7 zh zj zu zd b q → a = b:=by
 rintro a b q ⟨_,e1⟩ ⟨_,e2⟩
 have e:=e1.symm.trans e2
 exact Z3F (congrArg (fun q:Res => pI ((pT (pA q.1)).getD 0 .junk)) e) (Z3F (congrArg (fun q:Res => pI ((pT (pA q.1)).getD 1 .junk)) e) (Z3F (congrArg (fun q:Res => pI (pA (cellAt q 0 1))) e) (Z3F (congrArg (fun q:Res => pI (pA (cellAt q 0 5))) e) (congrArg (fun q:Res => pI (pA (cellAt q 0 6))) e))))
abbrev Z2C (zm:List Int) (zu:Own):(Z9 × Int × Int × Int × (List ZA) × Int × Int) → Res → Prop:=fun r q => ∃ (p0_4:Own) (ex:List Row),ZM p0_4 = true ∧ q = ((pA_ (ZI r.1 .sh .sh)),[(ZL zm r.2.1 r.2.2.1 r.2.2.2.1 r.2.2.2.2.1 r.2.2.2.2.2.1 r.2.2.2.2.2.2 zu p0_4)] ++ ex)
theorem Z91 (zm:List Int) (zu:Own):∀ a b q,Z2C zm zu a q → Z2C zm zu b q → a = b:=by
 rintro a b q ⟨_,_,_,e1⟩ ⟨_,_,_,e2⟩
 have e:=e1.symm.trans e2
 exact Z3F (Z7F (congrArg (fun q:Res => pC (pA q.1)) e)) (Z3F (congrArg (fun q:Res => pI (pA (cellAt q 0 1))) e) (Z3F (congrArg (fun q:Res => pI (pA (cellAt q 0 2))) e) (Z3F (congrArg (fun q:Res => pI (pA (cellAt q 0 3))) e) (Z3F (Z5u Zbq (congrArg (fun q:Res => pL (pA (cellAt q 0 4))) e)) (Z3F (congrArg (fun q:Res => pI (pA (cellAt q 0 5))) e) (congrArg (fun q:Res => pI (pA (cellAt q 0 6))) e))))))
abbrev Z4e:(Z1f × Z16) → Res → Prop:=fun r q => ∃ (ex:List Row),q = ((.p (.tup [(.agg (Z2R r.1 .sh .sh)),(.agg (Z5p r.2))])),ex)
theorem Zjy:∀ a b q,Z4e a q → Z4e b q → a = b:=by
 rintro a b q ⟨_,e1⟩ ⟨_,e2⟩
 have e:=e1.symm.trans e2
 exact Z3F (Zlm (congrArg (fun q:Res => pC ((pT (pA q.1)).getD 0 .junk)) e)) (Zmv (congrArg (fun q:Res => pC ((pT (pA q.1)).getD 1 .junk)) e))
abbrev Z8x (zB:Bool) (zD:Int):(Int × (List Zl)) → Res → Prop:=fun r q => ∃ (ex:List Row),q = ((iv r.1),[[(.p (.ml 6 (r.2.map ZC))),(bv zB),(iv zD)]] ++ ex)
theorem Zjh (zB:Bool) (zD:Int):∀ a b q,Z8x zB zD a q → Z8x zB zD b q → a = b:=by
 rintro a b q ⟨_,e1⟩ ⟨_,e2⟩
 have e:=e1.symm.trans e2
 exact Z3F (congrArg (fun q:Res => pI (pA q.1)) e) (Z5u Z6K (congrArg (fun q:Res => pL (pA (cellAt q 0 0))) e))
abbrev Z6n (zB:Bool) (zD:Int):(List Zl) → Res → Prop:=fun r q => ∃ (ex:List Row),q = ((.p (.tup [])),[[(.p (.ml 6 (r.map ZC))),(bv zB),(iv zD)]] ++ ex)
theorem ZhL (zB:Bool) (zD:Int):∀ a b q,Z6n zB zD a q → Z6n zB zD b q → a = b:=by
 rintro a b q ⟨_,e1⟩ ⟨_,e2⟩
 have e:=e1.symm.trans e2
 exact Z5u Z6K (congrArg (fun q:Res => pL (pA (cellAt q 0 0))) e)
abbrev Z18 (zB:Bool):((List Zl) × Int) → Res → Prop:=fun r q => ∃ (ex:List Row),q = ((.p (.tup [])),[[(.p (.ml 6 (r.1.map ZC))),(bv zB),(iv r.2)]] ++ ex)
theorem Z30 (zB:Bool):∀ a b q,Z18 zB a q → Z18 zB b q → a = b:=by
 rintro a b q ⟨_,e1⟩ ⟨_,e2⟩
 have e:=e1.symm.trans e2
 exact Z3F (Z5u Z6K (congrArg (fun q:Res => pL (pA (cellAt q 0 0))) e)) (congrArg (fun q:Res => pI (pA (cellAt q 0 2))) e)
abbrev Z3y (b1:Z9) (z1P:Bool) (zH zE:Own):((List Zl) × Int) → Res → Prop:=fun r q => ∃ (ex:List Row),q = ((.p (.tup [])),[[(.ptr 2 0)],(Zk b1 zH zE),[(.p (.ml 6 (r.1.map ZC))),(bv z1P),(iv r.2)]] ++ ex)
theorem Z8K (b1:Z9) (z1P:Bool) (zH zE:Own):∀ a b q,Z3y b1 z1P zH zE a q → Z3y b1 z1P zH zE b q → a = b:=by
 rintro a b q ⟨_,e1⟩ ⟨_,e2⟩
 have e:=e1.symm.trans e2
 exact Z3F (Z5u Z6K (congrArg (fun q:Res => pL (pA (cellAt q 2 0))) e)) (congrArg (fun q:Res => pI (pA (cellAt q 2 2))) e)
abbrev Z3z (zB:Bool) (b2:Z9) (z1c zZ:Own):((List Zl) × Int) → Res → Prop:=fun r q => ∃ (ex:List Row),q = ((.p (.tup [])),[[(.p (.ml 6 (r.1.map ZC))),(bv zB),(iv r.2)],[(.ptr 0 0)],(Zk b2 z1c zZ)] ++ ex)
theorem Z8L (zB:Bool) (b2:Z9) (z1c zZ:Own):∀ a b q,Z3z zB b2 z1c zZ a q → Z3z zB b2 z1c zZ b q → a = b:=by
 rintro a b q ⟨_,e1⟩ ⟨_,e2⟩
 have e:=e1.symm.trans e2
 exact Z3F (Z5u Z6K (congrArg (fun q:Res => pL (pA (cellAt q 0 0))) e)) (congrArg (fun q:Res => pI (pA (cellAt q 0 2))) e)
abbrev ZaQ:((List Zl) × Int) → Res → Prop:=fun r q => ∃ (ex:List Row),q = ((.p (.tup [(.lst .sh (r.1.map ZC)),(.v (.int .i64 r.2))])),ex)
theorem ZoL:∀ a b q,ZaQ a q → ZaQ b q → a = b:=by
 rintro a b q ⟨_,e1⟩ ⟨_,e2⟩
 have e:=e1.symm.trans e2
 exact Z3F (Z5u Z6K (congrArg (fun q:Res => pL ((pT (pA q.1)).getD 0 .junk)) e)) (congrArg (fun q:Res => pI ((pT (pA q.1)).getD 1 .junk)) e)
abbrev Z7b:((List Zl) × Int × Int) → Res → Prop:=fun r q => ∃ (ex:List Row),q = ((.p (.tup [(.lst .sh (r.1.map ZC)),(.v (.int .i64 r.2.1)),(.v (.int .i64 r.2.2))])),ex)
theorem ZjQ:∀ a b q,Z7b a q → Z7b b q → a = b:=by
 rintro a b q ⟨_,e1⟩ ⟨_,e2⟩
 have e:=e1.symm.trans e2
 exact Z3F (Z5u Z6K (congrArg (fun q:Res => pL ((pT (pA q.1)).getD 0 .junk)) e)) (Z3F (congrArg (fun q:Res => pI ((pT (pA q.1)).getD 1 .junk)) e) (congrArg (fun q:Res => pI ((pT (pA q.1)).getD 2 .junk)) e))
def Z9s (x0 x1:ByteArray):Option Bool:=pick fun r => RRun ZS (EE 6 [(.p (.v (.string x0))),(.p (.v (.string x1)))] []) r
def ZgN x0 x1 r (h:Z9s x0 x1 = some r):=Z1m h
def Z8g:Option Bool:=pick fun r => RRun ZS (EE 8 [] []) r
def ZhW r (h:Z8g = some r):=Z1m h
def Z2m (x0:ByteArray):Option ((List Zl) × Int × Int):=pick fun r => RRun Z7b (EE 9 [(.p (.v (.string x0)))] []) r
def Z6q x0 r (h:Z2m x0 = some r):=Z1m h
def Ze2 (x0:ByteArray):Option (Z1f × Z16):=pick fun r => RRun Z4e (EE 10 [(.p (.v (.string x0)))] []) r
def ZoV x0 r (h:Ze2 x0 = some r):=Z1m h
def Z1L (x1:ByteArray) (zm:List Int) (zn:Int):Option (Bool × Int):=pick fun r => ∀ (z7 zh:Int) (zj:List ZA) (z2 z6:Int) (zu zd:Own) (zy:ZM zd = true),RRun (Z6B zm z7 zh zj z2 z6 zu zd) (EE 19 [(.ptr 0 0),(.p (.v (.string x1)))] [(ZL zm zn z7 zh zj z2 z6 zu zd)]) r
def Z1T x1 zm zn z7 zh zj z2 z6 zu zd zy r (h:Z1L x1 zm zn = some r):=Z1m h z7 zh zj z2 z6 zu zd zy
def Z4k (zm:List Int) (zn z7 zh:Int) (zj:List ZA) (z2 z6:Int):Option (Z9 × Int × Int × Int × (List ZA) × Int × Int):=pick fun r => ∀ (zu zd:Own) (zy:ZM zd = true),RRun (Z2C zm zu) (EE 20 [(.ptr 0 0)] [(ZL zm zn z7 zh zj z2 z6 zu zd)]) r
def ZeF zm zn z7 zh zj z2 z6 zu zd zy r (h:Z4k zm zn z7 zh zj z2 z6 = some r):=Z1m h zu zd zy
def Z6Y (zm:List Int) (zn z7 zh:Int) (zj:List ZA) (z2 z6:Int):Option (Z9 × Int × Int × Int × (List ZA) × Int × Int):=pick fun r => ∀ (zu zd:Own) (zy:ZM zd = true),RRun (Z2C zm zu) (EE 30 [(.ptr 0 0)] [(ZL zm zn z7 zh zj z2 z6 zu zd)]) r
def ZeH zm zn z7 zh zj z2 z6 zu zd zy r (h:Z6Y zm zn z7 zh zj z2 z6 = some r):=Z1m h zu zd zy
def Z5M (x3:List Z9) (zm:List Int) (zn z7 zh:Int) (zj:List ZA) (z2 z6:Int):Option (Z9 × Int × Int × Int × (List ZA) × Int × Int):=pick fun r => ∀ (b1:Z9) (ox3 zu zd zH zE:Own) (hox3:ZM ox3 = true) (zy:ZM zd = true) (z19:ZM zH = true) (zY:ZM zE = true),RRun (Z2C zm zu) (ZmF 1 (.ptr 0 0) (.ptr 1 0) (ZP ox3 (x3.map ZJ)) [(ZL zm zn z7 zh zj z2 z6 zu zd),(Zk b1 zH zE)]) r
def Zcp x3 zm zn z7 zh zj z2 z6 b1 ox3 zu zd zH zE hox3 zy z19 zY r (h:Z5M x3 zm zn z7 zh zj z2 z6 = some r):=Z1m h b1 ox3 zu zd zH zE hox3 zy z19 zY
def Z2I (b0:Z1D):Option Int:=pick fun r => ∀ (zu zd:Own) (zy:ZM zd = true),RRun (Z7P b0 zu zd) (EE 47 [(.ptr 0 0)] [(Z3W b0 zu zd)]) r
def Z2W b0 zu zd zy r (h:Z2I b0 = some r):=Z1m h zu zd zy
def ZdS (x0:List Int) (x1:Int):Option (Int × Int):=pick fun r => ∀ (ox0:Own),RRun Z3l (EE 62 [(ZP ox0 (x0.map (eI .u8))),(iv x1)] []) r
def ZkX x0 x1 ox0 r (h:ZdS x0 x1 = some r):=Z1m h ox0
def Z96 (x0:List Int):Option (Int × Int):=pick fun r => ∀ (ox0:Own),RRun Z92 (EE 76 [(ZP ox0 (x0.map (eI .u8)))] []) r
def Zg9 x0 ox0 r (h:Z96 x0 = some r):=Z1m h ox0
def ZaZ (x0:Int) (x1:List Z9):Option Z9:=pick fun r => ∀ (ox1:Own),RRun Z6N (EE 31 [(iv x0),(ZP ox1 (x1.map ZJ))] []) r
def ZhJ x0 x1 ox1 r (h:ZaZ x0 x1 = some r):=Z1m h ox1
def Z9M (zm:List Int) (zn z7 zh:Int) (zj:List ZA) (z2 z6:Int):Option (Z9 × Bool × Int × Int × Int × (List ZA) × Int × Int):=pick fun r => ∀ (zu zd:Own) (zy:ZM zd = true),RRun (Z2X zm zu) (EE 48 [(.ptr 0 0)] [(ZL zm zn z7 zh zj z2 z6 zu zd)]) r
def Zk2 zm zn z7 zh zj z2 z6 zu zd zy r (h:Z9M zm zn z7 zh zj z2 z6 = some r):=Z1m h zu zd zy
def Z3o (zm:List Int) (zn:Int):Option (Int × Int):=pick fun r => ∀ (z7 zh:Int) (zj:List ZA) (z2 z6:Int) (zu zd:Own) (zy:ZM zd = true),RRun (Z2c zm z7 zh zj z2 z6 zu zd) (EE 63 [(.ptr 0 0)] [(ZL zm zn z7 zh zj z2 z6 zu zd)]) r
def Z3M zm zn z7 zh zj z2 z6 zu zd zy r (h:Z3o zm zn = some r):=Z1m h z7 zh zj z2 z6 zu zd zy
def Z2y (x0:Int):Option Z8:=pick fun r => RRun Zgp (EE 65 [(iv x0)] []) r
def Z2l x0 r (h:Z2y x0 = some r):=Z1m h
def Z45 (x0:Bool) (x1:List Z8):Option Z9:=pick fun r => ∀ (ox1:Own),RRun Z6N (EE 64 [(bv x0),(ZP ox1 (x1.map Zz))] []) r
def Z4g x0 x1 ox1 r (h:Z45 x0 x1 = some r):=Z1m h ox1
def Zf6 (x0:List Z8):Option ((List Z8) × Int):=pick fun r => ∀ (ox0:Own),RRun Z2V (EE 77 [(ZP ox0 (x0.map Zz))] []) r
def ZqH x0 ox0 r (h:Zf6 x0 = some r):=Z1m h ox0
def Z5l (x0:List Z8):Option Bool:=pick fun r => ∀ (ox0:Own),RRun ZS (EE 96 [(ZP ox0 (x0.map Zz)),(.clo 97 [] [])] []) r
def Zdw x0 ox0 r (h:Z5l x0 = some r):=Z1m h ox0
def Z6l (x0:List Z8):Option Int:=pick fun r => ∀ (ox0:Own),RRun ZK (EE 104 [(ZP ox0 (x0.map Zz)),(.clo 97 [] [])] []) r
def ZeZ x0 ox0 r (h:Z6l x0 = some r):=Z1m h ox0
def Z49 (x0:List Z8) (x7 x8:Int):Option Int:=pick fun r => ∀ (ox0:Own),RRun ZK (Zkp 0 (ZP ox0 (x0.map Zz)) (.clo 97 [] []) (iv x7) (iv x8) []) r
def Z8Z x0 x7 x8 ox0 r (h:Z49 x0 x7 x8 = some r):=Z1m h ox0
def Zd3 (x0:Z8):Option Bool:=pick fun r => RRun ZS (EE 97 [(pA_ (ZQ x0))] []) r
def Zoh x0 r (h:Zd3 x0 = some r):=Z1m h
def Z7T (x0:Z8):Option Bool:=pick fun r => RRun ZS (EE 22 [(pA_ (ZQ x0))] []) r
def ZdI x0 r (h:Z7T x0 = some r):=Z1m h
def ZaY (x0:List Z8):Option (List Z8):=pick fun r => ∀ (ox0:Own),RRun Z3P (EE 25 [(ZP ox0 (x0.map Zz))] []) r
def Zdr x0 ox0 r (h:ZaY x0 = some r):=Z1m h ox0
def Zag (x0:List Z8):Option ((List Z8) × Int):=pick fun r => ∀ (ox0:Own),RRun Z2V (EE 17 [(ZP ox0 (x0.map Zz))] []) r
def ZgL x0 ox0 r (h:Zag x0 = some r):=Z1m h ox0
def Z5Z (x0:List Z8):Option Bool:=pick fun r => ∀ (ox0:Own),RRun ZS (EE 12 [(ZP ox0 (x0.map Zz))] []) r
def Z8G x0 ox0 r (h:Z5Z x0 = some r):=Z1m h ox0
def Z6X (x3:Int) (x6:List Z8) (x7 x8:Int):Option Bool:=pick fun r => ∀ (ox6:Own),RRun ZS (Zmz 0 (iv x3) (ZP ox6 (x6.map Zz)) (iv x7) (iv x8) []) r
def Zcl x3 x6 x7 x8 ox6 r (h:Z6X x3 x6 x7 x8 = some r):=Z1m h ox6
def Zc5 (x0:List Z8):Option (List Z8):=pick fun r => ∀ (ox0:Own),RRun Z3P (EE 26 [(ZP ox0 (x0.map Zz))] []) r
def Zn0 x0 ox0 r (h:Zc5 x0 = some r):=Z1m h ox0
def Z8p (x3:List Z8) (x4:Int) (x7:List Z8) (x8 x9:Int):Option (List Z8):=pick fun r => ∀ (ox3 ox7:Own) (hox3:ZM ox3 = true),RRun Z3P (ZmD 0 (ZP ox3 (x3.map Zz)) (iv x4) (ZP ox7 (x7.map Zz)) (iv x8) (iv x9) []) r
def ZeC x3 x4 x7 x8 x9 ox3 ox7 hox3 r (h:Z8p x3 x4 x7 x8 x9 = some r):=Z1m h ox3 ox7 hox3
def Z4I (x1:Int) (zm:List Int) (zn z7 zh:Int) (zj:List ZA) (z2 z6:Int):Option (Z9 × Int × (List ZA) × Int × Int):=pick fun r => ∀ (zu zd:Own) (zy:ZM zd = true),RRun (Z4w zm z7 zh zu) (EE 66 [(.ptr 0 0),(iv x1)] [(ZL zm zn z7 zh zj z2 z6 zu zd)]) r
def ZiS x1 zm zn z7 zh zj z2 z6 zu zd zy r (h:Z4I x1 zm zn z7 zh zj z2 z6 = some r):=Z1m h zu zd zy
def Z1g (x1 x2:Int) (zm:List Int) (z2 z6:Int):Option (Int × Int × Int):=pick fun r => ∀ (zn z7 zh:Int) (zj:List ZA) (zu zd:Own) (zy:ZM zd = true),RRun (Z7O zm z7 zh zj zu zd) (EE 21 [(.ptr 0 0),(iv x1),(iv x2)] [(ZL zm zn z7 zh zj z2 z6 zu zd)]) r
def Z1k x1 x2 zm zn z7 zh zj z2 z6 zu zd zy r (h:Z1g x1 x2 zm z2 z6 = some r):=Z1m h zn z7 zh zj zu zd zy
def Z7H (x0:Int):Option (Own × (List Z8)):=pick fun r => RRun Z7D (EE 78 [(iv x0)] []) r
def Zbt x0 r (h:Z7H x0 = some r):=Z1m h
def Z7x (x1 x2:Int) (zm:List Int) (zn z7 zh:Int) (zj:List ZA) (z2 z6:Int):Option (Int × Int × Int × Int):=pick fun r => ∀ (zu zd:Own) (zy:ZM zd = true),RRun (Z65 zm z7 zh zj zu zd) (EE 79 [(.ptr 0 0),(iv x1),(iv x2)] [(ZL zm zn z7 zh zj z2 z6 zu zd)]) r
def Zdo x1 x2 zm zn z7 zh zj z2 z6 zu zd zy r (h:Z7x x1 x2 zm zn z7 zh zj z2 z6 = some r):=Z1m h zu zd zy
def ZdM (x0:Int):Option Int:=pick fun r => RRun ZK (EE 98 [(iv x0)] []) r
def ZkP x0 r (h:ZdM x0 = some r):=Z1m h
def Z7w (x0:List Z8) (x1:Int):Option Bool:=pick fun r => ∀ (ox0:Own),RRun ZS (EE 24 [(ZP ox0 (x0.map Zz)),(iv x1)] []) r
def Zcj x0 x1 ox0 r (h:Z7w x0 x1 = some r):=Z1m h ox0
def Z5k (x0:List Z8) (z1C:Int):Option Bool:=pick fun r => ∀ (ox0:Own),RRun (Z7C z1C) (EE 32 [(ZP ox0 (x0.map Zz)),(.clo 33 [] [(.ptr 0 0)])] [[(iv z1C)]]) r
def Zdu x0 z1C ox0 r (h:Z5k x0 z1C = some r):=Z1m h ox0
def Z6k (x0:List Z8) (z1C:Int):Option Int:=pick fun r => ∀ (ox0:Own),RRun (Z2L z1C) (EE 50 [(ZP ox0 (x0.map Zz)),(.clo 33 [] [(.ptr 0 0)])] [[(iv z1C)]]) r
def ZeX x0 z1C ox0 r (h:Z6k x0 z1C = some r):=Z1m h ox0
def Z48 (x0:List Z8) (x7 x8 z1C:Int):Option Int:=pick fun r => ∀ (ox0:Own),RRun (Z2L z1C) (ZmM 1 (ZP ox0 (x0.map Zz)) (.clo 33 [] [(.ptr 0 0)]) (iv x7) (iv x8) [[(iv z1C)]]) r
def Z8X x0 x7 x8 z1C ox0 r (h:Z48 x0 x7 x8 z1C = some r):=Z1m h ox0
def ZaM (x0:Z8) (z1C:Int):Option Bool:=pick fun r => RRun (Z7C z1C) (EE 33 [(pA_ (ZQ x0)),(.ptr 0 0)] [[(iv z1C)]]) r
def Zlv x0 z1C r (h:ZaM x0 z1C = some r):=Z1m h
def Z95 (x1:Int) (zm:List Int) (zn z7 zh:Int) (zj:List ZA) (z2 z6:Int):Option (Z9 × Int × Int × Int):=pick fun r => ∀ (zu zd:Own) (zy:ZM zd = true),RRun (Z1K zm z7 zh zj zu zd) (EE 67 [(.ptr 0 0),(iv x1)] [(ZL zm zn z7 zh zj z2 z6 zu zd)]) r
def Zjq x1 zm zn z7 zh zj z2 z6 zu zd zy r (h:Z95 x1 zm zn z7 zh zj z2 z6 = some r):=Z1m h zu zd zy
def Z4a (x1:Int) (x5:Bool) (x8:Int) (zm:List Int) (zn z7 zh:Int) (zj:List ZA) (z2 z6:Int) (z1x:List Z8):Option (Z9 × Int × Int × Int):=pick fun r => ∀ (b1:Z9) (zu zd zH zE z1Y:Own) (zy:ZM zd = true) (z19:ZM zH = true) (zY:ZM zE = true),RRun (Z1K zm z7 zh zj zu zd) (ZmO 1 (.ptr 0 0) (iv x1) (.ptr 1 0) (bv x5) (.ptr 2 0) (.clo 80 [] [(.ptr 2 0)]) (iv x8) [(ZL zm zn z7 zh zj z2 z6 zu zd),(Zk b1 zH zE),[(ZP z1Y (z1x.map Zz))]]) r
def ZbH x1 x5 x8 zm zn z7 zh zj z2 z6 b1 z1x zu zd zH zE z1Y zy z19 zY r (h:Z4a x1 x5 x8 zm zn z7 zh zj z2 z6 z1x = some r):=Z1m h b1 zu zd zH zE z1Y zy z19 zY
def Z5N (zm:List Int) (zn z7 zh:Int) (zj:List ZA) (z2 z6:Int):Option (Int × (Own × (List Z8)) × Bool × Int × Int × Int):=pick fun r => ∀ (zu zd:Own) (zy:ZM zd = true),RRun (Z4x zm z7 zh zj zu zd) (EE 81 [(.ptr 0 0)] [(ZL zm zn z7 zh zj z2 z6 zu zd)]) r
def Zcs zm zn z7 zh zj z2 z6 zu zd zy r (h:Z5N zm zn z7 zh zj z2 z6 = some r):=Z1m h zu zd zy
def Z6F (x0 z1C:List Z8):Option (List Z8):=pick fun r => ∀ (ox0 zij:Own),RRun Z89 (EE 80 [(ZP ox0 (x0.map Zz)),(.ptr 0 0)] [[(ZP zij (z1C.map Zz))]]) r
def Zc6 x0 z1C ox0 zij r (h:Z6F x0 z1C = some r):=Z1m h ox0 zij
def Z9g (x0 x1:List Z8):Option ((List Z8) × Int):=pick fun r => ∀ (ox0 ox1:Own),RRun Z2V (EE 39 [(ZP ox0 (x0.map Zz)),(ZP ox1 (x1.map Zz))] []) r
def ZhI x0 x1 ox0 ox1 r (h:Z9g x0 x1 = some r):=Z1m h ox0 ox1
def Zb6 (x0:List (List Z8)):Option (List Z8):=pick fun r => ∀ (ox0:Own),RRun Z3P (EE 57 [(ZP ox0 (x0.map (eL Zz)))] []) r
def Zj0 x0 ox0 r (h:Zb6 x0 = some r):=Z1m h ox0
def Z59 (x1:Int) (zm:List Int) (zn z7 zh:Int) (zj:List ZA) (z2 z6:Int):Option (Z9 × Bool × Int × Int × Int × (List ZA) × Int × Int):=pick fun r => ∀ (zu zd:Own) (zy:ZM zd = true),RRun (Z2X zm zu) (EE 68 [(.ptr 0 0),(iv x1)] [(ZL zm zn z7 zh zj z2 z6 zu zd)]) r
def Zjs x1 zm zn z7 zh zj z2 z6 zu zd zy r (h:Z59 x1 zm zn z7 zh zj z2 z6 = some r):=Z1m h zu zd zy
def Ze3:Option (List ByteArray):=pick fun r => RRun ZdW (EE 83 [] []) r
def ZoX r (h:Ze3 = some r):=Z1m h
def Z5S (x0:List ByteArray) (zm:List Int) (zn:Int):Option (Int × Int):=pick fun r => ∀ (z7 zh:Int) (zj:List ZA) (z2 z6:Int) (ox0 zu zd:Own) (zy:ZM zd = true),RRun (Z2c zm z7 zh zj z2 z6 zu zd) (EE 82 [(ZP ox0 (x0.map eS)),(.clo 19 [(.ptr 0 0)] [])] [(ZL zm zn z7 zh zj z2 z6 zu zd)]) r
def Zem x0 zm zn z7 zh zj z2 z6 ox0 zu zd zy r (h:Z5S x0 zm zn = some r):=Z1m h z7 zh zj z2 z6 ox0 zu zd zy
def Z2n (x0:List ByteArray) (x7 x8:Int) (zm:List Int) (zn:Int):Option (Int × Int):=pick fun r => ∀ (z7 zh:Int) (zj:List ZA) (z2 z6:Int) (ox0 zu zd:Own) (zy:ZM zd = true),RRun (Z2c zm z7 zh zj z2 z6 zu zd) (ZmS 1 (ZP ox0 (x0.map eS)) (.clo 19 [(.ptr 0 0)] []) (iv x7) (iv x8) [(ZL zm zn z7 zh zj z2 z6 zu zd)]) r
def Z8I x0 x7 x8 zm zn z7 zh zj z2 z6 ox0 zu zd zy r (h:Z2n x0 x7 x8 zm zn = some r):=Z1m h z7 zh zj z2 z6 ox0 zu zd zy
def Z70 (x1:Z9) (x2:Bool) (zm:List Int) (zn z7 zh:Int) (zj:List ZA) (z2 z6:Int):Option (Z9 × Int × Int × Int):=pick fun r => ∀ (zN zW zu zd:Own) (zy:ZM zd = true),RRun (Z1K zm z7 zh zj zu zd) (EE 49 [(.ptr 0 0),(pA_ (ZI x1 zN zW)),(bv x2)] [(ZL zm zn z7 zh zj z2 z6 zu zd)]) r
def ZiW x1 x2 zm zn z7 zh zj z2 z6 zN zW zu zd zy r (h:Z70 x1 x2 zm zn z7 zh zj z2 z6 = some r):=Z1m h zN zW zu zd zy
def Z6Z (x1:Int) (zm:List Int) (zn z7 zh:Int) (zj:List ZA) (z2 z6:Int):Option (Int × Int × Int × Int × Int):=pick fun r => ∀ (zu zd:Own) (zy:ZM zd = true),RRun (Z3k zm z7 zh zj zu zd) (EE 69 [(.ptr 0 0),(iv x1)] [(ZL zm zn z7 zh zj z2 z6 zu zd)]) r
def ZiQ x1 zm zn z7 zh zj z2 z6 zu zd zy r (h:Z6Z x1 zm zn z7 zh zj z2 z6 = some r):=Z1m h zu zd zy
def Z5O (zm:List Int) (zn z7 zh:Int) (zj:List ZA) (z2 z6:Int):Option (Int × Int):=pick fun r => ∀ (zu zd:Own) (zy:ZM zd = true),RRun (Z2c zm z7 zh zj z2 z6 zu zd) (EE 84 [(.ptr 0 0)] [(ZL zm zn z7 zh zj z2 z6 zu zd)]) r
def Zct zm zn z7 zh zj z2 z6 zu zd zy r (h:Z5O zm zn z7 zh zj z2 z6 = some r):=Z1m h zu zd zy
def Z40 (x3 x4:Int) (zm:List Int) (zn z7 zh:Int) (zj:List ZA) (z2 z6:Int):Option (Int × Int):=pick fun r => ∀ (zu zd:Own) (zy:ZM zd = true),RRun (Z2c zm z7 zh zj z2 z6 zu zd) (ZmT 1 (.ptr 0 0) (iv x3) (iv x4) [(ZL zm zn z7 zh zj z2 z6 zu zd)]) r
def Zb9 x3 x4 zm zn z7 zh zj z2 z6 zu zd zy r (h:Z40 x3 x4 zm zn z7 zh zj z2 z6 = some r):=Z1m h zu zd zy
def Z5L (x3:List Z9) (zm:List Int) (zn z7 zh:Int) (zj:List ZA) (z2 z6:Int):Option (Z9 × Int × Int × Int × (List ZA) × Int × Int):=pick fun r => ∀ (b1:Z9) (ox3 zu zd zH zE:Own) (hox3:ZM ox3 = true) (zy:ZM zd = true) (z19:ZM zH = true) (zY:ZM zE = true),RRun (Z2C zm zu) (ZmC 1 (.ptr 0 0) (.ptr 1 0) (ZP ox3 (x3.map ZJ)) [(ZL zm zn z7 zh zj z2 z6 zu zd),(Zk b1 zH zE)]) r
def Zcn x3 zm zn z7 zh zj z2 z6 b1 ox3 zu zd zH zE hox3 zy z19 zY r (h:Z5L x3 zm zn z7 zh zj z2 z6 = some r):=Z1m h b1 ox3 zu zd zH zE hox3 zy z19 zY
def Z81 (x50:List ZA) (x51 x52:Int) (z38:List Int) (z1e zV z1h z12 z1j z1i z13 z1a:Int) (z1b:List Z8) (z11:List Z9) (z1G:Bool):Option (Z1f × Z16):=pick fun r => ∀ (b0:Z1f) (b1:Z16) (z31 z2F:Int) (z23:List ZA) (z2q:Int) (ox50 z14 zU z3G z1O z1y z1t:Own) (z2t:ZM z14 = true) (z2i:ZM zU = true) (z3N:ZM z1O = true),RRun Z4e (Zmw 0 (.ptr 0 0) (.ptr 1 0) (.ptr 2 0) (.ptr 3 0) (ZP ox50 (x50.map Z2Z)) (iv x51) (iv x52) [(ZT b0 z14 zU),(Z1E b1),(ZL z38 z31 z1e z2F z23 zV z1h z3G z1O),(Z9w z12 z1j z1i z13 z1a z1b z11 z2q z1G z1y z1t)]) r
def ZfF x50 x51 x52 b0 b1 z38 z31 z1e z2F z23 zV z1h z12 z1j z1i z13 z1a z1b z11 z2q z1G ox50 z14 zU z3G z1O z1y z1t z2t z2i z3N r (h:Z81 x50 x51 x52 z38 z1e zV z1h z12 z1j z1i z13 z1a z1b z11 z1G = some r):=Z1m h b0 b1 z31 z2F z23 z2q ox50 z14 zU z3G z1O z1y z1t z2t z2i z3N
def Z9h (x0:Z1f):Option ((List Zl) × Int):=pick fun r => ∀ (z2j z26:Own),RRun ZaQ (EE 18 [(pA_ (Z2R x0 z2j z26))] []) r
def Zol x0 z2j z26 r (h:Z9h x0 = some r):=Z1m h z2j z26
def Ze4 (x0:Z1f):Option Int:=pick fun r => ∀ (z2j z26:Own),RRun ZK (EE 27 [(pA_ (Z2R x0 z2j z26))] []) r
def Zp0 x0 z2j z26 r (h:Ze4 x0 = some r):=Z1m h z2j z26
def Z4l (x0:Z9):Option Bool:=pick fun r => ∀ (z27 z1v:Own),RRun ZS (EE 38 [(pA_ (ZI x0 z27 z1v))] []) r
def Zhe x0 z27 z1v r (h:Z4l x0 = some r):=Z1m h z27 z1v
def Z3j (x0:Z9):Option (Int × Int):=pick fun r => ∀ (z27 z1v:Own),RRun Z3l (EE 44 [(pA_ (ZI x0 z27 z1v))] []) r
def Z6M x0 z27 z1v r (h:Z3j x0 = some r):=Z1m h z27 z1v
def Z9u (x2 x3:Int) (x23:List Z9) (x24 x25:Int):Option (Int × Int):=pick fun r => ∀ (ox23:Own),RRun Z3l (ZmL 0 (iv x2) (iv x3) (ZP ox23 (x23.map ZJ)) (iv x24) (iv x25) []) r
def ZfI x2 x3 x23 x24 x25 ox23 r (h:Z9u x2 x3 x23 x24 x25 = some r):=Z1m h ox23
def Z8W (x2 x3:Int) (x45:List Z9) (x46 x47:Int):Option (Int × Int):=pick fun r => ∀ (ox45:Own),RRun Z3l (Zky 0 (iv x2) (iv x3) (ZP ox45 (x45.map ZJ)) (iv x46) (iv x47) []) r
def Zfb x2 x3 x45 x46 x47 ox45 r (h:Z8W x2 x3 x45 x46 x47 = some r):=Z1m h ox45
def ZbK (x0 x1:Int):Option Int:=pick fun r => RRun ZK (EE 61 [(iv x0),(iv x1)] []) r
def Zp5 x0 x1 r (h:ZbK x0 x1 = some r):=Z1m h
def Zcv (x0:Int):Option Int:=pick fun r => RRun ZK (EE 75 [(iv x0)] []) r
def ZjC x0 r (h:Zcv x0 = some r):=Z1m h
def Zgv (x0 x1:Int):Option Int:=pick fun r => RRun ZK (EE 60 [(iv x0),(iv x1)] []) r
def Zs3 x0 x1 r (h:Zgv x0 x1 = some r):=Z1m h
def Z5D (x0:List Z9):Option Bool:=pick fun r => ∀ (ox0:Own),RRun ZS (EE 55 [(ZP ox0 (x0.map ZJ)),(.clo 56 [] [])] []) r
def ZdQ x0 ox0 r (h:Z5D x0 = some r):=Z1m h ox0
def Z6A (x0:List Z9):Option Int:=pick fun r => ∀ (ox0:Own),RRun ZK (EE 73 [(ZP ox0 (x0.map ZJ)),(.clo 56 [] [])] []) r
def Zff x0 ox0 r (h:Z6A x0 = some r):=Z1m h ox0
def Z4m (x0:List Z9) (x7 x8:Int):Option Int:=pick fun r => ∀ (ox0:Own),RRun ZK (ZmR 0 (ZP ox0 (x0.map ZJ)) (.clo 56 [] []) (iv x7) (iv x8) []) r
def Z9e x0 x7 x8 ox0 r (h:Z4m x0 x7 x8 = some r):=Z1m h ox0
def ZaN (x0:Z9):Option Bool:=pick fun r => ∀ (z27 z1v:Own),RRun ZS (EE 56 [(pA_ (ZI x0 z27 z1v))] []) r
def ZlE x0 z27 z1v r (h:ZaN x0 = some r):=Z1m h z27 z1v
def Z62 (x0:Z9):Option Int:=pick fun r => ∀ (z27 z1v:Own),RRun ZK (EE 11 [(pA_ (ZI x0 z27 z1v))] []) r
def ZjB x0 z27 z1v r (h:Z62 x0 = some r):=Z1m h z27 z1v
def Z6z (x3:Int) (x8:List Z9) (x9 x10:Int) (b0:Z9):Option Int:=pick fun r => ∀ (ox8 z1u z1A:Own),RRun ZK (Zmy 0 (.ptr 0 0) (iv x3) (ZP ox8 (x8.map ZJ)) (iv x9) (iv x10) [(Zk b0 z1u z1A)]) r
def Zhd x3 x8 x9 x10 b0 ox8 z1u z1A r (h:Z6z x3 x8 x9 x10 b0 = some r):=Z1m h ox8 z1u z1A
def Z1n (x1:Zl) (zG:List Zl):Option (Int × (List Zl)):=pick fun r => ∀ (zB:Bool) (zD:Int) (zN:Own),RRun (Z8x zB zD) (EE 28 [(.ptr 0 0),(pA_ (Z1q x1 zN))] [[(.p (.ml 6 (zG.map ZC))),(bv zB),(iv zD)]]) r
def Z1w x1 zG zB zD zN r (h:Z1n x1 zG = some r):=Z1m h zB zD zN
def Z1U (x1:Z9) (zG:List Zl) (zB:Bool) (zD:Int):Option ((List Zl) × Int):=pick fun r => ∀ (zN zW:Own),RRun (Z18 zB) (EE 29 [(.ptr 0 0),(pA_ (ZI x1 zN zW))] [[(.p (.ml 6 (zG.map ZC))),(bv zB),(iv zD)]]) r
def Z2N x1 zG zB zD zN zW r (h:Z1U x1 zG zB zD = some r):=Z1m h zN zW
def Z9r (x0:List Z8):Option ((List Z8) × Int):=pick fun r => ∀ (ox0:Own),RRun Z2V (EE 14 [(ZP ox0 (x0.map Zz))] []) r
def Zmg x0 ox0 r (h:Z9r x0 = some r):=Z1m h ox0
def Zbu (x0:List Z8):Option (Own × (List Z8)):=pick fun r => ∀ (ox0:Own),RRun Z7D (EE 23 [(ZP ox0 (x0.map Zz))] []) r
def Zjx x0 ox0 r (h:Zbu x0 = some r):=Z1m h ox0
def Z7U (x0 x4:List Z8) (x5:Int):Option ((List Z8) × Int):=pick fun r => ∀ (ox0 ox4:Own) (hox4:ZM ox4 = true),RRun Z2V (ZmB 0 (ZP ox0 (x0.map Zz)) (ZP ox4 (x4.map Zz)) (.p (.v (.int .i32 x5))) []) r
def ZdK x0 x4 x5 ox0 ox4 hox4 r (h:Z7U x0 x4 x5 = some r):=Z1m h ox0 ox4 hox4
def Z5e (x36:List Z9) (x37 x38:Int) (zG:List Zl) (zB:Bool) (zD:Int):Option ((List Zl) × Int):=pick fun r => ∀ (ox36:Own),RRun (Z18 zB) (Zks 1 (.ptr 1 0) (ZP ox36 (x36.map ZJ)) (iv x37) (iv x38) [[(.p (.ml 6 (zG.map ZC))),(bv zB),(iv zD)],[(.ptr 0 0)]]) r
def ZaE x36 x37 x38 zG zB zD ox36 r (h:Z5e x36 x37 x38 zG zB zD = some r):=Z1m h ox36
def Z71 (x1:List Z9) (zG:List Zl) (zB:Bool) (zD:Int):Option ((List Zl) × Int):=pick fun r => ∀ (ox1:Own),RRun (Z18 zB) (EE 40 [(.ptr 0 0),(ZP ox1 (x1.map ZJ))] [[(.p (.ml 6 (zG.map ZC))),(bv zB),(iv zD)]]) r
def ZiY x1 zG zB zD ox1 r (h:Z71 x1 zG zB zD = some r):=Z1m h ox1
def Z60 (x1:List Z9) (x4:List Int) (x5:Int) (x16:List Z9) (x17 x18:Int) (zG:List Zl) (zB:Bool) (zD:Int):Option ((List Zl) × Int):=pick fun r => ∀ (ox1 ox4 ox16:Own) (hox4:ZM ox4 = true),RRun (Z18 zB) (ZmJ 1 (.ptr 0 0) (ZP ox1 (x1.map ZJ)) (ZP ox4 (x4.map (eI .i64))) (iv x5) (ZP ox16 (x16.map ZJ)) (iv x17) (iv x18) [[(.p (.ml 6 (zG.map ZC))),(bv zB),(iv zD)]]) r
def Zbb x1 x4 x5 x16 x17 x18 zG zB zD ox1 ox4 ox16 hox4 r (h:Z60 x1 x4 x5 x16 x17 x18 zG zB zD = some r):=Z1m h ox1 ox4 ox16 hox4
def Z50 (x1 x2 x3:Int) (x4:Bool) (zG:List Zl):Option (List Zl):=pick fun r => ∀ (zB:Bool) (zD:Int),RRun (Z6n zB zD) (EE 58 [(.ptr 0 0),(iv x1),(iv x2),(iv x3),(bv x4)] [[(.p (.ml 6 (zG.map ZC))),(bv zB),(iv zD)]]) r
def Z8N x1 x2 x3 x4 zG zB zD r (h:Z50 x1 x2 x3 x4 zG = some r):=Z1m h zB zD
def Z5C (x51:List Int) (x52 x53:Int) (zG:List Zl) (zD:Int):Option ((List Zl) × Int):=pick fun r => ∀ (zB:Bool) (ox51:Own),RRun (Z18 zB) (Zku 1 (.ptr 0 0) (ZP ox51 (x51.map (eI .i64))) (iv x52) (iv x53) [[(.p (.ml 6 (zG.map ZC))),(bv zB),(iv zD)]]) r
def Zb5 x51 x52 x53 zG zB zD ox51 r (h:Z5C x51 x52 x53 zG zD = some r):=Z1m h zB ox51
def Z4N (x1:Zl) (zG:List Zl) (zB:Bool) (zD:Int) (b2:Z9):Option ((List Zl) × Int):=pick fun r => ∀ (zN z1c zZ:Own),RRun (Z3z zB b2 z1c zZ) (EE 41 [(.ptr 0 0),(pA_ (Z1q x1 zN)),(.clo 42 [] [(.ptr 1 0),(.ptr 2 0)])] [[(.p (.ml 6 (zG.map ZC))),(bv zB),(iv zD)],[(.ptr 0 0)],(Zk b2 z1c zZ)]) r
def Zh7 x1 zG zB zD b2 zN z1c zZ r (h:Z4N x1 zG zB zD b2 = some r):=Z1m h zN z1c zZ
def Z7y (b1:Z9) (z32:List Zl) (z1P:Bool) (z2h:Int):Option ((List Zl) × Int):=pick fun r => ∀ (zH zE:Own),RRun (Z3y b1 z1P zH zE) (EE 42 [(.ptr 0 0),(.ptr 1 0)] [[(.ptr 2 0)],(Zk b1 zH zE),[(.p (.ml 6 (z32.map ZC))),(bv z1P),(iv z2h)]]) r
def ZgZ b1 z32 z1P z2h zH zE r (h:Z7y b1 z32 z1P z2h = some r):=Z1m h zH zE
def Z4K (x1:Z9) (zG:List Zl) (zB:Bool) (zD:Int):Option ((List Zl) × Int):=pick fun r => ∀ (zN zW:Own),RRun (Z18 zB) (EE 43 [(.ptr 0 0),(pA_ (ZI x1 zN zW))] [[(.p (.ml 6 (zG.map ZC))),(bv zB),(iv zD)]]) r
def Zbc x1 zG zB zD zN zW r (h:Z4K x1 zG zB zD = some r):=Z1m h zN zW
def Z4V (x4:Bool) (x13 x14:Int) (zG:List Zl) (zB:Bool) (zD:Int) (b1:Z9):Option ((List Zl) × Int):=pick fun r => ∀ (zH zE:Own),RRun (Z18 zB) (ZmK 1 (.ptr 0 0) (.ptr 1 0) (bv x4) (iv x13) (iv x14) [[(.p (.ml 6 (zG.map ZC))),(bv zB),(iv zD)],(Zk b1 zH zE)]) r
def Zal x4 x13 x14 zG zB zD b1 zH zE r (h:Z4V x4 x13 x14 zG zB zD b1 = some r):=Z1m h zH zE
def Z8h (x1:Z9) (x2:Bool) (zG:List Zl) (zB:Bool) (zD:Int):Option ((List Zl) × Int):=pick fun r => ∀ (zN zW:Own),RRun (Z18 zB) (EE 59 [(.ptr 0 0),(pA_ (ZI x1 zN zW)),(bv x2)] [[(.p (.ml 6 (zG.map ZC))),(bv zB),(iv zD)]]) r
def Zia x1 x2 zG zB zD zN zW r (h:Z8h x1 x2 zG zB zD = some r):=Z1m h zN zW
def Z4L (x4:Bool) (x6:List Int) (x49 x50:Int) (zG:List Zl) (zB:Bool) (zD:Int) (b1:Z9):Option ((List Zl) × Int):=pick fun r => ∀ (ox6 zH zE:Own) (hox6:ZM ox6 = true),RRun (Z18 zB) (Zkv 1 (.ptr 0 0) (.ptr 1 0) (bv x4) (ZP ox6 (x6.map (eI .i64))) (iv x49) (iv x50) [[(.p (.ml 6 (zG.map ZC))),(bv zB),(iv zD)],(Zk b1 zH zE)]) r
def Z9S x4 x6 x49 x50 zG zB zD b1 ox6 zH zE hox6 r (h:Z4L x4 x6 x49 x50 zG zB zD b1 = some r):=Z1m h ox6 zH zE hox6
def Z4M (x4:Bool) (x65:List Int) (x66 x67:Int) (zG:List Zl) (zD:Int):Option ((List Zl) × Int):=pick fun r => ∀ (zB:Bool) (ox65:Own),RRun (Z18 zB) (Zkw 1 (.ptr 0 0) (bv x4) (ZP ox65 (x65.map (eI .i64))) (iv x66) (iv x67) [[(.p (.ml 6 (zG.map ZC))),(bv zB),(iv zD)]]) r
def Z9U x4 x65 x66 x67 zG zB zD ox65 r (h:Z4M x4 x65 x66 x67 zG zD = some r):=Z1m h zB ox65
def Z61 (x1:Zl) (zG:List Zl) (zB:Bool) (zD:Int) (b2:Z9):Option ((List Zl) × Int):=pick fun r => ∀ (zN z1c zZ:Own),RRun (Z3z zB b2 z1c zZ) (EE 41 [(.ptr 0 0),(pA_ (Z1q x1 zN)),(.clo 46 [] [(.ptr 1 0),(.ptr 2 0)])] [[(.p (.ml 6 (zG.map ZC))),(bv zB),(iv zD)],[(.ptr 0 0)],(Zk b2 z1c zZ)]) r
def Zh9 x1 zG zB zD b2 zN z1c zZ r (h:Z61 x1 zG zB zD b2 = some r):=Z1m h zN z1c zZ
def Z7A (b1:Z9) (z32:List Zl) (z1P:Bool) (z2h:Int):Option ((List Zl) × Int):=pick fun r => ∀ (zH zE:Own),RRun (Z3y b1 z1P zH zE) (EE 46 [(.ptr 0 0),(.ptr 1 0)] [[(.ptr 2 0)],(Zk b1 zH zE),[(.p (.ml 6 (z32.map ZC))),(bv z1P),(iv z2h)]]) r
def Zh3 b1 z32 z1P z2h zH zE r (h:Z7A b1 z32 z1P z2h = some r):=Z1m h zH zE
def Z7B (x1:Zl) (zG:List Zl) (zB:Bool) (zD:Int) (b2:Z9):Option ((List Zl) × Int):=pick fun r => ∀ (zN z1c zZ:Own),RRun (Z3z zB b2 z1c zZ) (EE 41 [(.ptr 0 0),(pA_ (Z1q x1 zN)),(.clo 45 [] [(.ptr 1 0),(.ptr 2 0)])] [[(.p (.ml 6 (zG.map ZC))),(bv zB),(iv zD)],[(.ptr 0 0)],(Zk b2 z1c zZ)]) r
def Zhb x1 zG zB zD b2 zN z1c zZ r (h:Z7B x1 zG zB zD b2 = some r):=Z1m h zN z1c zZ
def Z7z (b1:Z9) (z32:List Zl) (z1P:Bool) (z2h:Int):Option ((List Zl) × Int):=pick fun r => ∀ (zH zE:Own),RRun (Z3y b1 z1P zH zE) (EE 45 [(.ptr 0 0),(.ptr 1 0)] [[(.ptr 2 0)],(Zk b1 zH zE),[(.p (.ml 6 (z32.map ZC))),(bv z1P),(iv z2h)]]) r
def Zh1 b1 z32 z1P z2h zH zE r (h:Z7z b1 z32 z1P z2h = some r):=Z1m h zH zE
def Z3c (x0:List Zl):Option Int:=pick fun r => ∀ (ox0:Own),RRun ZK (EE 13 [(ZP ox0 (x0.map ZC))] []) r
def Z3V x0 ox0 r (h:Z3c x0 = some r):=Z1m h ox0
def Zah (x3:Int) (x6:List Zl) (x7 x8:Int):Option Int:=pick fun r => ∀ (ox6:Own),RRun ZK (ZmA 0 (iv x3) (ZP ox6 (x6.map ZC)) (iv x7) (iv x8) []) r
def ZgX x3 x6 x7 x8 ox6 r (h:Zah x3 x6 x7 x8 = some r):=Z1m h ox6
def Z4H (x5 x11:List Zl) (x14:Int) (x117:List Zl) (x118 x119:Int):Option Bool:=pick fun r => ∀ (ox5 ox11 ox117:Own),RRun ZS (ZmQ 0 (ZP ox5 (x5.map ZC)) (ZP ox11 (x11.map ZC)) (iv x14) (ZP ox117 (x117.map ZC)) (iv x118) (iv x119) []) r
def Z9P x5 x11 x14 x117 x118 x119 ox5 ox11 ox117 r (h:Z4H x5 x11 x14 x117 x118 x119 = some r):=Z1m h ox5 ox11 ox117
end Go.Proofs.YtocikhhkicahoaaDoor.N2
end
