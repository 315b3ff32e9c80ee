/- What the writer of programs writes: code that can be moved. No condition. -/
import Derived.Test.YtocikhhkicahoaaDoorPlainB
import Derived.Test.YtocikhhkicahoaaDoorSim

set_option linter.unusedSimpArgs false
set_option linter.unusedVariables false
set_option linter.defProp false
section
namespace Go.Proofs.YtocikhhkicahoaaDoor.N2
open Go Go.Abs Go.Proofs.Unis Go.Proofs.Norm
set_option maxRecDepth 100000
def mv (a l:Int) (i:Zl):Zl :=
 if i.Op = 2 then ⟨i.Op,i.A + a,i.B,i.C,i.D,i.Set⟩
 else if i.Op = 3 then ⟨i.Op,i.A + a,i.B + a,i.C,i.D,i.Set⟩
 else if i.Op = 7 ∨ i.Op = 8 then ⟨i.Op,i.A,i.B + a,i.C,i.D,i.Set⟩
 else if i.Op = 10 ∨ i.Op = 11 then ⟨i.Op,i.A + l,i.B,i.C,i.D,i.Set⟩
 else i
theorem Zig (a l:Int) (i:Zl):(mv a l i).Op = i.Op:=by
 unfold mv
 repeat' split
 all_goals rfl
theorem ZEu (a l b m:Int) (i:Zl):mv a l (mv b m i) = mv (b + a) (m + l) i:=by
 unfold mv
 by_cases h2:i.Op = 2
 ·simp only [h2,if_true,Int.add_assoc]
 by_cases h3:i.Op = 3
 ·simp [h3,Int.add_assoc]
 by_cases h7:i.Op = 7 ∨ i.Op = 8
 ·simp only [h2,h3,h7,if_true,if_false,Int.add_assoc]
 by_cases h10:i.Op = 10 ∨ i.Op = 11
 ·simp only [h2,h3,h7,h10,if_true,if_false,Int.add_assoc]
 ·simp only [h2,h3,h7,h10,if_false]
def mvL (a l:Int) (c:List Zl):List Zl:=c.map (mv a l)
theorem Z1o (a l:Int) (c:List Zl):(mvL a l c).length = c.length:=by simp [mvL]
theorem ZbP (a l:Int):mvL a l [] = []:=rfl
theorem ZcF (a l:Int) (i:Zl) (c:List Zl):mvL a l (i :: c) = mv a l i :: mvL a l c:=rfl
theorem Z9Z (a l:Int) (c d:List Zl):mvL a l (c ++ d) = mvL a l c ++ mvL a l d:=by simp [mvL]
theorem Za0 (a l b m:Int) (c:List Zl):mvL a l (mvL b m c) = mvL (b + a) (m + l) c:=by
 simp only [mvL,Zph]
 exact Znn fun i _ => ZEu a l b m i
abbrev Cp:=List Zl × Nat
def sp (a b:Int):Zl:=⟨3,a,b,0,0,[]⟩
def jp (a:Int):Zl:=⟨2,a,0,0,0,[]⟩
def mk (a:Int):Zl:=⟨10,a,0,0,0,[]⟩
def gd (a:Int):Zl:=⟨11,a,0,0,0,[]⟩
def sv (a:Int):Zl:=⟨4,a,0,0,0,[]⟩
def dn:Zl:=⟨9,0,0,0,0,[]⟩
def spz (z:Bool) (a b:Int):Zl:=if z = true then sp b a else sp a b
theorem Zt6 (a l x y:Int):mv a l (sp x y) = sp (x + a) (y + a):=rfl
theorem Zz6 (a l x:Int):mv a l (jp x) = jp (x + a):=rfl
theorem ZIA (a l x:Int):mv a l (mk x) = mk (x + l):=rfl
theorem ZIz (a l x:Int):mv a l (gd x) = gd (x + l):=rfl
theorem ZIB (a l x:Int):mv a l (sv x) = sv x:=rfl
theorem ZIy (a l:Int):mv a l dn = dn:=rfl
theorem ZC7 (z:Bool) (a l x y:Int):mv a l (spz z x y) = spz z (x + a) (y + a):=by cases z <;> rfl
def seqC:List Cp → Cp
 | [] => ([],0)
 | d :: r => (d.1 ++ mvL d.1.length d.2 (seqC r).1,d.2 + (seqC r).2)
def preC:Int → List Cp → Cp
 | _,[] => ([],0)
 | e,d :: r => (sp 1 (d.1.length + 2) :: (mvL 1 0 d.1 ++ jp e :: mvL (d.1.length + 2) d.2 (preC (e - (d.1.length + 2)) r).1),d.2 + (preC (e - (d.1.length + 2)) r).2)
def altC (P:List Cp) (d:Cp):Cp :=
 ((preC ((preC 0 P).1.length + d.1.length) P).1 ++ mvL (preC 0 P).1.length (preC 0 P).2 d.1,(preC 0 P).2 + d.2)
def optC (z:Bool) (d:Cp):Int → Nat → Cp
 | _,0 => ([],0)
 | e,m + 1 => (spz z 1 e :: (mvL 1 0 d.1 ++ mvL (d.1.length + 1) d.2 (optC z d (e - (d.1.length + 1)) m).1),d.2 + (optC z d (e - (d.1.length + 1)) m).2)
def optH (d:Cp):Int → Nat → Cp
 | _,0 => ([],0)
 | e,m + 1 => (sp e e :: (mvL 1 0 d.1 ++ mvL (d.1.length + 1) d.2 (optH d (e - (d.1.length + 1)) m).1),d.2 + (optH d (e - (d.1.length + 1)) m).2)
def Z77 (z:Bool) (d:Cp):Cp:=(spz z 1 (d.1.length + 4) :: mk 0 :: (mvL 2 1 d.1 ++ [gd 0,jp 0]),d.2 + 1)
def repC (lo hi:Int) (z:Bool) (d:Cp):Cp :=
 seqC [seqC (List.replicate lo.toNat d),if hi < 0 then Z77 z d else optC z d ((optC z d 0 (hi - lo).toNat).1.length) (hi - lo).toNat]
def Z3X (op a c e:Int) (d:Cp):Cp:=(⟨op,a,d.1.length + 2,c,e,[]⟩ :: (mvL 1 0 d.1 ++ [dn]),d.2)
theorem Zgf (P:List Cp):∀ (e e':Int),(preC e P).1.length = (preC e' P).1.length ∧ (preC e P).2 = (preC e' P).2:=by
 induction P with
 | nil => intro e e'; exact ⟨rfl,rfl⟩
 | cons d r ih =>
  intro e e'
  have:=ih (e - (d.1.length + 2)) (e' - (d.1.length + 2))
  simp only [preC,q5_,q3_,Z1o,this]
  exact ⟨trivial,trivial⟩
theorem Zer (z:Bool) (d:Cp):∀ (m:Nat) (e e':Int),(optC z d e m).1.length = (optH d e' m).1.length ∧ (optC z d e m).2 = (optH d e' m).2:=by
 intro m
 induction m with
 | zero => intro e e'; exact ⟨rfl,rfl⟩
 | succ m ih =>
  intro e e'
  have:=ih (e - (d.1.length + 1)) (e' - (d.1.length + 1))
  simp only [optC,optH,q5_,q3_,Z1o,this]
  exact ⟨trivial,trivial⟩
def Lk (p:Cp):Prop:=p.2 ≤ p.1.length
theorem ZiB:∀ {P:List Cp},(∀ p ∈ P,Lk p) → Lk (seqC P)
 | [],_ => Z2x _
 | d :: r,h => by
  have h1:=h d (Z9C ..)
  have h2:=ZiB (P:=r) fun p hp => h p (Zay _ hp)
  unfold Lk at *
  simp only [seqC,q3_,Z1o]
  omega
theorem Zsa:∀ {P:List Cp} (e:Int),(∀ p ∈ P,Lk p) → Lk (preC e P)
 | [],_,_ => Z2x _
 | d :: r,e,h => by
  have h1:=h d (Z9C ..)
  have h2:=Zsa (P:=r) (e - (d.1.length + 2)) fun p hp => h p (Zay _ hp)
  unfold Lk at *
  simp only [preC,q3_,q5_,Z1o]
  omega
theorem ZFa {z:Bool} {d:Cp} (h:Lk d):∀ (m:Nat) (e:Int),Lk (optC z d e m):=by
 intro m
 induction m with
 | zero => intro e; exact Z2x _
 | succ m ih =>
  intro e
  have:=ih (e - (d.1.length + 1))
  unfold Lk at *
  simp only [optC,q3_,q5_,Z1o]
  omega
theorem ZDt {z:Bool} {d:Cp} (h:Lk d):Lk (Z77 z d):=by
 unfold Lk at *
 simp only [Z77,q3_,q5_,Z1o,q8_]
 omega
theorem Zx0 {P:List Cp} {d:Cp} (h:∀ p ∈ P,Lk p) (hd:Lk d):Lk (altC P d):=by
 have h1:=Zsa 0 h
 have h2:=Zgf P ((preC 0 P).1.length + d.1.length) 0
 unfold Lk at *
 simp only [altC,q3_,Z1o]
 omega
theorem Zgo {op a c e:Int} {d:Cp} (h:Lk d):Lk (Z3X op a c e d):=by
 unfold Lk at *
 simp only [Z3X,q3_,q5_,Z1o]
 omega
theorem Zla {lo hi:Int} {z:Bool} {d:Cp} (h:Lk d):Lk (repC lo hi z d):=by
 unfold repC
 apply ZiB
 intro p hp
 simp only [Z5G,Zpm,or_false] at hp
 rcases hp with rfl | rfl
 ·exact ZiB fun q hq => by rw [Zw1 hq]; exact h
 ·split
  ·exact ZDt h
  ·exact ZFa h _ _
theorem Zlb (a b:Cp):seqC [a,b] = (a.1 ++ mvL a.1.length a.2 b.1,a.2 + b.2):=by
 simp [seqC,ZbP]
inductive Cd (fold:Bool) (ff:List R2 → List R2):Z9 → Cp → Prop
 | none:Cd fold ff nd0 ([],0)
 | set (l:List R2):Z2Y l → Cd fold ff (setN l) ([⟨1,0,0,0,0,(if fold = true then ff l else l).map ofR⟩],0)
 | cat (l:List Z9) (P:List Cp):l.length ≤ 3000 → P.length = l.length → (∀ (i:Nat) (x:Z9) (p:Cp),l[i]? = some x → P[i]? = some p → Cd fold ff x p) → Cd fold ff ⟨2,0,0,0,0,[],l⟩ (seqC P)
 | alt (l:List Z9) (P:List Cp) (y:Z9) (q:Cp):1 ≤ l.length → l.length + 1 ≤ 3000 → P.length = l.length → (∀ (i:Nat) (x:Z9) (p:Cp),l[i]? = some x → P[i]? = some p → Cd fold ff x p) → Cd fold ff y q →
   Cd fold ff ⟨3,0,0,0,0,[],l ++ [y]⟩ (altC P q)
 | rep (lo hi m:Int) (x:Z9) (p:Cp):0 ≤ lo ∧ lo ≤ 64 → hi = -1 ∨ (lo ≤ hi ∧ hi ≤ 64) → m ≠ 2 → Cd fold ff x p → Cd fold ff ⟨4,lo,hi,m,0,[],[x]⟩ (repC lo hi (m == 1) p)
 | repA (lo hi:Int) (x:Z9) (p:Cp):0 ≤ lo ∧ lo ≤ 64 → hi = -1 ∨ (lo ≤ hi ∧ hi ≤ 64) → Cd fold ff x p → Cd fold ff ⟨4,lo,hi,2,0,[],[x]⟩ (Z3X 8 0 0 0 (repC lo hi false p))
 | group (r:Int) (x:Z9) (p:Cp):1 ≤ r ∧ r ≤ 9 → Cd fold ff x p → Cd fold ff ⟨5,0,0,0,r,[],[x]⟩ (sv (2 * r) :: (mvL 1 0 p.1 ++ [sv (2 * r + 1)]),p.2)
 | back (r:Int):1 ≤ r ∧ r ≤ 9 → Cd fold ff ⟨6,0,0,0,r,[],[]⟩ ([⟨5,r,if fold = true then 1 else 0,0,0,[]⟩],0)
 | look (m:Int) (x:Z9) (p:Cp) (v:Sh):0 ≤ m ∧ m ≤ 3 → Shp x v → Cd fold ff x p → Cd fold ff ⟨7,0,0,m,0,[],[x]⟩ (Z3X 7 m (if 2 ≤ m then v.lo else 0) (if 2 ≤ m then v.hi else 0) p)
 | atomic (x:Z9) (p:Cp):Cd fold ff x p → Cd fold ff ⟨8,0,0,0,0,[],[x]⟩ (Z3X 8 0 0 0 p)
 | edge (k:Int):0 ≤ k ∧ k ≤ 3 → Cd fold ff (edge k) ([⟨6,k,0,0,0,[]⟩],0)
theorem Ztn {fold:Bool} {ff:List R2 → List R2} {l:List Z9} (h:∀ x ∈ l,∃ p,Cd fold ff x p):∃ P:List Cp,P.length = l.length ∧ ∀ (i:Nat) (x:Z9) (p:Cp),l[i]? = some x → P[i]? = some p → Cd fold ff x p:=by
 induction l with
 | nil => exact ⟨[],rfl,by simp⟩
 | cons y r ih =>
  obtain ⟨v,hv⟩:=h y (Z9C ..)
  obtain ⟨V,h1,h2⟩:=ih fun x hx => h x (Zay _ hx)
  refine ⟨v :: V,by simp [h1],fun i x u hx hu => ?_⟩
  cases i with
  | zero => simp at hx hu; subst hx hu; exact hv
  | succ i => exact h2 i x u (by simpa using hx) (by simpa using hu)
theorem ZER (fold:Bool) (ff:List R2 → List R2) {n:Z9} (h:Good n):∃ p,Cd fold ff n p:=by
 induction h with
 | none => exact ⟨_,.none⟩
 | set l hl => exact ⟨_,.set l hl⟩
 | row k l hk h2 h3 _ ih =>
  rcases hk with rfl | rfl
  ·obtain ⟨P,q1,q2⟩:=Ztn ih
   exact ⟨_,.cat l P h3 q1 q2⟩
  ·have hne:l ≠ []:=by rintro rfl; simp at h2
   have e:=List.dropLast_concat_getLast hne
   obtain ⟨P,q1,q2⟩:=Ztn (l:=l.dropLast) fun x hx => ih x ((List.dropLast_sublist l).subset hx)
   obtain ⟨p,hp⟩:=ih _ (List.getLast_mem hne)
   have hl:=congrArg List.length e
   rw [q3_,Zj5] at hl
   have:=Cd.alt l.dropLast P _ p (by omega) (by omega) q1 q2 hp
   rw [e] at this
   exact ⟨_,this⟩
 | rep lo hi m x h1 h2 h3 _ ih =>
  obtain ⟨p,hp⟩:=ih
  by_cases hm:m = 2
  ·subst hm; exact ⟨_,.repA lo hi x p h1 h2 hp⟩
  ·exact ⟨_,.rep lo hi m x p h1 h2 hm hp⟩
 | group r x hr _ ih => obtain ⟨p,hp⟩:=ih; exact ⟨_,.group r x p hr hp⟩
 | back r hr => exact ⟨_,.back r hr⟩
 | look m x hm hx ih =>
  obtain ⟨p,hp⟩:=ih
  obtain ⟨v,hv⟩:=ZDf hx
  exact ⟨_,.look m x p v hm hv hp⟩
 | atomic x _ ih => obtain ⟨p,hp⟩:=ih; exact ⟨_,.atomic x p hp⟩
 | edge k hk => exact ⟨_,.edge k hk⟩
theorem Zap {α β:Type} {l:List α} {P:List β} {R:α → β → Prop} {Q:β → Prop} (hl:P.length = l.length) (h:∀ (i:Nat) (x:α) (p:β),l[i]? = some x → P[i]? = some p → Q p):∀ p ∈ P,Q p:=by
 intro p hp
 obtain ⟨i,hi⟩:=ZcK.1 hp
 have hil:i < l.length:=by have:=(q2_.1 hi).1; omega
 exact h i _ p (q4_ hil) hi
theorem ZE5 {fold:Bool} {ff:List R2 → List R2} {n:Z9} {p:Cp} (h:Cd fold ff n p):Lk p:=by
 induction h with
 | none => exact Z2x _
 | set => exact ZhD _
 | cat l P _ hP _ ih => exact ZiB (Zap (R:=fun _ _ => True) hP ih)
 | alt l P y q _ _ hP _ _ ih ih2 => exact Zx0 (Zap (R:=fun _ _ => True) hP ih) ih2
 | rep lo hi m x p _ _ _ _ ih => exact Zla ih
 | repA lo hi x p _ _ _ ih => exact Zgo (Zla ih)
 | group r x p _ _ ih => unfold Lk at *; simp only [q3_,q5_,Z1o]; omega
 | back => exact ZhD _
 | look m x p v _ _ _ ih => exact Zgo ih
 | atomic x p _ ih => exact Zgo ih
 | edge => exact ZhD _
theorem Zo4 {α:Type} (l r:List α) (h:l.length + r.length ≤ 1000000000):lapp l r = some (l ++ r):=by
 unfold lapp
 rw [if_pos (ZhC h (by decide))]
theorem ZlL {α:Type} (u:List α) (s:α) (w:List α) {i:Int} (h:i = u.length):lget (u ++ s :: w) i = some s:=by
 subst h
 rw [Z4b]
 simp
theorem ZlO {α:Type} (u:List α) (s t:α) (w:List α) {i:Int} (h:i = u.length):lset (u ++ s :: w) i t = u ++ t :: w:=by
 subst h
 simp [lset]
theorem ZvM {a a' l l':Int} {c:List Zl} (h:a = a') (h':l = l'):mvL a l c = mvL a' l' c:=by rw [h,h']
theorem Z8J (x:Zl) (out:List Zl) (h:out.length ≤ 100000):Z1n x out = some ((out.length:Int),out ++ [x]):=by
 apply ZiZ
 unfold Z8E
 rw [Zo4 _ _ (by simp; omega),q0_,q3_,Zj5,wrap_i64 (by omega) (by omega)]
 congr 2
 omega
theorem ZnF (u:List Zl) (s:Zl) (w:List Zl) (at_ p q:Int) (z:Bool) (h:at_ = u.length) :
  Z50 at_ p q z (u ++ s :: w) = some (u ++ ⟨s.Op,if z = true then q else p,if z = true then p else q,s.C,s.D,s.Set⟩ :: w):=by
 apply Zhw
 unfold Z7N Z5d
 cases z
 ·rw [if_neg (by simp)]
  simp only [ZlL _ _ _ h,ZlO _ _ _ _ h,q0_]
  rfl
 ·rw [if_pos rfl]
  simp only [ZlL _ _ _ h,ZlO _ _ _ _ h,q0_]
  rfl
def Wr (fold:Bool) (n:Z9) (p:Cp):Prop :=
 Lk p ∧ ∀ (out:List Zl) (lp:Int),out.length + p.1.length ≤ 10000 → 0 ≤ lp ∧ lp ≤ out.length →
  Z1U n out fold lp = some (out ++ mvL out.length lp p.1,lp + p.2)
theorem Ziy {fold:Bool} {n:Z9} {p:Cp} (h:∀ (out:List Zl) (lp:Int),out.length + p.1.length ≤ 10000 → 0 ≤ lp ∧ lp ≤ out.length → Z1U n out fold lp = some (out ++ mvL out.length lp p.1,lp + p.2))
  {o:List Zl} {a lp:Int} (ha:((o.length:Nat):Int) = a) (h1:o.length + p.1.length ≤ 10000) (h2:0 ≤ lp ∧ lp ≤ a):Z1U n o fold lp = some (o ++ mvL a lp p.1,lp + p.2):=by
 subst ha
 exact h o lp h1 h2
theorem Zrb (o:List Zl) (x:Zl) {k:Int} (h:o.length ≤ 100000) (hk:((o.length:Nat):Int) = k):Z1n x o = some (k,o ++ [x]):=by
 subst hk
 exact Z8J x o h
theorem ZCM {fold:Bool} {l:List Z9} {P:List Cp} (hl:l.length ≤ 3000) (hP:P.length = l.length) (hK:∀ (i:Nat) (x:Z9) (p:Cp),l[i]? = some x → P[i]? = some p → Wr fold x p) :
  ∀ (m i:Nat) (out:List Zl) (lp:Int),i + m = l.length → out.length + (seqC (P.drop i)).1.length ≤ 10000 → 0 ≤ lp ∧ lp ≤ out.length →
   Z5e l (l.length:Int) (i:Int) out fold lp = some (out ++ mvL out.length lp (seqC (P.drop i)).1,lp + (seqC (P.drop i)).2):=by
 intro m
 induction m with
 | zero =>
  intro i out lp h hb hp
  apply ZaD
  unfold Z5c
  rw [if_neg (Z28 (by omega)),Zgg (by omega)]
  simp [seqC,ZbP]
 | succ m ih =>
  intro i out lp h hb hp
  have hil:i < l.length:=by omega
  obtain ⟨k1,k2⟩:=hK i l[i] P[i] (q4_ hil) (q4_ (by omega))
  rw [Zgh (show i < P.length by omega)] at hb ⊢
  simp only [seqC,q3_,Z1o] at hb
  apply ZaD
  unfold Z5c Z6H
  unfold Lk at k1
  rw [if_pos (Z2f (by omega)),Z4b,q4_ hil,q0_,k2 out lp (by omega) hp,q0_,wrap_i64 (n:=(i:Int) + 1) (by omega) (by omega)]
  have e:=ih (i + 1) (out ++ mvL out.length lp P[i].1) (lp + P[i].2) (by omega) (by rw [q3_,Z1o]; omega) (by rw [q3_,Z1o]; omega)
  refine e.trans ?_
  simp only [seqC,q3_,Z1o,Z9Z,Za0,Zaz]
  rw [ZvM (a:=((out.length + P[i].1.length:Nat):Int)) (a':=(P[i].1.length:Int) + out.length) (l:=lp + P[i].2) (l':=(P[i].2:Int) + lp) (by omega) (by omega)]
  congr 2
  omega
def Zf3 (a:Int):List Cp → List Int
 | [] => []
 | d :: r => (a + d.1.length + 1) :: Zf3 (a + (d.1.length + 2)) r
theorem ZpD (P:List Cp):∀ a,(Zf3 a P).length = P.length:=by
 induction P with
 | nil => intro a; rfl
 | cons d r ih => intro a; simp [Zf3,ih]
theorem ZCJ {fold:Bool} {l:List Z9} {P:List Cp} (y:Z9) (hl:l.length + 1 ≤ 3000) (hP:P.length = l.length) (hK:∀ (i:Nat) (x:Z9) (p:Cp),l[i]? = some x → P[i]? = some p → Wr fold x p) :
  ∀ (m i:Nat) (acc:List Int) (out:List Zl) (lp:Int),i + m = l.length → acc.length = i → out.length + (preC 0 (P.drop i)).1.length ≤ 10000 → 0 ≤ lp ∧ lp ≤ out.length →
   ∀ r,Z5y (l ++ [y]) (acc ++ Zf3 out.length (P.drop i)) (l.length:Int) (out ++ mvL out.length lp (preC (-(out.length:Int)) (P.drop i)).1) fold (lp + (preC 0 (P.drop i)).2) = some r →
    Z60 (l ++ [y]) acc (l.length:Int) l (l.length:Int) (i:Int) out fold lp = some r:=by
 intro m
 induction m with
 | zero =>
  intro i acc out lp h ha hb hp r e
  apply Zba
  unfold Z5X
  rw [if_neg (Z28 (by omega))]
  rw [Zgg (by omega)] at e
  simpa [preC,Zf3,ZbP] using e
 | succ m ih =>
  intro i acc out lp h ha hb hp r e
  have hil:i < l.length:=by omega
  obtain ⟨k1,k2⟩:=hK i l[i] P[i] (q4_ hil) (q4_ (by omega))
  rw [Zgh (show i < P.length by omega)] at hb e
  unfold Lk at k1
  have hl2:=(Zgf (P.drop (i + 1)) (0 - (P[i].1.length + 2)) 0)
  simp only [preC,q3_,q5_,Z1o,hl2] at hb
  generalize hd:P[i] = d at *
  have s1:=Z8J (sp 0 0) out (by omega)
  have s2:=Ziy (o:=out ++ [sp 0 0]) k2 (a:=(out.length:Int) + 1) (lp:=lp) (by simp) (by simp only [q3_,q5_,q8_]; omega) (by omega)
  simp only [Zaz,Zta] at s2
  have s3:=Zrb (out ++ sp 0 0 :: mvL ((out.length:Int) + 1) lp d.1) (jp 0) (k:=out.length + d.1.length + 1) (by simp only [q3_,q5_,Z1o]; omega) (by simp only [q3_,q5_,Z1o]; omega)
  simp only [Zaz,ZbD] at s3
  have s4:=ZnF out (sp 0 0) (mvL ((out.length:Int) + 1) lp d.1 ++ [jp 0]) out.length (out.length + 1) ((out.length:Int) + (d.1.length + 2)) false rfl
  have hT:(((out ++ sp 0 0 :: (mvL ((out.length:Int) + 1) lp d.1 ++ [jp 0])).length:Nat):Int) = (out.length:Int) + (d.1.length + 2):=by
   simp only [q3_,q5_,q8_,Z1o]
   omega
  have e2:=ih (i + 1) (acc ++ [(out.length:Int) + d.1.length + 1]) (out ++ sp (out.length + 1) ((out.length:Int) + (d.1.length + 2)) :: (mvL ((out.length:Int) + 1) lp d.1 ++ [jp 0])) (lp + d.2) (by omega) (by simp only [q3_,Zj5]; omega)
   (by simp only [q3_,q5_,q8_,Z1o]; omega) (by simp only [q3_,q5_,q8_,Z1o]; omega) r ?_
  ·apply Zba
   unfold Z5X Z7n
   rw [if_pos (Z2f (by omega)),Z4b,q4_ hil,q0_]
   simp only [sp,jp] at s1 s2 s3 s4 hT
   rw [s1,q0_]
   dsimp only
   rw [s2,q0_]
   dsimp only
   rw [s3,q0_]
   dsimp only
   rw [Zo4 _ _ (by simp only [Zj5]; omega),q0_,wrap_i64 (n:=(i:Int) + 1) (by omega) (by omega),wrap_i64 (n:=(out.length:Int) + 1) (by omega) (by omega),hT,s4,q0_]
   exact e2
  ·refine Eq.trans ?_ e
   have hT':(((out ++ sp (out.length + 1) ((out.length:Int) + (d.1.length + 2)) :: (mvL ((out.length:Int) + 1) lp d.1 ++ [jp 0])).length:Nat):Int) = (out.length:Int) + (d.1.length + 2):=by
    simp only [q3_,q5_,q8_,Z1o]
    omega
   rw [hT']
   simp only [preC,Zf3,Z9Z,ZcF,Za0,Zt6,Zz6,Zaz,ZbD,ZbE]
   rw [show (1:Int) + out.length = (out.length:Int) + 1 by omega,show ((d.1.length:Int) + 2 + out.length) = (out.length:Int) + (d.1.length + 2) by omega,show -(out.length:Int) + out.length = 0 by omega,show (d.2:Int) + lp = lp + d.2 by omega,show (0:Int) + lp = lp by omega,
    show -(out.length:Int) - (d.1.length + 2) = -((out.length:Int) + (d.1.length + 2)) by omega,hl2.2]
   congr 1
   omega
theorem ZDX (E:List Int) (hE:E.length ≤ 3000) (T:Int) (lp':Int):∀ (P:List Cp) (j:Nat) (u w:List Zl) (lp e:Int),j + P.length = E.length → E.drop j = Zf3 u.length P →
  (((u ++ (mvL u.length lp (preC e P).1 ++ w)).length:Nat):Int) = T →
  Z5C E (E.length:Int) (j:Int) (u ++ (mvL u.length lp (preC e P).1 ++ w)) lp' = some (u ++ (mvL u.length lp (preC (T - u.length) P).1 ++ w),lp'):=by
 intro P
 induction P with
 | nil =>
  intro j u w lp e h1 h2 h3
  apply Zb4
  unfold Z5x
  simp only [q8_] at h1
  rw [if_neg (Z28 (by omega))]
  rfl
 | cons d P ih =>
  intro j u w lp e h1 h2 h3
  simp only [q5_] at h1
  have hj:j < E.length:=by omega
  rw [Zgh hj] at h2
  simp only [Zf3,Zj8] at h2
  apply Zb4
  unfold Z5x Z75
  rw [if_pos (Z2f (by omega)),Z4b,q4_ hj,q0_,h2.1,h3]
  have eo:∀ e,u ++ (mvL u.length lp (preC e (d :: P)).1 ++ w) = (u ++ (sp (u.length + 1) (u.length + (d.1.length + 2)) :: mvL (u.length + 1) lp d.1)) ++ jp (e + u.length) :: (mvL (u.length + (d.1.length + 2)) (lp + d.2) (preC (e - (d.1.length + 2)) P).1 ++ w):=by
   intro e
   simp only [preC,Z9Z,ZcF,Za0,Zt6,Zz6,Zaz,ZbD]
   rw [show (1:Int) + u.length = (u.length:Int) + 1 by omega,show ((d.1.length:Int) + 2 + u.length) = (u.length:Int) + (d.1.length + 2) by omega,show (d.2:Int) + lp = lp + d.2 by omega,show (0:Int) + lp = lp by omega]
  have hu:(u.length:Int) + d.1.length + 1 = (((u ++ (sp (u.length + 1) (u.length + (d.1.length + 2)) :: mvL (u.length + 1) lp d.1)).length:Nat):Int):=by
   simp only [q3_,q5_,Z1o]
   omega
  rw [eo e,ZlL _ _ _ hu,q0_,q0_,ZlO _ _ _ _ hu,wrap_i64 (n:=(j:Int) + 1) (by omega) (by omega)]
  have e2:=ih (j + 1) (u ++ (sp (u.length + 1) (u.length + (d.1.length + 2)) :: (mvL (u.length + 1) lp d.1 ++ [jp T]))) w (lp + d.2) (e - (d.1.length + 2)) (by omega)
   (by rw [h2.2]; congr 1; simp only [q3_,q5_,q8_,Z1o]; omega)
   (by rw [← h3,eo e]; simp only [q3_,q5_,q8_,Z1o]; omega)
  have hu2:(((u ++ (sp (u.length + 1) (u.length + (d.1.length + 2)) :: (mvL (u.length + 1) lp d.1 ++ [jp T]))).length:Nat):Int) = u.length + (d.1.length + 2):=by
   simp only [q3_,q5_,q8_,Z1o]
   omega
  rw [hu2] at e2
  rw [eo (T - u.length)]
  simp only [Zaz,ZbD,ZbE] at e2 ⊢
  rw [show T - (u.length:Int) + u.length = T by omega,show T - (u.length:Int) - (d.1.length + 2) = T - (u.length + (d.1.length + 2)) by omega]
  exact e2
theorem ZDY {fold:Bool} {l:List Z9} {P:List Cp} {y:Z9} {q:Cp} (hl:l.length + 1 ≤ 3000) (hP:P.length = l.length) (hK:∀ (i:Nat) (x:Z9) (p:Cp),l[i]? = some x → P[i]? = some p → Wr fold x p) (hy:Wr fold y q)
  (out:List Zl) (lp:Int) (hb:out.length + (altC P q).1.length ≤ 10000) (hp:0 ≤ lp ∧ lp ≤ out.length) :
  Z71 (l ++ [y]) out fold lp = some (out ++ mvL out.length lp (altC P q).1,lp + (altC P q).2):=by
 have hlk:Lk (preC 0 P):=Zsa 0 (Zap (R:=fun _ _ => True) hP fun i x p h1 h2 => (hK i x p h1 h2).1)
 unfold Lk at hlk
 have n1:=(Zgf P ((preC 0 P).1.length + q.1.length) 0).1
 have n2:=(Zgf P (-(out.length:Int)) 0).1
 simp only [altC,q3_,Z1o,n1] at hb
 apply ZiX
 unfold Z8D
 have es:lsl (l ++ [y]) 0 (IntKind.i64.wrap (((l ++ [y]).length:Int) - 1)) = some l:=by
  rw [q3_,Zj5,wrap_i64 (by omega) (by omega)]
  unfold lsl
  rw [if_pos (by simp only [q3_,Zj5]; omega),show (((l.length + 1:Nat):Int) - 1).toNat = l.length by omega]
  simp
 rw [es,q0_,q3_,Zj5,wrap_i64 (by omega) (by omega),show ((l.length + 1:Nat):Int) - 1 = l.length by omega]
 have h0:(0:Int) = ((0:Nat):Int):=rfl
 rw [h0]
 refine ZCJ y hl hP hK l.length 0 [] out lp (by omega) rfl (by rw [Zpl]; omega) hp _ ?_
 rw [Zpl,ZbE]
 unfold Z5y
 have hL:(((out ++ mvL out.length lp (preC (-(out.length:Int)) P).1).length:Nat):Int) = out.length + (preC 0 P).1.length:=by
  rw [q3_,Z1o,n2]; omega
 have hL':(out ++ mvL out.length lp (preC (-(out.length:Int)) P).1).length = out.length + (preC 0 P).1.length:=by omega
 rw [Z4b,ZbU (by omega),show l.length - l.length = 0 by omega]
 rw [show [y][0]? = some y from rfl,q0_,Ziy hy.2 hL (by omega) (by omega),q0_]
 dsimp only
 have hT:(((out ++ (mvL out.length lp (preC (-(out.length:Int)) P).1 ++ mvL (out.length + (preC 0 P).1.length) (lp + (preC 0 P).2) q.1)).length:Nat):Int) = out.length + ((preC 0 P).1.length + q.1.length):=by
  simp only [q3_,Z1o,n2]
  omega
 have e:=ZDX (Zf3 out.length P) (by rw [ZpD]; omega) _ (lp + ((preC 0 P).2:Int) + q.2) P 0 out (mvL (out.length + (preC 0 P).1.length) (lp + (preC 0 P).2) q.1) lp (-(out.length:Int)) (by rw [ZpD]; omega) rfl hT
 rw [Zaz]
 refine e.trans ?_
 rw [show (out.length:Int) + ((preC 0 P).1.length + q.1.length) - out.length = (preC 0 P).1.length + q.1.length by omega]
 simp only [altC,Z9Z,Za0]
 rw [show ((preC 0 P).1.length:Int) + out.length = out.length + (preC 0 P).1.length by omega,show ((preC 0 P).2:Int) + lp = lp + (preC 0 P).2 by omega]
 congr 2
 omega
end Go.Proofs.YtocikhhkicahoaaDoor.N2
end
section
namespace Go.Proofs.YtocikhhkicahoaaDoor.N2
open Go Go.Abs Go.Proofs.Unis Go.Proofs.Norm
set_option maxRecDepth 100000
def Zfu (a k:Int):Nat → List Int
 | 0 => []
 | m + 1 => a :: Zfu (a + (k + 1)) k m
theorem Zrm (k:Int):∀ (m:Nat) (a:Int),(Zfu a k m).length = m:=by
 intro m
 induction m with
 | zero => intro a; rfl
 | succ m ih => intro a; simp [Zfu,ih]
section
variable {fold:Bool} {n x:Z9} {p:Cp} (hn:n.Kids = [x]) (hx:Wr fold x p)
include hn
include hx in
theorem ZCP (z:Bool) (cnt:Nat) (hc:cnt ≤ 64):∀ (m i:Nat) (acc:List Int) (out:List Zl) (lp:Int),i + m = cnt → acc.length = i → out.length + (optH p 0 m).1.length ≤ 10000 → 0 ≤ lp ∧ lp ≤ out.length →
  ∀ r,Z4F z (acc ++ Zfu out.length p.1.length m) (out ++ mvL out.length lp (optH p (-(out.length:Int)) m).1) (lp + (optH p 0 m).2) = some r →
   Z4L z acc (cnt:Int) (i:Int) out fold lp n = some r:=by
 intro m
 induction m with
 | zero =>
  intro i acc out lp h ha hb hp r e
  apply Z9R
  unfold Z4D
  rw [if_neg (Z28 (by omega))]
  simpa [optH,Zfu,ZbP] using e
 | succ m ih =>
  intro i acc out lp h ha hb hp r e
  obtain ⟨k1,k2⟩:=hx
  unfold Lk at k1
  have hl2:∀ e,(optH p e m).1.length = (optH p 0 m).1.length ∧ (optH p e m).2 = (optH p 0 m).2:=fun e => by
   have a:=Zer false p m 0 e
   have b:=Zer false p m 0 0
   exact ⟨by omega,by omega⟩
  simp only [optH,q3_,q5_,Z1o,hl2 (0 - (p.1.length + 1))] at hb
  have s1:=Z8J (sp 0 0) out (by omega)
  have s2:=Ziy (o:=out ++ [sp 0 0]) k2 (a:=(out.length:Int) + 1) (lp:=lp) (by simp) (by simp only [q3_,q5_,q8_]; omega) (by omega)
  simp only [Zaz,Zta] at s2
  have hT:(((out ++ sp 0 0 :: mvL ((out.length:Int) + 1) lp p.1).length:Nat):Int) = (out.length:Int) + (p.1.length + 1):=by
   simp only [q3_,q5_,Z1o]
   omega
  have e2:=ih (i + 1) (acc ++ [(out.length:Int)]) (out ++ sp 0 0 :: mvL ((out.length:Int) + 1) lp p.1) (lp + p.2) (by omega) (by simp only [q3_,Zj5]; omega)
   (by simp only [q3_,q5_,Z1o]; omega) (by omega) r ?_
  ·apply Z9R
   unfold Z4D Z6c
   rw [if_pos (Z2f (by omega)),hn]
   simp only [sp] at s1 s2
   rw [s1,q0_]
   dsimp only
   rw [Zo4 _ _ (by simp only [Zj5]; omega),q0_,show lget [x] 0 = some x from rfl,q0_,s2,q0_,wrap_i64 (n:=(i:Int) + 1) (by omega) (by omega)]
   exact e2
  ·refine Eq.trans ?_ e
   rw [hT]
   simp only [optH,Zfu,Z9Z,ZcF,Za0,Zt6,Zaz,ZbD,ZbE]
   rw [show (1:Int) + out.length = (out.length:Int) + 1 by omega,show ((p.1.length:Int) + 1 + out.length) = (out.length:Int) + (p.1.length + 1) by omega,show -(out.length:Int) + out.length = 0 by omega,show (p.2:Int) + lp = lp + p.2 by omega,show (0:Int) + lp = lp by omega,
    show -(out.length:Int) - (p.1.length + 1) = -((out.length:Int) + (p.1.length + 1)) by omega]
   have:=(hl2 (0 - (p.1.length + 1))).2
   have:=(hl2 (-((out.length:Int) + (p.1.length + 1)))).2
   congr 1
   omega
omit hn in
theorem ZDZ (z:Bool) (E:List Int) (hE:E.length ≤ 3000) (T:Int) (lp':Int) (hb:T ≤ 100000):∀ (m:Nat) (j:Nat) (u:List Zl) (lp e:Int),j + m = E.length → E.drop j = Zfu u.length p.1.length m →
  (((u ++ mvL u.length lp (optH p e m).1).length:Nat):Int) = T →
  Z4M z E (E.length:Int) (j:Int) (u ++ mvL u.length lp (optH p e m).1) lp' = some (u ++ mvL u.length lp (optC z p (T - u.length) m).1,lp'):=by
 intro m
 induction m with
 | zero =>
  intro j u lp e h1 h2 h3
  apply Z9T
  unfold Z4E
  rw [if_neg (Z28 (by omega))]
  rfl
 | succ m ih =>
  intro j u lp e h1 h2 h3
  have hj:j < E.length:=by omega
  rw [Zgh hj] at h2
  simp only [Zfu,Zj8] at h2
  have hu:u.length ≤ T:=by rw [← h3,q3_]; omega
  apply Z9T
  unfold Z4E Z6d
  rw [if_pos (Z2f (by omega)),Z4b,q4_ hj,q0_,h2.1,h3]
  have eo:u ++ mvL u.length lp (optH p e (m + 1)).1 = u ++ sp (e + u.length) (e + u.length) :: (mvL (u.length + 1) lp p.1 ++ mvL (u.length + (p.1.length + 1)) (lp + p.2) (optH p (e - (p.1.length + 1)) m).1):=by
   simp only [optH,Z9Z,ZcF,Za0,Zt6]
   rw [show (1:Int) + u.length = (u.length:Int) + 1 by omega,show ((p.1.length:Int) + 1 + u.length) = (u.length:Int) + (p.1.length + 1) by omega,show (p.2:Int) + lp = lp + p.2 by omega,show (0:Int) + lp = lp by omega]
  have ec:u ++ mvL u.length lp (optC z p (T - u.length) (m + 1)).1 = u ++ spz z (u.length + 1) T :: (mvL (u.length + 1) lp p.1 ++ mvL (u.length + (p.1.length + 1)) (lp + p.2) (optC z p (T - (u.length + (p.1.length + 1))) m).1):=by
   simp only [optC,Z9Z,ZcF,Za0,ZC7]
   rw [show (1:Int) + u.length = (u.length:Int) + 1 by omega,show ((p.1.length:Int) + 1 + u.length) = (u.length:Int) + (p.1.length + 1) by omega,show (p.2:Int) + lp = lp + p.2 by omega,show (0:Int) + lp = lp by omega,show T - (u.length:Int) + u.length = T by omega,show T - (u.length:Int) - (p.1.length + 1) = T - (u.length + (p.1.length + 1)) by omega]
  rw [wrap_i64 (n:=(u.length:Int) + 1) (by omega) (by omega),wrap_i64 (n:=(j:Int) + 1) (by omega) (by omega)]
  have s:=ZnF u (sp (e + u.length) (e + u.length)) (mvL (u.length + 1) lp p.1 ++ mvL (u.length + (p.1.length + 1)) (lp + p.2) (optH p (e - (p.1.length + 1)) m).1) u.length (u.length + 1) T z rfl
  rw [eo,s,q0_,ec]
  have hu2:(((u ++ (spz z (u.length + 1) T :: mvL (u.length + 1) lp p.1)).length:Nat):Int) = u.length + (p.1.length + 1):=by
   simp only [q3_,q5_,Z1o]
   omega
  have e2:=ih (j + 1) (u ++ (spz z (u.length + 1) T :: mvL (u.length + 1) lp p.1)) (lp + p.2) (e - (p.1.length + 1)) (by omega)
   (by rw [h2.2,hu2])
   (by rw [← h3,eo]; simp only [q3_,q5_,Z1o] <;> omega)
  rw [hu2] at e2
  simp only [Zaz,ZbD] at e2
  have hz:(⟨(sp (e + u.length) (e + u.length)).Op,if z = true then T else (u.length:Int) + 1,if z = true then (u.length:Int) + 1 else T,(sp (e + u.length) (e + u.length)).C,(sp (e + u.length) (e + u.length)).D,(sp (e + u.length) (e + u.length)).Set⟩:Zl) = spz z (u.length + 1) T:=by cases z <;> rfl
  rw [hz]
  exact e2
omit hn in
include hx in
theorem ZCO (z:Bool) (out:List Zl) (lp:Int) (hb:out.length + (Z77 z p).1.length ≤ 10000) (hp:0 ≤ lp ∧ lp ≤ out.length) :
  Z8h x z out fold lp = some (out ++ mvL out.length lp (Z77 z p).1,lp + (Z77 z p).2):=by
 obtain ⟨k1,k2⟩:=hx
 unfold Lk at k1
 simp only [Z77,q3_,q5_,Z1o,q8_] at hb
 have s1:=Z8J (sp 0 0) out (by omega)
 have s2:=Zrb (out ++ [sp 0 0]) (mk lp) (k:=(out.length:Int) + 1) (by simp <;> omega) (by simp)
 have s3:=Ziy (o:=out ++ [sp 0 0] ++ [mk lp]) k2 (a:=(out.length:Int) + 2) (lp:=lp + 1) (by simp <;> omega) (by simp <;> omega) (by omega)
 have s4:=Zrb (out ++ [sp 0 0] ++ [mk lp] ++ mvL (out.length + 2) (lp + 1) p.1) (gd lp) (k:=(out.length:Int) + (p.1.length + 2)) (by simp [Z1o] <;> omega) (by simp [Z1o] <;> omega)
 have s5:=Zrb (out ++ [sp 0 0] ++ [mk lp] ++ mvL (out.length + 2) (lp + 1) p.1 ++ [gd lp]) (jp out.length) (k:=(out.length:Int) + (p.1.length + 3)) (by simp [Z1o] <;> omega) (by simp [Z1o] <;> omega)
 have hT:(((out ++ sp 0 0 :: mk lp :: (mvL (out.length + 2) (lp + 1) p.1 ++ [gd lp,jp out.length])).length:Nat):Int) = (out.length:Int) + (p.1.length + 4):=by
  simp only [q3_,q5_,q8_,Z1o]; omega
 have s6:=ZnF out (sp 0 0) (mk lp :: (mvL (out.length + 2) (lp + 1) p.1 ++ [gd lp,jp out.length])) out.length (out.length + 1) (out.length + (p.1.length + 4)) z rfl
 simp only [Zaz,Zta,ZbD,ZbE] at s2 s3 s4 s5
 apply Zi9
 unfold Z8f
 rw [show (Zl.mk 3 0 0 0 0 []) = sp 0 0 from rfl,show (Zl.mk 10 lp 0 0 0 []) = mk lp from rfl,show (Zl.mk 11 lp 0 0 0 []) = gd lp from rfl,s1,q0_]
 dsimp only
 rw [s2,q0_]
 dsimp only
 rw [wrap_i64 (n:=lp + 1) (by omega) (by omega),s3,q0_]
 dsimp only
 rw [s4,q0_]
 dsimp only
 rw [show (Zl.mk 2 (out.length:Int) 0 0 0 []) = jp out.length from rfl,s5,q0_]
 dsimp only
 rw [hT,wrap_i64 (by omega) (by omega),s6,q0_]
 simp only [Z77,Z9Z,ZcF,Za0,ZC7,ZIA,ZIz,Zz6,ZbP]
 rw [show (2:Int) + out.length = (out.length:Int) + 2 by omega,show (1:Int) + out.length = (out.length:Int) + 1 by omega,show ((p.1.length:Int) + 4 + out.length) = (out.length:Int) + (p.1.length + 4) by omega,show (1:Int) + lp = lp + 1 by omega,show (0:Int) + lp = lp by omega,show (0:Int) + (out.length:Int) = out.length by omega]
 have hz:(⟨(sp 0 0).Op,if z = true then (out.length:Int) + (p.1.length + 4) else (out.length:Int) + 1,if z = true then (out.length:Int) + 1 else (out.length:Int) + (p.1.length + 4),(sp 0 0).C,(sp 0 0).D,(sp 0 0).Set⟩:Zl) = spz z (out.length + 1) (out.length + (p.1.length + 4)):=by cases z <;> rfl
 rw [hz]
 congr 2
 omega
include hx in
theorem ZCR (z:Bool) (lo hi:Int) (h1:0 ≤ lo ∧ lo ≤ 64) (h2:hi = -1 ∨ (lo ≤ hi ∧ hi ≤ 64)) (hlo:n.Lo = lo) (hhi:n.Hi = hi) (out:List Zl) (lp:Int)
  (hb:out.length + (if hi < 0 then Z77 z p else optC z p ((optC z p 0 (hi - lo).toNat).1.length) (hi - lo).toNat).1.length ≤ 10000) (hp:0 ≤ lp ∧ lp ≤ out.length) :
  Z3B z out fold lp n = some (out ++ mvL out.length lp (if hi < 0 then Z77 z p else optC z p ((optC z p 0 (hi - lo).toNat).1.length) (hi - lo).toNat).1,lp + (if hi < 0 then Z77 z p else optC z p ((optC z p 0 (hi - lo).toNat).1.length) (hi - lo).toNat).2):=by
 unfold Z3B Z6b
 by_cases hh:hi < 0
 ·rw [if_pos (Z2f (by omega)),hn,show lget [x] 0 = some x from rfl,q0_]
  simp only [hh,if_true] at hb ⊢
  rw [ZCO hx z out lp hb hp,q0_]
 ·rw [if_neg (Z28 (by omega))]
  simp only [hh,if_false] at hb ⊢
  rw [hlo,hhi,wrap_i64 (by omega) (by omega)]
  have hm:hi - lo = (((hi - lo).toNat:Nat):Int):=by omega
  rw [hm,Int.toNat_natCast]
  have hm64:(hi - lo).toNat ≤ 64:=by omega
  generalize (hi - lo).toNat = m at *
  have q0:=Zer z p m ((optC z p 0 m).1.length) 0
  have q1:=Zer z p m 0 0
  have q2:=Zer z p m 0 (-(out.length:Int))
  have h0:(0:Int) = ((0:Nat):Int):=rfl
  conv => lhs; rw [h0]
  refine ZCP hn hx z m hm64 m 0 [] out lp (by omega) rfl (by omega) hp _ ?_
  unfold Z4F
  rw [ZbE]
  have e:=ZDZ (p:=p) z (Zfu out.length p.1.length m) (by rw [Zrm]; omega) ((out.length:Int) + (optC z p 0 m).1.length) (lp + (optH p 0 m).2) (by omega) m 0 out lp (-(out.length:Int)) (by rw [Zrm]; omega) rfl (by rw [q3_,Z1o]; omega)
  refine e.trans ?_
  rw [show (out.length:Int) + (optC z p 0 m).1.length - out.length = (optC z p 0 m).1.length by omega]
  congr 2
  omega
include hx in
theorem ZCQ (z:Bool) (lo hi:Int) (h1:0 ≤ lo ∧ lo ≤ 64):∀ (m i:Nat) (out:List Zl) (lp:Int),(i:Int) + m = lo → out.length + (seqC (List.replicate m p)).1.length ≤ 10000 → 0 ≤ lp ∧ lp ≤ out.length →
  ∀ r,Z3B z (out ++ mvL out.length lp (seqC (List.replicate m p)).1) fold (lp + (seqC (List.replicate m p)).2) n = some r → Z4V z lo (i:Int) out fold lp n = some r:=by
 obtain ⟨k1,k2⟩:=hx
 unfold Lk at k1
 intro m
 induction m with
 | zero =>
  intro i out lp h hb hp r e
  apply Zak
  unfold Z4T
  rw [if_neg (Z28 (by omega))]
  simpa [seqC,ZbP] using e
 | succ m ih =>
  intro i out lp h hb hp r e
  rw [List.replicate_succ] at hb e
  simp only [seqC,q3_,Z1o] at hb
  apply Zak
  unfold Z4T Z6w Z6x
  rw [if_pos (Z2f (by omega)),hn,show lget [x] 0 = some x from rfl,q0_,k2 out lp (by omega) hp,q0_]
  dsimp only
  by_cases h0:p.1.length = 0
  ·have e0:p.1 = []:=Zfo h0
   have e1:p = ([],0):=Z3F e0 (by show p.2 = 0; omega)
   have e2:∀ m,seqC (List.replicate m (([],0):Cp)) = ([],0):=by
    intro m
    induction m with
    | zero => rfl
    | succ m ih => rw [List.replicate_succ,seqC,ih]; rfl
   rw [if_pos (Z1Q (by rw [q3_,Z1o,h0]; omega))]
   rw [e1] at e ⊢
   rw [seqC,e2] at e
   exact e
  ·rw [if_neg (Z1X (by rw [q3_,Z1o]; omega)),wrap_i64 (n:=(i:Int) + 1) (by omega) (by omega)]
   refine ih (i + 1) _ _ (by omega) (by rw [q3_,Z1o]; omega) (by rw [q3_,Z1o]; omega) r ?_
   refine Eq.trans ?_ e
   simp only [seqC,q3_,Z1o,Z9Z,Za0,Zaz]
   rw [ZvM (a:=((out.length + p.1.length:Nat):Int)) (a':=(p.1.length:Int) + out.length) (l:=lp + p.2) (l':=(p.2:Int) + lp) (by omega) (by omega)]
   congr 1
   omega
include hx in
theorem Zwx (lo hi:Int) (h1:0 ≤ lo ∧ lo ≤ 64) (h2:hi = -1 ∨ (lo ≤ hi ∧ hi ≤ 64)) (hlo:n.Lo = lo) (hhi:n.Hi = hi) (out:List Zl) (lp:Int) (hb:out.length + (repC lo hi (n.Mode == 1) p).1.length ≤ 10000) (hp:0 ≤ lp ∧ lp ≤ out.length) :
  Z4K n out fold lp = some (out ++ mvL out.length lp (repC lo hi (n.Mode == 1) p).1,lp + (repC lo hi (n.Mode == 1) p).2):=by
 have hk:Lk (seqC (List.replicate lo.toNat p)):=ZiB fun q hq => by rw [Zw1 hq]; exact hx.1
 unfold Lk at hk
 apply Zh4
 unfold Z7r
 unfold repC at hb ⊢
 rw [Zlb] at hb ⊢
 simp only [q3_,Z1o] at hb
 rw [hlo]
 have h0:(0:Int) = ((0:Nat):Int):=rfl
 conv => lhs; rw [h0]
 refine ZCQ hn hx _ lo hi h1 lo.toNat 0 out lp (by omega) (by omega) hp _ ?_
 have e:=ZCR hn hx (n.Mode == 1) lo hi h1 h2 hlo hhi (out ++ mvL out.length lp (seqC (List.replicate lo.toNat p)).1) (lp + (seqC (List.replicate lo.toNat p)).2) (by rw [q3_,Z1o]; omega) (by rw [q3_,Z1o]; omega)
 refine e.trans ?_
 simp only [q3_,Z1o,Z9Z,Za0,Zaz]
 rw [ZvM (a:=((out.length + (seqC (List.replicate lo.toNat p)).1.length:Nat):Int)) (a':=((seqC (List.replicate lo.toNat p)).1.length:Int) + out.length) (l:=lp + (seqC (List.replicate lo.toNat p)).2) (l':=((seqC (List.replicate lo.toNat p)).2:Int) + lp) (by omega) (by omega)]
 congr 2
 omega
end
end Go.Proofs.YtocikhhkicahoaaDoor.N2
end
section
namespace Go.Proofs.Norm
theorem Zzt:∀ {l:List R2} {a:Int},AscF a l → ∀ r ∈ l,a + 2 ≤ r.1
 | [],_,_,r,hr => by simp at hr
 | x :: t,a,h,r,hr => by
  rcases Z5G.1 hr with rfl | hr
  ·exact h.2.1
  ·have:=Zzt h.2.2 r hr
   have:=h.1
   have:=h.2.1
   omega
theorem Zpx:∀ {l:List R2} {a:Int},AscF a l → l.Pairwise (fun a b => a.1 ≤ b.1)
 | [],_,_ => .nil
 | x :: t,a,h => by
  refine .cons (fun r hr => ?_) (Zpx h.2.2)
  have:=Zzt h.2.2 r hr
  have:=h.1
  omega
theorem Zth:∀ (l acc:List R2) (a:Int),AscF a l → (∀ o os,acc = o :: os → o.2 = a) → l.foldl Z2O acc = l.reverse ++ acc
 | [],_,_,_,_ => rfl
 | r :: t,acc,a,h,ha => by
  have h1:Z2O acc r = r :: acc:=by
   cases acc with
   | nil => rfl
   | cons o os =>
    have:=ha o os rfl
    have:=h.2.1
    unfold Z2O
    simp only
    rw [if_neg (by omega)]
  rw [ZdD,h1,Zth t (r :: acc) r.2 h.2.2 (by rintro o os ⟨⟩; rfl)]
  simp
theorem Zz7 {l:List R2} (h:Z2Y l):Z5E l = l:=by
 have h1:=Zbz.1 h
 rw [← Zl3 (List.Perm.refl l) (Zpx h1) (fun y hy => (h1.right y hy).2.1),Zth l [] (-2) h1 (by simp)]
 simp
end Go.Proofs.Norm
namespace Go.Proofs.YtocikhhkicahoaaDoor.N2
open Go Go.Abs Go.Proofs.Unis Go.Proofs.Norm
set_option maxRecDepth 100000
theorem ZzE (rs:List R2) (hl:rs.length ≤ 1048576):Zbu (rs.map ofR) = some (apo .ex (rs.map encR),rs.map ofR):=by
 refine Z1l (fun _ _ ha hb => RRun.uniq ZfE (ha .sh) (hb .sh)) fun o => ?_
 have e:EE 23 [(.p (.lst o ((rs.map ofR).map Zz)))] [] = some ((.p (.lst (apo .ex (rs.map encR)) ((rs.map ofR).map Zz))),[]):=by
  rw [show EE 23 = E PP XX HH 23 from rfl,ZsS (P:=PP) (X:=XX) (H:=HH) (f:=23) (m:=Zlf) (by kernel_rfl),Zl1]
  unfold Zlf
  simp only [ZgA]
  rw [if_pos (by simpa using hl)]
 exact ⟨_,e,[],by simp⟩
theorem ZHL (xs:List PV):okA (apo .ex xs) = some ():=by cases xs <;> rfl
def twL (l:List R2):Nat → List R2
 | 0 => []
 | m + 1 => (if l.any (fun r => decide (r.1 ≤ 90 - (m:Int)) && decide (90 - (m:Int) ≤ r.2)) = true ∨ l.any (fun r => decide (r.1 ≤ 122 - (m:Int)) && decide (122 - (m:Int) ≤ r.2)) = true then [(90 - (m:Int),90 - (m:Int)),(122 - (m:Int),122 - (m:Int))] else []) ++ twL l m
def Zgu (l:List R2):List R2:=Z5E (l ++ twL l 26)
theorem ZCE (l:List R2):∀ m:Nat,m ≤ 26 → (twL l m).length ≤ 2 * m ∧ ∀ r ∈ twL l m,0 ≤ r.1 ∧ r.1 ≤ r.2 ∧ r.2 ≤ 1114367:=by
 intro m
 induction m with
 | zero => intro _; exact ⟨by simp [twL],by simp [twL]⟩
 | succ m ih =>
  intro h
  obtain ⟨h1,h2⟩:=ih (by omega)
  unfold twL
  split
  ·refine ⟨by simp only [q3_,q5_,q8_]; omega,fun r hr => ?_⟩
   rcases Zb8.1 hr with hr | hr
   ·simp only [Z5G,Zpm,or_false] at hr
    rcases hr with rfl | rfl
    ·simp only []; omega
    ·simp only []; omega
   ·exact h2 r hr
  ·exact ⟨by simp only [ZbE]; omega,by simpa using h2⟩
theorem ZIw {l:List R2} (h:Z2Y l):∀ r ∈ l ++ twL l 26,0 ≤ r.1 ∧ r.1 ≤ r.2 ∧ r.2 ≤ 1114367:=by
 intro r hr
 rcases Zb8.1 hr with hr | hr
 ·exact Z8r h r hr
 ·exact (ZCE l 26 (Z2x _)).2 r hr
theorem ZvB {l:List R2} (h:Z2Y l):Z2Y (Zgu l):=(Zfl (ZIw h)).1
theorem anyR (l:List R2) (u:Int):(l.map ofR).any (fun r => decide (r.Lo ≤ u) && decide (u ≤ r.Hi)) = l.any (fun r => decide (r.1 ≤ u) && decide (u ≤ r.2)):=by
 rw [List.any_map]
 rfl
theorem ZBY {l:List R2} (h:Z2Y l):∀ (m:Nat) (acc:List R2),m ≤ 26 → acc.length + 2 * m ≤ 1000000 → (∀ r ∈ acc,0 ≤ r.1 ∧ r.1 ≤ r.2 ∧ r.2 ≤ 1114367) →
  Z7U (l.map ofR) (acc.map ofR) (91 - (m:Int)) = some ((Z5E (acc ++ twL l m)).map ofR,0):=by
 have hl:=Zdh h
 intro m
 induction m with
 | zero =>
  intro acc _ hb hr
  apply ZdJ
  unfold Z7Q Z9G
  rw [if_neg (Z28 (by omega)),Zii acc (by omega) hr]
  simp [twL]
 | succ m ih =>
  intro acc hm hb hr
  apply ZdJ
  unfold Z7Q Z9F
  have w:IntKind.i64.wrap (91 - ((m + 1:Nat):Int)) = 90 - (m:Int):=by rw [wrap_i64 (by omega) (by omega)]; omega
  have w2:IntKind.i64.wrap (IntKind.i32.wrap (91 - ((m + 1:Nat):Int) + 32)) = 122 - (m:Int):=by rw [wrap_i32 (by omega) (by omega),wrap_i64 (by omega) (by omega)]; omega
  have w3:IntKind.i32.wrap (91 - ((m + 1:Nat):Int) + 1) = 91 - (m:Int):=by rw [wrap_i32 (by omega) (by omega)]; omega
  rw [if_pos (Z2f (by omega)),Zs6 _ _ (by rw [ZbC]; omega),q0_,Zs6 _ _ (by rw [ZbC]; omega),q0_,anyR,anyR,w,w2]
  have go:Z6C (l.map ofR) (acc.map ofR) (91 - ((m + 1:Nat):Int)) = some ((Z5E ((acc ++ [(90 - (m:Int),90 - (m:Int)),(122 - (m:Int),122 - (m:Int))]) ++ twL l m)).map ofR,0):=by
   unfold Z6C Z5t
   rw [w,w2,w3,Zo4 _ _ (by simp only [ZbC,q5_,q8_]; omega),q0_]
   have:=ih (acc ++ [(90 - (m:Int),90 - (m:Int)),(122 - (m:Int),122 - (m:Int))]) (by omega) (by simp only [q3_,q5_,q8_]; omega) (by
    intro r h
    rcases Zb8.1 h with h | h
    ·exact hr r h
    ·simp only [Z5G,Zpm,or_false] at h
     rcases h with rfl | rfl
     ·simp only []; omega
     ·simp only []; omega)
   rw [ZhA] at this
   exact this
  have no:Z5t (l.map ofR) (acc.map ofR) (91 - ((m + 1:Nat):Int)) = some ((Z5E (acc ++ twL l m)).map ofR,0):=by
   unfold Z5t
   rw [w3]
   exact ih acc (by omega) (by omega) hr
  by_cases c1:l.any (fun r => decide (r.1 ≤ 90 - (m:Int)) && decide (90 - (m:Int) ≤ r.2)) = true
  ·rw [if_pos c1,go,twL,if_pos (.inl c1),Zaz]
  by_cases c2:l.any (fun r => decide (r.1 ≤ 122 - (m:Int)) && decide (122 - (m:Int) ≤ r.2)) = true
  ·rw [if_neg c1,if_pos c2,go,twL,if_pos (.inr c2),Zaz]
  ·rw [if_neg c1,if_neg c2,no,twL,if_neg (fun h => h.elim c1 c2),ZbE]
theorem ZDe {l:List R2} (h:Z2Y l):Z9r (l.map ofR) = some ((Zgu l).map ofR,0):=by
 have hl:=Zdh h
 apply Zmf
 unfold Zbj Z9E
 rw [Zb7 h,q0_,if_neg (by simp),ZzE l (by omega),q0_]
 dsimp only
 rw [ZHL,q0_]
 exact ZBY h 26 l (Z2x _) (by omega) (Z8r h)
theorem ZHR {l:List R2} (h:Z2Y l):Z9g (l.map ofR) [] = some (l.map ofR,0):=by
 have hl:=Zdh h
 have n0:Z2Y []:=trivial
 apply ZhH
 unfold ZaS
 rw [Zb7 h,q0_,if_neg (by simp),show ([]:List Z8) = ([]:List R2).map ofR from rfl,Zb7 n0,q0_,if_neg (by simp)]
 unfold Z8P
 rw [ZpC l [] (by simp only [q8_]; omega),q0_,Zkb,Zii l (by omega) (Z8r h),q0_,Zz7 h]
theorem ZHV (fold:Bool) {l:List R2} (h:Z2Y l):Wr fold (setN l) ([⟨1,0,0,0,0,(if fold = true then Zgu l else l).map ofR⟩],0):=by
 refine ⟨ZhD _,fun out lp hb hp => ?_⟩
 have go:∀ s:List R2,Z2Y s → Z3s (s.map ofR) out lp = some (out ++ [⟨1,0,0,0,0,s.map ofR⟩],lp):=by
  intro s hs
  unfold Z3s
  rw [ZHR hs,q0_,Z8J _ _ (by simp at hb; omega),q0_]
 apply Zc7
 cases fold with
 | true =>
  show ((Z9r (l.map ofR)).bind fun r1 => Z3s r1.1 out lp) = _
  rw [ZDe h,q0_,go _ (ZvB h)]
  simp [mvL,mv]
 | false =>
  show Z3s (l.map ofR) out lp = _
  rw [go _ h]
  simp [mvL,mv]
theorem ZnH {g:List Zl → Int → Option (List Zl × Int)} {p:Cp} (hk:Lk p) (hg:∀ (out:List Zl) (lp:Int),out.length + p.1.length ≤ 10000 → 0 ≤ lp ∧ lp ≤ out.length → g out lp = some (out ++ mvL out.length lp p.1,lp + p.2))
  (op a c e:Int) (h7:op = 7 ∨ op = 8) (out:List Zl) (lp:Int) (hb:out.length + (Z3X op a c e p).1.length ≤ 10000) (hp:0 ≤ lp ∧ lp ≤ out.length) :
  ((Z1n ⟨op,a,0,c,e,[]⟩ out).bind fun r1 =>
    (g r1.2 lp).bind fun r2 =>
    (Z1n ((Zl.mk 9 0 0 0 0 ([]:List Z8))) r2.1).bind fun r3 =>
    (lget r3.2 r1.1).bind fun a4 =>
    (lget r3.2 r1.1).bind fun a5 =>
    some ((lset r3.2 r1.1 (Zl.mk a5.Op a5.A (r3.2.length:Int) a5.C a5.D a5.Set)),r2.2)) = some (out ++ mvL out.length lp (Z3X op a c e p).1,lp + (Z3X op a c e p).2):=by
 unfold Lk at hk
 simp only [Z3X,q3_,q5_,Z1o,q8_] at hb
 have s2:=hg (out ++ [⟨op,a,0,c,e,[]⟩]) lp (by simp only [q3_,q5_,q8_]; omega) (by simp only [q3_,q5_,q8_]; omega)
 rw [show (((out ++ [(⟨op,a,0,c,e,[]⟩:Zl)]).length:Nat):Int) = out.length + 1 by simp] at s2
 simp only [Zaz,Zta] at s2
 have s3:=Z8J dn (out ++ ⟨op,a,0,c,e,[]⟩ :: mvL (out.length + 1) lp p.1) (by simp only [q3_,q5_,Z1o]; omega)
 simp only [Zaz,ZbD] at s3
 have hT:(((out ++ (⟨op,a,0,c,e,[]⟩:Zl) :: (mvL (out.length + 1) lp p.1 ++ [dn])).length:Nat):Int) = (out.length:Int) + (p.1.length + 2):=by
  simp only [q3_,q5_,Z1o,q8_]; omega
 rw [Z8J _ _ (by omega),q0_]
 dsimp only
 rw [s2,q0_]
 dsimp only
 rw [show (Zl.mk 9 0 0 0 0 []) = dn from rfl,s3,q0_]
 dsimp only
 rw [hT,ZlL _ _ _ rfl,q0_,q0_,ZlO _ _ _ _ rfl]
 have hm:mv out.length lp ⟨op,a,(p.1.length:Int) + 2,c,e,[]⟩ = ⟨op,a,out.length + (p.1.length + 2),c,e,[]⟩:=by
  unfold mv
  dsimp only
  rw [if_neg (by omega),if_neg (by omega),if_pos h7]
  congr 1
  omega
 simp only [Z3X,ZcF,Z9Z,Za0,ZIy,ZbP,hm]
 rw [show (1:Int) + out.length = (out.length:Int) + 1 by omega,show (0:Int) + lp = lp by omega]
theorem ZF0 {fold:Bool} {n:Z9} {p:Cp} (h:Cd fold Zgu n p):Wr fold n p:=by
 have top:∀ {n:Z9} {out:List Zl} {lp:Int} {r},Z5n n out fold lp = some r → Z1U n out fold lp = some r:=fun e => Zc7 _ _ _ _ e
 have mem:∀ {l:List Z9} {P:List Cp},P.length = l.length → (∀ (i:Nat) (x:Z9) (p:Cp),l[i]? = some x → P[i]? = some p → Wr fold x p) → ∀ p ∈ P,Lk p:=fun h1 h2 => Zap (R:=fun _ _ => True) h1 fun i x p a b => (h2 i x p a b).1
 induction h with
 | none =>
  refine ⟨Z2x _,fun out lp _ _ => top ?_⟩
  show some (out,lp) = _
  simp [ZbP]
 | set l hl => exact ZHV fold hl
 | cat l P hl hP _ ih =>
  refine ⟨ZiB (mem hP ih),fun out lp hb hp => top ?_⟩
  have:=ZCM hl hP ih l.length 0 out lp (by omega) hb hp
  exact this
 | alt l P y q _ hl hP _ _ ih ih2 =>
  refine ⟨Zx0 (mem hP ih) ih2.1,fun out lp hb hp => top ?_⟩
  show ((Z71 (l ++ [y]) out fold lp).bind fun r2 => some (r2.1,r2.2)) = _
  rw [ZDY hl hP ih ih2 out lp hb hp]
  rfl
 | rep lo hi m x p h1 h2 hm _ ih =>
  refine ⟨Zla ih.1,fun out lp hb hp => top ?_⟩
  have e:Z5n ⟨4,lo,hi,m,0,[],[x]⟩ out fold lp = (if ((m == 2)) = true then
   ((Z4N ((Zl.mk 8 0 0 0 0 ([]:List Z8))) out fold lp ⟨4,lo,hi,m,0,[],[x]⟩).bind fun r3 => some (r3.1,r3.2))
   else ((Z4K ⟨4,lo,hi,m,0,[],[x]⟩ out fold lp).bind fun r4 => some (r4.1,r4.2))):=rfl
  rw [e,if_neg (Z1X hm),Zwx (n:=⟨4,lo,hi,m,0,[],[x]⟩) rfl ih lo hi h1 h2 rfl rfl out lp hb hp]
  rfl
 | repA lo hi x p h1 h2 _ ih =>
  refine ⟨Zgo (Zla ih.1),fun out lp hb hp => top ?_⟩
  show ((Z4N ((Zl.mk 8 0 0 0 0 ([]:List Z8))) out fold lp ⟨4,lo,hi,2,0,[],[x]⟩).bind fun r3 => some (r3.1,r3.2)) = _
  have hw:Z4N ((Zl.mk 8 0 0 0 0 ([]:List Z8))) out fold lp ⟨4,lo,hi,2,0,[],[x]⟩ = some (out ++ mvL out.length lp (Z3X 8 0 0 0 (repC lo hi false p)).1,lp + (Z3X 8 0 0 0 (repC lo hi false p)).2):=by
   apply Zh6
   unfold Z7s
   refine ZnH (g:=fun o l => Z7y ⟨4,lo,hi,2,0,[],[x]⟩ o fold l) (Zla ih.1) (fun o l hb hp => ?_) 8 0 0 0 (.inr rfl) out lp hb hp
   apply ZgY
   unfold Z7o
   rw [Zwx (n:=⟨4,lo,hi,2,0,[],[x]⟩) rfl ih lo hi h1 h2 rfl rfl o l hb hp]
   rfl
  rw [hw]
  rfl
 | group r x p hr _ ih =>
  obtain ⟨k1,k2⟩:=ih
  have k1':=k1
  unfold Lk at k1'
  refine ⟨by unfold Lk at *; simp only [q3_,q5_,Z1o]; omega,fun out lp hb hp => top ?_⟩
  simp only [q3_,q5_,Z1o,q8_] at hb
  show ((Z1n ((Zl.mk 4 (IntKind.i64.wrap (2 * r)) 0 0 0 ([]:List Z8))) out).bind fun r5 =>
   (lget [x] 0).bind fun a6 => (Z1U a6 r5.2 fold lp).bind fun r7 =>
   (Z1n ((Zl.mk 4 (IntKind.i64.wrap ((IntKind.i64.wrap (2 * r)) + 1)) 0 0 0 ([]:List Z8))) r7.1).bind fun r8 => some (r8.2,r7.2)) = _
  rw [wrap_i64 (n:=2 * r) (by omega) (by omega),wrap_i64 (n:=2 * r + 1) (by omega) (by omega),show (Zl.mk 4 (2 * r) 0 0 0 []) = sv (2 * r) from rfl,show (Zl.mk 4 (2 * r + 1) 0 0 0 []) = sv (2 * r + 1) from rfl,Z8J _ _ (by omega),q0_,show lget [x] 0 = some x from rfl,q0_]
  dsimp only
  rw [Ziy (o:=out ++ [sv (2 * r)]) k2 (a:=(out.length:Int) + 1) (lp:=lp) (by simp) (by simp only [q3_,q5_,q8_]; omega) (by omega),q0_]
  dsimp only
  rw [Z8J _ _ (by simp only [q3_,q5_,Z1o,q8_]; omega),q0_]
  simp only [ZcF,Z9Z,Za0,ZIB,ZbP,Zaz,ZbD,ZbE]
  rw [show (1:Int) + out.length = (out.length:Int) + 1 by omega,show (0:Int) + lp = lp by omega]
 | back r hr =>
  refine ⟨ZhD _,fun out lp hb hp => top ?_⟩
  simp only [q5_,q8_] at hb
  have go:∀ b,Z3h out lp 5 r b 0 0 [] = some (out ++ [⟨5,r,b,0,0,[]⟩],lp):=by
   intro b
   unfold Z3h
   rw [Z8J _ _ (by omega)]
   rfl
  cases fold with
  | true =>
   show Z3h out lp 5 r 1 0 0 [] = _
   rw [go]
   simp [mvL,mv]
  | false =>
   show Z3h out lp 5 r 0 0 0 [] = _
   rw [go]
   simp [mvL,mv]
 | look m x p v hm hv _ ih =>
  refine ⟨Zgo ih.1,fun out lp hb hp => top ?_⟩
  have hw:∀ c e,out.length + (Z3X 7 m c e p).1.length ≤ 10000 → Z3i out fold lp ⟨7,0,0,m,0,[],[x]⟩ 7 m 0 c e [] = some (out ++ mvL out.length lp (Z3X 7 m c e p).1,lp + (Z3X 7 m c e p).2):=by
   intro c e hb
   have q:Z7B ⟨7,m,0,c,e,[]⟩ out fold lp ⟨7,0,0,m,0,[],[x]⟩ = some (out ++ mvL out.length lp (Z3X 7 m c e p).1,lp + (Z3X 7 m c e p).2):=by
    apply Zha
    unfold Z7u
    refine ZnH (g:=fun o l => Z7z ⟨7,0,0,m,0,[],[x]⟩ o fold l) ih.1 (fun o l hb hp => ?_) 7 m c e (.inl rfl) out lp hb hp
    apply Zh0
    unfold Z7p
    rw [show lget [x] 0 = some x from rfl,q0_,ih.2 o l hb hp]
    rfl
   unfold Z3i
   rw [q]
   rfl
  have e:Z5n ⟨7,0,0,m,0,[],[x]⟩ out fold lp = (if ((decide (2 ≤ m))) = true then
    ((lget [x] 0).bind fun a9 => (Z3j a9).bind fun r10 =>
    Z3i out fold lp ⟨7,0,0,m,0,[],[x]⟩ 7 m 0 r10.1 r10.2 (([]:List Z8)))
    else (Z3i out fold lp ⟨7,0,0,m,0,[],[x]⟩ 7 m 0 0 0 (([]:List Z8)))):=rfl
  rw [e]
  by_cases h2:2 ≤ m
  ·rw [if_pos (Z2f h2),show lget [x] 0 = some x from rfl,q0_,ZsN hv,q0_]
   simp only [h2,if_true] at hb ⊢
   exact hw _ _ hb
  ·rw [if_neg (Z28 h2)]
   simp only [h2,if_false] at hb ⊢
   exact hw _ _ hb
 | atomic x p _ ih =>
  refine ⟨Zgo ih.1,fun out lp hb hp => top ?_⟩
  show ((Z61 ((Zl.mk 8 0 0 0 0 ([]:List Z8))) out fold lp ⟨8,0,0,0,0,[],[x]⟩).bind fun r3 => some (r3.1,r3.2)) = _
  have hw:Z61 ((Zl.mk 8 0 0 0 0 ([]:List Z8))) out fold lp ⟨8,0,0,0,0,[],[x]⟩ = some (out ++ mvL out.length lp (Z3X 8 0 0 0 p).1,lp + (Z3X 8 0 0 0 p).2):=by
   apply Zh8
   unfold Z7t
   refine ZnH (g:=fun o l => Z7A ⟨8,0,0,0,0,[],[x]⟩ o fold l) ih.1 (fun o l hb hp => ?_) 8 0 0 0 (.inr rfl) out lp hb hp
   apply Zh2
   unfold Z7q
   rw [show lget [x] 0 = some x from rfl,q0_,ih.2 o l hb hp]
   rfl
  rw [hw]
  rfl
 | edge k hk =>
  refine ⟨ZhD _,fun out lp hb hp => top ?_⟩
  simp only [q5_,q8_] at hb
  show ((Z1n ((Zl.mk 6 k 0 0 0 ([]:List Z8))) out).bind fun r12 => some (r12.2,lp)) = _
  rw [Z8J _ _ (by omega)]
  simp [mvL,mv]
end Go.Proofs.YtocikhhkicahoaaDoor.N2
end
