/- A text read again elsewhere. No condition. -/
import Derived.Test.YtocikhhkicahoaaDoorPlainA
import Derived.Test.YtocikhhkicahoaaDoorPlainB

set_option linter.unusedSimpArgs false
set_option linter.unusedVariables false
set_option linter.defProp false
section
namespace Go.Proofs.YtocikhhkicahoaaDoor.N2
open Go Go.Abs Go.Proofs.Norm
set_option maxRecDepth 100000
def Tail (t:List Un):Prop:=t = [] ∨ ∃ n v,t = (41,n) :: v
structure Like (t:List Un) (pre:List Int) (δ:Int) (a b:St):Prop where
 us:b.us = a.us ++ t
 gr:b.gr = a.gr + δ
 rf:b.rf.map (·.group) = pre ++ a.rf.map (·.group)
theorem bind_ok {α β:Type} {x:Out α} {f:α → St → Out β} {v:β} {s:St} (h:x.bind f = .ok v s):∃ u s1,x = .ok u s1 ∧ f u s1 = .ok v s:=by
 cases x with
 | bad c p => simp [Out.bind] at h
 | ok u s1 => exact ⟨u,s1,rfl,h⟩
def Mono {α:Type} (P:Int → St → Out α):Prop:=∀ p s v s',P p s = .ok v s' → s.gr ≤ s'.gr
section
variable {P:Int → St → Out (Z9 × Bool)} (M:Mono P)
include M
end
end Go.Proofs.YtocikhhkicahoaaDoor.N2
end
section
namespace Go.Proofs.YtocikhhkicahoaaDoor.N2
open Go Go.Abs Go.Proofs.Norm
set_option maxRecDepth 100000
section
variable {t:List Un} (ht:Tail t) {pre:List Int} {δ:Int}
theorem ZlW {us:List Un} (h:us ≠ []):peek (us ++ t) = peek us:=by
 cases us with
 | nil => exact absurd rfl h
 | cons x r => rfl
include ht in
theorem ZsD:peek t = -1 ∨ peek t = 41:=by
 rcases ht with rfl | ⟨n,v,rfl⟩
 ·exact .inl rfl
 ·exact .inr rfl
include ht in
theorem ZDI {us:List Un} {c:Int} (h1:c ≠ -1) (h2:c ≠ 41):peek (us ++ t) = c ↔ peek us = c:=by
 by_cases h:us = []
 ·subst h
  have e:peek ([]:List Un) = -1:=rfl
  rw [ZbE,e]
  rcases ZsD ht with h3 | h3 <;> rw [h3] <;> omega
 ·rw [ZlW h]
theorem Like.ne {a b:St} (h:Like t pre δ a b) (hn:a.us ≠ []):b.us ≠ []:=by
 rw [h.us]
 simp [hn]
theorem Like.peek {a b:St} (h:Like t pre δ a b) (hn:a.us ≠ []):peek b.us = N2.peek a.us:=by rw [h.us,ZlW hn]
include ht in
theorem Like.pk {a b:St} (h:Like t pre δ a b) {c:Int} (h1:c ≠ -1) (h2:c ≠ 41):N2.peek b.us = c ↔ N2.peek a.us = c:=by rw [h.us]; exact ZDI ht h1 h2
theorem Like.take {a b:St} (h:Like t pre δ a b) (hn:a.us ≠ []):Like t pre δ (take a) (take b):=by
 obtain ⟨ua,pa,ga,ra⟩:=a
 obtain ⟨ub,pb,gb,rb⟩:=b
 cases ua with
 | nil => exact absurd rfl hn
 | cons x r =>
  have h1:=h.us
  simp only [ZbD] at h1
  subst h1
  exact ⟨rfl,h.gr,h.rf⟩
theorem ZDn {w:List Int}:∀ {us r:List Un},isW w us = some r → isW w (us ++ t) = some (r ++ t):=by
 induction w with
 | nil => intro us r h; cases h; rfl
 | cons c w ih =>
  intro us r h
  cases us with
  | nil => simp [isW] at h
  | cons x us =>
   obtain ⟨u,n⟩:=x
   simp only [isW,ZbD] at h ⊢
   split at h
   ·rename_i hc; rw [if_pos hc]; exact ih h
   ·simp at h
include ht in
theorem ZDm {w:List Int} (hw:∀ c ∈ w,c ≠ 41):∀ {us:List Un},isW w us = none → isW w (us ++ t) = none:=by
 induction w with
 | nil => intro us h; simp [isW] at h
 | cons c w ih =>
  intro us h
  cases us with
  | nil =>
   rcases ht with rfl | ⟨n,v,rfl⟩
   ·rfl
   ·have:=hw c (Z9C ..)
    simp only [ZbE,isW]
    rw [if_neg (fun e => this e.symm)]
  | cons x us =>
   obtain ⟨u,n⟩:=x
   simp only [isW,ZbD] at h ⊢
   split
   ·rename_i hc; rw [if_pos hc] at h; exact ih (fun c h => hw c (Zay _ h)) h
   ·rfl
theorem Like.wd_some {a b a':St} (h:Like t pre δ a b) {w:List Int} (e:wd w a = some a'):∃ b',wd w b = some b' ∧ Like t pre δ a' b':=by
 unfold wd at e ⊢
 rw [h.us]
 split at e
 ·rename_i r hr
  cases e
  rw [ZDn hr]
  exact ⟨_,rfl,rfl,h.gr,h.rf⟩
 ·simp at e
include ht in
theorem Like.wd_none {a b:St} (h:Like t pre δ a b) {w:List Int} (hw:∀ c ∈ w,c ≠ 41) (e:wd w a = none):wd w b = none:=by
 unfold wd at e ⊢
 rw [h.us]
 split at e
 ·simp at e
 ·rename_i hr
  rw [ZDm ht hw hr]
def Runs (t:List Un) (pre:List Int) (δ:Int) {α:Type} (x y:Out α):Prop:=∀ v a',x = .ok v a' → ∃ b',y = .ok v b' ∧ Like t pre δ a' b'
theorem Runs.ok {α:Type} {v:α} {a b:St} (h:Like t pre δ a b):Runs t pre δ (.ok v a) (.ok v b):=by
 intro v' a' e; cases e; exact ⟨b,rfl,h⟩
theorem Runs.bad {α:Type} {c p:Int} {y:Out α}:Runs t pre δ (.bad c p) y:=by intro v a e; simp at e
theorem Runs.bind {α β:Type} {x y:Out α} {f g:α → St → Out β} (h:Runs t pre δ x y) (k:∀ v a b,x = .ok v a → Like t pre δ a b → Runs t pre δ (f v a) (g v b)):Runs t pre δ (x.bind f) (y.bind g):=by
 intro v a' e
 obtain ⟨u,s1,h1,h2⟩:=bind_ok e
 obtain ⟨b1,e1,l1⟩:=h u s1 h1
 obtain ⟨b',e2,l2⟩:=k u s1 b1 h1 l1 v a' h2
 exact ⟨b',by rw [e1]; exact e2,l2⟩
theorem ZC1 {us:List Un} (h:0 ≤ hexF (peek us)):us ≠ []:=by
 intro e
 rw [e] at h
 exact absurd h (by decide)
theorem Zr8 {a b:St} (h:Like t pre δ a b) (u p q:Int):Runs t pre δ (Z9z u p a) (Z9z u q b):=by
 unfold Z9z
 split
 ·exact .ok h
 split
 ·exact .ok h
 split
 ·exact .ok h
 split
 ·by_cases h1:0 ≤ hexF (N2.peek a.us)
  ·have n1:=ZC1 h1
   have e1:=h.peek n1
   rw [if_pos h1,if_pos (show 0 ≤ hexF (N2.peek b.us) by rw [e1]; exact h1)]
   by_cases h2:0 ≤ hexF (N2.peek (N2.take a).us)
   ·have n2:=ZC1 h2
    have e2:=(h.take n1).peek n2
    rw [if_pos h2,if_pos (show 0 ≤ hexF (N2.peek (N2.take b).us) by rw [e2]; exact h2),e1,e2]
    exact .ok ((h.take n1).take n2)
   ·rw [if_neg h2]
    exact .bad
  ·rw [if_neg h1]
   exact .bad
 split
 ·exact .ok h
 ·exact .bad
theorem ZD6 {a b:St} (h:Like t pre δ a b) (p q:Int):Runs t pre δ (pEsc p a) (pEsc q b):=by
 unfold pEsc
 split
 ·exact .bad
 rename_i hn
 rw [if_neg (h.ne hn),h.peek hn]
 split
 ·exact .ok (h.take hn)
 split
 ·exact .ok (h.take hn)
 split
 ·exact .ok (h.take hn)
 split
 ·refine .ok ?_
  have h2:=h.take hn
  exact ⟨h2.us,h2.gr,by simp [h.rf]⟩
 ·exact (Zr8 (h.take hn) _ _ _).bind fun v a b _ h => .ok h
theorem ZvL {a b:St} (h:Like t pre δ a b) (hn:a.us ≠ []):Runs t pre δ (pMem a) (pMem b):=by
 unfold pMem
 rw [h.peek hn]
 split
 ·exact .ok (h.take hn)
 split
 ·exact .bad
 rename_i h2
 have k:=h.take hn
 rw [if_neg (k.ne h2),k.peek h2]
 split
 ·exact .ok (k.take h2)
 ·exact (Zr8 (k.take h2) _ _ _).bind fun v a b _ h => .ok h
include ht in
theorem Zou (p q:Int) (no:Bool):∀ (k k':Nat) (fst:Bool) (all:List R2) (a b:St),k ≤ k' → Like t pre δ a b → Runs t pre δ (Z86 p no k fst all a) (Z86 q no k' fst all b):=by
 intro k
 induction k with
 | zero => intro k' fst all a b _ h; exact .bad
 | succ k ih =>
  intro k' fst all a b hk h
  obtain ⟨k',rfl⟩:∃ j,k' = j + 1:=⟨k' - 1,by omega⟩
  have hk':k ≤ k':=by omega
  unfold Z86
  split
  ·exact .bad
  rename_i hn
  rw [if_neg (h.ne hn),h.peek hn]
  split
  ·split
   ·exact .bad
   ·exact .ok (h.take hn)
  split
  ·exact .bad
  refine (ZvL h hn).bind fun m a1 b1 _ h1 => ?_
  split
  ·split
   ·exact .bad
   ·rename_i hc
    rw [if_neg (fun e => hc ((h1.pk ht (by omega) (by omega)).1 e))]
    exact ih _ _ _ _ _ hk' h1
  split
  ·rename_i hw
   rw [h1.wd_none ht (by simp) hw]
   exact ih _ _ _ _ _ hk' h1
  ·rename_i a2 hw
   obtain ⟨b2,e2,h2⟩:=h1.wd_some hw
   rw [e2]
   dsimp only
   split
   ·exact .bad
   rename_i hc
   have n2:a2.us ≠ []:=fun e => hc (.inl e)
   rw [if_neg (by rw [h2.peek n2]; intro e; rcases e with e | e; exact h2.ne n2 e; exact hc (.inr e))]
   refine (ZvL h2 n2).bind fun m2 a3 b3 _ h3 => ?_
   split
   ·exact .bad
   ·exact ih _ _ _ _ _ hk' h3
include ht in
theorem ZxK {a b:St} (h:Like t pre δ a b) (p q:Int):Runs t pre δ (Zfn p a) (Zfn q b):=by
 unfold Zfn
 have len:∀ {a b:St},Like t pre δ a b → a.us.length + 1 ≤ b.us.length + 1:=by
  intro a b h
  rw [h.us,q3_]
  omega
 split
 ·rename_i a1 hw
  obtain ⟨b1,e1,h1⟩:=h.wd_some hw
  rw [e1]
  exact Zou ht _ _ _ _ _ _ _ _ _ (len h1) h1
 ·rename_i hw
  rw [h.wd_none ht (by simp) hw]
  exact Zou ht _ _ _ _ _ _ _ _ _ (len h) h
include ht in
theorem Zsk {us:List Un}:digit (peek (us ++ t)) = digit (peek us):=by
 by_cases h:us = []
 ·subst h
  rw [ZbE]
  rcases ZsD ht with e | e <;> rw [e] <;> rfl
 ·rw [ZlW h]
theorem Zto {us:List Un} (h:digit (peek us) = true):us ≠ []:=by
 intro e
 rw [e] at h
 exact absurd h (by decide)
include ht in
theorem ZvR {a b:St} (h:Like t pre δ a b):(pNum b).1 = (pNum a).1 ∧ Like t pre δ (pNum a).2 (pNum b).2:=by
 unfold pNum
 have e1:digit (peek b.us) = digit (peek a.us):=by rw [h.us]; exact Zsk ht
 rw [e1]
 by_cases c1:digit (peek a.us) = true
 ·have n1:=Zto c1
  have k:=h.take n1
  have e2:digit (peek (take b).us) = digit (peek (take a).us):=by rw [k.us]; exact Zsk ht
  rw [if_pos c1,if_pos c1,e2]
  by_cases c2:digit (peek (take a).us) = true
  ·have n2:=Zto c2
   rw [if_pos c2,if_pos c2,h.peek n1,k.peek n2]
   exact ⟨rfl,k.take n2⟩
  ·rw [if_neg c2,if_neg c2,h.peek n1]
   exact ⟨rfl,k⟩
 ·rw [if_neg c1,if_neg c1]
  exact ⟨rfl,h⟩
theorem ZvA {a b:St} (h:Like t pre δ a b) (p q lo hi:Int):Runs t pre δ (pFin p lo hi a) (pFin q lo hi b):=by
 unfold pFin
 split
 ·exact .bad
 split
 ·exact .bad
 ·rename_i a1 hw
  obtain ⟨b1,e1,h1⟩:=h.wd_some hw
  rw [e1]
  exact .ok h1
include ht in
theorem ZwJ {a b:St} (h:Like t pre δ a b) (p q:Int):Runs t pre δ (ZbQ p a) (ZbQ q b):=by
 unfold ZbQ
 obtain ⟨e1,h1⟩:=ZvR ht h
 rw [e1]
 split
 ·rename_i hw
  rw [h1.wd_none ht (by simp) hw]
  exact ZvA h1 _ _ _ _
 ·rename_i a2 hw
  obtain ⟨b2,e2,h2⟩:=h1.wd_some hw
  obtain ⟨e3,h3⟩:=ZvR ht h2
  rw [e2]
  dsimp only
  rw [e3]
  split
  ·split
   ·exact .bad
   ·rename_i a4 hw4
    obtain ⟨b4,e4,h4⟩:=h3.wd_some hw4
    rw [e4]
    dsimp only
    split
    ·exact .ok h4
    ·exact .bad
  ·exact ZvA h3 _ _ _ _
include ht in
theorem Zio {a b:St} (h:Like t pre δ a b) (kid:Z9) (may:Bool) (p q lo hi:Int):Runs t pre δ (Z9A kid may p lo hi a) (Z9A kid may q lo hi b):=by
 unfold Z9A
 split
 ·exact .bad
 split
 ·rename_i a1 hw
  obtain ⟨b1,e1,h1⟩:=h.wd_some hw
  rw [e1]
  exact .ok h1
 rename_i hw
 rw [h.wd_none ht (by simp) hw]
 dsimp only
 split
 ·rename_i a1 hw
  obtain ⟨b1,e1,h1⟩:=h.wd_some hw
  rw [e1]
  exact .ok h1
 ·rename_i hw
  rw [h.wd_none ht (by simp) hw]
  exact .ok h
include ht in
theorem ZDP {a b:St} (h:Like t pre δ a b) (kid:Z9) (may:Bool):Runs t pre δ (pRep kid may a) (pRep kid may b):=by
 unfold pRep
 split
 ·rename_i a1 hw
  obtain ⟨b1,e1,h1⟩:=h.wd_some hw
  rw [e1]
  exact Zio ht h1 _ _ _ _ _ _
 rename_i hw
 rw [h.wd_none ht (by simp) hw]
 dsimp only
 split
 ·rename_i a1 hw
  obtain ⟨b1,e1,h1⟩:=h.wd_some hw
  rw [e1]
  exact Zio ht h1 _ _ _ _ _ _
 rename_i hw
 rw [h.wd_none ht (by simp) hw]
 dsimp only
 split
 ·rename_i a1 hw
  obtain ⟨b1,e1,h1⟩:=h.wd_some hw
  rw [e1]
  exact Zio ht h1 _ _ _ _ _ _
 rename_i hw
 rw [h.wd_none ht (by simp) hw]
 dsimp only
 split
 ·rename_i a1 hw
  obtain ⟨b1,e1,h1⟩:=h.wd_some hw
  rw [e1]
  exact (ZwJ ht h1 _ _).bind fun c a b _ h => Zio ht h _ _ _ _ _ _
 ·rename_i hw
  rw [h.wd_none ht (by simp) hw]
  exact .ok h
end
end Go.Proofs.YtocikhhkicahoaaDoor.N2
end
section
namespace Go.Proofs.YtocikhhkicahoaaDoor.N2
open Go Go.Abs Go.Proofs.Norm
set_option maxRecDepth 100000
def RunD (t:List Un) (pre:List Int) (δ:Int) (D:Prop) {α:Type} (x y:Out α) (g:Int):Prop:=∀ v a',x = .ok v a' → (δ = 0 ∨ a'.gr = g) → (∃ b',y = .ok v b' ∧ Like t pre δ a' b') ∨ (D ∧ ∃ p,y = .bad 25 p)
section
variable {t:List Un} (ht:Tail t) {pre:List Int} {δ:Int} {D:Prop}
theorem Runs.d {α:Type} {x y:Out α} {g:Int} (h:Runs t pre δ x y):RunD t pre δ D x y g:=fun v a' e _ => .inl (h v a' e)
theorem RunD.bind {α β:Type} {x y:Out α} {f h:α → St → Out β} {g:Int} (hx:RunD t pre δ D x y g) (m1:∀ v a,x = .ok v a → g ≤ a.gr) (m2:∀ v a u s,x = .ok v a → f v a = .ok u s → a.gr ≤ s.gr)
  (k:∀ v a b,x = .ok v a → Like t pre δ a b → RunD t pre δ D (f v a) (h v b) a.gr):RunD t pre δ D (x.bind f) (y.bind h) g:=by
 intro v a' e hd
 obtain ⟨u,s1,h1,h2⟩:=bind_ok e
 have q1:=m1 _ _ h1
 have q2:=m2 _ _ _ _ h1 h2
 rcases hx u s1 h1 (by omega) with ⟨b1,e1,l1⟩ | ⟨hD,p,hp⟩
 ·rcases k u s1 b1 h1 l1 v a' h2 (by omega) with ⟨b',e2,l2⟩ | ⟨hD,p,hp⟩
  ·exact .inl ⟨b',by rw [e1]; exact e2,l2⟩
  ·exact .inr ⟨hD,p,by rw [e1]; exact hp⟩
 ·exact .inr ⟨hD,p,by rw [hp]; rfl⟩
variable {P Q:Int → St → Out (Z9 × Bool)} (M:Mono P) (HP:∀ p q a b,Like t pre δ a b → RunD t pre δ D (P p a) (Q q b) a.gr)
include ht in
theorem ZCC {us:List Un}:stops (us ++ t) = stops us:=by
 by_cases h:us = []
 ·subst h
  rcases ht with rfl | ⟨n,v,rfl⟩ <;> rfl
 ·unfold stops
  rw [ZlW h]
  cases us with
  | nil => exact absurd rfl h
  | cons x r => rfl
theorem ZDv {us:List Un} (h:¬ stops us = true):us ≠ []:=by
 rintro rfl
 exact h rfl
theorem Like.len {a b:St} (h:Like t pre δ a b):a.us.length + 1 ≤ b.us.length + 1:=by
 rw [h.us,q3_]
 omega
end
end Go.Proofs.YtocikhhkicahoaaDoor.N2
end
section
namespace Go.Proofs.YtocikhhkicahoaaDoor.N2
open Go Go.Abs Go.Proofs.Norm
set_option maxRecDepth 100000
abbrev pP (d:Nat):Int → St → Out (Z9 × Bool):=fun p s => Zas (pAlt d) p s
theorem Ztg (d:Nat) (s:St):pAlt (d + 1) s = Ze5 (pP d) s:=rfl
def inP (d:Nat) (p:Int) (s:St):Out (Z9 × Bool) :=
 (pAlt d s).bind fun kid s2 => match wd [41] s2 with
  | none => .bad 20 p
  | some s3 => .ok (kid,true) s3
theorem Zzw (d:Nat) (w:List Un) (pos gr:Int) (rf:List ZA):Zar (pP d) ⟨(40,1) :: (63,1) :: (58,1) :: w,pos,gr,rf⟩ = inP d pos ⟨w,pos + 1 + (2:Nat),gr,rf⟩:=rfl
theorem Zwh {kid:Z9} {may:Bool} {s:St} (h:s.us = [] ∨ (peek s.us ≠ 42 ∧ peek s.us ≠ 43 ∧ peek s.us ≠ 63 ∧ peek s.us ≠ 123)):pRep kid may s = .ok kid s:=by
 have k:∀ c,c = 42 ∨ c = 43 ∨ c = 63 ∨ c = 123 → wd [c] s = none:=by
  intro c hc
  unfold wd
  obtain ⟨us,pos,gr,rf⟩:=s
  cases us with
  | nil => rfl
  | cons x r =>
   obtain ⟨u,n⟩:=x
   have h':u ≠ 42 ∧ u ≠ 43 ∧ u ≠ 63 ∧ u ≠ 123:=by
    rcases h with h | h
    ·simp at h
    ·exact h
   simp only [isW]
   rw [if_neg (by omega)]
 unfold pRep
 rw [k 42 (by omega),k 43 (by omega),k 63 (by omega),k 123 (by omega)]
theorem ZEG {P:Int → St → Out (Z9 × Bool)} {k:Nat} {kids:List Z9} {s:St} {c p:Int} (h:stops s.us = false) (h1:Zar P s = .bad c p):Z9N P (k + 1) kids s = .bad c p:=by
 rw [Z9N,if_neg (by simp [h]),h1]
 rfl
theorem ZEH {P:Int → St → Out (Z9 × Bool)} {k:Nat} {kids:List Z9} {s:St} (h:stops s.us = true):Z9N P (k + 1) kids s = .ok (joined 2 kids) s:=by
 rw [Z9N,if_pos h]
theorem ZCT {P:Int → St → Out (Z9 × Bool)} {k:Nat} {kids:List Z9} {s:St} (h:s.us = [] ∨ peek s.us ≠ 124):Ze6 P (k + 1) kids s = .ok (joined 3 kids) s:=by
 have e:wd [124] s = none:=by
  unfold wd
  obtain ⟨us,pos,gr,rf⟩:=s
  cases us with
  | nil => rfl
  | cons x r =>
   obtain ⟨u,n⟩:=x
   have h':u ≠ 124:=by
    rcases h with h | h
    ·simp at h
    ·exact h
   simp only [isW]
   rw [if_neg h']
 rw [Ze6,e]
structure Reads (us:List Un) (n:Z9) (s:St):Prop where
 alt:pAlt 32 ⟨us,0,0,[]⟩ = .ok n s
 en:s.us = []
 rf:s.rf.find? (fun x => decide (s.gr < x.group)) = none
 fo:wd [40,63,105,41] ⟨us,0,0,[]⟩ = none
 res:Z7W us = (⟨n,s.gr,false⟩,⟨0,0⟩)
theorem ZsA {fold:Bool} {o:Out Z9} (h:(pEnd fold o).2.Code = 0) (hb:∀ c p,o = .bad c p → c ≠ 0):∃ n s,o = .ok n s ∧ s.us = [] ∧ s.rf.find? (fun x => decide (s.gr < x.group)) = none ∧ pEnd fold o = (⟨n,s.gr,fold⟩,⟨0,0⟩):=by
 cases o with
 | bad c p => exact absurd h (hb c p rfl)
 | ok n s =>
  unfold pEnd at h ⊢
  dsimp only at h ⊢
  by_cases hu:s.us ≠ []
  ·rw [if_pos hu] at h; exact absurd h (by simp)
  ·rw [if_neg hu] at h ⊢
   have hu':s.us = []:=Decidable.not_not.1 hu
   cases hf:s.rf.find? (fun x => decide (s.gr < x.group)) with
   | some x => rw [hf] at h; exact absurd h (by simp)
   | none => exact ⟨n,s,rfl,hu',hf,rfl⟩
theorem wd41 (v:List Un) (m:Int) (pos gr:Int) (rf:List ZA):wd [41] ⟨(41,m) :: v,pos,gr,rf⟩ = some ⟨v,pos + (1:Nat),gr,rf⟩:=rfl
theorem Reads.head {us:List Un} {n:Z9} {s:St} (h:Reads us n s):peek us ≠ 63:=by
 intro e
 have hs:stops us = false:=by
  cases us with
  | nil => exact absurd e (by decide)
  | cons x r => unfold stops; rw [e]; rfl
 have ha:Zar (pP 31) ⟨us,0,0,[]⟩ = .bad 23 0:=by
  unfold Zar
  simp only [e]
  rfl
 have:=h.alt
 rw [Ztg,Ze5,pCat,ZEG hs ha] at this
 simp [Out.bind] at this
abbrev Z9c (us t:List Un):List Un:=(40,1) :: (63,1) :: (58,1) :: (us ++ (41,1) :: t)
end Go.Proofs.YtocikhhkicahoaaDoor.N2
end
section
namespace Go.Proofs.YtocikhhkicahoaaDoor.N2
open Go Go.Abs Go.Proofs.Unis Go.Proofs.Norm
set_option maxRecDepth 100000
abbrev bytes (x:ByteArray):List UInt8:=x.data.toList
theorem Zob {x y:ByteArray} (h:(bytes x).length + (bytes y).length ≤ 1000000):sadd x y = some (x ++ y):=by
 unfold sadd
 have h1:x.size = (bytes x).length:=rfl
 have h2:y.size = (bytes y).length:=rfl
 have h3:IntKind.i64.max = 9223372036854775807:=by decide
 rw [if_neg (by rw [h1,h2,h3]; omega)]
theorem Z9d (x y:ByteArray):bytes (x ++ y) = bytes x ++ bytes y:=by
 show (x ++ y).data.toList = _
 rw [ByteArray.data_append,Array.toList_append]
theorem ZyV {c:UInt8} {l:List UInt8} (h:c.toNat < 128):fresh (c :: l):=ZyU h
theorem ZDU {s:List UInt8} (hs:fresh s) (a:List UInt8):unis (a ++ s) = unis a ++ unis s:=Zws hs a.length a (Z2x _)
theorem Zwc {x:ByteArray} (h:(Z3d x).2.Code = 0) (hf:(Z3d x).1.Fold = false):(bytes x).length ≤ 256 ∧ ∃ n s,Reads (unis (bytes x)) n s ∧ Z3d x = (⟨n,s.gr,false⟩,⟨0,0⟩):=by
 unfold Z3d at h hf ⊢
 split at h
 ·simp at h
 rename_i hx
 rw [if_neg hx] at hf ⊢
 change ¬ 256 < (bytes x).length at hx
 refine ⟨by omega,?_⟩
 change (Z7W (unis (bytes x))).2.Code = 0 at h
 change (Z7W (unis (bytes x))).1.Fold = false at hf
 show ∃ n s,Reads (unis (bytes x)) n s ∧ Z7W (unis (bytes x)) = _
 have hx':(bytes x).length ≤ 256:=by omega
 generalize bytes x = l at hx' h hf ⊢
 have hat:At l ⟨unis l,0,0,[]⟩:=⟨0,by omega,rfl,rfl⟩
 have hi:Inv l ⟨unis l,0,0,[]⟩:=⟨hat,by simp,by simp,by have:=hat.len; simp only [] at this; simp; omega⟩
 cases hw:wd [40,63,105,41] ⟨unis l,0,0,[]⟩ with
 | some s1 =>
  exfalso
  obtain ⟨t1,t2,t3⟩:=Z2A wFo hat (by omega) hw
  have e:Z7W (unis l) = pEnd true (pAlt 32 s1):=by unfold Z7W; rw [hw]
  rw [e] at h hf
  have hb:∀ c p,pAlt 32 s1 = .bad c p → c ≠ 0:=by
   intro c p hp
   have:=Zkk (l:=l) (by omega) 32 0 (by omega) (by omega) s1 ((t2.mv hi).inv hi)
   rw [hp] at this
   exact this.1
  obtain ⟨n,s,_,_,_,e4⟩:=ZsA h hb
  rw [e4] at hf
  simp at hf
 | none =>
  have e:Z7W (unis l) = pEnd false (pAlt 32 ⟨unis l,0,0,[]⟩):=by unfold Z7W; rw [hw]
  have hb:∀ c p,pAlt 32 ⟨unis l,0,0,[]⟩ = .bad c p → c ≠ 0:=by
   intro c p hp
   have:=Zkk (l:=l) (by omega) 32 0 (by omega) (by omega) _ hi
   rw [hp] at this
   exact this.1
  rw [e] at h
  obtain ⟨n,s,e1,e2,e3,e4⟩:=ZsA h hb
  refine ⟨n,s,⟨e1,e2,e3,hw,?_⟩,?_⟩
  ·rw [e]; exact e4
  ·rw [e]; exact e4
theorem Znk {x:ByteArray} (h:(bytes x).length ≤ 256):Z3d x = Z7W (unis (bytes x)):=by
 unfold Z3d
 rw [if_neg (by show ¬ 256 < (bytes x).length; omega)]
theorem Zm5 (x:ByteArray):x.size = (bytes x).length:=rfl
theorem ZsK (x t:List UInt8):unis ((40 :: 63 :: 58 :: x) ++ 41 :: t) = Z9c (unis x) (unis t):=by
 show unis (40 :: 63 :: 58 :: (x ++ 41 :: t)) = _
 rw [Zdj (by decide),Zdj (by decide),Zdj (by decide),ZDU (ZyV (by decide)),Zdj (by decide)]
 rfl
end Go.Proofs.YtocikhhkicahoaaDoor.N2
end
section
namespace Go.Proofs.YtocikhhkicahoaaDoor.N2
open Go Go.Abs Go.Proofs.Unis Go.Proofs.Norm
set_option maxRecDepth 100000
inductive NE:Z9 → Z9 → Prop
 | refl (n:Z9):NE n n
 | row (k:Int) (l l':List Z9):k = 2 ∨ k = 3 → l.length = l'.length → (∀ (i:Nat) (x y:Z9),l[i]? = some x → l'[i]? = some y → NE x y) → NE ⟨k,0,0,0,0,[],l⟩ ⟨k,0,0,0,0,[],l'⟩
 | rep (lo hi m:Int) (x y:Z9):NE x y → NE ⟨4,lo,hi,m,0,[],[x]⟩ ⟨4,lo,hi,m,0,[],[y]⟩
 | group (r r':Int) (x y:Z9):NE x y → NE ⟨5,0,0,0,r,[],[x]⟩ ⟨5,0,0,0,r',[],[y]⟩
 | look (m:Int) (x y:Z9):NE x y → NE ⟨7,0,0,m,0,[],[x]⟩ ⟨7,0,0,m,0,[],[y]⟩
 | atomic (x y:Z9):NE x y → NE ⟨8,0,0,0,0,[],[x]⟩ ⟨8,0,0,0,0,[],[y]⟩
theorem ZiD {n:Z9} {v:Sh} (h:Shp n v) :
  (n.Kind = 2 → ∃ V:List Sh,n.Kids.length ≤ 3000 ∧ V.length = n.Kids.length ∧ (∀ (i:Nat) (x:Z9) (v:Sh),n.Kids[i]? = some x → V[i]? = some v → Shp x v) ∧ v = V.foldl catS cat0) ∧
  (n.Kind = 3 → ∃ V:List Sh,n.Kids.length ≤ 3000 ∧ 2 ≤ n.Kids.length ∧ V.length = n.Kids.length ∧ (∀ (i:Nat) (x:Z9) (v:Sh),n.Kids[i]? = some x → V[i]? = some v → Shp x v) ∧ v = { V.foldl altS alt0 with sz:=min ((V.foldl altS alt0).sz + 2 * ((n.Kids.length:Int) - 1)) 1048576 }) ∧
  (n.Kind = 4 → ∀ x,n.Kids = [x] → ∃ u,(0 ≤ n.Lo ∧ n.Lo ≤ 64) ∧ (n.Hi = -1 ∨ (n.Lo ≤ n.Hi ∧ n.Hi ≤ 64)) ∧ Shp x u ∧ v = ⟨min (u.lo * n.Lo) 1048576,Zjc u.hi n.Hi,repZ n.Lo n.Hi n.Mode u.sz,u.bd⟩) ∧
  (n.Kind = 5 → ∀ x,n.Kids = [x] → ∃ u,Shp x u ∧ v = { u with sz:=min (u.sz + 2) 1048576 }) ∧
  (n.Kind = 7 → ∀ x,n.Kids = [x] → ∃ u,Shp x u ∧ v = ⟨0,0,min (u.sz + 2) 1048576,Zt5 n.Mode u⟩) ∧
  (n.Kind = 8 → ∀ x,n.Kids = [x] → ∃ u,Shp x u ∧ v = { u with sz:=min (u.sz + 2) 1048576 }):=by
 cases h with
 | none => simp [nd0]
 | set l => simp [setN]
 | back r => simp
 | edge k => simp [edge]
 | cat l V h1 h2 h3 => exact ⟨fun _ => ⟨V,h1,h2,h3,rfl⟩,by simp,by simp,by simp,by simp,by simp⟩
 | alt l V h1 h0 h2 h3 => exact ⟨by simp,fun _ => ⟨V,h1,h0,h2,h3,rfl⟩,by simp,by simp,by simp,by simp⟩
 | rep lo hi m x u h1 h2 h3 => exact ⟨by simp,by simp,fun _ y hy => by simp at hy; subst hy; exact ⟨u,h1,h2,h3,rfl⟩,by simp,by simp,by simp⟩
 | group r x u h => exact ⟨by simp,by simp,by simp,fun _ y hy => by simp at hy; subst hy; exact ⟨u,h,rfl⟩,by simp,by simp⟩
 | look m x u h => exact ⟨by simp,by simp,by simp,by simp,fun _ y hy => by simp at hy; subst hy; exact ⟨u,h,rfl⟩,by simp⟩
 | atomic x u h => exact ⟨by simp,by simp,by simp,by simp,by simp,fun _ y hy => by simp at hy; subst hy; exact ⟨u,h,rfl⟩⟩
theorem ZHG {n n':Z9} (h:NE n n'):∀ {v:Sh},Shp n v → Shp n' v:=by
 induction h with
 | refl n => intro v hv; exact hv
 | row k l l' hk hl _ ih =>
  intro v hv
  have get:∀ {i:Nat} {y:Z9},l'[i]? = some y → ∃ x,l[i]? = some x:=fun {i y} hy => ⟨l[i]'(by have:=(q2_.1 hy).1; omega),q4_ _⟩
  rcases hk with rfl | rfl
  ·obtain ⟨V,h1,h2,h3,rfl⟩:=(ZiD hv).1 rfl
   refine .cat l' V (by simp only [] at h1; omega) (by simp only [] at h2; omega) fun i y u hy hu => ?_
   obtain ⟨x,hx⟩:=get hy
   exact ih i x y hx hy (h3 i x u hx hu)
  ·obtain ⟨V,h1,h0,h2,h3,rfl⟩:=(ZiD hv).2.1 rfl
   dsimp only
   rw [hl]
   refine .alt l' V (by simp only [] at h1; omega) (by simp only [] at h0; omega) (by simp only [] at h2; omega) fun i y u hy hu => ?_
   obtain ⟨x,hx⟩:=get hy
   exact ih i x y hx hy (h3 i x u hx hu)
 | rep lo hi m x y _ ih =>
  intro v hv
  obtain ⟨u,h1,h2,h3,rfl⟩:=(ZiD hv).2.2.1 rfl x rfl
  exact .rep lo hi m y u h1 h2 (ih h3)
 | group r r' x y _ ih =>
  intro v hv
  obtain ⟨u,h3,rfl⟩:=(ZiD hv).2.2.2.1 rfl x rfl
  exact .group r' y u (ih h3)
 | look m x y _ ih =>
  intro v hv
  obtain ⟨u,h3,rfl⟩:=(ZiD hv).2.2.2.2.1 rfl x rfl
  exact .look m y u (ih h3)
 | atomic x y _ ih =>
  intro v hv
  obtain ⟨u,h3,rfl⟩:=(ZiD hv).2.2.2.2.2 rfl x rfl
  exact .atomic y u (ih h3)
def LE (l l':List Z9):Prop:=l.length = l'.length ∧ ∀ (i:Nat) (x y:Z9),l[i]? = some x → l'[i]? = some y → NE x y
theorem LE.nil:LE [] []:=⟨rfl,by simp⟩
theorem LE.snoc {l l':List Z9} (h:LE l l') {x y:Z9} (hx:NE x y):LE (l ++ [x]) (l' ++ [y]):=by
 refine ⟨by simp [h.1],fun i a b ha hb => ?_⟩
 by_cases hi:i < l.length
 ·rw [ZdB hi] at ha
  rw [ZdB (by have:=h.1; omega)] at hb
  exact h.2 i a b ha hb
 ·rw [ZbU (by omega)] at ha
  rw [ZbU (by have:=h.1; omega),← h.1] at hb
  cases hj:i - l.length with
  | zero => rw [hj] at ha hb; simp at ha hb; subst ha hb; exact hx
  | succ j => rw [hj] at ha; simp at ha
theorem Zss (k:Int) (hk:k = 2 ∨ k = 3):∀ {l l':List Z9},LE l l' → NE (joined k l) (joined k l')
 | [],[],_ => .refl _
 | [],_ :: _,h => by have:=h.1; simp at this
 | _ :: _,[],h => by have:=h.1; simp at this
 | [x],[y],h => h.2 0 x y rfl rfl
 | [_],_ :: _ :: _,h => by have:=h.1; simp at this
 | _ :: _ :: _,[_],h => by have:=h.1; simp at this
 | a :: b :: r,a' :: b' :: r',h => .row k _ _ hk h.1 h.2
def RunE (t:List Un) (pre:List Int) (δ:Int) {α:Type} (R:α → α → Prop) (x y:Out α):Prop:=∀ v a' v' b',x = .ok v a' → y = .ok v' b' → R v v' ∧ Like t pre δ a' b'
section
variable {t:List Un} (ht:Tail t) {pre:List Int} {δ:Int}
theorem Runs.e {α:Type} {R:α → α → Prop} (hR:∀ v,R v v) {x y:Out α} (h:Runs t pre δ x y):RunE t pre δ R x y:=by
 intro v a' v' b' e1 e2
 obtain ⟨b'',e3,l⟩:=h v a' e1
 rw [e2] at e3
 cases e3
 exact ⟨hR v,l⟩
theorem RunE.bad {α:Type} {R:α → α → Prop} {c p:Int} {y:Out α}:RunE t pre δ R (.bad c p) y:=by intro v a v' b e; simp at e
theorem RunE.bind {α β:Type} {R:α → α → Prop} {R':β → β → Prop} {x y:Out α} {f h:α → St → Out β} (hx:RunE t pre δ R x y) (k:∀ v v' a b,R v v' → Like t pre δ a b → RunE t pre δ R' (f v a) (h v' b)):RunE t pre δ R' (x.bind f) (y.bind h):=by
 intro v a' v' b' e1 e2
 obtain ⟨u,s1,h1,h2⟩:=bind_ok e1
 obtain ⟨u',s1',h1',h2'⟩:=bind_ok e2
 obtain ⟨hr,hl⟩:=hx u s1 u' s1' h1 h1'
 exact k u u' s1 s1' hr hl v a' v' b' h2 h2'
theorem RunE.ok {α:Type} {R:α → α → Prop} {v v':α} {a b:St} (hr:R v v') (h:Like t pre δ a b):RunE t pre δ R (.ok v a) (.ok v' b):=by
 intro u a' u' b' e1 e2; cases e1; cases e2; exact ⟨hr,h⟩
def mkQ:Option (Int × Int × Int) → Z9 → Z9
 | none,k => k
 | some (lo,hi,m),k => ⟨4,lo,hi,m,0,[],[k]⟩
theorem Zoa {kid n:Z9} {may:Bool} {p lo hi:Int} {s s':St} (e:Z9A kid may p lo hi s = .ok n s'):∃ q,n = mkQ q kid ∧ ∀ k',Z9A k' may p lo hi s = .ok (mkQ q k') s':=by
 cases may with
 | false => simp [Z9A] at e
 | true =>
  unfold Z9A at e ⊢
  simp only [Bool.true_eq_false,if_false] at e ⊢
  split at e
  ·cases e; exact ⟨some (lo,hi,1),rfl,fun k' => rfl⟩
  split at e
  ·cases e; exact ⟨some (lo,hi,2),rfl,fun k' => rfl⟩
  ·cases e; exact ⟨some (lo,hi,0),rfl,fun k' => rfl⟩
theorem ZIG {kid n:Z9} {may:Bool} {s s':St} (e:pRep kid may s = .ok n s'):∃ q,n = mkQ q kid ∧ ∀ k',pRep k' may s = .ok (mkQ q k') s':=by
 unfold pRep at e ⊢
 split at e
 ·exact Zoa e
 split at e
 ·exact Zoa e
 split at e
 ·exact Zoa e
 split at e
 ·rename_i s1 hw
  obtain ⟨c,s2,h1,h2⟩:=bind_ok e
  rw [h1]
  exact Zoa h2
 ·cases e
  exact ⟨none,rfl,fun k' => rfl⟩
theorem ZHE {q:Option (Int × Int × Int)} {k k':Z9} (h:NE k k'):NE (mkQ q k) (mkQ q k'):=by
 cases q with
 | none => exact h
 | some p => obtain ⟨lo,hi,m⟩:=p; exact .rep lo hi m k k' h
include ht in
theorem ZIF {a b:St} (h:Like t pre δ a b) {kid kid':Z9} (hk:NE kid kid') (may:Bool):RunE t pre δ NE (pRep kid may a) (pRep kid' may b):=by
 intro n a' n' b' e1 e2
 obtain ⟨b'',e3,l⟩:=ZDP ht h kid may n a' e1
 obtain ⟨q,rfl,hq⟩:=ZIG e3
 rw [hq kid'] at e2
 cases e2
 exact ⟨ZHE hk,l⟩
def NB (x y:Z9 × Bool):Prop:=NE x.1 y.1 ∧ x.2 = y.2
theorem NB.refl (x:Z9 × Bool):NB x x:=⟨.refl _,rfl⟩
variable {P Q:Int → St → Out (Z9 × Bool)} (HP:∀ p q a b,Like t pre δ a b → RunE t pre δ NB (P p a) (Q q b))
include ht HP in
theorem ZFu {a b:St} (h:Like t pre δ a b) (hn:a.us ≠ []):RunE t pre δ NB (Zar P a) (Zar Q b):=by
 have k:=h.take hn
 unfold Zar
 rw [h.peek hn]
 split
 ·exact .ok (.refl _) k
 split
 ·exact .ok (.refl _) k
 split
 ·exact .ok (.refl _) k
 split
 ·exact ((ZD6 k _ _).bind (f:=fun n s1 => .ok (n,n.Kind != 9) s1) (g:=fun n s1 => .ok (n,n.Kind != 9) s1) fun v a b _ h => .ok h).e NB.refl
 split
 ·exact ((ZxK ht k _ _).bind (f:=fun n s1 => .ok (n,true) s1) (g:=fun n s1 => .ok (n,true) s1) fun v a b _ h => .ok h).e NB.refl
 split
 ·exact HP a.pos b.pos _ _ k
 split
 ·exact RunE.bad
 split
 ·exact RunE.bad
 ·exact .ok (.refl _) k
include ht HP in
theorem Zzz:∀ (k k':Nat) (kids kids':List Z9) (a b:St),k ≤ k' → LE kids kids' → Like t pre δ a b → RunE t pre δ NE (Z9N P k kids a) (Z9N Q k' kids' b):=by
 intro k
 induction k with
 | zero => intro k' kids kids' a b _ _ h; exact RunE.bad
 | succ k ih =>
  intro k' kids kids' a b hk hl h
  obtain ⟨k',rfl⟩:∃ j,k' = j + 1:=⟨k' - 1,by omega⟩
  unfold Z9N
  rw [h.us,ZCC ht]
  split
  ·exact .ok (Zss 2 (.inl rfl) hl) h
  rename_i hs
  have hn:=ZDv hs
  refine (ZFu ht HP h hn).bind fun m m' a1 b1 hm h1 => ?_
  rw [← hm.2]
  refine (ZIF ht h1 hm.1 m.2).bind fun n n' a2 b2 hn h2 => ?_
  exact ih _ _ _ _ _ (by omega) (hl.snoc hn) h2
include ht HP in
theorem ZFt:∀ (k k':Nat) (kids kids':List Z9) (a b:St),k ≤ k' → LE kids kids' → Like t pre δ a b → RunE t pre δ NE (Ze6 P k kids a) (Ze6 Q k' kids' b):=by
 intro k
 induction k with
 | zero => intro k' kids kids' a b _ _ h; exact RunE.bad
 | succ k ih =>
  intro k' kids kids' a b hk hl h
  obtain ⟨k',rfl⟩:∃ j,k' = j + 1:=⟨k' - 1,by omega⟩
  unfold Ze6
  split
  ·rename_i hw
   rw [h.wd_none ht (by simp) hw]
   exact .ok (Zss 3 (.inr rfl) hl) h
  ·rename_i a1 hw
   obtain ⟨b1,e1,h1⟩:=h.wd_some hw
   rw [e1]
   dsimp only
   refine (Zzz ht HP _ _ [] [] _ _ h1.len LE.nil h1).bind fun n n' a2 b2 hn h2 => ?_
   exact ih _ _ _ _ _ (by omega) (hl.snoc hn) h2
include ht HP in
theorem Zpw {a b:St} (h:Like t pre δ a b):RunE t pre δ NE (Ze5 P a) (Ze5 Q b):=by
 unfold Ze5
 refine (Zzz ht HP _ _ [] [] _ _ h.len LE.nil h).bind fun n n' a2 b2 hn h2 => ?_
 exact ZFt ht HP _ _ _ _ _ _ h2.len (LE.nil.snoc hn) h2
def OE (n n':Z9):Prop:=(n = nd0 ∧ n' = nd0) ∨ (∃ m,n = ⟨7,0,0,m,0,[],[]⟩ ∧ n' = ⟨7,0,0,m,0,[],[]⟩) ∨ (n = ⟨8,0,0,0,0,[],[]⟩ ∧ n' = ⟨8,0,0,0,0,[],[]⟩) ∨ ∃ r r',n = ⟨5,0,0,0,r,[],[]⟩ ∧ n' = ⟨5,0,0,0,r',[],[]⟩
include ht in
theorem ZHQ {a b:St} (h:Like t pre δ a b) (p q:Int):RunE t pre δ OE (Zo8 p a) (Zo8 q b):=by
 unfold Zo8
 split
 ·rename_i a1 hw
  obtain ⟨b1,e1,h1⟩:=h.wd_some hw
  rw [e1]
  exact .ok (.inr (.inl ⟨_,rfl,rfl⟩)) h1
 rename_i hw
 rw [h.wd_none ht (by simp) hw]
 dsimp only
 split
 ·rename_i a1 hw
  obtain ⟨b1,e1,h1⟩:=h.wd_some hw
  rw [e1]
  exact .ok (.inr (.inl ⟨_,rfl,rfl⟩)) h1
 rename_i hw
 rw [h.wd_none ht (by simp) hw]
 dsimp only
 split
 ·rename_i a1 hw
  obtain ⟨b1,e1,h1⟩:=h.wd_some hw
  rw [e1]
  exact .ok (.inr (.inl ⟨_,rfl,rfl⟩)) h1
 rename_i hw
 rw [h.wd_none ht (by simp) hw]
 dsimp only
 split
 ·rename_i a1 hw
  obtain ⟨b1,e1,h1⟩:=h.wd_some hw
  rw [e1]
  exact .ok (.inr (.inl ⟨_,rfl,rfl⟩)) h1
 rename_i hw
 rw [h.wd_none ht (by simp) hw]
 dsimp only
 split
 ·rename_i a1 hw
  obtain ⟨b1,e1,h1⟩:=h.wd_some hw
  rw [e1]
  exact .ok (.inr (.inr (.inl ⟨rfl,rfl⟩))) h1
 rename_i hw
 rw [h.wd_none ht (by simp) hw]
 dsimp only
 split
 ·rename_i a1 hw
  obtain ⟨b1,e1,h1⟩:=h.wd_some hw
  rw [e1]
  exact .ok (.inl ⟨rfl,rfl⟩) h1
 rename_i hw
 rw [h.wd_none ht (by simp) hw]
 dsimp only
 split
 ·exact RunE.bad
 rename_i hp
 rw [if_neg (fun e => hp ((h.pk ht (by omega) (by omega)).1 e))]
 split
 ·exact RunE.bad
 intro v a' v' b' e1 e2
 cases e1
 split at e2
 ·simp at e2
 cases e2
 have:=h.gr
 exact ⟨.inr (.inr (.inr ⟨_,_,rfl,rfl⟩)),h.us,by simp only []; omega,h.rf⟩
include ht in
theorem ZFb {A B:St → Out Z9} (HA:∀ a b,Like t pre δ a b → RunE t pre δ NE (A a) (B b)) (p q:Int) (a b:St) (h:Like t pre δ a b):RunE t pre δ NB (Zas A p a) (Zas B q b):=by
 unfold Zas
 refine (ZHQ ht h p q).bind fun n n' a1 b1 ho h1 => ?_
 refine (HA a1 b1 h1).bind fun kid kid' a2 b2 hk h2 => ?_
 split
 ·exact RunE.bad
 ·rename_i a3 hw
  obtain ⟨b3,e3,h3⟩:=h2.wd_some hw
  rw [e3]
  dsimp only
  rcases ho with ⟨rfl,rfl⟩ | ⟨m,rfl,rfl⟩ | ⟨rfl,rfl⟩ | ⟨r,r',rfl,rfl⟩
  ·exact .ok ⟨hk,rfl⟩ h3
  ·rw [if_neg (by simp),if_neg (by simp)]
   exact .ok ⟨.look m kid kid' hk,rfl⟩ h3
  ·rw [if_neg (by simp),if_neg (by simp)]
   exact .ok ⟨.atomic kid kid' hk,rfl⟩ h3
  ·rw [if_neg (by simp),if_neg (by simp)]
   exact .ok ⟨.group r r' kid kid' hk,rfl⟩ h3
end
theorem ZI1 {t:List Un} (ht:Tail t) {pre:List Int} {δ:Int}:∀ (d d':Nat) (a b:St),Like t pre δ a b → RunE t pre δ NE (pAlt d a) (pAlt d' b):=by
 intro d
 induction d with
 | zero =>
  intro d' a b h
  cases d' with
  | zero => exact Zpw (P:=fun p _ => .bad 25 p) (Q:=fun p _ => .bad 25 p) ht (fun p q a b _ => RunE.bad) h
  | succ d' => exact Zpw (P:=fun p _ => .bad 25 p) (Q:=fun p s => Zas (pAlt d') p s) ht (fun p q a b _ => RunE.bad) h
 | succ d ih =>
  intro d' a b h
  cases d' with
  | zero => exact Zpw (P:=fun p s => Zas (pAlt d) p s) (Q:=fun p _ => .bad 25 p) ht (fun p q a b _ => by intro v a' v' b' _ e; simp at e) h
  | succ d' => exact Zpw (P:=fun p s => Zas (pAlt d) p s) (Q:=fun p s => Zas (pAlt d') p s) ht (fun p q a b h => ZFb ht (fun a b h => ih d' a b h) p q a b h) h
end Go.Proofs.YtocikhhkicahoaaDoor.N2
end
section
namespace Go.Proofs.YtocikhhkicahoaaDoor.N2
open Go Go.Abs Go.Proofs.Unis Go.Proofs.Norm
set_option maxRecDepth 100000
theorem Zx1 {us:List Un} {n:Z9} {s:St} (h:Reads us n s) (t:List Un) (pos gr:Int) (rf:List ZA) {m:Z9 × Bool} {s':St} (e:Zar (pP 31) ⟨Z9c us t,pos,gr,rf⟩ = .ok m s') :
  NE n m.1 ∧ m.2 = true ∧ s'.us = t ∧ s'.gr = s.gr + gr ∧ s'.rf.map (·.group) = rf.map (·.group) ++ s.rf.map (·.group):=by
 rw [Zzw] at e
 unfold inP at e
 obtain ⟨kid,s2,h1,h2⟩:=bind_ok e
 have hl:Like ((41,1) :: t) (rf.map (·.group)) gr ⟨us,0,0,[]⟩ ⟨us ++ (41,1) :: t,pos + 1 + (2:Nat),gr,rf⟩:=⟨rfl,by simp,by simp⟩
 obtain ⟨hn,l⟩:=ZI1 (.inr ⟨1,t,rfl⟩) 32 31 _ _ hl n s kid s2 h.alt h1
 have hu:s2.us = (41,1) :: t:=by rw [l.us,h.en]; rfl
 obtain ⟨us',ps,g,r⟩:=s2
 simp only [] at hu
 subst hu
 rw [wd41] at h2
 cases h2
 exact ⟨hn,rfl,rfl,l.gr,l.rf⟩
theorem ZzB {P:Int → St → Out (Z9 × Bool)} {k:Nat} {kids:List Z9} {s s':St} {v:Z9} (h:stops s.us = false) (e:Z9N P (k + 1) kids s = .ok v s') :
  ∃ m s1 n s2,Zar P s = .ok m s1 ∧ pRep m.1 m.2 s1 = .ok n s2 ∧ Z9N P k (kids ++ [n]) s2 = .ok v s':=by
 rw [Z9N,if_neg (by simp [h])] at e
 obtain ⟨m,s1,h1,h2⟩:=bind_ok e
 obtain ⟨n,s2,h3,h4⟩:=bind_ok h2
 exact ⟨m,s1,n,s2,h1,h3,h4⟩
theorem ZCu {fold:Bool} {o:Out Z9} (h:(pEnd fold o).2.Code = 0):(∃ c p,o = .bad c p) ∨ ∃ n s,o = .ok n s ∧ s.us = [] ∧ (pEnd fold o).1.Root = n:=by
 cases o with
 | bad c p => exact .inl ⟨c,p,rfl⟩
 | ok n s =>
  right
  unfold pEnd at h ⊢
  dsimp only at h ⊢
  by_cases hu:s.us ≠ []
  ·rw [if_pos hu] at h; exact absurd h (by simp)
  ·rw [if_neg hu] at h ⊢
   cases hf:s.rf.find? (fun x => decide (s.gr < x.group)) with
   | some x => rw [hf] at h; exact absurd h (by simp)
   | none => exact ⟨n,s,rfl,Decidable.not_not.1 hu,rfl⟩
theorem ZFi {a b:List Un} {n m:Z9} {s s2:St} (h:Reads a n s) (h2:Reads b m s2) (hb:∀ c p,pAlt 32 ⟨Z9c a (Z9c b []),0,0,[]⟩ = .bad c p → c ≠ 0) (hc:(Z7W (Z9c a (Z9c b []))).2.Code = 0) :
  ∃ n' m',NE n n' ∧ NE m m' ∧ (Z7W (Z9c a (Z9c b []))).1.Root = ⟨2,0,0,0,0,[],[n',m']⟩:=by
 have e0:wd [40,63,105,41] ⟨Z9c a (Z9c b []),0,0,[]⟩ = none:=rfl
 unfold Z7W at hc ⊢
 rw [e0] at hc ⊢
 dsimp only at hc ⊢
 rcases ZCu hc with ⟨c,p,e⟩ | ⟨r,s',e,hu,hr⟩
 ·rw [e] at hc
  exact absurd hc (hb c p e)
 rw [hr]
 rw [Ztg,Ze5,pCat] at e
 obtain ⟨k,hk⟩:∃ k,(Z9c a (Z9c b [])).length + 1 = k + 1 + 1 + 1:=⟨(Z9c a (Z9c b [])).length - 2,by simp⟩
 dsimp only at e
 rw [hk] at e
 obtain ⟨v,s3,e1,e2⟩:=bind_ok e
 obtain ⟨x,s4,y,s5,f1,f2,f3⟩:=ZzB rfl e1
 obtain ⟨q1,q2,q3,q4,q5⟩:=Zx1 h (Z9c b []) 0 0 [] f1
 obtain ⟨us4,p4,g4,r4⟩:=s4
 simp only [] at q3
 subst q3
 rw [Zwh (.inr (by show (40:Int) ≠ 42 ∧ (40:Int) ≠ 43 ∧ (40:Int) ≠ 63 ∧ (40:Int) ≠ 123; decide))] at f2
 cases f2
 obtain ⟨x',s6,y',s7,f4,f5,f6⟩:=ZzB rfl f3
 obtain ⟨u1,u2,u3,u4,u5⟩:=Zx1 h2 [] p4 g4 r4 f4
 obtain ⟨us6,p6,g6,r6⟩:=s6
 simp only [] at u3
 subst u3
 rw [Zwh (.inl rfl)] at f5
 cases f5
 rw [ZEH rfl] at f6
 cases f6
 simp only [q8_] at e2
 rw [ZCT (.inl rfl)] at e2
 cases e2
 exact ⟨x.1,x'.1,q1,u1,rfl⟩
theorem ZEE {l:List UInt8} (hl:l.length ≤ 1000):∀ c p,pAlt 32 ⟨unis l,0,0,[]⟩ = .bad c p → c ≠ 0:=by
 intro c p hp
 have hat:At l ⟨unis l,0,0,[]⟩:=⟨0,by omega,rfl,rfl⟩
 have hi:Inv l ⟨unis l,0,0,[]⟩:=⟨hat,by simp,by simp,by have:=hat.len; simp only [] at this; simp; omega⟩
 have:=Zkk (l:=l) hl 32 0 (by omega) (by omega) _ hi
 rw [hp] at this
 exact this.1
end Go.Proofs.YtocikhhkicahoaaDoor.N2
end
