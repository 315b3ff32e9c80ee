/- Sizes of programs; what holds of their instructions. No condition. -/
import Derived.Test.YtocikhhkicahoaaDoorCodeA
import Derived.Test.YtocikhhkicahoaaDoorPlainC

set_option linter.unusedSimpArgs false
set_option linter.unusedVariables false
set_option linter.defProp false
section
namespace Go.Proofs.YtocikhhkicahoaaDoor.N2
open Go Go.Abs Go.Proofs.Unis Go.Proofs.Norm
set_option maxRecDepth 100000
theorem Zrt {α β γ:Type} {R:α → β → γ → Prop}:∀ (l:List α) (P:List β),P.length = l.length → (∀ (i:Nat) x p,l[i]? = some x → P[i]? = some p → ∃ v,R x p v) → ∃ V:List γ,V.length = l.length ∧ ∀ (i:Nat) x p v,l[i]? = some x → P[i]? = some p → V[i]? = some v → R x p v
 | [],_,_,_ => ⟨[],rfl,by simp⟩
 | x :: l,[],h,_ => by simp at h
 | x :: l,p :: P,h,hR => by
  obtain ⟨v,hv⟩:=hR 0 x p rfl rfl
  obtain ⟨V,h1,h2⟩:=Zrt l P (by simpa using h) fun i y q hy hq => hR (i + 1) y q (by simpa using hy) (by simpa using hq)
  refine ⟨v :: V,by simp [h1],fun i y q u hy hq hu => ?_⟩
  cases i with
  | zero => simp at hy hq hu; subst hy hq hu; exact hv
  | succ i => exact h2 i y q u (by simpa using hy) (by simpa using hq) (by simpa using hu)
theorem ZzC:∀ (P:List Cp) (V:List Sh) (c:Sh) (k:Nat),V.length = P.length → (∀ (i:Nat) p v,P[i]? = some p → V[i]? = some v → v.sz = min (p.1.length:Int) 1048576) → c.sz = min (k:Int) 1048576 → (V.foldl catS c).sz = min ((k:Int) + (seqC P).1.length) 1048576
 | [],[],c,k,_,_,hc => by simp [seqC,hc]
 | [],_ :: _,_,_,h,_,_ => by simp at h
 | _ :: _,[],_,_,h,_,_ => by simp at h
 | p :: P,v :: V,c,k,h,hR,hc => by
  have h0:=hR 0 p v rfl rfl
  rw [ZdD,ZzC P V (catS c v) (k + p.1.length) (by simpa using h) (fun i q u hq hu => hR (i + 1) q u (by simpa using hq) (by simpa using hu)) (by show min (c.sz + v.sz) 1048576 = _; omega)]
  simp only [seqC,q3_,Z1o]
  omega
theorem Zzr:∀ (P:List Cp) (V:List Sh) (c:Sh) (k:Nat),V.length = P.length → (∀ (i:Nat) p v,P[i]? = some p → V[i]? = some v → v.sz = min (p.1.length:Int) 1048576) → c.sz = min (k:Int) 1048576 → (V.foldl altS c).sz = min ((k:Int) + (seqC P).1.length) 1048576
 | [],[],c,k,_,_,hc => by simp [seqC,hc]
 | [],_ :: _,_,_,h,_,_ => by simp at h
 | _ :: _,[],_,_,h,_,_ => by simp at h
 | p :: P,v :: V,c,k,h,hR,hc => by
  have h0:=hR 0 p v rfl rfl
  rw [ZdD,Zzr P V (altS c v) (k + p.1.length) (by simpa using h) (fun i q u hq hu => hR (i + 1) q u (by simpa using hq) (by simpa using hu)) (by show min (c.sz + v.sz) 1048576 = _; omega)]
  simp only [seqC,q3_,Z1o]
  omega
theorem ZHS (P:List Cp):∀ e,(preC e P).1.length = (seqC P).1.length + 2 * P.length:=by
 induction P with
 | nil => intro e; rfl
 | cons p P ih =>
  intro e
  have:=ih (e - (p.1.length + 2))
  simp only [preC,seqC,q3_,q5_,Z1o,this]
  omega
theorem ZHU (p:Cp):∀ m:Nat,(seqC (List.replicate m p)).1.length = m * p.1.length:=by
 intro m
 induction m with
 | zero => simp [seqC]
 | succ m ih =>
  rw [List.replicate_succ,seqC]
  simp only [q3_,Z1o,ih,Z9Y]
  omega
theorem ZCs (z:Bool) (p:Cp):∀ (m:Nat) (e:Int),(optC z p e m).1.length = m * (p.1.length + 1):=by
 intro m
 induction m with
 | zero => intro e; simp [optC]
 | succ m ih =>
  intro e
  simp only [optC,q3_,q5_,Z1o,ih,Z9Y]
  omega
theorem Zxv {lo hi:Int} {z:Bool} {p:Cp} (h1:0 ≤ lo ∧ lo ≤ 64) (h2:hi = -1 ∨ (lo ≤ hi ∧ hi ≤ 64)) :
  ((repC lo hi z p).1.length:Int) = lo * p.1.length + (if hi < 0 then (p.1.length:Int) + 4 else (hi - lo) * (p.1.length + 1)):=by
 have hlo:((lo.toNat * p.1.length:Nat):Int) = lo * p.1.length:=by rw [Int.natCast_mul,Int.toNat_of_nonneg h1.1]
 unfold repC
 rw [Zlb]
 simp only [q3_,Z1o,ZHU]
 by_cases hh:hi < 0
 ·simp only [hh,if_true,Z77,q3_,q5_,q8_,Z1o]
  omega
 ·have hq:(((hi - lo).toNat * (p.1.length + 1):Nat):Int) = (hi - lo) * (p.1.length + 1):=by rw [Int.natCast_mul,Int.toNat_of_nonneg (by omega)]; rfl
  simp only [hh,if_false,ZCs]
  omega
theorem Zxw {lo hi m s:Int} {k:Nat} (h1:0 ≤ lo ∧ lo ≤ 64) (h2:hi = -1 ∨ (lo ≤ hi ∧ hi ≤ 64)) (hs:s = min (k:Int) 1048576) :
  repZ lo hi m s = min (lo * k + (if hi < 0 then (k:Int) + 4 else (hi - lo) * (k + 1)) + (if m = 2 then 2 else 0)) 1048576:=by
 unfold repZ
 by_cases hk:(k:Int) ≤ 1048576
 ·rw [show s = (k:Int) by omega]
 ·have hs':s = 1048576:=by omega
  subst hs'
  have hm:(0:Int) ≤ if m = 2 then 2 else 0:=by split <;> omega
  generalize (if m = 2 then (2:Int) else 0) = t at *
  by_cases hlo:1 ≤ lo
  ·have a1:=Int.mul_le_mul hlo (Zew (1048576:Int)) (by omega) (by omega)
   have a2:=Int.mul_le_mul hlo (show (1048576:Int) ≤ k by omega) (by omega) (by omega)
   by_cases hh:hi < 0
   ·simp only [hh,if_true]; omega
   ·have b1:=Int.mul_nonneg (show 0 ≤ hi - lo by omega) (show (0:Int) ≤ 1048576 + 1 by omega)
    have b2:=Int.mul_nonneg (show 0 ≤ hi - lo by omega) (show (0:Int) ≤ (k:Int) + 1 by omega)
    simp only [hh,if_false]; omega
  ·obtain rfl:lo = 0:=by omega
   by_cases hh:hi < 0
   ·simp only [hh,if_true]; omega
   ·simp only [hh,if_false]
    by_cases h0:hi = 0
    ·subst h0; simp
    ·have b1:=Int.mul_le_mul (show 1 ≤ hi - 0 by omega) (Zew (1048576 + 1:Int)) (by omega) (by omega)
     have b2:=Int.mul_le_mul (show 1 ≤ hi - 0 by omega) (show (1048576 + 1:Int) ≤ (k:Int) + 1 by omega) (by omega) (by omega)
     omega
theorem ZwZ (P:List Cp) (q:Cp):(seqC (P ++ [q])).1.length = (seqC P).1.length + q.1.length:=by
 induction P with
 | nil => simp [seqC,ZbP]
 | cons d P ih => simp only [ZbD,seqC,q3_,Z1o,ih]; omega
theorem ZE7 {fold:Bool} {ff:List R2 → List R2} {n:Z9} {p:Cp} (h:Cd fold ff n p):∃ v,Shp n v ∧ v.sz = min (p.1.length:Int) 1048576:=by
 have kids:∀ {l:List Z9} {P:List Cp},P.length = l.length → (∀ (i:Nat) (x:Z9) (p:Cp),l[i]? = some x → P[i]? = some p → ∃ v,Shp x v ∧ v.sz = min (p.1.length:Int) 1048576) →
   ∃ V:List Sh,V.length = l.length ∧ (∀ (i:Nat) (x:Z9) (v:Sh),l[i]? = some x → V[i]? = some v → Shp x v) ∧ ∀ (i:Nat) p v,P[i]? = some p → V[i]? = some v → v.sz = min (p.1.length:Int) 1048576:=by
  intro l P hP hR
  obtain ⟨V,q1,q2⟩:=Zrt l P hP hR
  refine ⟨V,q1,fun i x v hx hv => ?_,fun i p v hp hv => ?_⟩
  ·have hil:=(q2_.1 hx).1
   exact (q2 i x _ v hx (q4_ (by omega)) hv).1
  ·have hil:=(q2_.1 hp).1
   exact (q2 i _ p v (q4_ (by omega)) hp hv).2
 induction h with
 | none => exact ⟨_,.none,by decide⟩
 | set l _ => exact ⟨_,.set l,by simp only [q5_,q8_]; omega⟩
 | cat l P hl hP _ ih =>
  obtain ⟨V,q1,q2,q3⟩:=kids hP ih
  refine ⟨_,.cat l V hl q1 q2,?_⟩
  rw [ZzC P V cat0 0 (by omega) q3 rfl]
  simp
 | alt l P y q h0 hl hP _ _ ih ih2 =>
  obtain ⟨V,q1,q2,q3⟩:=kids hP ih
  obtain ⟨w,w1,w2⟩:=ih2
  refine ⟨_,.alt (l ++ [y]) (V ++ [w]) (by simpa using hl) ?_ (by simp [q1]) ?_,?_⟩
  ·rw [q3_,Zj5]; omega
  ·intro i x v hx hv
   by_cases hi:i < l.length
   ·rw [ZdB hi] at hx
    rw [ZdB (by omega)] at hv
    exact q2 i x v hx hv
   ·rw [ZbU (by omega)] at hx
    rw [ZbU (by omega),q1] at hv
    cases hj:i - l.length with
    | zero => rw [hj] at hx hv; simp at hx hv; subst hx hv; exact w1
    | succ j => rw [hj] at hx; simp at hx
  ·have e:=Zzr (P ++ [q]) (V ++ [w]) alt0 0 (by simp [q1,hP]) (by
    intro i p v hp hv
    by_cases hi:i < P.length
    ·rw [ZdB hi] at hp
     rw [ZdB (by omega)] at hv
     exact q3 i p v hp hv
    ·rw [ZbU (by omega)] at hp
     rw [ZbU (by omega),show V.length = P.length by omega] at hv
     cases hj:i - P.length with
     | zero => rw [hj] at hp hv; simp at hp hv; subst hp hv; exact w2
     | succ j => rw [hj] at hp; simp at hp) rfl
   have e2:(seqC (P ++ [q])).1.length = (seqC P).1.length + q.1.length:=by
    exact ZwZ P q
   simp only [altC,e,e2,q3_,Z1o,ZHS,Zj5]
   omega
 | rep lo hi m x p h1 h2 hm _ ih =>
  obtain ⟨v,v1,v2⟩:=ih
  refine ⟨_,.rep lo hi m x v h1 h2 v1,?_⟩
  rw [Zxv h1 h2]
  refine (Zxw h1 h2 v2).trans ?_
  rw [if_neg hm]
  simp
 | repA lo hi x p h1 h2 _ ih =>
  obtain ⟨v,v1,v2⟩:=ih
  refine ⟨_,.rep lo hi 2 x v h1 h2 v1,?_⟩
  refine (Zxw h1 h2 v2).trans ?_
  have:=Zxv (z:=false) (p:=p) h1 h2
  simp only [Z3X,q3_,q5_,q8_,Z1o,if_true]
  omega
 | group r x p _ _ ih =>
  obtain ⟨v,v1,v2⟩:=ih
  refine ⟨_,.group r x v v1,?_⟩
  simp only [q3_,q5_,q8_,Z1o]
  omega
 | back r _ => exact ⟨_,.back r,by simp only [q5_,q8_]; omega⟩
 | look m x p u _ _ _ ih =>
  obtain ⟨v,v1,v2⟩:=ih
  refine ⟨_,.look m x v v1,?_⟩
  simp only [Z3X,q3_,q5_,q8_,Z1o]
  omega
 | atomic x p _ ih =>
  obtain ⟨v,v1,v2⟩:=ih
  refine ⟨_,.atomic x v v1,?_⟩
  simp only [Z3X,q3_,q5_,q8_,Z1o]
  omega
 | edge k _ => exact ⟨_,.edge k,by simp only [q5_,q8_]; omega⟩
def mt:Zl:=⟨0,0,0,0,0,[]⟩
def whole (p:Cp):List Zl:=sv 0 :: (mvL 1 0 p.1 ++ [sv 1,mt])
theorem ZjP (p:Cp):(whole p).length = p.1.length + 3:=by simp [whole,Z1o]
theorem Zov {n:Z9} {v:Sh} (hv:Shp n v) (h:chkF v ≠ 0) (g:Int) (f:Bool):Z9h ⟨n,g,f⟩ = some ([],chkF v):=by
 apply ZhK
 unfold ZaW
 rw [Zsj hv,q0_,if_pos (by simpa using h)]
theorem ZhO {n:Z9} {v:Sh} {p:Cp} {f:Bool} (hv:Shp n v) (h:chkF v = 0) (hp:Cd f Zgu n p) (hs:v.sz = min (p.1.length:Int) 1048576) (g:Int):p.1.length ≤ 1997 ∧ Z9h ⟨n,g,f⟩ = some (whole p,0):=by
 have hb:p.1.length ≤ 1997:=by
  unfold chkF at h
  split at h
  ·simp at h
  split at h
  ·simp at h
  ·omega
 refine ⟨hb,?_⟩
 obtain ⟨_,k2⟩:=ZF0 hp
 apply ZhK
 unfold ZaW
 rw [Zsj hv,q0_,h,if_neg (by simp)]
 unfold ZaI
 rw [show (Zl.mk 4 0 0 0 0 []) = sv 0 from rfl,show (Zl.mk 4 1 0 0 0 []) = sv 1 from rfl,show (Zl.mk 0 0 0 0 0 []) = mt from rfl,Z8J _ _ (by simp),q0_]
 dsimp only
 rw [Ziy (o:=[] ++ [sv 0]) k2 (a:=1) (lp:=0) (by simp) (by simp; omega) (by omega),q0_]
 dsimp only
 rw [Z8J _ _ (by simp [Z1o]; omega),q0_]
 dsimp only
 rw [Z8J _ _ (by simp [Z1o]; omega),q0_]
 simp [whole]
theorem ZvK {x:ByteArray} (h:(Z3d x).2.Code ≠ 0):Z2m x = some ([],(Z3d x).2.Code,0):=by
 apply Zdn
 unfold Z7d
 rw [ZsC,q0_,if_pos (by simpa using h)]
theorem Zix {x:ByteArray} (h:(Z3d x).2.Code = 0) {l:List Zl} {e:Int} (hc:Z9h (Z3d x).1 = some (l,e)):Z2m x = some (l,0,e):=by
 apply Zdn
 unfold Z7d Z7M
 rw [ZsC,q0_,if_neg (by simpa using h),hc]
 rfl
theorem ZlP {x:ByteArray} (h:(Z3d x).2.Code = 0):∃ v p,Shp (Z3d x).1.Root v ∧ Cd (Z3d x).1.Fold Zgu (Z3d x).1.Root p ∧ v.sz = min (p.1.length:Int) 1048576 ∧
  ((chkF v ≠ 0 ∧ Z2m x = some ([],0,chkF v)) ∨ (chkF v = 0 ∧ p.1.length ≤ 1997 ∧ Z2m x = some (whole p,0,0))):=by
 have hg:=Zr6 h
 obtain ⟨p,hp⟩:=ZER (Z3d x).1.Fold Zgu hg
 obtain ⟨v,hv,hs⟩:=ZE7 hp
 refine ⟨v,p,hv,hp,hs,?_⟩
 by_cases hc:chkF v = 0
 ·obtain ⟨h1,h2⟩:=ZhO hv hc hp hs (Z3d x).1.Groups
  exact .inr ⟨hc,h1,Zix h h2⟩
 ·exact .inl ⟨hc,Zix h (Zov hv hc _ _)⟩
def marks (l:List Zl):Nat:=l.countP (fun i => i.Op == 10)
theorem Z4t (a b:List Zl):marks (a ++ b) = marks a + marks b:=by simp [marks]
theorem Z4c (a l:Int) (c:List Zl):marks (mvL a l c) = marks c:=by
 simp only [marks,mvL,List.countP_map]
 congr 1
 funext i
 simp [Zig]
theorem Zz2 (l:List Zl) (hl:l.length ≤ 1000000):∀ (m i:Nat) (c:Int),i + m = l.length → 0 ≤ c ∧ c ≤ i → Zah c l (l.length:Int) (i:Int) = some (c + marks (l.drop i)):=by
 intro m
 induction m with
 | zero =>
  intro i c h hc
  apply ZgW
  unfold Zab Zc0
  rw [if_neg (Z28 (by omega)),Zgg (by omega)]
  simp [marks]
 | succ m ih =>
  intro i c h hc
  have hil:i < l.length:=by omega
  apply ZgW
  unfold Zab ZbZ Zac
  rw [if_pos (Z2f (by omega)),Z4b,q4_ hil,q0_,wrap_i64 (n:=c + 1) (by omega) (by omega),wrap_i64 (n:=(i:Int) + 1) (by omega) (by omega),Zgh hil]
  have e1:=ih (i + 1) (c + 1) (by omega) (by omega)
  have e2:=ih (i + 1) c (by omega) (by omega)
  have hm:marks (l[i] :: l.drop (i + 1)) = marks (l.drop (i + 1)) + if l[i].Op = 10 then 1 else 0:=by
   simp only [marks,List.countP_cons]
   simp
  rw [hm]
  by_cases ho:l[i].Op = 10
  ·rw [if_pos (Z1Q ho),if_pos ho]
   refine e1.trans ?_
   congr 1
   omega
  ·rw [if_neg (Z1X ho),if_neg ho]
   refine e2.trans ?_
   congr 1
theorem ZjI (l:List Zl) (hl:l.length ≤ 1000000):Z3c l = some (marks l:Int):=by
 apply ZqL
 unfold Zf1
 have:=Zz2 l hl l.length 0 0 (by omega) (by omega)
 rw [Zpl] at this
 refine this.trans ?_
 simp
theorem ZxF:Z8g = some true:=by
 have e1:(Z3d (ByteArray.mk #[97,124,98])) = (⟨⟨3,0,0,0,0,[],[setN [(97,97)]] ++ [setN [(98,98)]]⟩,0,false⟩,⟨0,0⟩):=by rfl
 have e2:(Z3d (ByteArray.mk #[97,42])) = (⟨⟨4,0,-1,0,0,[],[setN [(97,97)]]⟩,0,false⟩,⟨0,0⟩):=by rfl
 have nn:∀ u:Int,0 ≤ u → u ≤ 1000 → Z2Y [(u,u)]:=fun u h1 h2 => Zih ⟨h1,Zew _,by simp only []; omega⟩
 have c1:Cd false Zgu ⟨3,0,0,0,0,[],[setN [(97,97)]] ++ [setN [(98,98)]]⟩ _:=Cd.alt [setN [(97,97)]] [([⟨1,0,0,0,0,[(97,97)].map ofR⟩],0)] (setN [(98,98)]) _ (by simp) (by simp) rfl
  (by
   intro i x p hx hp
   cases i with
   | zero => simp at hx hp; subst hx hp; exact Cd.set [(97,97)] (nn 97 (by omega) (by omega))
   | succ i => simp at hx) (Cd.set [(98,98)] (nn 98 (by omega) (by omega)))
 have c2:Cd false Zgu ⟨4,0,-1,0,0,[],[setN [(97,97)]]⟩ _:=Cd.rep 0 (-1) 0 _ _ (by omega) (.inl rfl) (by omega) (Cd.set [(97,97)] (nn 97 (by omega) (by omega)))
 have v1:=ZEF (Shp.set [(97,97)]) (Shp.set [(98,98)])
 have v2:=Shp.rep 0 (-1) 0 _ _ (by omega) (by omega) (Shp.set [(97,97)])
 have m1:Z2m (ByteArray.mk #[97,124,98]) = some (_,0,0):=Zix (by rw [e1]) (by rw [e1]; exact (ZhO v1 (by decide) c1 (by decide) 0).2)
 have m2:Z2m (ByteArray.mk #[97,42]) = some (_,0,0):=Zix (by rw [e2]) (by rw [e2]; exact (ZhO v2 (by decide) c2 (by decide) 0).2)
 apply ZhV
 unfold Z8a Z35
 rw [m1,q0_,m2,q0_]
 rw [if_neg (by decide),if_neg (by decide),if_neg (by decide),if_neg (by decide),if_neg (by decide),if_neg (by decide)]
 unfold Z73
 rw [ZjI _ (by decide)]
 rfl
end Go.Proofs.YtocikhhkicahoaaDoor.N2
end
section
namespace Go.Proofs.YtocikhhkicahoaaDoor.N2
open Go Go.Abs Go.Proofs.Unis Go.Proofs.Norm
set_option maxRecDepth 100000
structure Mo (φ:Zl → Zl):Prop where
 mv:∀ a l i,φ (mv a l i) = N2.mv a l (φ i)
 sp:∀ a b,φ (sp a b) = N2.sp a b
 jp:∀ a,φ (jp a) = N2.jp a
 mq:∀ a,φ (mk a) = N2.mk a
 gd:∀ a,φ (gd a) = N2.gd a
 dn:φ dn = N2.dn
 wi:∀ op a b c e,op = 7 ∨ op = 8 → φ ⟨op,a,b,c,e,[]⟩ = ⟨op,a,b,c,e,[]⟩
def mapP (φ:Zl → Zl) (p:Cp):Cp:=(p.1.map φ,p.2)
theorem Zeq (φ:Zl → Zl) (p:Cp):(mapP φ p).1.length = p.1.length:=by simp [mapP]
section
variable {φ:Zl → Zl} (h:Mo φ)
include h
theorem Mo.mvL (a l:Int) (c:List Zl):(mvL a l c).map φ = N2.mvL a l (c.map φ):=by
 simp only [N2.mvL,Zph]
 exact Znn fun i _ => h.mv a l i
theorem Mo.spz (z:Bool) (a b:Int):φ (spz z a b) = N2.spz z a b:=by cases z <;> exact h.sp _ _
theorem Mo.seq (P:List Cp):mapP φ (seqC P) = seqC (P.map (mapP φ)):=by
 induction P with
 | nil => rfl
 | cons d P ih =>
  rw [Z99,seqC,seqC,← ih]
  simp only [mapP,ZhA,h.mvL,ZbC]
theorem Mo.pre (P:List Cp):∀ e,mapP φ (preC e P) = preC e (P.map (mapP φ)):=by
 induction P with
 | nil => intro e; rfl
 | cons d P ih =>
  intro e
  rw [Z99,preC,preC,Zeq,← ih]
  simp only [mapP,ZhA,Z99,h.mvL,h.sp,h.jp]
theorem Mo.alt (P:List Cp) (d:Cp):mapP φ (altC P d) = altC (P.map (mapP φ)) (mapP φ d):=by
 unfold altC
 rw [← h.pre,← h.pre,Zeq,Zeq]
 simp only [mapP,ZhA,h.mvL]
theorem Mo.opt (z:Bool) (d:Cp):∀ (m:Nat) (e:Int),mapP φ (optC z d e m) = optC z (mapP φ d) e m:=by
 intro m
 induction m with
 | zero => intro e; rfl
 | succ m ih =>
  intro e
  rw [optC,optC,Zeq,← ih]
  simp only [mapP,ZhA,Z99,h.mvL,h.spz]
theorem Mo.loop (z:Bool) (d:Cp):mapP φ (Z77 z d) = Z77 z (mapP φ d):=by
 unfold Z77
 rw [Zeq]
 simp only [mapP,ZhA,Z99,Zev,h.mvL,h.spz,h.mq,h.gd,h.jp]
theorem Mo.rep (lo hi:Int) (z:Bool) (d:Cp):mapP φ (repC lo hi z d) = repC lo hi z (mapP φ d):=by
 unfold repC
 rw [h.seq,Z99,Z99,Zev,h.seq,List.map_replicate]
 by_cases hh:hi < 0
 ·simp only [hh,if_true,h.loop]
 ·simp only [hh,if_false,h.opt,ZCs,Zeq]
theorem Mo.wit (op a c e:Int) (d:Cp) (ho:op = 7 ∨ op = 8):mapP φ (Z3X op a c e d) = Z3X op a c e (mapP φ d):=by
 unfold Z3X
 rw [Zeq]
 simp only [mapP,ZhA,Z99,Zev,h.mvL,h.dn,h.wi _ _ _ _ _ ho]
end
end Go.Proofs.YtocikhhkicahoaaDoor.N2
end
section
namespace Go.Proofs.YtocikhhkicahoaaDoor.N2
open Go Go.Abs Go.Proofs.Unis Go.Proofs.Norm
set_option maxRecDepth 100000
structure Al (Ψ:Zl → Prop):Prop where
 mv:∀ a l i,Ψ i → Ψ (mv a l i)
 sp:∀ a b,Ψ (sp a b)
 jp:∀ a,Ψ (jp a)
 mq:∀ a,Ψ (mk a)
 gd:∀ a,Ψ (gd a)
 dn:Ψ dn
 wi:∀ op a b c e,op = 7 ∨ op = 8 → Ψ ⟨op,a,b,c,e,[]⟩
section
variable {Ψ:Zl → Prop} (h:Al Ψ)
include h
theorem Al.mvL {a l:Int} {c:List Zl} (hc:∀ i ∈ c,Ψ i):∀ i ∈ mvL a l c,Ψ i:=by
 intro i hi
 obtain ⟨j,hj,rfl⟩:=Z7a.1 hi
 exact h.mv _ _ _ (hc j hj)
theorem Al.spz (z:Bool) (a b:Int):Ψ (spz z a b):=by cases z <;> exact h.sp _ _
omit h in
theorem Zkj {c d:List Zl} (hc:∀ i ∈ c,Ψ i) (hd:∀ i ∈ d,Ψ i):∀ i ∈ c ++ d,Ψ i:=fun i hi => (Zb8.1 hi).elim (hc i) (hd i)
omit h in
theorem all_cons {x:Zl} {d:List Zl} (hc:Ψ x) (hd:∀ i ∈ d,Ψ i):∀ i ∈ x :: d,Ψ i:=fun i hi => (Z5G.1 hi).elim (fun e => e ▸ hc) (hd i)
omit h in
theorem all_nil:∀ i ∈ ([]:List Zl),Ψ i:=by simp
theorem Al.seq {P:List Cp} (hP:∀ p ∈ P,∀ i ∈ p.1,Ψ i):∀ i ∈ (seqC P).1,Ψ i:=by
 induction P with
 | nil => exact all_nil
 | cons d P ih => exact Zkj (hP d (Z9C ..)) (h.mvL (ih fun p hp => hP p (Zay _ hp)))
theorem Al.pre {P:List Cp} (hP:∀ p ∈ P,∀ i ∈ p.1,Ψ i):∀ e,∀ i ∈ (preC e P).1,Ψ i:=by
 induction P with
 | nil => intro e; exact all_nil
 | cons d P ih =>
  intro e
  exact all_cons (h.sp _ _) (Zkj (h.mvL (hP d (Z9C ..))) (all_cons (h.jp _) (h.mvL (ih (fun p hp => hP p (Zay _ hp)) _))))
theorem Al.opt {z:Bool} {d:Cp} (hd:∀ i ∈ d.1,Ψ i):∀ (m:Nat) (e:Int),∀ i ∈ (optC z d e m).1,Ψ i:=by
 intro m
 induction m with
 | zero => intro e; exact all_nil
 | succ m ih => intro e; exact all_cons (h.spz _ _ _) (Zkj (h.mvL hd) (h.mvL (ih _)))
theorem Al.rep {lo hi:Int} {z:Bool} {d:Cp} (hd:∀ i ∈ d.1,Ψ i):∀ i ∈ (repC lo hi z d).1,Ψ i:=by
 unfold repC
 apply h.seq
 intro p hp
 simp only [Z5G,Zpm,or_false] at hp
 rcases hp with rfl | rfl
 ·exact h.seq fun q hq => by rw [Zw1 hq]; exact hd
 ·split
  ·exact all_cons (h.spz _ _ _) (all_cons (h.mq _) (Zkj (h.mvL hd) (all_cons (h.gd _) (all_cons (h.jp _) (all_nil)))))
  ·exact h.opt hd _ _
theorem Al.wit {op a c e:Int} {d:Cp} (ho:op = 7 ∨ op = 8) (hd:∀ i ∈ d.1,Ψ i):∀ i ∈ (Z3X op a c e d).1,Ψ i :=
 all_cons (h.wi _ _ _ _ _ ho) (Zkj (h.mvL hd) (all_cons h.dn (all_nil)))
end
theorem ZlQ (x:ByteArray):∃ l f e,Z2m x = some (l,f,e):=by
 by_cases h:(Z3d x).2.Code = 0
 ·obtain ⟨v,p,_,_,_,h1⟩:=ZlP h
  rcases h1 with ⟨_,h1⟩ | ⟨_,_,h1⟩
  ·exact ⟨_,_,_,h1⟩
  ·exact ⟨_,_,_,h1⟩
 ·exact ⟨_,_,_,ZvK h⟩
theorem ZDl {us t:List Un} (h:isW [40,63,105,41] us = some t):∃ a b c d,us = (40,a) :: (63,b) :: (105,c) :: (41,d) :: t:=by
 rcases us with _ | ⟨⟨u1,a⟩,us⟩
 ·simp [isW] at h
 simp only [isW] at h
 split at h
 case isFalse => simp at h
 subst u1
 rcases us with _ | ⟨⟨u2,b⟩,us⟩
 ·simp at h
 simp only at h
 split at h
 case isFalse => simp at h
 subst u2
 rcases us with _ | ⟨⟨u3,c⟩,us⟩
 ·simp at h
 simp only at h
 split at h
 case isFalse => simp at h
 subst u3
 rcases us with _ | ⟨⟨u4,d⟩,us⟩
 ·simp at h
 simp only at h
 split at h
 case isFalse => simp at h
 subst u4
 cases h
 exact ⟨a,b,c,d,rfl⟩
end Go.Proofs.YtocikhhkicahoaaDoor.N2
end
section
namespace Go.Proofs.YtocikhhkicahoaaDoor.N2
open Go Go.Abs Go.Proofs.Unis Go.Proofs.Norm
set_option maxRecDepth 100000
theorem Zkm {fold:Bool} {ff:List R2 → List R2} {n:Z9} {p:Cp} (h:Cd fold ff n p) :
  (n.Kind = 2 → ∃ P:List Cp,n.Kids.length ≤ 3000 ∧ P.length = n.Kids.length ∧ (∀ (i:Nat) (x:Z9) (p:Cp),n.Kids[i]? = some x → P[i]? = some p → Cd fold ff x p) ∧ p = seqC P) ∧
  (n.Kind = 3 → ∃ (l:List Z9) (y:Z9) (P:List Cp) (q:Cp),n.Kids = l ++ [y] ∧ 1 ≤ l.length ∧ l.length + 1 ≤ 3000 ∧ P.length = l.length ∧ (∀ (i:Nat) (x:Z9) (p:Cp),l[i]? = some x → P[i]? = some p → Cd fold ff x p) ∧ Cd fold ff y q ∧ p = altC P q) ∧
  (n.Kind = 4 → ∀ x,n.Kids = [x] → ∃ q,(0 ≤ n.Lo ∧ n.Lo ≤ 64) ∧ (n.Hi = -1 ∨ (n.Lo ≤ n.Hi ∧ n.Hi ≤ 64)) ∧ Cd fold ff x q ∧ ((n.Mode ≠ 2 ∧ p = repC n.Lo n.Hi (n.Mode == 1) q) ∨ (n.Mode = 2 ∧ p = Z3X 8 0 0 0 (repC n.Lo n.Hi false q)))) ∧
  (n.Kind = 5 → ∀ x,n.Kids = [x] → ∃ q,Cd fold ff x q ∧ p = (sv (2 * n.Ref) :: (mvL 1 0 q.1 ++ [sv (2 * n.Ref + 1)]),q.2)) ∧
  (n.Kind = 7 → ∀ x,n.Kids = [x] → ∃ q v,(0 ≤ n.Mode ∧ n.Mode ≤ 3) ∧ Shp x v ∧ Cd fold ff x q ∧ p = Z3X 7 n.Mode (if 2 ≤ n.Mode then v.lo else 0) (if 2 ≤ n.Mode then v.hi else 0) q) ∧
  (n.Kind = 8 → ∀ x,n.Kids = [x] → ∃ q,Cd fold ff x q ∧ p = Z3X 8 0 0 0 q):=by
 cases h with
 | none => simp [nd0]
 | set l => simp [setN]
 | back r => simp
 | edge k => simp [edge]
 | cat l P h1 h2 h3 => exact ⟨fun _ => ⟨P,h1,h2,h3,rfl⟩,by simp,by simp,by simp,by simp,by simp⟩
 | alt l P y q h0 h1 h2 h3 h4 => exact ⟨by simp,fun _ => ⟨l,y,P,q,rfl,h0,h1,h2,h3,h4,rfl⟩,by simp,by simp,by simp,by simp⟩
 | rep lo hi m x q h1 h2 hm h3 => exact ⟨by simp,by simp,fun _ y hy => by simp at hy; subst hy; exact ⟨q,h1,h2,h3,.inl ⟨hm,rfl⟩⟩,by simp,by simp,by simp⟩
 | repA lo hi x q h1 h2 h3 => exact ⟨by simp,by simp,fun _ y hy => by simp at hy; subst hy; exact ⟨q,h1,h2,h3,.inr ⟨rfl,rfl⟩⟩,by simp,by simp,by simp⟩
 | group r x q _ h => exact ⟨by simp,by simp,by simp,fun _ y hy => by simp at hy; subst hy; exact ⟨q,h,rfl⟩,by simp,by simp⟩
 | look m x q v hm hv h => exact ⟨by simp,by simp,by simp,by simp,fun _ y hy => by simp at hy; subst hy; exact ⟨q,v,hm,hv,h,rfl⟩,by simp⟩
 | atomic x q h => exact ⟨by simp,by simp,by simp,by simp,by simp,fun _ y hy => by simp at hy; subst hy; exact ⟨q,h,rfl⟩⟩
theorem Zen {n:Z9} (h:Good n):(∀ x ∈ n.Kids,Good x) ∧ (n.Kind = 5 → 1 ≤ n.Ref ∧ n.Ref ≤ 9):=by
 cases h with
 | none => simp [nd0]
 | set l => simp [setN]
 | back r => simp
 | edge k => simp [edge]
 | row k l hk _ _ h => exact ⟨h,fun e => by simp only [] at e; omega⟩
 | rep lo hi m x _ _ _ h => exact ⟨by simpa using h,by simp⟩
 | group r x hr h => exact ⟨by simpa using h,fun _ => hr⟩
 | look m x _ h => exact ⟨by simpa using h,by simp⟩
 | atomic x h => exact ⟨by simpa using h,by simp⟩
def er (i:Zl):Zl:=if i.Op = 4 then ⟨i.Op,0,i.B,i.C,i.D,i.Set⟩ else i
theorem Zbr:Mo er where
 mv:=by
  intro a l i
  by_cases h4:i.Op = 4
  ·have e:er i = ⟨i.Op,0,i.B,i.C,i.D,i.Set⟩:=by unfold er; rw [if_pos h4]
   unfold er
   rw [Zig,if_pos h4,if_pos h4]
   unfold mv
   simp [h4]
  ·unfold er
   rw [Zig,if_neg h4,if_neg h4]
 sp:=fun a b => by simp [er,sp]
 jp:=fun a => by simp [er,jp]
 mq:=fun a => by simp [er,mk]
 gd:=fun a => by simp [er,gd]
 dn:=by simp [er,dn]
 wi:=by
  intro op a b c e h
  have h4:op ≠ 4:=by omega
  simp [er,h4]
theorem ZHD {P P':List Cp} (hl:P.length = P'.length) (h:∀ (i:Nat) p p',P[i]? = some p → P'[i]? = some p' → mapP er p' = mapP er p):P'.map (mapP er) = P.map (mapP er):=by
 apply Zm0
 intro i
 rw [q7_,q7_]
 by_cases hi:i < P.length
 ·rw [q4_ hi,q4_ (by omega)]
  exact congrArg some (h i _ _ (q4_ hi) (q4_ (by omega)))
 ·rw [ZcL (by omega),ZcL (by omega)]
theorem Zxd {fold:Bool} {ff:List R2 → List R2} {l l':List Z9} {P:List Cp} (hl:l.length = l'.length) (hP:P.length = l.length)
  (h:∀ (i:Nat) (x y:Z9) (p:Cp),l[i]? = some x → l'[i]? = some y → P[i]? = some p → ∃ p',Cd fold ff y p' ∧ mapP er p' = mapP er p) :
  ∃ P':List Cp,P'.length = l'.length ∧ (∀ (i:Nat) (x:Z9) (p:Cp),l'[i]? = some x → P'[i]? = some p → Cd fold ff x p) ∧ P'.map (mapP er) = P.map (mapP er):=by
 obtain ⟨P',q1,q2⟩:=Zrt (R:=fun (y:Z9) (p:Cp) (p':Cp) => Cd fold ff y p' ∧ mapP er p' = mapP er p) l' P (by omega) (fun i y p hy hp => by
  have hi:=(q2_.1 hy).1
  exact h i l[i] y p (q4_ (by omega)) hy hp)
 refine ⟨P',q1,fun i x p hx hp => ?_,ZHD (by omega) fun i p p' hp hp' => ?_⟩
 ·have hi:=(q2_.1 hx).1
  exact (q2 i x P[i] p hx (q4_ (by omega)) hp).1
 ·have hi:=(q2_.1 hp).1
  exact (q2 i l'[i] p p' (q4_ (by omega)) hp hp').2
theorem ZE6 {fold:Bool} {ff:List R2 → List R2} {n n':Z9} (h:NE n n'):Good n' → ∀ {p:Cp},Cd fold ff n p → ∃ p',Cd fold ff n' p' ∧ mapP er p' = mapP er p:=by
 induction h with
 | refl n => intro _ p hp; exact ⟨p,hp,rfl⟩
 | row k l l' hk hl _ ih =>
  intro hg p hp
  have hg:=(Zen hg).1
  rcases hk with rfl | rfl
  ·obtain ⟨P,h1,h2,h3,rfl⟩:=(Zkm hp).1 rfl
   obtain ⟨P',q1,q2,q3⟩:=Zxd (fold:=fold) (ff:=ff) hl h2 (fun i x y p hx hy hp => ih i x y hx hy (hg y (q9_ hy)) (h3 i x p hx hp))
   refine ⟨_,.cat l' P' (by simp only [] at h1; omega) q1 q2,?_⟩
   rw [Zbr.seq,Zbr.seq,q3]
  ·obtain ⟨m,y,P,q,e,h0,h1,h2,h3,h4,rfl⟩:=(Zkm hp).2.1 rfl
   simp only at e
   subst e
   have hne:l' ≠ []:=by rintro rfl; simp at hl
   have e':=List.dropLast_concat_getLast hne
   have hlen:l'.dropLast.length = m.length:=by simp at hl ⊢; omega
   generalize l'.dropLast = m' at *
   generalize l'.getLast hne = y' at *
   subst e'
   obtain ⟨P',q1,q2,q3⟩:=Zxd (fold:=fold) (ff:=ff) hlen.symm h2 (fun i x z p hx hz hp => by
    have i1:=(q2_.1 hx).1
    have i2:=(q2_.1 hz).1
    exact ih i x z (by rw [ZdB i1]; exact hx) (by rw [ZdB i2]; exact hz) (hg z (Zse _ (q9_ hz))) (h3 i x p hx hp))
   obtain ⟨q',q4,q5⟩:=ih m.length y y' (by simp) (by rw [← hlen]; simp) (hg y' (by simp)) h4
   refine ⟨_,.alt m' P' y' q' (by omega) (by omega) q1 q2 q4,?_⟩
   rw [Zbr.alt,Zbr.alt,q3,q5]
 | rep lo hi m x y _ ih =>
  intro hg p hp
  have hg:=(Zen hg).1
  obtain ⟨q,h1,h2,h3,h4⟩:=(Zkm hp).2.2.1 rfl x rfl
  obtain ⟨q',q1,q2⟩:=ih (hg y (by simp)) h3
  rcases h4 with ⟨hm,rfl⟩ | ⟨hm,rfl⟩
  ·refine ⟨_,.rep lo hi m y q' h1 h2 hm q1,?_⟩
   rw [Zbr.rep,Zbr.rep,q2]
  ·simp only at hm
   subst hm
   refine ⟨_,.repA lo hi y q' h1 h2 q1,?_⟩
   rw [Zbr.wit _ _ _ _ _ (.inr rfl),Zbr.wit _ _ _ _ _ (.inr rfl),Zbr.rep,Zbr.rep,q2]
 | group r r' x y _ ih =>
  intro hg p hp
  have hr:=(Zen hg).2 rfl
  have hg:=(Zen hg).1
  obtain ⟨q,h3,rfl⟩:=(Zkm hp).2.2.2.1 rfl x rfl
  obtain ⟨q',q1,q2⟩:=ih (hg y (by simp)) h3
  refine ⟨_,.group r' y q' hr q1,?_⟩
  have e1:=congrArg Prod.fst q2
  have e2:=congrArg Prod.snd q2
  simp only [mapP] at e1 e2
  simp only [mapP,Z99,ZhA,Zev,Zbr.mvL,e1,e2]
  simp [er,sv]
 | look m x y hne ih =>
  intro hg p hp
  have hg:=(Zen hg).1
  obtain ⟨q,v,hm,hv,h3,rfl⟩:=(Zkm hp).2.2.2.2.1 rfl x rfl
  obtain ⟨q',q1,q2⟩:=ih (hg y (by simp)) h3
  refine ⟨_,.look m y q' v hm (ZHG hne hv) q1,?_⟩
  rw [Zbr.wit _ _ _ _ _ (.inl rfl),Zbr.wit _ _ _ _ _ (.inl rfl),q2]
 | atomic x y _ ih =>
  intro hg p hp
  have hg:=(Zen hg).1
  obtain ⟨q,h3,rfl⟩:=(Zkm hp).2.2.2.2.2 rfl x rfl
  obtain ⟨q',q1,q2⟩:=ih (hg y (by simp)) h3
  refine ⟨_,.atomic y q' q1,?_⟩
  rw [Zbr.wit _ _ _ _ _ (.inr rfl),Zbr.wit _ _ _ _ _ (.inr rfl),q2]
theorem ZoQ {fold:Bool} {ff:List R2 → List R2} {n:Z9} {p:Cp} (h:Cd fold ff n p):marks p.1 = p.2:=by
 have m0:∀ {i:Zl} {c:List Zl},i.Op ≠ 10 → marks (i :: c) = marks c:=by
  intro i c h
  simp [marks,h]
 have seq:∀ {P:List Cp},(∀ p ∈ P,marks p.1 = p.2) → marks (seqC P).1 = (seqC P).2:=by
  intro P
  induction P with
  | nil => intro _; rfl
  | cons d P ih =>
   intro h
   simp only [seqC,Z4t,Z4c,h d (Z9C ..),ih fun p hp => h p (Zay _ hp)]
 have pre:∀ {P:List Cp},(∀ p ∈ P,marks p.1 = p.2) → ∀ e,marks (preC e P).1 = (preC e P).2:=by
  intro P
  induction P with
  | nil => intro _ e; rfl
  | cons d P ih =>
   intro h e
   simp only [preC]
   rw [m0 (by simp [sp]),Z4t,Z4c,m0 (by simp [jp]),Z4c,h d (Z9C ..),ih fun p hp => h p (Zay _ hp)]
 have spz':∀ z a b,(spz z a b).Op ≠ 10:=by intro z a b; cases z <;> simp [spz,sp]
 have opt:∀ {z:Bool} {d:Cp},marks d.1 = d.2 → ∀ (m:Nat) (e:Int),marks (optC z d e m).1 = (optC z d e m).2:=by
  intro z d h m
  induction m with
  | zero => intro e; rfl
  | succ m ih =>
   intro e
   simp only [optC]
   rw [m0 (spz' _ _ _),Z4t,Z4c,Z4c,h,ih]
 have rep:∀ {lo hi:Int} {z:Bool} {d:Cp},marks d.1 = d.2 → marks (repC lo hi z d).1 = (repC lo hi z d).2:=by
  intro lo hi z d h
  unfold repC
  apply seq
  intro p hp
  simp only [Z5G,Zpm,or_false] at hp
  rcases hp with rfl | rfl
  ·exact seq fun q hq => by rw [Zw1 hq]; exact h
  ·split
   ·simp only [Z77]
    have m1:∀ c,marks (mk 0 :: c) = marks c + 1:=fun c => by simp [marks,mk]
    rw [m0 (spz' _ _ _),m1,Z4t,Z4c,h,m0 (by simp [gd]),m0 (by simp [jp])]
    rfl
   ·exact opt h _ _
 have wit:∀ {op a c e:Int} {d:Cp},op ≠ 10 → marks d.1 = d.2 → marks (Z3X op a c e d).1 = (Z3X op a c e d).2:=by
  intro op a c e d ho h
  simp only [Z3X]
  rw [m0 ho,Z4t,Z4c,h,m0 (by simp [dn])]
  simp [marks]
 induction h with
 | none => rfl
 | set l _ => rfl
 | cat l P _ hP _ ih => exact seq (Zap (R:=fun _ _ => True) hP ih)
 | alt l P y q _ _ hP _ _ ih ih2 =>
  have h:=Zap (R:=fun _ _ => True) hP ih
  simp only [altC,Z4t,Z4c,pre h,ih2,(Zgf P ((preC 0 P).1.length + q.1.length) 0).2]
 | rep lo hi m x p _ _ _ _ ih => exact rep ih
 | repA lo hi x p _ _ _ ih => exact wit (by omega) (rep ih)
 | group r x p _ _ ih =>
  rw [m0 (by simp [sv]),Z4t,Z4c,ih,m0 (by simp [sv])]
  simp [marks]
 | back r _ => rfl
 | look m x p v _ _ _ ih => exact wit (by omega) ih
 | atomic x p _ ih => exact wit (by omega) ih
 | edge k _ => rfl
theorem Zk9 (p:Cp):marks (whole p) = marks p.1:=by
 unfold whole
 rw [show ∀ c,sv 0 :: c = [sv 0] ++ c from fun _ => rfl,Z4t,Z4t,Z4c]
 show 0 + (marks p.1 + 0) = marks p.1
 omega
def Loc (N:Int) (c:List Zl) (i:Nat) (x:Zl):Prop :=
 x.Op ≠ 0 ∧ (x.Op = 2 → 0 ≤ x.A ∧ x.A ≤ N) ∧ (x.Op = 3 → (i:Int) < x.A ∧ (i:Int) < x.B ∧ x.A ≤ N ∧ x.B ≤ N ∧ min x.A x.B = (i:Int) + 1) ∧
 (x.Op = 7 ∨ x.Op = 8 → (i:Int) + 1 < x.B ∧ x.B ≤ N ∧ ∃ j y,x.B = (j:Nat) + 1 ∧ c[j]? = some y ∧ y.Op = 9) ∧
 (x.Op = 10 → x.A = marks (c.take i)) ∧
 (x.Op = 11 → 0 ≤ x.A ∧ x.A < marks (c.take i) ∧ ∃ y j z,c[i + 1]? = some y ∧ y.Op = 2 ∧ y.A = (j:Nat) ∧ c[j]? = some z ∧ z.Op = 3)
def Seg (N:Int) (L:List Zl) (k:Nat) (s:List Zl):Prop:=∀ (i:Nat) x,s[i]? = some x → Loc N L (k + i) x
def Va (N:Int) (c:List Zl):Prop:=Seg N c 0 c
theorem Seg.nil {N:Int} {L:List Zl} {k:Nat}:Seg N L k []:=by intro i x h; simp at h
theorem Seg.cons {N:Int} {L:List Zl} {k:Nat} {x:Zl} {s:List Zl} (h:Loc N L k x) (hs:Seg N L (k + 1) s):Seg N L k (x :: s):=by
 intro i y hy
 cases i with
 | zero => simp at hy; subst hy; exact h
 | succ i =>
  have:=hs i y (by simpa using hy)
  rwa [show k + 1 + i = k + (i + 1) by omega] at this
theorem Seg.app {N:Int} {L:List Zl} {k:Nat} {s t:List Zl} (h:Seg N L k s) (ht:Seg N L (k + s.length) t):Seg N L k (s ++ t):=by
 intro i y hy
 by_cases hi:i < s.length
 ·rw [ZdB hi] at hy
  exact h i y hy
 ·rw [ZbU (by omega)] at hy
  have:=ht _ y hy
  rwa [show k + s.length + (i - s.length) = k + i by omega] at this
theorem Loc.mono {N M:Int} {c:List Zl} {i:Nat} {x:Zl} (h:Loc N c i x) (hN:N ≤ M):Loc M c i x:=by
 obtain ⟨h0,h2,h3,h7,h10,h11⟩:=h
 refine ⟨h0,fun e => ?_,fun e => ?_,fun e => ?_,h10,h11⟩
 ·have:=h2 e; omega
 ·have:=h3 e; omega
 ·obtain ⟨a,b,d⟩:=h7 e
  exact ⟨a,by omega,d⟩
theorem Zs8 (u c w:List Zl) (a l:Int) (i:Nat) (hi:i ≤ c.length):marks ((u ++ (mvL a l c ++ w)).take (u.length + i)) = marks u + marks (c.take i):=by
 rw [List.take_append,Zw0 (by omega),show u.length + i - u.length = i by omega,Z4t,ZDJ (by rw [Z1o]; exact hi)]
 congr 1
 unfold mvL
 rw [← Zw9]
 exact Z4c a l _
theorem Zs5 (u c w:List Zl) (a l:Int) (i:Nat) {y:Zl} (h:c[i]? = some y):(u ++ (mvL a l c ++ w))[u.length + i]? = some (mv a l y):=by
 have hi:=(q2_.1 h).1
 rw [ZbU (by omega),show u.length + i - u.length = i by omega,ZdB (by rw [Z1o]; exact hi)]
 unfold mvL
 rw [q7_,h]
 rfl
theorem ZcI {N M:Int} {c u w L:List Zl} {a l:Int} (hc:Va N c) (hL:L = u ++ (mvL a l c ++ w)) (ha:a = u.length) (hl:l = marks u) (hM:a + N ≤ M) {k:Nat} (hk:k = u.length):Seg M L k (mvL a l c):=by
 subst hk hL
 intro i x' hx'
 unfold mvL at hx'
 rw [q7_] at hx'
 obtain ⟨x,hx,rfl⟩:=q6_.1 hx'
 have hi:=(q2_.1 hx).1
 have h:=hc i x hx
 rw [Zfq] at h
 obtain ⟨h0,h2,h3,h7,h10,h11⟩:=h
 unfold Loc
 rw [Zig,Zs8 _ _ _ _ _ _ (by omega)]
 refine ⟨h0,fun e => ?_,fun e => ?_,fun e => ?_,fun e => ?_,fun e => ?_⟩
 ·have:=h2 e
  have q:(mv a l x).A = x.A + a:=by unfold mv; rw [if_pos e]
  rw [q]; omega
 ·have:=h3 e
  have q1:(mv a l x).A = x.A + a:=by unfold mv; rw [if_neg (by omega),if_pos e]
  have q2:(mv a l x).B = x.B + a:=by unfold mv; rw [if_neg (by omega),if_pos e]
  rw [q1,q2]; omega
 ·obtain ⟨g1,g2,j,y,g3,g4,g5⟩:=h7 e
  have q2:(mv a l x).B = x.B + a:=by unfold mv; rw [if_neg (by omega),if_neg (by omega),if_pos e]
  rw [q2]
  exact ⟨by omega,by omega,u.length + j,_,by omega,Zs5 u c w a l j g4,by rw [Zig]; exact g5⟩
 ·have:=h10 e
  have q:(mv a l x).A = x.A + l:=by unfold mv; rw [if_neg (by omega),if_neg (by omega),if_neg (by omega),if_pos (.inl e)]
  rw [q]; omega
 ·obtain ⟨g1,g2,y,j,z,g3,g4,g5,g6,g7⟩:=h11 e
  have q:(mv a l x).A = x.A + l:=by unfold mv; rw [if_neg (by omega),if_neg (by omega),if_neg (by omega),if_pos (.inr e)]
  have q2:(mv a l y).A = y.A + a:=by unfold mv; rw [if_pos g4]
  rw [q]
  exact ⟨by omega,by omega,_,u.length + j,_,by rw [Znt]; exact Zs5 u c w a l (i + 1) g3,by rw [Zig]; exact g4,by rw [q2]; omega,Zs5 u c w a l j g6,by rw [Zig]; exact g7⟩
theorem ZvJ {N:Int} {L:List Zl} {k:Nat} {a b:Int} (h:(k:Int) < a ∧ (k:Int) < b ∧ a ≤ N ∧ b ≤ N ∧ min a b = (k:Int) + 1):Loc N L k (sp a b):=⟨by simp [sp],by simp [sp],fun _ => h,by simp [sp],by simp [sp],by simp [sp]⟩
theorem Zxg {N:Int} {L:List Zl} {k:Nat} {a b:Int} (z:Bool) (h:(k:Int) < a ∧ (k:Int) < b ∧ a ≤ N ∧ b ≤ N ∧ min a b = (k:Int) + 1):Loc N L k (spz z a b):=by
 cases z
 ·exact ZvJ h
 ·exact ZvJ (by omega)
theorem ZC4 {N:Int} {L:List Zl} {k:Nat} {a:Int} (h:0 ≤ a ∧ a ≤ N):Loc N L k (jp a):=⟨by simp [jp],fun _ => h,by simp [jp],by simp [jp],by simp [jp],by simp [jp]⟩
theorem Ziw {N:Int} {L:List Zl} {k:Nat} {x:Zl} (h:x.Op = 1 ∨ x.Op = 4 ∨ x.Op = 5 ∨ x.Op = 6 ∨ x.Op = 9):Loc N L k x:=⟨by omega,fun e => by omega,fun e => by omega,fun e => by omega,fun e => by omega,fun e => by omega⟩
def Rc (d:Cp):Prop:=Va d.1.length d.1 ∧ marks d.1 = d.2
theorem Z4n {i:Zl} {c:List Zl} (h:i.Op ≠ 10):marks (i :: c) = marks c:=by simp [marks,h]
theorem Zne:marks [] = 0:=rfl
theorem Zrl:∀ {P:List Cp},(∀ p ∈ P,Rc p) → Rc (seqC P)
 | [],_ => ⟨Seg.nil,rfl⟩
 | d :: r,h => by
  obtain ⟨h1,h2⟩:=h d (Z9C ..)
  obtain ⟨h3,h4⟩:=Zrl (P:=r) fun p hp => h p (Zay _ hp)
  refine ⟨?_,by simp only [seqC,Z4t,Z4c,h2,h4]⟩
  simp only [seqC]
  refine Seg.app ?_ ?_
  ·intro i x hx
   have hi:=(q2_.1 hx).1
   have:=ZcI (N:=d.1.length) (M:=((d.1 ++ mvL d.1.length d.2 (seqC r).1).length:Nat)) (u:=[]) (w:=mvL d.1.length d.2 (seqC r).1) (a:=0) (l:=0) h1 rfl rfl rfl (by simp only [q3_]; omega) (k:=0) rfl
   have e:mvL 0 0 d.1 = d.1:=by
    unfold mvL
    have:mv 0 0 = id:=by
     funext i
     unfold mv
     simp
    rw [this,List.map_id]
   rw [e] at this
   exact this i x hx
  ·exact ZcI (u:=d.1) (w:=[]) h3 (by simp) rfl (by rw [h2]) (by simp only [q3_,Z1o]; omega) (by omega)
theorem ZCF:∀ {P:List Cp},(∀ p ∈ P,Rc p) → ∀ e N:Int,(preC e P).1.length ≤ e → e ≤ N → Va N (preC e P).1 ∧ marks (preC e P).1 = (preC e P).2
 | [],_,_,_,_,_ => ⟨Seg.nil,rfl⟩
 | d :: r,h,e,N,h5,h6 => by
  obtain ⟨h1,h2⟩:=h d (Z9C ..)
  simp only [preC,q3_,q5_,Z1o] at h5
  obtain ⟨h3,h4⟩:=ZCF (P:=r) (fun p hp => h p (Zay _ hp)) (e - (d.1.length + 2)) (N - (d.1.length + 2)) (by omega) (by omega)
  refine ⟨?_,by simp only [preC]; rw [Z4n (by simp [sp]),Z4t,Z4c,Z4n (by simp [jp]),Z4c,h2,h4]⟩
  simp only [preC]
  refine Seg.cons (ZvJ ⟨by omega,by omega,by omega,by omega,by omega⟩) (Seg.app ?_ (Seg.cons (ZC4 ⟨by omega,by omega⟩) ?_))
  ·exact ZcI (u:=[sp 1 (d.1.length + 2)]) (w:=jp e :: mvL (d.1.length + 2) d.2 (preC (e - (d.1.length + 2)) r).1) h1 rfl (by simp) rfl (by omega) rfl
  ·refine ZcI (u:=sp 1 (d.1.length + 2) :: (mvL 1 0 d.1 ++ [jp e])) (w:=[]) h3 (by simp) (by simp [Z1o]; omega) ?_ (by omega) (by simp [Z1o]; omega)
   rw [Z4n (by simp [sp]),Z4t,Z4c,Z4n (by simp [jp]),Zne,h2,ZbF]
theorem ZHX {P:List Cp} {d:Cp} (h:∀ p ∈ P,Rc p) (hd:Rc d):Rc (altC P d):=by
 obtain ⟨d1,d2⟩:=hd
 have l1:=Zgf P ((preC 0 P).1.length + d.1.length) 0
 obtain ⟨h3,h4⟩:=ZCF h ((preC 0 P).1.length + d.1.length) ((altC P d).1.length) (by omega) (by simp only [altC,q3_,Z1o]; omega)
 refine ⟨?_,by simp only [altC,Z4t,Z4c,h4,l1.2,d2]⟩
 have hlen:((altC P d).1.length:Int) = (preC 0 P).1.length + d.1.length:=by simp only [altC,q3_,Z1o]; omega
 simp only [altC] at hlen h3 ⊢
 refine Seg.app ?_ ?_
 ·have:=ZcI (M:=((preC ((preC 0 P).1.length + d.1.length) P).1 ++ mvL (preC 0 P).1.length (preC 0 P).2 d.1).length) (u:=[]) (w:=mvL (preC 0 P).1.length (preC 0 P).2 d.1) (a:=0) (l:=0) h3 rfl rfl rfl (by omega) (k:=0) rfl
  have e:∀ c,mvL 0 0 c = c:=by
   intro c
   unfold mvL
   have:mv 0 0 = id:=by
    funext i
    unfold mv
    simp
   rw [this,List.map_id]
  rwa [e] at this
 ·exact ZcI (u:=(preC ((preC 0 P).1.length + d.1.length) P).1) (w:=[]) d1 (by simp) (by omega) (by rw [h4,l1.2]) (by omega) (by omega)
theorem ZHY {z:Bool} {d:Cp} (hd:Rc d):∀ (m:Nat) (e N:Int),(optC z d e m).1.length ≤ e → e ≤ N → Va N (optC z d e m).1 ∧ marks (optC z d e m).1 = (optC z d e m).2:=by
 obtain ⟨h1,h2⟩:=hd
 intro m
 induction m with
 | zero => intro e N _ _; exact ⟨Seg.nil,rfl⟩
 | succ m ih =>
  intro e N h5 h6
  simp only [optC,q3_,q5_,Z1o] at h5
  obtain ⟨h3,h4⟩:=ih (e - (d.1.length + 1)) (N - (d.1.length + 1)) (by omega) (by omega)
  have hz:(spz z 1 e).Op ≠ 10:=by cases z <;> simp [spz,sp]
  refine ⟨?_,by simp only [optC]; rw [Z4n hz,Z4t,Z4c,Z4c,h2,h4]⟩
  simp only [optC]
  refine Seg.cons (Zxg z ⟨by omega,by omega,by omega,by omega,by omega⟩) (Seg.app ?_ ?_)
  ·exact ZcI (u:=[spz z 1 e]) (w:=mvL (d.1.length + 1) d.2 (optC z d (e - (d.1.length + 1)) m).1) h1 rfl (by simp) (by rw [Z4n hz]; rfl) (by omega) rfl
  ·refine ZcI (u:=spz z 1 e :: mvL 1 0 d.1) (w:=[]) h3 (by simp) (by simp [Z1o]) ?_ (by omega) (by simp [Z1o]; omega)
   rw [Z4n hz,Z4c,h2]
theorem ZFq {z:Bool} {d:Cp} (hd:Rc d):Rc (Z77 z d):=by
 obtain ⟨h1,h2⟩:=hd
 have hz:∀ a b,(spz z a b).Op ≠ 10:=by intro a b; cases z <;> simp [spz,sp]
 have hz3:∀ a b,(spz z a b).Op = 3:=by intro a b; cases z <;> simp [spz,sp]
 have m1:∀ c,marks (mk 0 :: c) = marks c + 1:=fun c => by simp [marks,mk]
 have mm:marks (Z77 z d).1 = (Z77 z d).2:=by
  simp only [Z77]
  rw [Z4n (hz _ _),m1,Z4t,Z4c,h2,Z4n (by simp [gd]),Z4n (by simp [jp])]
  rfl
 refine ⟨?_,mm⟩
 have hlen:((Z77 z d).1.length:Int) = d.1.length + 4:=by simp only [Z77,q3_,q5_,q8_,Z1o]; omega
 generalize hN:((Z77 z d).1.length:Int) = N at *
 simp only [Z77]
 refine Seg.cons (Zxg z ⟨by omega,by omega,by omega,by omega,by omega⟩) (Seg.cons ?_ (Seg.app ?_ (Seg.cons ?_ (Seg.cons (ZC4 ⟨by omega,by omega⟩) Seg.nil))))
 ·refine ⟨by simp [mk],by simp [mk],by simp [mk],by simp [mk],fun _ => ?_,by simp [mk]⟩
  show (0:Int) = _
  simp [marks,hz]
 ·exact ZcI (u:=[spz z 1 (d.1.length + 4),mk 0]) (w:=[gd 0,jp 0]) h1 rfl (by simp) (by rw [Z4n (hz _ _),m1]; rfl) (by omega) rfl
 ·refine ⟨by simp [gd],by simp [gd],by simp [gd],by simp [gd],by simp [gd],fun _ => ⟨Zew _,?_,jp 0,0,spz z 1 (d.1.length + 4),?_,rfl,rfl,rfl,hz3 _ _⟩⟩
  ·show (0:Int) < _
   have e:(spz z 1 (d.1.length + 4) :: mk 0 :: (mvL 2 1 d.1 ++ [gd 0,jp 0])).take (0 + 1 + 1 + (mvL 2 1 d.1).length) = spz z 1 (d.1.length + 4) :: mk 0 :: mvL 2 1 d.1:=by
    rw [show 0 + 1 + 1 + (mvL 2 1 d.1).length = (mvL 2 1 d.1).length + 1 + 1 by omega,ZvZ,ZvZ,ZDJ (by omega),List.take_length]
   rw [e,Z4n (hz _ _),m1]
   omega
  ·rw [show 0 + 1 + 1 + (mvL 2 1 d.1).length + 1 = (mvL 2 1 d.1).length + 1 + 1 + 1 by omega,Zhz,Zhz,ZbU (by omega),show (mvL 2 1 d.1).length + 1 - (mvL 2 1 d.1).length = 1 by omega]
   rfl
theorem ZCG {lo hi:Int} {z:Bool} {d:Cp} (hd:Rc d):Rc (repC lo hi z d):=by
 unfold repC
 apply Zrl
 intro p hp
 simp only [Z5G,Zpm,or_false] at hp
 rcases hp with rfl | rfl
 ·exact Zrl fun q hq => by rw [Zw1 hq]; exact hd
 ·split
  ·exact ZFq hd
  ·have l1:=Zer z d (hi - lo).toNat ((optC z d 0 (hi - lo).toNat).1.length) 0
   have l2:=Zer z d (hi - lo).toNat 0 0
   exact ZHY hd _ _ _ (by omega) (by omega)
theorem Zsg {op a c e:Int} {d:Cp} (ho:op = 7 ∨ op = 8) (hd:Rc d):Rc (Z3X op a c e d):=by
 obtain ⟨h1,h2⟩:=hd
 have hlen:((Z3X op a c e d).1.length:Int) = d.1.length + 2:=by simp only [Z3X,q3_,q5_,q8_,Z1o]; omega
 refine ⟨?_,by simp only [Z3X]; rw [Z4n (by show ¬ op = 10; omega),Z4t,Z4c,h2,Z4n (by simp [dn]),Zne,ZbF]⟩
 generalize hN:((Z3X op a c e d).1.length:Int) = N at *
 simp only [Z3X]
 refine Seg.cons ?_ (Seg.app ?_ (Seg.cons (Ziw (by simp [dn])) Seg.nil))
 ·refine ⟨by show ¬ op = 0; omega,fun q => absurd q (by show ¬ op = 2; omega),fun q => absurd q (by show ¬ op = 3; omega),fun _ => ⟨by show _ < (d.1.length:Int) + 2; omega,by show (d.1.length:Int) + 2 ≤ N; omega,d.1.length + 1,dn,by show (d.1.length:Int) + 2 = _; omega,?_,rfl⟩,fun q => absurd q (by show ¬ op = 10; omega),fun q => absurd q (by show ¬ op = 11; omega)⟩
  rw [Zhz,ZbU (by rw [Z1o]; exact Z2x _),Z1o,Nat.sub_self]
  rfl
 ·refine ZcI (u:=[⟨op,a,d.1.length + 2,c,e,[]⟩]) (w:=[dn]) h1 rfl (by simp) ?_ (by omega) rfl
  rw [Z4n (by show ¬ op = 10; omega)]
  rfl
theorem ZI2 {fold:Bool} {ff:List R2 → List R2} {n:Z9} {p:Cp} (h:Cd fold ff n p):Rc p:=by
 induction h with
 | none => exact ⟨Seg.nil,rfl⟩
 | set l _ => exact ⟨Seg.cons (Ziw (by simp)) Seg.nil,rfl⟩
 | cat l P _ hP _ ih => exact Zrl (Zap (R:=fun _ _ => True) hP ih)
 | alt l P y q _ _ hP _ _ ih ih2 => exact ZHX (Zap (R:=fun _ _ => True) hP ih) ih2
 | rep lo hi m x p _ _ _ _ ih => exact ZCG ih
 | repA lo hi x p _ _ _ ih => exact Zsg (.inr rfl) (ZCG ih)
 | group r x p _ _ ih =>
  obtain ⟨h1,h2⟩:=ih
  refine ⟨?_,?_⟩
  ·refine Seg.cons (Ziw (by simp [sv])) (Seg.app ?_ (Seg.cons (Ziw (by simp [sv])) Seg.nil))
   exact ZcI (u:=[sv (2 * r)]) (w:=[sv (2 * r + 1)]) h1 rfl (by simp) rfl (by simp only [q3_,q5_,q8_,Z1o]; omega) rfl
  ·simp only
   rw [Z4n (by simp [sv]),Z4t,Z4c,h2,Z4n (by simp [sv]),Zne,ZbF]
 | back r _ => exact ⟨Seg.cons (Ziw (by simp)) Seg.nil,rfl⟩
 | look m x p v _ _ _ ih => exact Zsg (.inl rfl) ih
 | atomic x p _ ih => exact Zsg (.inr rfl) ih
 | edge k _ => exact ⟨Seg.cons (Ziw (by simp)) Seg.nil,rfl⟩
end Go.Proofs.YtocikhhkicahoaaDoor.N2
end
