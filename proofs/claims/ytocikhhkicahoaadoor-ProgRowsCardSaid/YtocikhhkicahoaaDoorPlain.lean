/- The program's parser is the plain function. No condition. -/
import Derived.Test.YtocikhhkicahoaaDoorPlainA
import Derived.Test.YtocikhhkicahoaaDoorTypB
import Derived.Test.YtocikhhkicahoaaDoorTypC

set_option linter.unusedSimpArgs false
set_option linter.unusedVariables false
set_option linter.defProp false
section
namespace Go.Proofs.YtocikhhkicahoaaDoor.N2
open Go Go.Abs Go.Proofs.Unis Go.Proofs.Norm
set_option maxRecDepth 100000
theorem Zrh {a b:ByteArray}:seq a b = true ↔ a = b:=by
 unfold seq
 rw [← beq_toListBytes]
 obtain ⟨⟨x⟩⟩:=a
 obtain ⟨⟨y⟩⟩:=b
 show ((⟨x⟩:Array UInt8) == ⟨y⟩) = true ↔ _
 simp
theorem Z4b {α:Type} (l:List α) (i:Nat):lget l (i:Int) = l[i]?:=by simp [lget]
def bl (l:List UInt8):List Int:=l.map fun b => (b.toNat:Int)
theorem Zcf (l:List UInt8):(bl l).length = l.length:=by simp [bl]
theorem Zzx (x:ByteArray):Z4i x = bl x.data.toList:=rfl
theorem ZFl (l:List UInt8):strI (bl l) = ⟨l.toArray⟩:=by
 unfold strI bl
 rw [Zph]
 have:(fun n:Int => UInt8.ofNat n.toNat) ∘ (fun b:UInt8 => (b.toNat:Int)) = id:=by
  funext b
  simp
 rw [this,List.map_id]
theorem ZC5 (l:List UInt8) (i j:Nat) (h:i ≤ j) (hj:j ≤ l.length):lsl (bl l) (i:Int) (j:Int) = some (bl ((l.drop i).take (j - i))):=by
 unfold lsl
 rw [if_pos (by rw [Zcf]; omega)]
 simp only [Int.toNat_natCast,bl,← Zw9,← List.map_drop,List.drop_take]
theorem ZxO (l:List UInt8) (h:l ≠ []):Z96 (bl l) = some (((Lib.decodeGo ⟨l.toArray⟩).1:Int),((Lib.decodeGo ⟨l.toArray⟩).2:Int)):=by
 refine Z1l (fun _ _ ha hb => RRun.uniq ZgC (ha .sh) (hb .sh)) fun o => ?_
 have e:EE 76 [(.p (.lst o ((bl l).map (eI .u8))))] [] = some ((.p (.tup [(.v (.int .i32 (Lib.decodeGo ⟨l.toArray⟩).1)),(.v (.int .i64 (Lib.decodeGo ⟨l.toArray⟩).2))])),[]):=by
  rw [show EE 76 = E PP XX HH 76 from rfl,ZsS (P:=PP) (X:=XX) (H:=HH) (f:=76) (m:=Zod) (by kernel_rfl)]
  have hb:(bl l).map (eI .u8) = l.map fun b => .v (.int .u8 b.toNat):=by
   unfold bl
   rw [Zph]
   rfl
  rw [hb]
  cases l with
  | nil => exact absurd rfl h
  | cons a r =>
   show (ZgD ((a :: r).map fun b => .v (.int .u8 b.toNat))).map _ = _
   rw [Zpy]
   rfl
 exact ⟨_,e,[],by simp⟩
theorem ZvO (l:List UInt8) (i:Nat) (h:i < l.length):ZdS (bl l) (i:Int) = some ((U (l.drop i)).1,((U (l.drop i)).2:Int)):=by
 have hne:l.drop i ≠ []:=by
  intro e
  have:=congrArg List.length e
  simp at this
  omega
 apply Zs4
 unfold Zgt
 rw [if_neg (by simp),if_neg (by simp [Zcf]; omega)]
 unfold ZcZ
 have hl:lsl (bl l) (i:Int) ((bl l).length:Int) = some (bl (l.drop i)):=by
  rw [Zcf,ZC5 l i l.length (by omega) (Z2x _),Zw0 (by simp)]
 rw [hl,q0_,ZxO _ hne,q0_]
 have hd:=ZFv hne
 have hU:U (l.drop i) = ZbS (nth (l.drop i) 0) (Lib.decodeGo ⟨(l.drop i).toArray⟩):=by
  rw [hd]; rfl
 have h0:nth (l.drop i) 0 = (l.getD i 0).toNat:=by simp [nth]
 have hg:lget (bl l) (i:Int) = some (((l.getD i 0).toNat:Nat):Int):=by
  rw [Z4b,bl,q7_,Z87,q4_ h]
  rfl
 have hlt:(l.getD i 0).toNat < 256:=UInt8.toNat_lt _
 have hb:=(ZsP ⟨(l.drop i).toArray⟩).1
 rw [hU,ZbS]
 simp only [beq_iff_eq]
 have r6:Z9f ((Lib.decodeGo ⟨(l.drop i).toArray⟩).1:Int) ((Lib.decodeGo ⟨(l.drop i).toArray⟩).2:Int) = some (((Lib.decodeGo ⟨(l.drop i).toArray⟩).1:Int),((Lib.decodeGo ⟨(l.drop i).toArray⟩).2:Int)):=by
  unfold Z9f
  rw [wrap_i64 (by omega) (by omega)]
 by_cases h1:(Lib.decodeGo ⟨(l.drop i).toArray⟩).1 = 65533
 ·rw [if_pos (by omega)]
  by_cases h2:(Lib.decodeGo ⟨(l.drop i).toArray⟩).2 = 1
  ·rw [if_pos (by omega),if_pos ⟨h1,h2⟩]
   unfold Zd0
   rw [hg,q0_,wrap_i64 (n:=((l.getD i 0).toNat:Int)) (by omega) (by omega),wrap_i64 (by omega) (by omega),h0]
   rfl
  ·rw [if_neg (by omega),if_neg (fun h => h2 h.2),r6]
 ·rw [if_neg (by omega),if_neg (fun h => h1 h.1),r6]
def At (l:List UInt8) (s:St):Prop:=∃ i:Nat,i ≤ l.length ∧ s.pos = (i:Int) ∧ s.us = unis (l.drop i)
theorem At.nil {l:List UInt8} {s:St} (h:At l s):s.us = [] ↔ s.pos = l.length:=by
 obtain ⟨i,h1,h2,h3⟩:=h
 rw [h3,h2]
 constructor
 ·intro e
  by_cases hn:l.drop i = []
  ·have:=congrArg List.length hn
   simp at this
   omega
  ·rw [Zbf hn] at e
   simp at e
 ·intro e
  rw [Zgg (by omega)]
  rfl
theorem At.len {l:List UInt8} {s:St} (h:At l s):s.us.length ≤ l.length ∧ 0 ≤ s.pos ∧ s.pos ≤ l.length:=by
 obtain ⟨i,h1,h2,h3⟩:=h
 have:=Zwt _ (l.drop i) (Z2x _)
 rw [Zns] at this
 rw [h3]
 omega
theorem At.cons {l:List UInt8} {s:St} (h:At l s) (hn:s.us ≠ []):∃ (i:Nat),i < l.length ∧ s.pos = (i:Int) ∧ peek s.us = (U (l.drop i)).1 ∧ (take s).pos = (i:Int) + ((U (l.drop i)).2:Int) ∧ (take s).us = unis (l.drop (i + (U (l.drop i)).2)) ∧ i + (U (l.drop i)).2 ≤ l.length ∧ s.us.length = (take s).us.length + 1:=by
 have hp:s.pos ≠ l.length:=fun e => hn (h.nil.2 e)
 obtain ⟨i,h1,h2,h3⟩:=h
 have hi:i < l.length:=by omega
 have hne:l.drop i ≠ []:=by
  intro e
  have:=congrArg List.length e
  simp at this
  omega
 have hz:=Zzn hne
 rw [Zns] at hz
 rw [Zbf hne] at h3
 refine ⟨i,hi,h2,by rw [h3]; rfl,?_,?_,by omega,?_⟩
 ·unfold take
  rw [h3]
  show s.pos + _ = _
  rw [h2]
 ·unfold take
  rw [h3]
  show unis _ = _
  rw [ZDK]
 ·unfold take
  rw [h3]
  rfl
theorem At.take {l:List UInt8} {s:St} (h:At l s):At l (take s):=by
 by_cases hn:s.us = []
 ·have:N2.take s = s:=by unfold N2.take; rw [hn]
  rw [this]
  exact h
 ·obtain ⟨i,h1,h2,h3,h4,h5,h6,h7⟩:=h.cons hn
  exact ⟨i + (U (l.drop i)).2,h6,by rw [h4]; omega,h5⟩
theorem At.range {l:List UInt8} {s:St} (h:At l s):peek s.us = -1 ∧ s.us = [] ∨ 0 ≤ peek s.us ∧ peek s.us ≤ 1114367 ∧ s.us ≠ []:=by
 by_cases hn:s.us = []
 ·exact .inl ⟨by rw [hn]; rfl,hn⟩
 ·obtain ⟨i,_,_,h3,_⟩:=h.cons hn
  have:=ZEC (l.drop i)
  exact .inr ⟨by omega,by omega,hn⟩
theorem Z9B {l:List UInt8} {s:St} (h:At l s) (g d:Int) (rf:List ZA) (f:Z16):Z2I ⟨bl l,s.pos,g,d,rf,f⟩ = some (peek s.us):=by
 apply Zk4
 unfold Z9I
 by_cases hn:s.us = []
 ·have:=h.nil.1 hn
  rw [if_pos (by simp [Zcf]; omega),hn]
  rfl
 ·obtain ⟨i,h1,h2,h3,_⟩:=h.cons hn
  rw [if_neg (by simp [Zcf]; omega)]
  unfold Z8c
  simp only [h2]
  rw [ZvO l i h1,q0_,h3]
theorem ZcN {l:List UInt8} {s:St} (h:At l s) (hl:l.length ≤ 100000) (hn:s.us ≠ []):Z3o (bl l) s.pos = some (peek s.us,(take s).pos):=by
 obtain ⟨i,h1,h2,h3,h4,h5,h6,_⟩:=h.cons hn
 apply Zk5
 unfold Z9J
 rw [h2,ZvO l i h1,q0_,h3,h4,wrap_i64 (by omega) (by omega)]
theorem Zxc:∀ (w:List Int) (us t:List Un),isW w us = some t → us.length = t.length + w.length
 | [],us,t,h => by
  simp only [isW,q1_] at h
  subst h
  rfl
 | c :: w,[],t,h => by simp [isW] at h
 | c :: w,(u,n) :: us,t,h => by
  simp only [isW] at h
  split at h
  ·have:=Zxc w us t h
   simp only [q5_]
   omega
  ·simp at h
theorem Zsr:∀ (w:List UInt8) (l:List UInt8),(∀ c ∈ w,c.toNat < 128) → isW (bl w) (unis l) = if l.take w.length = w then some (unis (l.drop w.length)) else none
 | [],l,_ => by simp [bl,isW]
 | c :: w,[],_ => by simp [bl,isW,Zjd]
 | c :: w,x :: l,hw => by
  have hc:=hw c (Z9C ..)
  have hc':c.toNat < 128:=hc
  show (isW ((c.toNat:Int) :: bl w) (unis (x :: l))) = _
  by_cases hx:x.toNat < 128
  ·rw [Zdj hx]
   simp only [isW,q5_,ZvZ,List.drop_succ_cons,Zj8]
   by_cases he:x = c
   ·subst he
    simp only [if_true,true_and]
    exact Zsr w l fun d hd => hw d (Zay _ hd)
   ·have:¬ ((x.toNat:Int) = (c.toNat:Int)):=fun e => he (UInt8.toNat_inj.1 (by omega))
    rw [if_neg this,if_neg (fun e => he e.1)]
  ·have hU:=Zzm (c:=x) (l:=l) (by omega)
   rw [Zbf (by simp)]
   simp only [isW,q5_,ZvZ,Zj8]
   rw [if_neg (by omega),if_neg (fun e => by rw [e.1] at hx; omega)]
theorem Zwv {l:List UInt8} {s:St} (h:At l s) (hl:l.length ≤ 100000) (w:List UInt8) (hw:∀ c ∈ w,c.toNat < 128) (hwl:w.length ≤ 100) :
  Z1L ⟨w.toArray⟩ (bl l) s.pos = some (match wd (bl w) s with | some s1 => (true,s1.pos) | none => (false,s.pos)) ∧ ∀ s1,wd (bl w) s = some s1 → At l s1 ∧ s.us.length = s1.us.length + w.length ∧ s1.gr = s.gr ∧ s1.rf = s.rf:=by
 obtain ⟨i,h1,h2,h3⟩:=h
 have hW:=Zsr w (l.drop i) hw
 have hsz:(⟨w.toArray⟩:ByteArray).size = w.length:=by show w.toArray.size = _; simp
 have hwd:wd (bl w) s = if (l.drop i).take w.length = w then some { s with us:=unis ((l.drop i).drop w.length),pos:=s.pos + w.length } else none:=by
  unfold wd
  rw [h3,hW]
  by_cases hc:(l.drop i).take w.length = w
  ·rw [if_pos hc,if_pos hc]
   simp only [Zcf]
  ·rw [if_neg hc,if_neg hc]
 have hlen:(l.drop i).take w.length = w → i + w.length ≤ l.length:=by
  intro e
  have:=congrArg List.length e
  simp at this
  omega
 constructor
 ·apply Zk6
  unfold Z9K
  rw [hwd,h2,Zcf,hsz,wrap_i64 (n:=(l.length:Int) - i) (by omega) (by omega),wrap_i64 (n:=(i:Int) + (w.length:Int)) (by omega) (by omega)]
  by_cases hk:i + w.length ≤ l.length
  ·rw [if_neg (by simp; omega),show (i:Int) + (w.length:Int) = ((i + w.length:Nat):Int) by omega,ZC5 l i _ (by omega) hk,q0_,ZFl,Nat.add_sub_cancel_left]
   by_cases hc:(l.drop i).take w.length = w
   ·rw [if_pos hc,hc,if_neg (by simp [Zrh])]
    unfold Z8e
    rw [hsz,wrap_i64 (by omega) (by omega)]
    simp
   ·have hs:seq ⟨((l.drop i).take w.length).toArray⟩ ⟨w.toArray⟩ = false:=by
     cases hq:seq ⟨((l.drop i).take w.length).toArray⟩ ⟨w.toArray⟩ with
     | false => rfl
     | true =>
      have:=Zrh.1 hq
      exact absurd (by simpa using congrArg (fun x:ByteArray => x.data.toList) this) hc
    rw [if_neg hc,hs,if_pos (by rfl)]
    rfl
  ·rw [if_pos (by simp; omega),if_neg (fun e => hk (hlen e))]
   rfl
 ·intro s1 e
  rw [hwd] at e
  split at e
  ·rename_i hc
   cases e
   have hk:=hlen hc
   rw [if_pos hc] at hW
   have:=Zxc _ _ _ hW
   rw [Zcf] at this
   exact ⟨⟨i + w.length,hk,by simp only [h2]; omega,by simp only [ZDK]⟩,by rw [h3]; exact this,rfl,rfl⟩
  ·simp at e
theorem Z6L (c p:Int) (l:List UInt8):Z1g c p (bl l) 0 0 = some ((l.length:Int),c,p):=by
 apply ZdN
 unfold Z7S
 rw [if_pos (by rfl)]
 unfold Z5m
 rw [Zcf]
theorem Zsm (c p c0 p0:Int) (l:List UInt8) (h:c0 ≠ 0):Z1g c p (bl l) c0 p0 = some ((l.length:Int),c0,p0):=by
 apply ZdN
 unfold Z7S
 rw [if_neg (by simpa using h)]
 unfold Z5m
 rw [Zcf]
theorem Z85 (u:Int):Z2y u = some ⟨u,u⟩:=Zs0 _ rfl
theorem Zid (k:Int) (l:List Z9):ZaZ k l = some (joined k l):=by
 apply Zoj
 unfold ZcV
 match l with
 | [] => rfl
 | [x] => rfl
 | x :: y :: r =>
  rw [if_neg (by simp; omega),if_neg (by simp; omega)]
  rfl
end Go.Proofs.YtocikhhkicahoaaDoor.N2
end
section
namespace Go.Proofs.Norm
def AscF (a:Int):List R2 → Prop
 | [] => True
 | r :: t => (0 ≤ r.1 ∧ r.1 ≤ r.2 ∧ r.2 ≤ 1114367) ∧ a + 2 ≤ r.1 ∧ AscF r.2 t
def Znc (a:Int):List R2 → Int
 | [] => a
 | r :: t => Znc r.2 t
theorem ZlJ (a:Int):∀ (l:List R2) (r:R2),Znc a (l ++ [r]) = r.2
 | [],r => rfl
 | x :: l,r => ZlJ x.2 l r
theorem ZoK:∀ (l:List R2) (a:Int) (r:R2),AscF a (l ++ [r]) ↔ AscF a l ∧ (0 ≤ r.1 ∧ r.1 ≤ r.2 ∧ r.2 ≤ 1114367) ∧ Znc a l + 2 ≤ r.1
 | [],a,r => by simp [AscF,Znc]
 | x :: l,a,r => by
  simp only [ZbD,AscF,Znc,ZoK l x.2 r]
  constructor
  ·rintro ⟨h1,h2,h3,h4⟩; exact ⟨⟨h1,h2,h3⟩,h4⟩
  ·rintro ⟨⟨h1,h2,h3⟩,h4⟩; exact ⟨h1,h2,h3,h4⟩
theorem Desc.asc:∀ {l:List R2},Desc l → AscF (-2) l.reverse
 | [],_ => trivial
 | [r],h => by
  have h:0 ≤ r.1 ∧ r.1 ≤ r.2 ∧ r.2 ≤ 1114367:=h
  exact ⟨h,by omega,trivial⟩
 | r :: o :: os,h => by
  rw [Znr,ZoK]
  refine ⟨h.2.2.asc,h.1,?_⟩
  rw [Znr,ZlJ]
  exact h.2.1
theorem AscF.norm:∀ {l:List R2},AscF (-2) l.reverse → Desc l
 | [],_ => trivial
 | [r],h => h.1
 | r :: o :: os,h => by
  rw [Znr,ZoK] at h
  refine ⟨h.2.1,?_,h.1.norm⟩
  have:=h.2.2
  rw [Znr,ZlJ] at this
  exact this
theorem Zbz {l:List R2}:Z2Y l ↔ AscF (-2) l:=by
 unfold Z2Y
 constructor
 ·intro h
  have:=h.asc
  rwa [List.reverse_reverse] at this
 ·intro h
  apply AscF.norm
  rwa [List.reverse_reverse]
theorem AscF.mono:∀ {l:List R2} {a a':Int},AscF a l → a' ≤ a → AscF a' l
 | [],_,_,_,_ => trivial
 | r :: t,a,a',h,hl => ⟨h.1,by have:=h.2.1; omega,h.2.2⟩
theorem AscF.right:∀ {l:List R2} {a:Int},AscF a l → ∀ r ∈ l,0 ≤ r.1 ∧ r.1 ≤ r.2 ∧ r.2 ≤ 1114367
 | [],_,_,r,hr => by simp at hr
 | x :: t,a,h,r,hr => by
  rcases Z5G.1 hr with rfl | hr
  ·exact h.1
  ·exact h.2.2.right r hr
theorem AscF.len:∀ {l:List R2} {a:Int},AscF a l → l ≠ [] → a + 2 * (l.length:Int) ≤ 1114367
 | [],_,_,hn => absurd rfl hn
 | [r],a,h,_ => by
  have:=h.1
  have:=h.2.1
  simp only [q5_,q8_]
  omega
 | r :: o :: t,a,h,_ => by
  have:=h.1
  have:=h.2.1
  have:=h.2.2.len (by simp)
  simp only [q5_] at *
  omega
theorem Zdh {l:List R2} (h:Z2Y l):l.length ≤ 557185:=by
 by_cases hn:l = []
 ·subst hn; simp
 ·have:=(Zbz.1 h).len hn
  omega
theorem Z8r {l:List R2} (h:Z2Y l):∀ r ∈ l,0 ≤ r.1 ∧ r.1 ≤ r.2 ∧ r.2 ≤ 1114367:=(Zbz.1 h).right
end Go.Proofs.Norm
namespace Go.Proofs.YtocikhhkicahoaaDoor.N2
open Go Go.Abs Go.Proofs.Unis Go.Proofs.Norm
set_option maxRecDepth 100000
theorem Zpc:∀ (l:List R2) (at_ a:Int),0 ≤ at_ → a + 2 ≤ at_ → AscF (at_ - 2) l → AscF a (notL at_ l)
 | [],at_,a,h0,ha,_ => by
  unfold notL
  split
  ·exact ⟨⟨h0,by assumption,by simp⟩,ha,trivial⟩
  ·trivial
 | r :: t,at_,a,h0,ha,h => by
  have h1:=h.1
  have h2:=h.2.1
  unfold notL
  split
  ·exact ⟨⟨h0,by simp only []; omega,by simp only []; omega⟩,ha,Zpc t _ _ (by omega) (by simp only []; omega) (h.2.2.mono (by omega))⟩
  ·exact Zpc t _ _ (by omega) (by omega) (h.2.2.mono (by omega))
theorem ZoE {l:List R2} (h:Z2Y l):Z2Y (notF l) :=
 Zbz.2 (Zpc l 0 (-2) (by omega) (by omega) (Zbz.1 h))
theorem ZsI (r:R2):Z7T (ofR r) = some (decide (0 ≤ r.1 ∧ r.1 ≤ r.2 ∧ r.2 ≤ 1114367)):=by
 apply ZjU
 unfold Z9D
 simp only [ofR]
 by_cases h1:0 ≤ r.1
 ·by_cases h2:r.1 ≤ r.2
  ·simp [h1,h2]
   exact decide_eq_decide.2 Iff.rfl
  ·simp [h1,h2]
 ·simp [h1]
theorem Zl1 (rs:List R2):(rs.map ofR).map Zz = rs.map encR:=by
 rw [Zph]
 rfl
theorem ZgA:∀ rs:List R2,Zdi (rs.map encR) = some rs
 | [] => rfl
 | r :: t => by
  rw [Z99,Zdi,ZgA t]
  rfl
theorem Zii (rs:List R2) (hl:rs.length ≤ 1048576) (hr:∀ r ∈ rs,0 ≤ r.1 ∧ r.1 ≤ r.2 ∧ r.2 ≤ 1114367):ZaY (rs.map ofR) = some ((Z5E rs).map ofR):=by
 refine Z1l (fun _ _ ha hb => RRun.uniq Zbh (ha .sh) (hb .sh)) fun o => ?_
 have e:EE 25 [(.p (.lst o ((rs.map ofR).map Zz)))] [] = some ((.p (.lst .sh (((Z5E rs).map ofR).map Zz))),[]):=by
  rw [show EE 25 = E PP XX HH 25 from rfl,ZsS (P:=PP) (X:=XX) (H:=HH) (f:=25) (m:=Zlh) (by kernel_rfl),Zl1,Zl1]
  unfold Zlh
  simp only [ZgA]
  rw [if_pos ⟨hl,hr⟩]
 exact ⟨_,e,[],by simp⟩
theorem ZpC (a b:List R2) (hl:a.length + b.length ≤ 1048576):Zb6 [a.map ofR,b.map ofR] = some ((a ++ b).map ofR):=by
 refine Z1l (fun _ _ ha hb => RRun.uniq Zbh (ha .sh) (hb .sh)) fun o => ?_
 have e:EE 57 [(.p (.lst o ([a.map ofR,b.map ofR].map (eL Zz))))] [] = some ((.p (.lst .sh (((a ++ b).map ofR).map Zz))),[]):=by
  rw [show EE 57 = E PP XX HH 57 from rfl,ZsS (P:=PP) (X:=XX) (H:=HH) (f:=57) (m:=Zlg) (by kernel_rfl),Zl1]
  have h1:[a.map ofR,b.map ofR].map (eL Zz) = [.lst .sh (a.map encR),.lst .sh (b.map encR)]:=by
   simp only [Z99,Zev,eL,Zl1]
  rw [h1]
  unfold Zlg
  simp only [Zl0,ZgA,Z8O,List.flatten_cons,List.flatten_nil,Zkb]
  rw [if_pos ⟨by simp,by rw [q3_]; exact hl⟩]
 exact ⟨_,e,[],by simp⟩
theorem Zs9 {rs:List R2} {i:Nat} (h:i < rs.length):lget (rs.map ofR) (i:Int) = some (ofR rs[i]):=by
 rw [Z4b,q7_,q4_ h]
 rfl
theorem ZsQ (L:List R2) (hl:L.length ≤ 1000000):∀ (d i:Nat) (a:Int),i + d = L.length → -2 ≤ a → a ≤ 1114367 → AscF a (L.drop i) → Z6X a (L.map ofR) (L.length:Int) (i:Int) = some true:=by
 intro d
 induction d with
 | zero =>
  intro i a h _ _ _
  apply Zck
  unfold Z6P
  rw [if_neg (by simp; omega)]
  rfl
 | succ d ih =>
  intro i a h ha ha2 hA
  have hi:i < L.length:=by omega
  rw [Zgh hi] at hA
  have h1:=hA.1
  have h2:=hA.2.1
  apply Zck
  unfold Z6P Z8y
  rw [if_pos (by simp; omega),Zs9 hi,q0_,ZsI,q0_,if_neg (by simp; omega),wrap_i64 (n:=a + 2) (by omega) (by omega),if_neg (by rw [decide_eq_true_eq]; show ¬ (L[i].1 < a + 2); omega)]
  unfold Z8A Z8B
  rw [wrap_i64 (by omega) (by omega)]
  exact ih (i + 1) _ (by omega) (by simp only [ofR]; omega) (by simp only [ofR]; omega) hA.2.2
theorem Zb7 {L:List R2} (h:Z2Y L):Z5Z (L.map ofR) = some true:=by
 apply ZkK
 unfold Za7
 rw [ZbC]
 have:=Zdh h
 exact ZsQ L (by omega) L.length 0 (-2) (by omega) (by omega) (by omega) (Zbz.1 h)
theorem ZDx (L:List R2) (hl:L.length ≤ 1000000) (hr:∀ r ∈ L,0 ≤ r.1 ∧ r.1 ≤ r.2 ∧ r.2 ≤ 1114367):∀ (d i:Nat) (acc:List R2) (a:Int),i + d = L.length → acc.length ≤ i → 0 ≤ a → a ≤ 1114368 → Z8p (acc.map ofR) a (L.map ofR) (L.length:Int) (i:Int) = some ((acc ++ notL a (L.drop i)).map ofR):=by
 intro d
 induction d with
 | zero =>
  intro i acc a h hacc ha ha2
  rw [Zgg (by omega)]
  apply ZeB
  unfold Z8k
  rw [if_neg (by simp; omega)]
  unfold Z9H notL
  by_cases hc:a ≤ 1114367
  ·rw [if_pos (by simpa using hc),if_pos hc]
   unfold lapp
   rw [if_pos (by simp [lim]; omega)]
   unfold Z6D
   simp [ofR]
  ·rw [if_neg (by simpa using hc),if_neg hc]
   unfold Z6D
   simp
 | succ d ih =>
  intro i acc a h hacc ha ha2
  have hi:i < L.length:=by omega
  have h1:=hr L[i] (Znm hi)
  rw [Zgh hi]
  apply ZeB
  unfold Z8k Za9
  rw [if_pos (by simp; omega),Zs9 hi,q0_]
  unfold notL
  have r8:∀ acc':List R2,acc'.length ≤ i + 1 → Z6Q (acc'.map ofR) (L.map ofR) (L.length:Int) (i:Int) (ofR L[i]) = some ((acc' ++ notL (L[i].2 + 1) (L.drop (i + 1))).map ofR):=by
   intro acc' hacc'
   unfold Z6Q Zaa
   rw [show (ofR L[i]).Hi = L[i].2 from rfl,wrap_i64 (n:=L[i].2 + 1) (by omega) (by omega),wrap_i64 (n:=(i:Int) + 1) (by omega) (by omega)]
   exact ih (i + 1) acc' _ (by omega) hacc' (by omega) (by omega)
  by_cases hc:a < L[i].1
  ·rw [if_pos (decide_eq_true (show a < (ofR L[i]).Lo from hc)),if_pos hc]
   unfold lapp
   rw [if_pos (by simp [lim]; omega),q0_,show (ofR L[i]).Lo = L[i].1 from rfl,wrap_i64 (n:=L[i].1 - 1) (by omega) (by omega)]
   have:=r8 (acc ++ [(a,L[i].1 - 1)]) (by simp; omega)
   rw [ZhA] at this
   rw [show List.map ofR [(a,L[i].1 - 1)] = [Z8.mk a (L[i].1 - 1)] from rfl] at this
   rw [this,Zaz]
   rfl
  ·rw [if_neg (by rw [decide_eq_true_eq]; exact hc),if_neg hc]
   exact r8 acc (by omega)
theorem Zxk {L:List R2} (h:Z2Y L):Zag (L.map ofR) = some ((notF L).map ofR,0):=by
 apply ZmX
 unfold ZbX
 rw [Zb7 h,q0_,if_neg (by simp)]
 unfold Za8
 have:Zc5 (L.map ofR) = some ((notF L).map ofR):=by
  apply ZmZ
  unfold ZbY
  rw [ZbC]
  have:=Zdh h
  have:=ZDx L (by omega) (Z8r h) L.length 0 [] 0 (by omega) (by simp) (by omega) (by omega)
  simpa [notF] using this
 rw [this]
 rfl
theorem Zzj (L:List R2) (hl:L.length ≤ 1000000) (hr:∀ r ∈ L,0 ≤ r.1 ∧ r.1 ≤ r.2 ∧ r.2 ≤ 1114367):∀ (d i:Nat),i + d = L.length → Z49 (L.map ofR) (L.length:Int) (i:Int) = some (-1):=by
 intro d
 induction d with
 | zero =>
  intro i h
  apply Z8Y
  unfold Z47
  rw [if_neg (by simp; omega)]
  rfl
 | succ d ih =>
  intro i h
  have hi:i < L.length:=by omega
  have h1:=hr L[i] (Znm hi)
  apply Z8Y
  unfold Z47 Z5i
  have hm:Zd3 (ofR L[i]) = some false:=by
   apply Zog
   unfold ZcS
   rw [ZsI]
   simp [h1]
  rw [if_pos (by simp; omega),Zs9 hi,q0_,hm,q0_,if_neg (by simp)]
  unfold Z5j
  rw [wrap_i64 (by omega) (by omega)]
  exact ih (i + 1) (by omega)
theorem ZDu {L:List R2} (hl:L.length ≤ 1000000) (hr:∀ r ∈ L,0 ≤ r.1 ∧ r.1 ≤ r.2 ∧ r.2 ≤ 1114367):Zf6 (L.map ofR) = some ((Z5E L).map ofR,0):=by
 have h1:Z6l (L.map ofR) = some (-1):=by
  apply ZeY
  unfold Z6f
  rw [ZbC]
  exact Zzj L hl hr L.length 0 (by omega)
 have h2:Z5l (L.map ofR) = some false:=by
  apply Zdv
  unfold Z5g
  rw [h1]
  rfl
 apply ZqG
 unfold Zf0
 rw [h2,q0_,if_neg (by simp)]
 unfold ZbV
 rw [Zii L (by omega) hr]
 rfl
theorem ZiC (no:Bool) {L:List R2} (hl:L.length ≤ 1000000) (hr:∀ r ∈ L,0 ≤ r.1 ∧ r.1 ≤ r.2 ∧ r.2 ≤ 1114367):Z45 no (L.map ofR) = some (setN (setR no L)):=by
 apply Zs1
 unfold Zgr
 rw [ZDu hl hr,q0_]
 cases no with
 | false => rfl
 | true =>
  rw [if_pos rfl,Zxk (Zfl hr).1]
  rfl
theorem ZbR (no:Bool) {L:List R2} (hr:∀ r ∈ L,0 ≤ r.1 ∧ r.1 ≤ r.2 ∧ r.2 ≤ 1114367):Z2Y (setR no L):=by
 unfold setR
 split
 ·exact ZoE (Zfl hr).1
 ·exact (Zfl hr).1
theorem Zih {r:R2} (h:0 ≤ r.1 ∧ r.1 ≤ r.2 ∧ r.2 ≤ 1114367):Z2Y [r]:=Zbz.2 ⟨h,by omega,trivial⟩
theorem ZCt {a s:List R2} (ha:Z2Y a) (hs:Z2Y s) (hl:s.length ≤ 100000):Z6F (s.map ofR) (a.map ofR) = some ((Z5E (a ++ s)).map ofR):=by
 have hla:=Zdh ha
 have hr:∀ r ∈ a ++ s,0 ≤ r.1 ∧ r.1 ≤ r.2 ∧ r.2 ≤ 1114367:=by
  intro r h
  rcases Zb8.1 h with h | h
  ·exact Z8r ha r h
  ·exact Z8r hs r h
 have h1:Z9g (a.map ofR) (s.map ofR) = some ((Z5E (a ++ s)).map ofR,0):=by
  apply ZhH
  unfold ZaS
  rw [Zb7 ha,q0_,if_neg (by simp),Zb7 hs,q0_,if_neg (by simp)]
  unfold Z8P
  rw [ZpC a s (by omega),q0_,Zii _ (by rw [q3_]; omega) hr]
  rfl
 apply Zi2
 unfold Z8b
 rw [h1]
 rfl
theorem fold_len:∀ (l acc:List R2),(l.foldl Z2O acc).length ≤ acc.length + l.length
 | [],acc => by simp
 | r :: t,acc => by
  have h1:=fold_len t (Z2O acc r)
  have h2:(Z2O acc r).length ≤ acc.length + 1:=by
   unfold Z2O
   split
   ·split
    ·simp
    ·simp
   ·simp
  rw [ZdD,q5_]
  omega
theorem ZCb (l:List R2):(Z5E l).length ≤ l.length:=by
 have h1:=fold_len (Zby l) []
 have h2:=(Z97 l).length_eq
 unfold Z5E
 rw [List.length_reverse]
 simp only [q8_] at h1
 omega
theorem ZvQ:∀ (l:List R2) (a:Int),(notL a l).length ≤ l.length + 1
 | [],a => by
  unfold notL
  split
  ·simp
  ·simp
 | r :: t,a => by
  have:=ZvQ t (r.2 + 1)
  unfold notL
  split
  ·simp only [q5_]; omega
  ·simp only [q5_]; omega
theorem ZDR (no:Bool) (l:List R2):(setR no l).length ≤ l.length + 1:=by
 have h1:=ZCb l
 have h2:=ZvQ (Z5E l) 0
 unfold setR notF
 split
 ·omega
 ·omega
theorem Zhl {a s:List R2} (ha:Z2Y a) (hs:Z2Y s):Z2Y (Z5E (a ++ s)) :=
 (Zfl (by
  intro r h
  rcases Zb8.1 h with h | h
  ·exact Z8r ha r h
  ·exact Z8r hs r h)).1
end Go.Proofs.YtocikhhkicahoaaDoor.N2
end
section
namespace Go.Proofs.YtocikhhkicahoaaDoor.N2
open Go Go.Abs Go.Proofs.Unis Go.Proofs.Norm
set_option maxRecDepth 100000
theorem Z1Q {a b:Int} (h:a = b):(a == b) = true:=by simpa using h
theorem Z1X {a b:Int} (h:¬ a = b):¬ ((a == b) = true):=by simpa using h
theorem Zx3 {a b:Int} (h:¬ a = b):(a != b) = true:=by simpa using h
theorem Zx2 {a b:Int} (h:a = b):¬ ((a != b) = true):=by simpa using h
theorem Z2f {c:Prop} [Decidable c] (h:c):decide c = true:=decide_eq_true h
theorem Z28 {c:Prop} [Decidable c] (h:¬ c):¬ (decide c = true):=by simpa using h
theorem Zr1 {α:Type} {a b:α} (h:a = b):¬ (a ≠ b):=fun k => k h
structure Nx (l:List UInt8) (s s':St):Prop where
 at_:At l s'
 len:s'.us.length ≤ s.us.length
 gr:s'.gr = s.gr
 rf:s'.rf = s.rf
theorem Nx.trans {l:List UInt8} {s s' s'':St} (h:Nx l s s') (h':Nx l s' s''):Nx l s s'' :=
 ⟨h'.at_,ZhC h'.len h.len,h'.gr.trans h.gr,h'.rf.trans h.rf⟩
theorem Z88 {l:List UInt8} {s:St} (h:At l s):Nx l s (take s):=by
 refine ⟨h.take,?_,?_,?_⟩
 all_goals unfold take; split
 ·exact Z2x _
 ·rename_i h1
  rw [h1]
  simp
 all_goals rfl
theorem Zld {l:List UInt8} {s:St} (h:At l s) (hn:s.us ≠ []):s.us.length = (take s).us.length + 1:=by
 obtain ⟨_,_,_,_,_,_,_,h7⟩:=h.cons hn
 exact h7
theorem ZnD (u:Int):Z7H u = some (if short u = [] then .nl else .ex,(short u).map ofR):=by
 apply Zlz
 by_cases h1:u = 100
 ·subst h1; simp [Z44,short,ofR,Z85]
 by_cases h2:u = 68
 ·subst h2; simp [Z44,short,ofR,Z85]
 by_cases h3:u = 119
 ·subst h3; simp [Z44,short,ofR,Z85]
 by_cases h4:u = 87
 ·subst h4; simp [Z44,short,ofR,Z85]
 by_cases h5:u = 115
 ·subst h5; simp [Z44,short,ofR,Z85]
 by_cases h6:u = 83
 ·subst h6; simp [Z44,short,ofR,Z85]
 simp [Z44,Z33,short,h1,h2,h3,h4,h5,h6]
theorem Zkd (u:Int):(short u).length ≤ 1000 ∧ ∀ r ∈ short u,0 ≤ r.1 ∧ r.1 ≤ r.2 ∧ r.2 ≤ 1114367:=by
 unfold short
 repeat' split
 all_goals simp
theorem Zxb (u:Int) (h1:-1 ≤ u) (h2:u ≤ 1114367):ZdM u = some (hexF u):=by
 apply ZrZ
 unfold Zgq ZcT ZaT ZcU ZaU hexF
 rw [wrap_i64 (n:=u - 48) (by omega) (by omega),wrap_i64 (n:=u - 97) (by omega) (by omega),wrap_i64 (n:=u - 97 + 10) (by omega) (by omega)]
 by_cases a:48 ≤ u
 ·by_cases b:u ≤ 57
  ·simp [a,b]
  ·by_cases c:97 ≤ u
   ·by_cases d:u ≤ 102
    ·simp [a,b,c,d]
    ·simp [a,b,c,d]
   ·simp [a,b,c]
 ·have c:¬ 97 ≤ u:=by omega
  simp [a,c]
theorem Zic (u:Int):-1 ≤ hexF u ∧ hexF u ≤ 15:=by
 unfold hexF
 repeat' split
 all_goals omega
theorem ZDg (L:List Z8) (u:Int) (hl:L.length ≤ 1000000):∀ (d i:Nat),i + d = L.length →
  ∃ k:Int,Z48 L (L.length:Int) (i:Int) u = some k ∧ (0 ≤ k ↔ (L.drop i).any (fun r => decide (r.Lo ≤ u) && decide (u ≤ r.Hi)) = true):=by
 intro d
 induction d with
 | zero =>
  intro i h
  refine ⟨-1,?_,?_⟩
  ·apply Z6t
   unfold Z3x
   rw [if_neg (by simp; omega)]
   rfl
  ·rw [Zgg (by omega)]
   simp
 | succ d ih =>
  intro i h
  have hi:i < L.length:=by omega
  have hm:ZaM L[i] u = some (decide (L[i].Lo ≤ u) && decide (u ≤ L[i].Hi)):=by
   apply Zlu
   unfold ZaG
   by_cases a:L[i].Lo ≤ u
   ·simp [a]
   ·simp [a]
  rw [Zgh hi,List.any_cons]
  cases hc:(decide (L[i].Lo ≤ u) && decide (u ≤ L[i].Hi)) with
  | true =>
   refine ⟨(i:Int),?_,by simp⟩
   apply Z6t
   unfold Z3x Z46
   rw [if_pos (by simp; omega),Z4b,q4_ hi,q0_,hm,hc]
   rfl
  | false =>
   obtain ⟨k,h1,h2⟩:=ih (i + 1) (by omega)
   refine ⟨k,?_,by rw [Bool.false_or]; exact h2⟩
   apply Z6t
   unfold Z3x Z46
   rw [if_pos (by simp; omega),Z4b,q4_ hi,q0_,hm,hc,q0_,if_neg (by simp)]
   unfold Z5h
   rw [wrap_i64 (by omega) (by omega)]
   exact h1
theorem Zs6 (L:List Z8) (u:Int) (hl:L.length ≤ 1000000):Z7w L u = some (L.any (fun r => decide (r.Lo ≤ u) && decide (u ≤ r.Hi))):=by
 obtain ⟨k,h1,h2⟩:=ZDg L u hl L.length 0 (by omega)
 have e1:Z6k L u = some k:=by
  apply ZeW
  unfold Z6e
  exact h1
 have e2:Z5k L u = some (decide (0 ≤ k)):=by
  apply Zdt
  unfold Z5f
  rw [e1]
  rfl
 apply ZmW
 unfold ZbW
 rw [e2]
 rw [Zpl] at h2
 show some _ = some _
 congr 1
 cases hb:L.any (fun r => decide (r.Lo ≤ u) && decide (u ≤ r.Hi)) with
 | true => rw [hb] at h2; simpa using h2
 | false => rw [hb] at h2; simpa using h2
theorem Zzp (u:Int):Z7w [⟨48,57⟩,⟨65,90⟩,⟨97,122⟩] u = some (ZsX u):=by
 rw [Zs6 _ _ (by simp)]
 congr 1
 simp [ZsX,Bool.or_assoc]
theorem Zpf {l:List UInt8} {s s':St} {u p v:Int} (h:At l s) (hu:0 ≤ u ∧ u ≤ 1114367) (e:Z9z u p s = .ok v s'):Nx l s s' ∧ 0 ≤ v ∧ v ≤ 1114367:=by
 have n0:Nx l s s:=⟨h,Z2x _,rfl,rfl⟩
 have ha:=Zic (peek s.us)
 have hb:=Zic (peek (take s).us)
 unfold Z9z at e
 split at e
 ·cases e; exact ⟨n0,by omega,by omega⟩
 split at e
 ·cases e; exact ⟨n0,by omega,by omega⟩
 split at e
 ·cases e; exact ⟨n0,by omega,by omega⟩
 split at e
 ·split at e
  ·split at e
   ·cases e; exact ⟨(Z88 h).trans (Z88 h.take),by omega,by omega⟩
   ·simp at e
  ·simp at e
 split at e
 ·cases e; exact ⟨n0,hu⟩
 ·simp at e
theorem ZsE {s:St} {u p c q:Int} (e:Z9z u p s = .bad c q):c ≠ 0:=by
 unfold Z9z at e
 repeat' split at e
 all_goals first | (simp at e; done) | (cases e; simp)
theorem ZsF {l:List UInt8} {s:St} (h:At l s) (hl:l.length ≤ 1000) (u p g d:Int) (rf:List ZA) :
  Z7x u p (bl l) s.pos g d rf 0 0 = some (match Z9z u p s with | .ok v s' => (v,s'.pos,0,0) | .bad c q => (0,(l.length:Int),c,q)):=by
 have bad:Z3b p (bl l) 0 0 = some (0,(l.length:Int),21,p):=by
  unfold Z3b
  rw [Z6L]
  rfl
 apply Zju
 unfold Z93 Z9z
 by_cases h1:u = 110
 ·simp [h1]
 by_cases h2:u = 116
 ·simp [h2]
 by_cases h3:u = 114
 ·simp [h3]
 by_cases h4:u = 120
 ·subst h4
  have hr:=h.range
  have hr2:=h.take.range
  have ha:=Zic (peek s.us)
  have hb:=Zic (peek (take s).us)
  rw [if_neg (by simp),if_neg (by simp),if_neg (by simp),if_pos (by simp),if_neg (by simp),if_neg (by simp),if_neg (by simp),if_pos rfl,Z9B h,q0_,Zxb _ (by omega) (by omega),q0_]
  by_cases h5:0 ≤ hexF (peek s.us)
  ·have hn:s.us ≠ []:=by
    intro e
    rw [e] at h5
    simp [peek,hexF] at h5
   rw [if_pos (by simpa using h5),if_pos h5,ZcN h (by omega) hn,q0_]
   simp only []
   rw [Z9B h.take,q0_,Zxb _ (by omega) (by omega),q0_]
   by_cases h6:0 ≤ hexF (peek (take s).us)
   ·have hn2:(take s).us ≠ []:=by
     intro e
     rw [e] at h6
     simp [peek,hexF] at h6
    rw [if_pos (by simpa using h6),if_pos h6,ZcN h.take (by omega) hn2,q0_,wrap_i64 (n:=16 * hexF (peek s.us)) (by omega) (by omega),wrap_i64 (by omega) (by omega)]
   ·rw [if_neg (by simpa using h6),if_neg h6,bad]
  ·rw [if_neg (by simpa using h5),if_neg h5,bad]
 ·rw [if_neg (by simpa using h1),if_neg (by simpa using h2),if_neg (by simpa using h3),if_neg (by simpa using h4),if_neg h1,if_neg h2,if_neg h3,if_neg h4]
  by_cases h5:32 < u
  ·by_cases h6:u < 127
   ·rw [if_pos (by simpa using h5),if_pos (by simpa using h6),Zzp,q0_]
    cases h7:ZsX u with
    | true => rw [if_neg (by simp),bad,if_neg (by simp)]
    | false =>
     rw [if_pos (by rfl),if_pos ⟨h5,h6,rfl⟩]
     rfl
   ·rw [if_pos (by simpa using h5),if_neg (by simpa using h6),bad,if_neg (fun e => h6 e.2.1)]
  ·rw [if_neg (by simpa using h5),bad,if_neg (fun e => h5 e.1)]
def EscR (l:List UInt8) (s:St) (o:Out Z9) (r:Option (Z9 × Int × List ZA × Int × Int)):Prop :=
 match o with
 | .ok n s' => r = some (n,s'.pos,s'.rf,0,0) ∧ At l s' ∧ s'.us.length < s.us.length ∧ s'.gr = s.gr ∧ s'.rf.length + s'.us.length ≤ s.rf.length + s.us.length
 | .bad c q => c ≠ 0 ∧ ∃ n,r = some (n,(l.length:Int),s.rf,c,q)
theorem Zr2 {α β:Type} {f:α → β} {l:List α} (h:l ≠ []):nilO Own.ex (l.map f) = some false:=by
 cases l with
 | nil => exact absurd rfl h
 | cons x r => rfl
theorem ZEL {l:List UInt8} {s:St} (h:At l s) (hl:l.length ≤ 1000) (hrf:s.rf.length ≤ 2000) (p g d:Int):EscR l s (pEsc p s) (Z4I p (bl l) s.pos g d s.rf 0 0):=by
 have top:∀ r,Z5I p (bl l) s.pos g d s.rf 0 0 = some r → Z4I p (bl l) s.pos g d s.rf 0 0 = some r:=fun r e => ZiR _ _ _ _ _ _ _ _ e
 unfold pEsc
 by_cases hn:s.us = []
 ·rw [if_pos hn]
  refine ⟨by simp,nd0,top _ ?_⟩
  unfold Z5I
  rw [Z9B h,q0_,hn,if_pos (by rfl),Z6L]
  rfl
 ·rw [if_neg hn]
  have hr:=h.range
  have hu:0 ≤ peek s.us ∧ peek s.us ≤ 1114367:=by
   rcases hr with ⟨_,h2⟩ | h2
   ·exact absurd h2 hn
   ·omega
  have hnx:=Z88 h
  have hlt:=Zld h hn
  have tk:=ZcN h (by omega) hn
  have top5:∀ r,Z3A p (peek s.us) (bl l) s.pos g d s.rf 0 0 = some r → Z4I p (bl l) s.pos g d s.rf 0 0 = some r:=by
   intro r e
   refine top r ?_
   unfold Z5I
   rw [Z9B h,q0_,if_neg (by simp; omega)]
   exact e
  have hrf':(take s).rf = s.rf:=hnx.rf
  by_cases hs:short (peek s.us) = []
  ·rw [if_neg (by simp [hs])]
   have r5:Z3A p (peek s.us) (bl l) s.pos g d s.rf 0 0 = (if ((peek s.us == 98)) = true then
 (some ((Z9.mk 9 0 0 0 2 ([]:List Z8) ([]:List Z9)),(take s).pos,s.rf,0,0))
 else
 (if ((peek s.us == 66)) = true then
 (some ((Z9.mk 9 0 0 0 3 ([]:List Z8) ([]:List Z9)),(take s).pos,s.rf,0,0))
 else
 (if ((decide (49 ≤ peek s.us))) = true then
 (if ((decide (peek s.us ≤ 57))) = true then
 (Z5v p (peek s.us) (take s).pos s.rf 0 0)
 else
 (Z3r p (peek s.us) (bl l) (take s).pos g d s.rf 0 0))
 else
 (Z3r p (peek s.us) (bl l) (take s).pos g d s.rf 0 0)))):=by
    unfold Z3A
    rw [tk,q0_,ZnD,q0_,hs]
    rfl
   have r15:EscR l s ((Z9z (peek s.us) p (take s)).bind fun v s2 => .ok (setN (setR false [(v,v)])) s2) (Z3r p (peek s.us) (bl l) (take s).pos g d s.rf 0 0):=by
    unfold Z3r
    rw [ZsF h.take hl]
    cases hp:Z9z (peek s.us) p (take s) with
    | ok v s2 =>
     obtain ⟨a,b,c⟩:=Zpf h.take hu hp
     have hset:=ZiC false (L:=[(v,v)]) (by simp) (by simp; omega)
     refine ⟨?_,a.at_,?_,a.gr.trans hnx.gr,?_⟩
     ·simp only [q0_,Z85]
      rw [show [Z8.mk v v] = [((v,v):R2)].map ofR from rfl,hset,q0_,a.rf,hrf']
     ·have:=a.len; omega
     ·have:=a.len; rw [a.rf,hrf']; omega
    | bad c q =>
     have hc:=ZsE hp
     have hset:=ZiC false (L:=[((0:Int),(0:Int))]) (by simp) (by simp)
     refine ⟨hc,setN (setR false [(0,0)]),?_⟩
     simp only [q0_,Z85]
     rw [show [Z8.mk 0 0] = [((0,0):R2)].map ofR from rfl,hset,q0_]
   have lift:∀ o,EscR l s o (Z3A p (peek s.us) (bl l) s.pos g d s.rf 0 0) → EscR l s o (Z4I p (bl l) s.pos g d s.rf 0 0):=by
    intro o ho
    cases o with
    | ok n s' => exact ⟨top5 _ ho.1,ho.2⟩
    | bad c q => obtain ⟨hc,n,hn⟩:=ho; exact ⟨hc,n,top5 _ hn⟩
   apply lift
   rw [r5]
   by_cases h1:peek s.us = 98
   ·rw [if_pos h1,if_pos (Z1Q h1)]
    exact ⟨by rw [hrf']; rfl,h.take,by omega,hnx.gr,by rw [hrf']; omega⟩
   by_cases h2:peek s.us = 66
   ·rw [if_neg h1,if_pos h2,if_neg (Z1X h1),if_pos (Z1Q h2)]
    exact ⟨by rw [hrf']; rfl,h.take,by omega,hnx.gr,by rw [hrf']; omega⟩
   rw [if_neg h1,if_neg h2,if_neg (Z1X h1),if_neg (Z1X h2)]
   by_cases h3:49 ≤ peek s.us
   ·by_cases h4:peek s.us ≤ 57
    ·rw [if_pos ⟨h3,h4⟩,if_pos (Z2f h3),if_pos (Z2f h4)]
     refine ⟨?_,?_,by show (take s).us.length < _; omega,hnx.gr,by show (s.rf ++ [_]).length + (take s).us.length ≤ _; rw [q3_]; simp; omega⟩
     ·unfold Z5v lapp
      rw [if_pos (by simp [lim]; omega),wrap_i64 (n:=peek s.us - 48) (by omega) (by omega)]
      rfl
     ·exact h.take
    ·rw [if_neg (show ¬ (49 ≤ peek s.us ∧ peek s.us ≤ 57) from fun e => h4 e.2),if_pos (Z2f h3),if_neg (Z28 h4)]
     exact r15
   ·rw [if_neg (show ¬ (49 ≤ peek s.us ∧ peek s.us ≤ 57) from fun e => h3 e.1),if_neg (Z28 h3)]
    exact r15
  ·rw [if_pos hs]
   obtain ⟨q1,q2⟩:=Zkd (peek s.us)
   refine ⟨top5 _ ?_,h.take,by omega,hnx.gr,by rw [hrf']; omega⟩
   unfold Z3A
   rw [tk,q0_,ZnD,q0_,if_neg hs]
   have hno:nilO Own.ex ((short (peek s.us)).map ofR) = some false:=Zr2 hs
   dsimp only
   rw [hno,q0_,if_pos (show (!false) = true from rfl),q0_]
   dsimp only
   rw [ZiC _ (by omega) q2,q0_,hrf']
def MemR (l:List UInt8) (s:St) (o:Out (Int × List R2 × Bool)) (r:Option (Int × (Own × List Z8) × Bool × Int × Int × Int)):Prop :=
 match o with
 | .ok m s' => r = some (m.1,(if m.2.1 = [] then .nl else .ex,m.2.1.map ofR),m.2.2,s'.pos,0,0) ∧ Nx l s s' ∧ s'.us.length < s.us.length ∧ (0 ≤ m.1 ∧ m.1 ≤ 1114367) ∧ m.2.1.length ≤ 1000 ∧ ∀ r ∈ m.2.1,0 ≤ r.1 ∧ r.1 ≤ r.2 ∧ r.2 ≤ 1114367
 | .bad c q => c ≠ 0 ∧ r = some (0,(.nl,[]),false,(l.length:Int),c,q)
theorem Zo5 {l:List UInt8} {s:St} (h:At l s) (hl:l.length ≤ 1000) (hn:s.us ≠ []) (g d:Int) (rf:List ZA):MemR l s (pMem s) (Z5N (bl l) s.pos g d rf 0 0):=by
 have top:∀ o,MemR l s o (Z6W (bl l) s.pos g d rf 0 0) → MemR l s o (Z5N (bl l) s.pos g d rf 0 0):=by
  intro o ho
  cases o with
  | ok m s' => exact ⟨Zcr _ _ _ _ _ _ _ ho.1,ho.2⟩
  | bad c q => exact ⟨ho.1,Zcr _ _ _ _ _ _ _ ho.2⟩
 apply top
 have hr:=h.range
 have hu:0 ≤ peek s.us ∧ peek s.us ≤ 1114367:=by
  rcases hr with ⟨_,h2⟩ | h2
  ·exact absurd h2 hn
  ·omega
 have hnx:=Z88 h
 have hlt:=Zld h hn
 unfold Z6W pMem
 rw [ZcN h (by omega) hn,q0_]
 by_cases h1:peek s.us = 92
 ·rw [if_neg (Zx2 h1),if_neg (Zr1 h1)]
  unfold Z7i
  dsimp only
  rw [Z9B h.take,q0_]
  by_cases hn2:(take s).us = []
  ·rw [if_pos hn2,if_pos (Z2f (show peek (take s).us < 0 by rw [hn2]; decide)),Z6L]
   exact ⟨by simp,rfl⟩
  ·have hr2:=h.take.range
   have hu2:0 ≤ peek (take s).us ∧ peek (take s).us ≤ 1114367:=by
    rcases hr2 with ⟨_,h2⟩ | h2
    ·exact absurd h2 hn2
    ·omega
   have hnx2:=Z88 h.take
   have hlt2:=Zld h.take hn2
   rw [if_neg hn2,if_neg (Z28 (show ¬ peek (take s).us < 0 by omega))]
   unfold Z7j
   rw [ZcN h.take (by omega) hn2,q0_,ZnD,q0_]
   by_cases hs:short (peek (take s).us) = []
   ·rw [if_pos hs,if_neg (Zr1 hs),hs]
    show MemR l s _ (Z5w (peek (take s).us) s.pos (bl l) (take (take s)).pos g d rf 0 0)
    unfold Z5w
    rw [ZsF h.take.take hl]
    cases hp:Z9z (peek (take s).us) s.pos (take (take s)) with
    | ok v s2 =>
     obtain ⟨a,b,c⟩:=Zpf h.take.take hu2 hp
     exact ⟨rfl,(hnx.trans hnx2).trans a,by have:=a.len; omega,⟨b,c⟩,by simp,by simp⟩
    | bad c q => exact ⟨ZsE hp,rfl⟩
   ·obtain ⟨q1,q2⟩:=Zkd (peek (take s).us)
    rw [if_neg hs,if_pos hs]
    have hno:=Zr2 (f:=ofR) hs
    exact ⟨by simp only [if_neg hs]; rw [show shrO Own.ex = Own.ex from rfl,hno]; rfl,hnx.trans hnx2,by omega,by simp,q1,q2⟩
 ·rw [if_pos (Zx3 h1),if_pos h1]
  exact ⟨rfl,hnx,by omega,hu,by simp,by simp⟩
theorem ZCx (c:Prop) [Decidable c]:shrO (if c then Own.nl else Own.ex) = if c then Own.nl else Own.ex:=by
 split <;> rfl
theorem ZCy:shrO Own.nl = Own.nl:=rfl
structure Wd (b:ByteArray) (w:List Int):Prop where
 ex:∃ v:List UInt8,b = ⟨v.toArray⟩ ∧ w = bl v ∧ (∀ c ∈ v,c.toNat < 128) ∧ v.length ≤ 100 ∧ v ≠ []
theorem Z4o {l:List UInt8} {s:St} {b:ByteArray} {w:List Int} (hw:Wd b w) (h:At l s) (hl:l.length ≤ 1000) (e:wd w s = none):Z1L b (bl l) s.pos = some (false,s.pos):=by
 obtain ⟨v,rfl,rfl,h1,h2,_⟩:=hw.ex
 rw [(Zwv h (by omega) v h1 h2).1,e]
theorem Z2A {l:List UInt8} {s s1:St} {b:ByteArray} {w:List Int} (hw:Wd b w) (h:At l s) (hl:l.length ≤ 1000) (e:wd w s = some s1):Z1L b (bl l) s.pos = some (true,s1.pos) ∧ Nx l s s1 ∧ s1.us.length < s.us.length:=by
 obtain ⟨v,rfl,rfl,h1,h2,h3⟩:=hw.ex
 obtain ⟨a,b⟩:=Zwv h (by omega) v h1 h2
 obtain ⟨b1,b2,b3,b4⟩:=b s1 e
 have:v.length ≠ 0:=fun e => h3 (Zfo e)
 exact ⟨by rw [a,e],⟨b1,by omega,b3,b4⟩,by omega⟩
theorem w45:Wd (ByteArray.mk #[45]) [45]:=⟨[45],rfl,rfl,by decide,by decide,by decide⟩
theorem w94:Wd (ByteArray.mk #[94]) [94]:=⟨[94],rfl,rfl,by decide,by decide,by decide⟩
def ClsR (l:List UInt8) (s:St) (o:Out Z9) (r:Option (Z9 × Int × Int × Int)):Prop :=
 match o with
 | .ok n s' => r = some (n,s'.pos,0,0) ∧ Nx l s s'
 | .bad c q => c ≠ 0 ∧ ∃ n,r = some (n,(l.length:Int),c,q)
theorem ClsR.from {l:List UInt8} {s s1:St} {o:Out Z9} {r:Option (Z9 × Int × Int × Int)} (h:ClsR l s1 o r) (hn:Nx l s s1):ClsR l s o r:=by
 cases o with
 | ok n s' => exact ⟨h.1,hn.trans h.2⟩
 | bad c q => exact h
theorem ZhN (p:Int) (no:Bool) (x8:Int) (b:List Int) (a g d:Int) (rf:List ZA) (c q:Int) (all:List Z8) (hc:c ≠ 0):Z1V p no x8 b a g d rf c q all = some (nd0,a,c,q):=by
 unfold Z1V
 apply ZbG
 unfold Z6o
 rw [if_neg (by simpa using hc)]
 rfl
theorem ZpB {l:List UInt8} (hl:l.length ≤ 1000) (p:Int) (no:Bool) (g d:Int) (rf:List ZA):∀ (k:Nat) (fst:Bool) (all:List R2) (s:St) (x8:Int),At l s → Z2Y all → s.us.length < k → (fst = true ↔ x8 = 0) → 0 ≤ x8 → x8 + s.us.length ≤ 5000 →
  ClsR l s (Z86 p no k fst all s) (Z4a p no x8 (bl l) s.pos g d rf 0 0 (all.map ofR)):=by
 intro k
 induction k with
 | zero => intro fst all s x8 _ _ hk; omega
 | succ k ih =>
  intro fst all s x8 h hall hk hf h0 hb
  have top:∀ o,ClsR l s o (Z4X p no x8 (bl l) s.pos g d rf 0 0 (all.map ofR)) → ClsR l s o (Z4a p no x8 (bl l) s.pos g d rf 0 0 (all.map ofR)):=by
   intro o ho
   have e:∀ r,Z4X p no x8 (bl l) s.pos g d rf 0 0 (all.map ofR) = some r → Z4a p no x8 (bl l) s.pos g d rf 0 0 (all.map ofR) = some r:=by
    intro r e
    apply ZbG
    unfold Z6o
    rw [if_pos (by rfl)]
    exact e
   cases o with
   | ok n s' => exact ⟨e _ ho.1,ho.2⟩
   | bad c q => obtain ⟨hc,n,hn⟩:=ho; exact ⟨hc,n,e _ hn⟩
  have next:∀ (all':List R2) (s1:St),Nx l s s1 → s1.us.length < s.us.length → Z2Y all' → ClsR l s (Z86 p no k false all' s1) (Z1V p no x8 (bl l) s1.pos g d rf 0 0 (all'.map ofR)):=by
   intro all' s1 hn hlt ha'
   unfold Z1V
   rw [wrap_i64 (n:=x8 + 1) (by omega) (by omega)]
   exact (ih false all' s1 (x8 + 1) hn.at_ ha' (by omega) (by simp; omega) (by omega) (by omega)).from hn
  have stop:∀ (c q:Int) (al:List Z8) (z8:Int),c ≠ 0 → ClsR l s (.bad c q) ((Z1g c q (bl l) 0 0).bind fun r2 => Z1V p no z8 (bl l) r2.1 g d rf r2.2.1 r2.2.2 al):=by
   intro c q al z8 hc
   rw [Z6L,q0_,ZhN _ _ _ _ _ _ _ _ _ _ _ hc]
   exact ⟨hc,_,rfl⟩
  apply top
  have hr:=h.range
  unfold Z4X Z86
  rw [Z9B h,q0_]
  by_cases hn:s.us = []
  ·rw [if_pos hn,if_pos (Z1Q (show peek s.us = -1 by rw [hn]; rfl))]
   exact stop _ _ _ _ (by decide)
  have hu:0 ≤ peek s.us ∧ peek s.us ≤ 1114367:=by
   rcases hr with ⟨_,h2⟩ | h2
   ·exact absurd h2 hn
   ·omega
  rw [if_neg hn,if_neg (Z1X (show ¬ peek s.us = -1 by omega))]
  by_cases h1:peek s.us = 93
  ·rw [if_pos h1,if_pos (Z1Q h1)]
   cases fst with
   | true =>
    rw [if_pos rfl,if_pos (Z1Q (hf.1 rfl))]
    exact stop _ _ _ _ (by decide)
   | false =>
    have:¬ x8 = 0:=fun e => by simpa using hf.2 e
    rw [if_neg (show ¬ (false = true) by simp),if_neg (Z1X this)]
    unfold Z7f Z5T
    rw [ZcN h (by omega) hn,q0_]
    cases no with
    | true =>
     rw [if_pos rfl,if_pos rfl,Zxk hall,q0_]
     exact ⟨rfl,Z88 h⟩
    | false =>
     rw [if_neg (by simp),if_neg (by simp)]
     exact ⟨rfl,Z88 h⟩
  rw [if_neg h1,if_neg (Z1X h1)]
  by_cases h2:peek s.us = 91
  ·rw [if_pos (.inl h2),if_pos (Z1Q h2),if_pos (Z1Q h2)]
   exact stop _ _ _ _ (by decide)
  by_cases h3:peek s.us = 45
  ·rw [if_pos (.inr h3),if_neg (Z1X h2),if_pos (Z1Q h3)]
   exact stop _ _ _ _ (by decide)
  rw [if_neg (show ¬ (peek s.us = 91 ∨ peek s.us = 45) by omega),if_neg (Z1X h2),if_neg (Z1X h3)]
  unfold Z5U
  have hm:=Zo5 h hl hn g d rf
  cases hp:pMem s with
  | bad c q =>
   rw [hp] at hm
   obtain ⟨hc,hm⟩:=hm
   rw [hm,q0_]
   have hno:nilO Own.nl ([]:List Z8) = some true:=rfl
   simp only [ZCy]
   rw [hno,q0_,if_neg (show ¬ ((!true) = true) by simp)]
   unfold Z5V
   have hend:wd [45] ⟨[],(l.length:Int),s.gr,s.rf⟩ = none:=rfl
   have hat:At l ⟨[],(l.length:Int),s.gr,s.rf⟩:=⟨l.length,Z2x _,rfl,by rw [Zgg (Z2x _)]; rfl⟩
   have:=Z4o w45 hat hl hend
   dsimp only at this
   rw [this,q0_,if_neg (by simp)]
   unfold Z2D
   rw [if_neg (Z1X hc),ZhN _ _ _ _ _ _ _ _ _ _ _ hc]
   exact ⟨hc,_,rfl⟩
  | ok m s1 =>
   rw [hp] at hm
   obtain ⟨hm,hnx,hlt,hm1,hm2,hm3⟩:=hm
   rw [hm,q0_]
   simp only [Out.bind,ZCx]
   by_cases hs:m.2.1 = []
   ·have hno:nilO (if m.2.1 = [] then Own.nl else Own.ex) (m.2.1.map ofR) = some true:=by rw [if_pos hs]; rfl
    rw [hno,q0_,if_neg (show ¬ ((!true) = true) by simp),if_neg (Zr1 hs)]
    unfold Z5V
    have one:∀ (v:Int) (s2:St),Nx l s s2 → s2.us.length < s.us.length → m.1 ≤ v → v ≤ 1114367 → ClsR l s (Z86 p no k false (Z5E (all ++ [(m.1,v)])) s2) (Z2D p no x8 m.1 v (bl l) s2.pos g d rf 0 0 (all.map ofR)):=by
     intro v s2 hn2 hlt2 hv1 hv2
     unfold Z2D
     have hone:Z2Y [(m.1,v)]:=Zih (by simp only []; omega)
     rw [if_pos (by rfl),show [Z8.mk m.1 v] = [((m.1,v):R2)].map ofR from rfl,ZCt hall hone (by simp),q0_]
     exact next _ s2 hn2 hlt2 (Zhl hall hone)
    cases hw:wd [45] s1 with
    | none =>
     rw [Z4o w45 hnx.at_ hl hw,q0_,if_neg (by simp)]
     exact one m.1 s1 hnx hlt (by omega) (by omega)
    | some s2 =>
     obtain ⟨q1,q2,q3⟩:=Z2A w45 hnx.at_ hl hw
     have hn2:=hnx.trans q2
     have hr2:=q2.at_.range
     rw [q1,q0_,if_pos rfl]
     dsimp only
     rw [Z9B q2.at_,q0_]
     unfold Z3Y
     by_cases c1:peek s2.us = 93
     ·rw [if_pos (.inr (.inl c1)),if_pos (Z1Q c1)]
      exact stop _ _ _ _ (by decide)
     rw [if_neg (Z1X c1)]
     by_cases c2:peek s2.us = 91
     ·rw [if_pos (.inr (.inr (.inl c2))),if_pos (Z1Q c2)]
      exact stop _ _ _ _ (by decide)
     rw [if_neg (Z1X c2)]
     by_cases c3:peek s2.us = 45
     ·rw [if_pos (.inr (.inr (.inr c3))),if_pos (Z1Q c3)]
      exact stop _ _ _ _ (by decide)
     rw [if_neg (Z1X c3)]
     by_cases c4:s2.us = []
     ·rw [if_pos (.inl c4),if_pos (Z2f (show peek s2.us < 0 by rw [c4]; decide))]
      exact stop _ _ _ _ (by decide)
     have hu2:0 ≤ peek s2.us:=by
      rcases hr2 with ⟨_,h2⟩ | h2
      ·exact absurd h2 c4
      ·omega
     rw [if_neg (show ¬ (s2.us = [] ∨ peek s2.us = 93 ∨ peek s2.us = 91 ∨ peek s2.us = 45) by simp only [c1,c2,c3,c4,or_self,not_false_eq_true]),if_neg (Z28 (show ¬ peek s2.us < 0 by omega))]
     unfold Z7g
     have hm':=Zo5 q2.at_ hl c4 g d rf
     cases hp2:pMem s2 with
     | bad c q =>
      rw [hp2] at hm'
      obtain ⟨hc,hm'⟩:=hm'
      rw [hm',q0_]
      dsimp only
      rw [if_neg (Z1X hc)]
      unfold Z2D
      rw [if_neg (Z1X hc),ZhN _ _ _ _ _ _ _ _ _ _ _ hc]
      exact ⟨hc,_,rfl⟩
     | ok m2 s3 =>
      rw [hp2] at hm'
      obtain ⟨hm',hnx',hlt',hm1',hm2',hm3'⟩:=hm'
      rw [hm',q0_]
      dsimp only
      simp only [ZCx]
      rw [if_pos (Z1Q rfl)]
      have fall:∀ z,ClsR l s (.bad 22 s.pos) (Z4A p no x8 s.pos m.1 z (bl l) g d rf 0 0 (all.map ofR)):=by
       intro z
       unfold Z4A
       rw [Z6L,q0_]
       unfold Z2D
       dsimp only
       rw [if_neg (by decide),ZhN _ _ _ _ _ _ _ _ _ _ _ (by decide)]
       exact ⟨by decide,_,rfl⟩
      by_cases e1:m2.2.1 = []
      ·have hno2:nilO (if m2.2.1 = [] then Own.nl else Own.ex) (m2.2.1.map ofR) = some true:=by rw [if_pos e1]; rfl
       rw [hno2,q0_,if_neg (show ¬ ((!true) = true) by simp)]
       by_cases e2:m2.1 < m.1
       ·rw [if_pos (Z2f e2),if_pos (.inr e2)]
        exact fall _
       ·rw [if_neg (Z28 e2),if_neg (show ¬ (m2.2.1 ≠ [] ∨ m2.1 < m.1) by simp only [e1,ne_eq,not_true_eq_false,false_or]; exact e2)]
        exact one m2.1 s3 (hn2.trans hnx') (by omega) (by omega) (by omega)
      ·have hno2:nilO (if m2.2.1 = [] then Own.nl else Own.ex) (m2.2.1.map ofR) = some false:=by rw [if_neg e1]; exact Zr2 e1
       rw [hno2,q0_,if_pos (show (!false) = true from rfl),if_pos (.inl e1)]
       exact fall _
   ·have hno:nilO (if m.2.1 = [] then Own.nl else Own.ex) (m.2.1.map ofR) = some false:=by rw [if_neg hs]; exact Zr2 hs
    have hset:=ZbR m.2.2 hm3
    have hlen:(setR m.2.2 m.2.1).length ≤ 100000:=by have:=ZDR m.2.2 m.2.1; omega
    rw [hno,q0_,if_pos (show (!false) = true from rfl),if_pos hs,ZiC _ (by omega) hm3,q0_,show (setN (setR m.2.2 m.2.1)).Set = (setR m.2.2 m.2.1).map ofR from rfl,ZCt hall hset hlen,q0_,Z9B hnx.at_,q0_]
    by_cases c1:peek s1.us = 45
    ·rw [if_pos c1,if_pos (Z1Q c1)]
     exact stop _ _ _ _ (by decide)
    ·rw [if_neg c1,if_neg (Z1X c1)]
     exact next _ s1 hnx hlt (Zhl hall hset)
theorem Nx.refl {l:List UInt8} {s:St} (h:At l s):Nx l s s:=⟨h,Z2x _,rfl,rfl⟩
theorem ClsR.of {l:List UInt8} {s:St} {o:Out Z9} {b g:Option (Z9 × Int × Int × Int)} (hb:ClsR l s o b) (hg:∀ r,b = some r → g = some r):ClsR l s o g:=by
 cases o with
 | ok n s' => exact ⟨hg _ hb.1,hb.2⟩
 | bad c q => obtain ⟨hc,n,hn⟩:=hb; exact ⟨hc,n,hg _ hn⟩
theorem ZzD {l:List UInt8} {s:St} (h:At l s) (hl:l.length ≤ 1000) (p g d:Int) (rf:List ZA):ClsR l s (Zfn p s) (Z95 p (bl l) s.pos g d rf 0 0):=by
 refine ClsR.of (b:=Z7e p (bl l) s.pos g d rf 0 0) ?_ fun r e => Zjp _ _ _ _ _ _ _ _ e
 have n0:Z2Y []:=trivial
 unfold Z7e Zfn
 cases hw:wd [94] s with
 | none =>
  rw [Z4o w94 h hl hw,q0_]
  have:=h.len
  exact ZpB hl p false g d rf _ true [] s 0 h n0 (by omega) (by simp) (by omega) (by omega)
 | some s1 =>
  obtain ⟨q1,q2,q3⟩:=Z2A w94 h hl hw
  rw [q1,q0_]
  have:=q2.at_.len
  exact (ZpB hl p true g d rf _ true [] s1 0 q2.at_ n0 (by omega) (by simp) (by omega) (by omega)).from q2
theorem w44:Wd (ByteArray.mk #[44]) [44]:=⟨[44],rfl,rfl,by decide,by decide,by decide⟩
theorem w125:Wd (ByteArray.mk #[125]) [125]:=⟨[125],rfl,rfl,by decide,by decide,by decide⟩
theorem w63:Wd (ByteArray.mk #[63]) [63]:=⟨[63],rfl,rfl,by decide,by decide,by decide⟩
theorem w43:Wd (ByteArray.mk #[43]) [43]:=⟨[43],rfl,rfl,by decide,by decide,by decide⟩
theorem w42:Wd (ByteArray.mk #[42]) [42]:=⟨[42],rfl,rfl,by decide,by decide,by decide⟩
theorem w123:Wd (ByteArray.mk #[123]) [123]:=⟨[123],rfl,rfl,by decide,by decide,by decide⟩
theorem Zgd {l:List UInt8} {s:St} (h:At l s) (hl:l.length ≤ 1000) (g d:Int) (rf:List ZA) (x3 x4:Int) (h4:0 ≤ x4 ∧ x4 ≤ 10) (h3:-1 ≤ x3 ∧ x3 ≤ 100) :
  ∀ r,(if x4 < 2 ∧ digit (peek s.us) = true then Z40 (10 * max x3 0 + peek s.us - 48) (x4 + 1) (bl l) (take s).pos g d rf 0 0 else some (x3,s.pos)) = some r → Z40 x3 x4 (bl l) s.pos g d rf 0 0 = some r:=by
 intro r hr
 apply ZgT
 unfold Z7k Z4C
 by_cases h5:x4 < 2
 ·rw [if_pos (Z2f h5),Z9B h,q0_]
  by_cases h6:48 ≤ peek s.us
  ·rw [if_pos (Z2f h6),q0_]
   by_cases h7:peek s.us ≤ 57
   ·have hn:s.us ≠ []:=by
     intro e
     rw [e] at h6
     simp [peek] at h6
    rw [if_pos (Z2f h7)]
    unfold Z7l
    rw [ZcN h (by omega) hn,q0_]
    rw [wrap_i64 (n:=10 * max x3 0) (by omega) (by omega),wrap_i64 (n:=10 * max x3 0 + peek s.us) (by omega) (by omega),wrap_i64 (n:=10 * max x3 0 + peek s.us - 48) (by omega) (by omega),wrap_i64 (n:=x4 + 1) (by omega) (by omega)]
    rw [if_pos ⟨h5,by simp [digit,h6,h7]⟩] at hr
    exact hr
   ·rw [if_neg (Z28 h7)]
    rw [if_neg (by simp [digit,h7])] at hr
    exact hr
  ·rw [if_neg (Z28 h6)]
   rw [if_neg (by simp [digit,h6])] at hr
   exact hr
 ·rw [if_neg (Z28 h5)]
  rw [if_neg (fun e => h5 e.1)] at hr
  exact hr
theorem Zsl {u:Int}:digit u = true ↔ 48 ≤ u ∧ u ≤ 57:=by simp [digit]
theorem Zxl {l:List UInt8} {s:St} (h:At l s) (hl:l.length ≤ 1000) (g d:Int) (rf:List ZA) :
  Z5O (bl l) s.pos g d rf 0 0 = some ((pNum s).1,(pNum s).2.pos) ∧ Nx l s (pNum s).2 ∧ -1 ≤ (pNum s).1 ∧ (pNum s).1 ≤ 99:=by
 have top:∀ r,Z40 (-1) 0 (bl l) s.pos g d rf 0 0 = some r → Z5O (bl l) s.pos g d rf 0 0 = some r:=fun r e => ZiT _ _ _ _ _ _ _ e
 unfold pNum
 by_cases h1:digit (peek s.us) = true
 ·have r1:=Zsl.1 h1
  rw [if_pos h1]
  by_cases h2:digit (peek (take s).us) = true
  ·have r2:=Zsl.1 h2
   rw [if_pos h2]
   refine ⟨top _ (Zgd h hl g d rf _ _ (by omega) (by omega) _ ?_),(Z88 h).trans (Z88 h.take),by simp only []; omega,by simp only []; omega⟩
   rw [if_pos ⟨by omega,h1⟩]
   refine Zgd h.take hl g d rf _ _ (by omega) (by omega) _ ?_
   rw [if_pos ⟨by omega,h2⟩]
   refine Zgd h.take.take hl g d rf _ _ (by omega) (by omega) _ ?_
   rw [if_neg (by omega)]
   congr 2
   omega
  ·rw [if_neg h2]
   refine ⟨top _ (Zgd h hl g d rf _ _ (by omega) (by omega) _ ?_),Z88 h,by simp only []; omega,by simp only []; omega⟩
   rw [if_pos ⟨by omega,h1⟩]
   refine Zgd h.take hl g d rf _ _ (by omega) (by omega) _ ?_
   rw [if_neg (fun e => h2 e.2)]
   congr 2
   omega
 ·rw [if_neg h1]
  refine ⟨top _ (Zgd h hl g d rf _ _ (by omega) (by omega) _ ?_),Nx.refl h,by simp,by simp⟩
  rw [if_neg (fun e => h1 e.2)]
def CntR (l:List UInt8) (s:St) (o:Out (Int × Int)) (r:Option (Int × Int × Int × Int × Int)):Prop :=
 match o with
 | .ok n s' => r = some (n.1,n.2,s'.pos,0,0) ∧ Nx l s s'
 | .bad c q => c ≠ 0 ∧ ∃ a b,r = some (a,b,(l.length:Int),c,q)
theorem CntR.from {l:List UInt8} {s s1:St} {o:Out (Int × Int)} {r:Option (Int × Int × Int × Int × Int)} (h:CntR l s1 o r) (hn:Nx l s s1):CntR l s o r:=by
 cases o with
 | ok n s' => exact ⟨h.1,hn.trans h.2⟩
 | bad c q => exact h
theorem Zkn (l:List UInt8) (s:St) (p lo hi:Int):CntR l s (.bad 23 p) (Z3q p lo hi (bl l) 0 0):=by
 unfold Z3q
 rw [Z6L]
 exact ⟨by decide,lo,hi,rfl⟩
theorem ZrY {l:List UInt8} {s:St} (h:At l s) (hl:l.length ≤ 1000) (p lo hi:Int):CntR l s (pFin p lo hi s) (Z39 p lo hi (bl l) s.pos 0 0):=by
 unfold Z39 pFin
 by_cases h1:lo < 0
 ·rw [if_pos (.inl h1),if_pos (Z2f h1)]
  exact Zkn ..
 by_cases h2:hi < lo
 ·rw [if_pos (.inr (.inl h2)),if_neg (Z28 h1),if_pos (Z2f h2)]
  exact Zkn ..
 by_cases h3:64 < hi
 ·rw [if_pos (.inr (.inr h3)),if_neg (Z28 h1),if_neg (Z28 h2),if_pos (Z2f h3)]
  exact Zkn ..
 rw [if_neg (show ¬ (lo < 0 ∨ hi < lo ∨ 64 < hi) by omega),if_neg (Z28 h1),if_neg (Z28 h2),if_neg (Z28 h3)]
 cases hw:wd [125] s with
 | none =>
  rw [Z4o w125 h hl hw,q0_,if_pos (show (!false) = true from rfl)]
  exact Zkn ..
 | some s1 =>
  obtain ⟨q1,q2,q3⟩:=Z2A w125 h hl hw
  rw [q1,q0_,if_neg (show ¬ ((!true) = true) by simp)]
  exact ⟨rfl,q2⟩
theorem ZxN {l:List UInt8} {s:St} (h:At l s) (hl:l.length ≤ 1000) (p g d:Int) (rf:List ZA):CntR l s (ZbQ p s) (Z6Z p (bl l) s.pos g d rf 0 0):=by
 have top:∀ o,CntR l s o (Z6V p (bl l) s.pos g d rf 0 0) → CntR l s o (Z6Z p (bl l) s.pos g d rf 0 0):=by
  intro o ho
  cases o with
  | ok n s' => exact ⟨Zcq _ _ _ _ _ _ _ _ ho.1,ho.2⟩
  | bad c q => obtain ⟨hc,a,b,hn⟩:=ho; exact ⟨hc,a,b,Zcq _ _ _ _ _ _ _ _ hn⟩
 apply top
 obtain ⟨n1,n2,n3,n4⟩:=Zxl h hl g d rf
 unfold Z6V ZbQ
 rw [n1,q0_]
 dsimp only
 cases hw:wd [44] (pNum s).2 with
 | none =>
  rw [Z4o w44 n2.at_ hl hw,q0_,if_neg (by simp)]
  exact (ZrY n2.at_ hl p _ _).from n2
 | some s2 =>
  obtain ⟨q1,q2,q3⟩:=Z2A w44 n2.at_ hl hw
  obtain ⟨m1,m2,m3,m4⟩:=Zxl q2.at_ hl g d rf
  rw [q1,q0_,if_pos rfl]
  dsimp only
  rw [m1,q0_]
  dsimp only
  have hn:=n2.trans (q2.trans m2)
  by_cases h1:(pNum s2).1 < 0
  ·rw [if_pos (Z2f h1)]
   by_cases h2:0 ≤ (pNum s).1
   ·rw [if_pos (Z2f h2),if_pos (show (pNum s2).1 < 0 ∧ 0 ≤ (pNum s).1 from ⟨h1,h2⟩)]
    unfold Z7h
    have r8:∀ s5:St,CntR l s (.bad 23 p) (Z4B p (pNum s).1 (bl l) s5.pos 0 0):=by
     intro s5
     unfold Z4B Z39
     rw [if_neg (Z28 (show ¬ (pNum s).1 < 0 by omega)),if_pos (Z2f (show (-2:Int) < (pNum s).1 by omega))]
     exact Zkn ..
    cases hw2:wd [125] (pNum s2).2 with
    | none =>
     rw [Z4o w125 m2.at_ hl hw2,q0_,if_neg (by simp)]
     exact r8 _
    | some s4 =>
     obtain ⟨t1,t2,t3⟩:=Z2A w125 m2.at_ hl hw2
     rw [t1,q0_,if_pos rfl]
     by_cases h3:(pNum s).1 ≤ 64
     ·dsimp only
      rw [if_pos (Z2f h3),if_pos h3]
      exact ⟨rfl,hn.trans t2⟩
     ·dsimp only
      rw [if_neg (Z28 h3),if_neg h3]
      exact r8 _
   ·rw [if_neg (Z28 h2),if_neg (show ¬ ((pNum s2).1 < 0 ∧ 0 ≤ (pNum s).1) from fun e => h2 e.2)]
    exact (ZrY m2.at_ hl p _ _).from hn
  ·rw [if_neg (Z28 h1),if_neg (show ¬ ((pNum s2).1 < 0 ∧ 0 ≤ (pNum s).1) from fun e => h1 e.1)]
   exact (ZrY m2.at_ hl p _ _).from hn
def fin (l:List UInt8):St:=⟨[],(l.length:Int),0,[]⟩
theorem fin_at (l:List UInt8):At l (fin l):=⟨l.length,Z2x _,rfl,by rw [Zgg (Z2x _)]; rfl⟩
theorem Ze7 {l:List UInt8} (hl:l.length ≤ 1000) {b:ByteArray} {c:Int} {w:List Int} (hw:Wd b (c :: w)):Z1L b (bl l) (l.length:Int) = some (false,(l.length:Int)) :=
 Z4o hw (fin_at l) hl rfl
theorem Zm1 {l:List UInt8} (hl:l.length ≤ 1000) (c q k lo hi m rr:Int) (st:List Z8) (ks:List Z9):Z3J (bl l) (l.length:Int) c q k lo hi m rr st ks = some (⟨k,lo,hi,m,rr,st,ks⟩,(l.length:Int),c,q):=by
 unfold Z3J
 rw [Ze7 hl w63,q0_,if_neg (by simp)]
 dsimp only
 rw [Ze7 hl w43,q0_,if_neg (by simp)]
 rfl
theorem ZjL {l:List UInt8} {s:St} (h:At l s) (hl:l.length ≤ 1000) (kid:Z9) (may:Bool) (p lo hi:Int):ClsR l s (Z9A kid may p lo hi s) (Z36 may p (bl l) s.pos 0 0 4 lo hi 0 0 [] [kid]):=by
 unfold Z36 Z9A
 cases may with
 | false =>
  rw [if_pos rfl,if_pos (show (!false) = true from rfl),Z6L,q0_]
  dsimp only
  rw [Zm1 hl]
  exact ⟨by decide,_,rfl⟩
 | true =>
  rw [if_neg (by simp),if_neg (show ¬ ((!true) = true) by simp)]
  unfold Z3J Z4q
  cases hw:wd [63] s with
  | some s1 =>
   obtain ⟨t1,t2,t3⟩:=Z2A w63 h hl hw
   rw [t1,q0_,if_pos rfl]
   exact ⟨rfl,t2⟩
  | none =>
   rw [Z4o w63 h hl hw,q0_,if_neg (by simp)]
   dsimp only
   cases hw2:wd [43] s with
   | some s1 =>
    obtain ⟨t1,t2,t3⟩:=Z2A w43 h hl hw2
    rw [t1,q0_,if_pos rfl]
    exact ⟨rfl,t2⟩
   | none =>
    rw [Z4o w43 h hl hw2,q0_,if_neg (by simp)]
    exact ⟨rfl,Nx.refl h⟩
theorem ZDQ {l:List UInt8} (hl:l.length ≤ 1000) (kid:Z9) (may:Bool) (g d:Int) (rf:List ZA) (c q:Int):Z70 kid may (bl l) (l.length:Int) g d rf c q = some (kid,(l.length:Int),c,q):=by
 apply Zcu
 unfold Z5J
 rw [Ze7 hl w42,q0_,if_neg (by simp)]
 dsimp only
 rw [Ze7 hl w43,q0_,if_neg (by simp)]
 dsimp only
 rw [Ze7 hl w63,q0_,if_neg (by simp)]
 dsimp only
 rw [Ze7 hl w123,q0_,if_neg (by simp)]
theorem Zxx {l:List UInt8} {s:St} (h:At l s) (hl:l.length ≤ 1000) (kid:Z9) (may:Bool) (g d:Int) (rf:List ZA):ClsR l s (pRep kid may s) (Z70 kid may (bl l) s.pos g d rf 0 0):=by
 refine ClsR.of (b:=Z5J kid may (bl l) s.pos g d rf 0 0) ?_ fun r e => Zcu _ _ _ _ _ _ _ _ _ e
 unfold Z5J pRep
 cases hw:wd [42] s with
 | some s1 =>
  obtain ⟨t1,t2,t3⟩:=Z2A w42 h hl hw
  rw [t1,q0_,if_pos rfl]
  exact (ZjL t2.at_ hl kid may _ _ _).from t2
 | none =>
  rw [Z4o w42 h hl hw,q0_,if_neg (by simp)]
  dsimp only
  cases hw2:wd [43] s with
  | some s1 =>
   obtain ⟨t1,t2,t3⟩:=Z2A w43 h hl hw2
   rw [t1,q0_,if_pos rfl]
   exact (ZjL t2.at_ hl kid may _ _ _).from t2
  | none =>
   rw [Z4o w43 h hl hw2,q0_,if_neg (by simp)]
   dsimp only
   cases hw3:wd [63] s with
   | some s1 =>
    obtain ⟨t1,t2,t3⟩:=Z2A w63 h hl hw3
    rw [t1,q0_,if_pos rfl]
    exact (ZjL t2.at_ hl kid may _ _ _).from t2
   | none =>
    rw [Z4o w63 h hl hw3,q0_,if_neg (by simp)]
    dsimp only
    cases hw4:wd [123] s with
    | none =>
     rw [Z4o w123 h hl hw4,q0_,if_neg (by simp)]
     exact ⟨rfl,Nx.refl h⟩
    | some s1 =>
     obtain ⟨t1,t2,t3⟩:=Z2A w123 h hl hw4
     rw [t1,q0_,if_pos rfl]
     dsimp only
     have hc:=ZxN t2.at_ hl s.pos g d rf
     cases hp:ZbQ s.pos s1 with
     | bad c q =>
      rw [hp] at hc
      obtain ⟨hc0,a,b,hc⟩:=hc
      rw [hc,q0_]
      unfold Z36
      dsimp only [Out.bind]
      cases may with
      | false =>
       rw [if_pos (show (!false) = true from rfl),Zsm _ _ _ _ _ hc0,q0_]
       dsimp only
       rw [Zm1 hl]
       exact ⟨hc0,_,rfl⟩
      | true =>
       rw [if_neg (show ¬ ((!true) = true) by simp),Zm1 hl]
       exact ⟨hc0,_,rfl⟩
     | ok n s2 =>
      rw [hp] at hc
      obtain ⟨hc,hn⟩:=hc
      rw [hc,q0_]
      exact (ZjL hn.at_ hl kid may _ _ _).from (t2.trans hn)
structure Inv (l:List UInt8) (s:St):Prop where
 at_:At l s
 g0:0 ≤ s.gr
 g9:s.gr ≤ 9
 rf:s.rf.length + s.us.length ≤ 1500
structure Mv (l:List UInt8) (s s':St):Prop where
 at_:At l s'
 len:s'.us.length ≤ s.us.length
 g0:0 ≤ s'.gr
 g9:s'.gr ≤ 9
 rf:s'.rf.length + s'.us.length ≤ s.rf.length + s.us.length
theorem Mv.inv {l:List UInt8} {s s':St} (h:Mv l s s') (hi:Inv l s):Inv l s':=⟨h.at_,h.g0,h.g9,ZhC h.rf hi.rf⟩
theorem Mv.trans {l:List UInt8} {s s' s'':St} (h:Mv l s s') (h':Mv l s' s''):Mv l s s'' :=
 ⟨h'.at_,ZhC h'.len h.len,h'.g0,h'.g9,ZhC h'.rf h.rf⟩
theorem Nx.mv {l:List UInt8} {s s':St} (h:Nx l s s') (hi:Inv l s):Mv l s s' :=
 ⟨h.at_,h.len,by rw [h.gr]; exact hi.g0,by rw [h.gr]; exact hi.g9,by rw [h.rf]; have:=h.len; omega⟩
def AltR (l:List UInt8) (d:Int) (s:St) (o:Out Z9) (r:Option (Z9 × Int × Int × Int × List ZA × Int × Int)):Prop :=
 match o with
 | .ok n s' => r = some (n,s'.pos,s'.gr,d,s'.rf,0,0) ∧ Mv l s s'
 | .bad c q => c ≠ 0 ∧ ∃ n g' d' rf',rf'.length ≤ 1500 ∧ r = some (n,(l.length:Int),g',d',rf',c,q)
def AtmR (l:List UInt8) (d:Int) (s:St) (o:Out (Z9 × Bool)) (r:Option (Z9 × Bool × Int × Int × Int × List ZA × Int × Int)):Prop :=
 match o with
 | .ok n s' => r = some (n.1,n.2,s'.pos,s'.gr,d,s'.rf,0,0) ∧ Mv l s s'
 | .bad c q => c ≠ 0 ∧ ∃ n may g' d' rf',rf'.length ≤ 1500 ∧ r = some (n,may,(l.length:Int),g',d',rf',c,q)
theorem AltR.of {l:List UInt8} {d:Int} {s:St} {o:Out Z9} {b g:Option (Z9 × Int × Int × Int × List ZA × Int × Int)} (hb:AltR l d s o b) (hg:∀ r,b = some r → g = some r):AltR l d s o g:=by
 cases o with
 | ok n s' => exact ⟨hg _ hb.1,hb.2⟩
 | bad c q => obtain ⟨hc,n,g',d',rf',hq,hn⟩:=hb; exact ⟨hc,n,g',d',rf',hq,hg _ hn⟩
theorem AtmR.of {l:List UInt8} {d:Int} {s:St} {o:Out (Z9 × Bool)} {b g:Option (Z9 × Bool × Int × Int × Int × List ZA × Int × Int)} (hb:AtmR l d s o b) (hg:∀ r,b = some r → g = some r):AtmR l d s o g:=by
 cases o with
 | ok n s' => exact ⟨hg _ hb.1,hb.2⟩
 | bad c q => obtain ⟨hc,n,m,g',d',rf',hq,hn⟩:=hb; exact ⟨hc,n,m,g',d',rf',hq,hg _ hn⟩
theorem AltR.from {l:List UInt8} {d:Int} {s s1:St} {o:Out Z9} {r:Option (Z9 × Int × Int × Int × List ZA × Int × Int)} (h:AltR l d s1 o r) (hn:Mv l s s1):AltR l d s o r:=by
 cases o with
 | ok n s' => exact ⟨h.1,hn.trans h.2⟩
 | bad c q => exact h
theorem AtmR.from {l:List UInt8} {d:Int} {s s1:St} {o:Out (Z9 × Bool)} {r:Option (Z9 × Bool × Int × Int × Int × List ZA × Int × Int)} (h:AtmR l d s1 o r) (hn:Mv l s s1):AtmR l d s o r:=by
 cases o with
 | ok n s' => exact ⟨h.1,hn.trans h.2⟩
 | bad c q => exact h
theorem w124:Wd (ByteArray.mk #[124]) [124]:=⟨[124],rfl,rfl,by decide,by decide,by decide⟩
theorem w41:Wd (ByteArray.mk #[41]) [41]:=⟨[41],rfl,rfl,by decide,by decide,by decide⟩
theorem wL0:Wd (ByteArray.mk #[63,61]) [63,61]:=⟨[63,61],rfl,rfl,by decide,by decide,by decide⟩
theorem wL1:Wd (ByteArray.mk #[63,33]) [63,33]:=⟨[63,33],rfl,rfl,by decide,by decide,by decide⟩
theorem wL2:Wd (ByteArray.mk #[63,60,61]) [63,60,61]:=⟨[63,60,61],rfl,rfl,by decide,by decide,by decide⟩
theorem wL3:Wd (ByteArray.mk #[63,60,33]) [63,60,33]:=⟨[63,60,33],rfl,rfl,by decide,by decide,by decide⟩
theorem wAt:Wd (ByteArray.mk #[63,62]) [63,62]:=⟨[63,62],rfl,rfl,by decide,by decide,by decide⟩
theorem wNo:Wd (ByteArray.mk #[63,58]) [63,58]:=⟨[63,58],rfl,rfl,by decide,by decide,by decide⟩
theorem ZoP (x3:List Z9) (b:List Int) (a g d:Int) (rf:List ZA) (c q:Int) (hc:c ≠ 0):Z5M x3 b a g d rf c q = some (joined 2 x3,a,g,d,rf,c,q):=by
 apply Zco
 unfold Z6T Z3C
 rw [if_neg (Z1X hc),Zid]
 rfl
theorem Zmt {l:List UInt8} (hl:l.length ≤ 1000) (x3:List Z9) (g d:Int) (rf:List ZA) (c q:Int):Z5L x3 (bl l) (l.length:Int) g d rf c q = some (joined 3 x3,(l.length:Int),g,d,rf,c,q):=by
 apply Zcm
 unfold Z5H Z6S
 rw [Ze7 hl w124,q0_,if_neg (by simp),Zid]
 rfl
theorem ZCW {l:List UInt8} (hl:l.length ≤ 1000) (g d:Int) (rf:List ZA) (c q:Int) (hc:c ≠ 0):Z4k (bl l) (l.length:Int) g d rf c q = some (nd0,(l.length:Int),g,d,rf,c,q):=by
 apply ZeE
 unfold Z6R
 have:Z6Y (bl l) (l.length:Int) g d rf c q = some (nd0,(l.length:Int),g,d,rf,c,q):=by
  apply ZeG
  unfold Z8l
  exact ZoP _ _ _ _ _ _ _ _ hc
 rw [this,q0_]
 exact Zmt hl _ _ _ _ _ _
theorem Zti {l:List UInt8} (hl:l.length ≤ 1000) {d:Int} {P:Int → St → Out (Z9 × Bool)} (HP:∀ p s,Inv l s → AtmR l d s (P p s) (Z59 p (bl l) s.pos s.gr d s.rf 0 0)) {s:St} (h:Inv l s) (hn:s.us ≠ []) :
  AtmR l d (take s) (Zar P s) (Z9M (bl l) s.pos s.gr d s.rf 0 0):=by
 refine AtmR.of (b:=Z7R (bl l) s.pos s.gr d s.rf 0 0) ?_ fun r e => Zk1 _ _ _ _ _ _ _ e
 have hnx:=Z88 h.at_
 have hiv:=(hnx.mv h).inv h
 have m0:Mv l (take s) (take s):=(Nx.refl hnx.at_).mv hiv
 have hg:(take s).gr = s.gr:=hnx.gr
 have hrf:(take s).rf = s.rf:=hnx.rf
 have hu:0 ≤ peek s.us ∧ peek s.us ≤ 1114367:=by
  rcases h.at_.range with ⟨_,h2⟩ | h2
  ·exact absurd h2 hn
  ·omega
 have bad:∀ c q,c ≠ 0 → AtmR l d (take s) (.bad c q) ((Z1g c q (bl l) 0 0).bind fun r7 => Z25 r7.1 s.gr d s.rf r7.2.1 r7.2.2):=by
  intro c q hc
  rw [Z6L]
  exact ⟨hc,_,_,_,_,_,show s.rf.length ≤ 1500 by have:=h.rf; omega,rfl⟩
 have plain:AtmR l d (take s) (.ok (setN (setR false [(peek s.us,peek s.us)]),true) (take s)) ((Z2y (peek s.us)).bind fun r12 => (Z45 false ([r12]:List Z8)).bind fun r13 => some (r13,true,(take s).pos,s.gr,d,s.rf,0,0)):=by
  have hset:=ZiC false (L:=[(peek s.us,peek s.us)]) (by simp) (by simp; omega)
  rw [Z85,q0_,show [Z8.mk (peek s.us) (peek s.us)] = [((peek s.us,peek s.us):R2)].map ofR from rfl,hset,q0_]
  exact ⟨by rw [hg,hrf],m0⟩
 unfold Z7R Zar
 rw [ZcN h.at_ (by omega) hn,q0_]
 dsimp only
 by_cases h1:peek s.us = 46
 ·rw [if_pos h1,if_pos (Z1Q h1)]
  have hset:=ZiC true (L:=[((10:Int),(10:Int))]) (by simp) (by simp)
  rw [Z85,q0_,show [Z8.mk 10 10] = [((10,10):R2)].map ofR from rfl,hset,q0_]
  exact ⟨by rw [hg,hrf],m0⟩
 rw [if_neg h1,if_neg (Z1X h1)]
 by_cases h2:peek s.us = 94
 ·rw [if_pos h2,if_pos (Z1Q h2)]
  exact ⟨by rw [hg,hrf]; rfl,m0⟩
 rw [if_neg h2,if_neg (Z1X h2)]
 by_cases h3:peek s.us = 36
 ·rw [if_pos h3,if_pos (Z1Q h3)]
  exact ⟨by rw [hg,hrf]; rfl,m0⟩
 rw [if_neg h3,if_neg (Z1X h3)]
 by_cases h4:peek s.us = 92
 ·rw [if_pos h4,if_pos (Z1Q h4)]
  have he:=ZEL hnx.at_ hl (by have:=hiv.rf; omega) s.pos s.gr d
  rw [hrf] at he
  cases hp:pEsc s.pos (take s) with
  | bad c q =>
   rw [hp] at he
   obtain ⟨hc,n,he⟩:=he
   rw [hrf] at he
   rw [he]
   exact ⟨hc,_,_,_,_,_,show s.rf.length ≤ 1500 by have:=h.rf; omega,rfl⟩
  | ok n s' =>
   rw [hp] at he
   obtain ⟨he,e1,e2,e3,e4⟩:=he
   rw [he]
   refine ⟨?_,⟨e1,by omega,by rw [e3,hg]; exact h.g0,by rw [e3,hg]; exact h.g9,e4⟩⟩
   rw [e3,hg]
   rfl
 rw [if_neg h4,if_neg (Z1X h4)]
 by_cases h5:peek s.us = 91
 ·rw [if_pos h5,if_pos (Z1Q h5)]
  have he:=ZzD hnx.at_ hl s.pos s.gr d s.rf
  cases hp:Zfn s.pos (take s) with
  | bad c q =>
   rw [hp] at he
   obtain ⟨hc,n,he⟩:=he
   rw [he]
   exact ⟨hc,_,_,_,_,_,show s.rf.length ≤ 1500 by have:=h.rf; omega,rfl⟩
  | ok n s' =>
   rw [hp] at he
   obtain ⟨he,e1⟩:=he
   rw [he]
   refine ⟨?_,e1.mv hiv⟩
   rw [e1.gr,e1.rf,hg,hrf]
   rfl
 rw [if_neg h5,if_neg (Z1X h5)]
 by_cases h6:peek s.us = 40
 ·rw [if_pos h6,if_pos (Z1Q h6)]
  have he:=HP s.pos (take s) hiv
  rw [hg,hrf] at he
  cases hp:P s.pos (take s) with
  | bad c q =>
   rw [hp] at he
   obtain ⟨hc,n,m,g',d',rf',hq,he⟩:=he
   rw [he]
   exact ⟨hc,_,_,_,_,_,hq,rfl⟩
  | ok n s' =>
   rw [hp] at he
   obtain ⟨he,e1⟩:=he
   rw [he]
   exact ⟨rfl,e1⟩
 rw [if_neg h6,if_neg (Z1X h6)]
 by_cases h7:peek s.us = 42
 ·rw [if_pos (show peek s.us = 42 ∨ peek s.us = 43 ∨ peek s.us = 63 ∨ peek s.us = 123 from .inl h7),if_pos (Z1Q h7),if_pos (Z1Q h7)]
  exact bad _ _ (by decide)
 rw [if_neg (Z1X h7)]
 by_cases h8:peek s.us = 43
 ·rw [if_pos (show peek s.us = 42 ∨ peek s.us = 43 ∨ peek s.us = 63 ∨ peek s.us = 123 from .inr (.inl h8)),if_pos (Z1Q h8),if_pos (Z1Q h8)]
  exact bad _ _ (by decide)
 rw [if_neg (Z1X h8)]
 by_cases h9:peek s.us = 63
 ·rw [if_pos (show peek s.us = 42 ∨ peek s.us = 43 ∨ peek s.us = 63 ∨ peek s.us = 123 from .inr (.inr (.inl h9))),if_pos (Z1Q h9),if_pos (Z1Q h9)]
  exact bad _ _ (by decide)
 rw [if_neg (Z1X h9)]
 by_cases h10:peek s.us = 123
 ·rw [if_pos (show peek s.us = 42 ∨ peek s.us = 43 ∨ peek s.us = 63 ∨ peek s.us = 123 from .inr (.inr (.inr h10))),if_pos (Z1Q h10)]
  exact bad _ _ (by decide)
 rw [if_neg (show ¬ (peek s.us = 42 ∨ peek s.us = 43 ∨ peek s.us = 63 ∨ peek s.us = 123) by omega),if_neg (Z1X h10)]
 by_cases h11:peek s.us = 93
 ·rw [if_pos (show peek s.us = 93 ∨ peek s.us = 125 from .inl h11),if_pos (Z1Q h11),if_pos (Z1Q h11)]
  exact bad _ _ (by decide)
 rw [if_neg (Z1X h11)]
 by_cases h12:peek s.us = 125
 ·rw [if_pos (show peek s.us = 93 ∨ peek s.us = 125 from .inr h12),if_pos (Z1Q h12)]
  exact bad _ _ (by decide)
 rw [if_neg (show ¬ (peek s.us = 93 ∨ peek s.us = 125) by omega),if_neg (Z1X h12)]
 exact plain
end Go.Proofs.YtocikhhkicahoaaDoor.N2
end
section
namespace Go.Proofs.YtocikhhkicahoaaDoor.N2
open Go Go.Abs Go.Proofs.Unis Go.Proofs.Norm
set_option maxRecDepth 100000
section
variable {l:List UInt8} (hl:l.length ≤ 1000) {d:Int} {P:Int → St → Out (Z9 × Bool)} (HP:∀ p s,Inv l s → AtmR l d s (P p s) (Z59 p (bl l) s.pos s.gr d s.rf 0 0))
theorem Zj2 (kids:List Z9) (n:Z9) (h:kids.length ≤ 5000):lapp kids [n] = some (kids ++ [n]):=by
 unfold lapp
 rw [if_pos (by simp [lim]; omega)]
include hl HP in
theorem ZCX:∀ (k:Nat) (kids:List Z9) (s:St),Inv l s → s.us.length < k → kids.length + s.us.length ≤ 3000 → AltR l d s (Z9N P k kids s) (Z5M kids (bl l) s.pos s.gr d s.rf 0 0):=by
 intro k
 induction k with
 | zero => intro kids s _ hk; omega
 | succ k ih =>
  intro kids s h hk hb
  have r9:AltR l d s (.ok (joined 2 kids) s) (Z3C kids s.pos s.gr d s.rf 0 0):=by
   unfold Z3C
   rw [Zid]
   exact ⟨rfl,(Nx.refl h.at_).mv h⟩
  have r7:s.us ≠ [] → AltR l d s ((Zar P s).bind fun m s1 => (pRep m.1 m.2 s1).bind fun n s2 => Z9N P k (kids ++ [n]) s2) (Z4z kids (bl l) s.pos s.gr d s.rf 0 0):=by
   intro hn
   have hlt:=Zld h.at_ hn
   have hiv:=((Z88 h.at_).mv h).inv h
   have ha:=Zti hl HP h hn
   unfold Z4z
   cases hp:Zar P s with
   | bad c q =>
    rw [hp] at ha
    obtain ⟨hc,n,m,g',d',rf',hq,ha⟩:=ha
    rw [ha,q0_]
    dsimp only
    rw [ZDQ hl,q0_]
    dsimp only
    rw [Zj2 _ _ (by omega),q0_,ZoP _ _ _ _ _ _ _ _ hc]
    exact ⟨hc,_,_,_,_,hq,rfl⟩
   | ok n s1 =>
    rw [hp] at ha
    obtain ⟨ha,hm⟩:=ha
    rw [ha,q0_]
    dsimp only [Out.bind]
    have hi1:=hm.inv hiv
    have hr:=Zxx hm.at_ hl n.1 n.2 s1.gr d s1.rf
    cases hp2:pRep n.1 n.2 s1 with
    | bad c q =>
     rw [hp2] at hr
     obtain ⟨hc,n',hr⟩:=hr
     rw [hr,q0_]
     dsimp only
     rw [Zj2 _ _ (by omega),q0_,ZoP _ _ _ _ _ _ _ _ hc]
     exact ⟨hc,_,_,_,_,show s1.rf.length ≤ 1500 by have:=hi1.rf; omega,rfl⟩
    | ok n' s2 =>
     rw [hp2] at hr
     obtain ⟨hr,hx⟩:=hr
     rw [hr,q0_]
     dsimp only
     rw [Zj2 _ _ (by omega),q0_,← hx.gr,← hx.rf]
     have h2:=hx.mv hi1
     have:=h2.len
     have:=hm.len
     exact (ih (kids ++ [n']) s2 (h2.inv hi1) (by omega) (by simp; omega)).from (((Z88 h.at_).mv h).trans (hm.trans h2))
  refine AltR.of (b:=Z6U kids (bl l) s.pos s.gr d s.rf 0 0) ?_ fun r e => ?_
  ·unfold Z6U Z9N
   rw [Z9B h.at_,q0_]
   by_cases hn:s.us = []
   ·have hp:peek s.us = -1:=by rw [hn]; rfl
    rw [if_pos (show stops s.us = true by rw [hn]; rfl),if_pos (Z1Q hp),if_pos (Z1Q hp)]
    exact r9
   have hu:0 ≤ peek s.us:=by
    rcases h.at_.range with ⟨_,h2⟩ | h2
    ·exact absurd h2 hn
    ·omega
   have he:s.us.isEmpty = false:=by
    cases hs:s.us with
    | nil => exact absurd hs hn
    | cons a b => rfl
   rw [if_neg (Z1X (show ¬ peek s.us = -1 by omega))]
   by_cases h1:peek s.us = 124
   ·rw [if_pos (show stops s.us = true by simp [stops,h1]),if_pos (Z1Q h1),if_pos (Z1Q h1)]
    exact r9
   rw [if_neg (Z1X h1)]
   by_cases h2:peek s.us = 41
   ·rw [if_pos (show stops s.us = true by simp [stops,h2]),if_pos (Z1Q h2)]
    exact r9
   rw [if_neg (show ¬ (stops s.us = true) by simp [stops,he,h1,h2]),if_neg (Z1X h2)]
   exact r7 hn
  ·apply Zco
   unfold Z6T
   rw [if_pos (by rfl)]
   exact e
include hl HP in
theorem ZnM {s:St} (h:Inv l s):AltR l d s (pCat P s) (Z6Y (bl l) s.pos s.gr d s.rf 0 0):=by
 have:=h.rf
 refine AltR.of (ZCX hl HP (s.us.length + 1) [] s h (by omega) (by simp; omega)) fun r e => ?_
 apply ZeG
 unfold Z8l
 exact e
include hl HP in
theorem ZCV:∀ (k:Nat) (kids:List Z9) (s:St),Inv l s → s.us.length < k → kids.length + s.us.length ≤ 3000 → AltR l d s (Ze6 P k kids s) (Z5L kids (bl l) s.pos s.gr d s.rf 0 0):=by
 intro k
 induction k with
 | zero => intro kids s _ hk; omega
 | succ k ih =>
  intro kids s h hk hb
  refine AltR.of (b:=Z5H kids (bl l) s.pos s.gr d s.rf 0 0) ?_ fun r e => Zcm _ _ _ _ _ _ _ _ e
  unfold Z5H Ze6
  cases hw:wd [124] s with
  | none =>
   rw [Z4o w124 h.at_ hl hw,q0_,if_neg (by simp)]
   unfold Z6S
   rw [Zid]
   exact ⟨rfl,(Nx.refl h.at_).mv h⟩
  | some s1 =>
   obtain ⟨t1,t2,t3⟩:=Z2A w124 h.at_ hl hw
   have m1:=t2.mv h
   rw [t1,q0_,if_pos rfl]
   unfold Z8C
   have hc:=ZnM hl HP (m1.inv h)
   rw [t2.gr,t2.rf] at hc
   dsimp only
   cases hp:pCat P s1 with
   | bad c q =>
    rw [hp] at hc
    obtain ⟨hc0,n,g',d',rf',hq,hc⟩:=hc
    rw [hc,q0_]
    dsimp only
    rw [Zj2 _ _ (by omega),q0_,Zmt hl]
    exact ⟨hc0,_,_,_,_,hq,rfl⟩
   | ok n s2 =>
    rw [hp] at hc
    obtain ⟨hc,m2⟩:=hc
    rw [hc,q0_]
    dsimp only
    rw [Zj2 _ _ (by omega),q0_]
    have:=m2.len
    exact (ih (kids ++ [n]) s2 (m2.inv (m1.inv h)) (by omega) (by simp; omega)).from (m1.trans m2)
include hl HP in
theorem Ztf {s:St} (h:Inv l s):AltR l d s (Ze5 P s) (Z4k (bl l) s.pos s.gr d s.rf 0 0):=by
 refine AltR.of (b:=Z6R (bl l) s.pos s.gr d s.rf 0 0) ?_ fun r e => ZeE _ _ _ _ _ _ _ e
 unfold Z6R Ze5
 have hc:=ZnM hl HP h
 cases hp:pCat P s with
 | bad c q =>
  rw [hp] at hc
  obtain ⟨hc0,n,g',d',rf',hq,hc⟩:=hc
  rw [hc,q0_]
  dsimp only
  rw [Zmt hl]
  exact ⟨hc0,_,_,_,_,hq,rfl⟩
 | ok n s2 =>
  rw [hp] at hc
  obtain ⟨hc,m2⟩:=hc
  rw [hc,q0_]
  have:=m2.len
  have:=h.rf
  exact (ZCV hl HP (s2.us.length + 1) [n] s2 (m2.inv h) (by omega) (by simp; omega)).from m2
end
theorem ff:¬ (false = true):=by simp
theorem ZjH {l:List UInt8} {s:St} (h:At l s) (hl:l.length ≤ 1000) {L:List ByteArray} {i:Nat} {b:ByteArray} {w:List Int} (hw:Wd b w) (hL:L[i]? = some b) (hi:i ≤ 100) (e:wd w s = none):∀ r,Z2n L (L.length:Int) ((i + 1:Nat):Int) (bl l) s.pos = some r → Z2n L (L.length:Int) (i:Int) (bl l) s.pos = some r:=by
 intro r hr
 have hlt:i < L.length:=(q2_.1 hL).1
 apply Z6m
 unfold Z3v Z3Z
 rw [if_pos (Z2f (by omega)),Z4b,hL,q0_,Z4o hw h hl e,q0_,if_neg (by simp)]
 unfold Z53
 rw [wrap_i64 (by omega) (by omega)]
 exact hr
theorem ZlM {l:List UInt8} {s s1:St} (h:At l s) (hl:l.length ≤ 1000) {L:List ByteArray} {i:Nat} {b:ByteArray} {w:List Int} (hw:Wd b w) (hL:L[i]? = some b) (e:wd w s = some s1):Z2n L (L.length:Int) (i:Int) (bl l) s.pos = some ((i:Int),s1.pos):=by
 have hlt:i < L.length:=(q2_.1 hL).1
 apply Z6m
 unfold Z3v Z3Z
 rw [if_pos (Z2f (by omega)),Z4b,hL,q0_,(Z2A hw h hl e).1,q0_,if_pos rfl]
theorem ZDs (l:List UInt8) (p:Int) (L:List ByteArray):Z2n L (L.length:Int) (L.length:Int) (bl l) p = some (-1,p):=by
 apply Z6m
 unfold Z3v
 rw [if_neg (Z28 (by omega))]
 rfl
theorem ZsB {l:List UInt8} (hl:l.length ≤ 1000) {d:Int} (hd:0 ≤ d ∧ d < 32) {A:St → Out Z9} (HA:∀ s,Inv l s → AltR l (d + 1) s (A s) (Z4k (bl l) s.pos s.gr (d + 1) s.rf 0 0)) (p:Int) (s:St) (h:Inv l s) :
  AtmR l d s (Zas A p s) (Z59 p (bl l) s.pos s.gr d s.rf 0 0):=by
 have r20:∀ (a g:Int) (rf:List ZA) (c q k lo hi m rr:Int) (st:List Z8) (kid:Z9),Z3a a g (d + 1) rf c q k lo hi m rr st kid = some ((if k = 0 then kid else ⟨k,lo,hi,m,rr,st,[kid]⟩),(if k = 0 then true else k != 7),a,g,d,rf,c,q):=by
  intro a g rf c q k lo hi m rr st kid
  unfold Z3a Z5W
  rw [wrap_i64 (n:=d + 1 - 1) (by omega) (by omega),show d + 1 - 1 = d by omega]
  by_cases hk:k = 0
  ·rw [if_pos (Z1Q hk),if_pos hk,if_pos hk]
  ·rw [if_neg (Z1X hk),if_neg hk,if_neg hk]
 have r20':∀ (a g d0:Int) (rf:List ZA) (c q k lo hi m rr:Int) (st:List Z8) (kid:Z9),∃ n may d',Z3a a g d0 rf c q k lo hi m rr st kid = some (n,may,a,g,d',rf,c,q):=by
  intro a g d0 rf c q k lo hi m rr st kid
  unfold Z3a Z5W
  by_cases hk:k = 0
  ·exact ⟨_,_,_,by rw [if_pos (Z1Q hk)]⟩
  ·exact ⟨_,_,_,by rw [if_neg (Z1X hk)]⟩
 have stop:∀ (g d0:Int) (rf:List ZA) (c q k lo hi m rr:Int) (st:List Z8),c ≠ 0 → rf.length ≤ 1500 → AtmR l d s (.bad c q) (Z2s p (bl l) (l.length:Int) g d0 rf c q k lo hi m rr st):=by
  intro g d0 rf c q k lo hi m rr st hc hq
  unfold Z2s
  rw [ZCW hl _ _ _ _ _ hc,q0_]
  dsimp only
  rw [if_neg (Z1X hc)]
  obtain ⟨n,may,d',e⟩:=r20' (l.length:Int) g d0 rf c q k lo hi m rr st nd0
  rw [e]
  exact ⟨hc,_,_,_,_,_,hq,rfl⟩
 have go:∀ (k m rr:Int) (s1:St),Mv l s s1 → AtmR l d s ((A s1).bind fun kid s2 => match wd [41] s2 with
   | none => .bad 20 p
   | some s3 => if k = 0 then .ok (kid,true) s3 else .ok (⟨k,0,0,m,rr,[],[kid]⟩,k != 7) s3) (Z2s p (bl l) s1.pos s1.gr (d + 1) s1.rf 0 0 k 0 0 m rr []):=by
  intro k m rr s1 hm
  have hi1:=hm.inv h
  have ha:=HA s1 hi1
  unfold Z2s
  cases hp:A s1 with
  | bad c q =>
   rw [hp] at ha
   obtain ⟨hc,n,g',d',rf',hq,ha⟩:=ha
   rw [ha,q0_]
   dsimp only
   rw [if_neg (Z1X hc)]
   obtain ⟨n,may,d'',e⟩:=r20' (l.length:Int) g' d' rf' c q k 0 0 m rr [] n
   rw [e]
   exact ⟨hc,_,_,_,_,_,hq,rfl⟩
  | ok n s2 =>
   rw [hp] at ha
   obtain ⟨ha,m2⟩:=ha
   rw [ha,q0_]
   dsimp only [Out.bind]
   rw [if_pos (Z1Q rfl)]
   cases hw:wd [41] s2 with
   | none =>
    rw [Z4o w41 m2.at_ hl hw,q0_,if_pos (show (!false) = true from rfl)]
    unfold Z7m
    rw [Z6L,q0_,r20]
    exact ⟨by decide,_,_,_,_,_,show s2.rf.length ≤ 1500 by have:=(m2.inv hi1).rf; omega,rfl⟩
   | some s3 =>
    obtain ⟨t1,t2,t3⟩:=Z2A w41 m2.at_ hl hw
    rw [t1,q0_,if_neg (show ¬ ((!true) = true) by simp),r20,← t2.gr,← t2.rf]
    have mm:=hm.trans (m2.trans (t2.mv (m2.inv hi1)))
    dsimp only
    by_cases hk:k = 0
    ·rw [if_pos hk,if_pos hk,if_pos hk]
     exact ⟨rfl,mm⟩
    ·rw [if_neg hk,if_neg hk,if_neg hk]
     exact ⟨rfl,mm⟩
 refine AtmR.of (b:=Z6p p (bl l) s.pos s.gr d s.rf 0 0 0 0 0 0 0 []) ?_ fun r e => ?_
 ·unfold Z6p Zas Zo8
  have g9:=h.g9
  have g0:=h.g0
  have lk:Ze3 = some [(ByteArray.mk #[63,61]),(ByteArray.mk #[63,33]),(ByteArray.mk #[63,60,61]),(ByteArray.mk #[63,60,33])]:=ZoW rfl
  rw [lk,q0_,wrap_i64 (n:=d + 1) (by omega) (by omega)]
  generalize hL:[(ByteArray.mk #[63,61]),(ByteArray.mk #[63,33]),(ByteArray.mk #[63,60,61]),(ByteArray.mk #[63,60,33])] = L
  have L0:L[0]? = some (ByteArray.mk #[63,61]):=by rw [← hL]; rfl
  have L1:L[1]? = some (ByteArray.mk #[63,33]):=by rw [← hL]; rfl
  have L2:L[2]? = some (ByteArray.mk #[63,60,61]):=by rw [← hL]; rfl
  have L3:L[3]? = some (ByteArray.mk #[63,60,33]):=by rw [← hL]; rfl
  have Ll:L.length = 4:=by rw [← hL]; rfl
  have idx:∀ r,Z2n L (L.length:Int) ((0:Nat):Int) (bl l) s.pos = some r → Z5S L (bl l) s.pos = some r:=by
   intro r e
   apply Zel
   unfold Z5P
   exact e
  cases hw0:wd [63,61] s with
  | some s1 =>
   rw [idx _ (ZlM h.at_ hl wL0 L0 hw0),q0_]
   obtain ⟨t1,t2,t3⟩:=Z2A wL0 h.at_ hl hw0
   have:=go 7 0 0 s1 (t2.mv h)
   rw [t2.gr,t2.rf] at this
   exact this
  | none =>
  have i1:=fun r e => idx r (ZjH h.at_ hl wL0 L0 (by omega) hw0 r e)
  cases hw1:wd [63,33] s with
  | some s1 =>
   rw [i1 _ (ZlM h.at_ hl wL1 L1 hw1),q0_]
   obtain ⟨t1,t2,t3⟩:=Z2A wL1 h.at_ hl hw1
   have:=go 7 1 0 s1 (t2.mv h)
   rw [t2.gr,t2.rf] at this
   exact this
  | none =>
  have i2:=fun r e => i1 r (ZjH h.at_ hl wL1 L1 (by omega) hw1 r e)
  cases hw2:wd [63,60,61] s with
  | some s1 =>
   rw [i2 _ (ZlM h.at_ hl wL2 L2 hw2),q0_]
   obtain ⟨t1,t2,t3⟩:=Z2A wL2 h.at_ hl hw2
   have:=go 7 2 0 s1 (t2.mv h)
   rw [t2.gr,t2.rf] at this
   exact this
  | none =>
  have i3:=fun r e => i2 r (ZjH h.at_ hl wL2 L2 (by omega) hw2 r e)
  cases hw3:wd [63,60,33] s with
  | some s1 =>
   rw [i3 _ (ZlM h.at_ hl wL3 L3 hw3),q0_]
   obtain ⟨t1,t2,t3⟩:=Z2A wL3 h.at_ hl hw3
   have:=go 7 3 0 s1 (t2.mv h)
   rw [t2.gr,t2.rf] at this
   exact this
  | none =>
  have i4:=i3 _ (ZjH h.at_ hl wL3 L3 (by omega) hw3 _ (by have:=ZDs l s.pos L; rw [Ll] at this ⊢; exact this))
  rw [i4,q0_]
  dsimp only
  rw [if_neg (Z28 (show ¬ ((0:Int) ≤ -1) by decide))]
  cases hw4:wd [63,62] s with
  | some s1 =>
   obtain ⟨t1,t2,t3⟩:=Z2A wAt h.at_ hl hw4
   rw [t1,q0_,if_pos rfl]
   have:=go 8 0 0 s1 (t2.mv h)
   rw [t2.gr,t2.rf] at this
   exact this
  | none =>
  rw [Z4o wAt h.at_ hl hw4,q0_,if_neg ff]
  dsimp only
  cases hw5:wd [63,58] s with
  | some s1 =>
   obtain ⟨t1,t2,t3⟩:=Z2A wNo h.at_ hl hw5
   rw [t1,q0_,if_pos rfl]
   have:=go 0 0 0 s1 (t2.mv h)
   rw [t2.gr,t2.rf] at this
   exact this
  | none =>
  rw [Z4o wNo h.at_ hl hw5,q0_,if_neg ff]
  dsimp only
  rw [Z9B h.at_,q0_]
  by_cases h1:peek s.us = 63
  ·rw [if_pos h1,if_pos (Z1Q h1),Z6L,q0_]
   exact stop _ _ _ _ _ _ _ _ _ _ _ (by decide) (by have:=h.rf; omega)
  rw [if_neg h1,if_neg (Z1X h1)]
  by_cases h2:s.gr = 9
  ·rw [if_pos h2,if_pos (Z1Q h2),Z6L,q0_]
   exact stop _ _ _ _ _ _ _ _ _ _ _ (by decide) (by have:=h.rf; omega)
  rw [if_neg h2,if_neg (Z1X h2),wrap_i64 (n:=s.gr + 1) (by omega) (by omega)]
  have mm:Mv l s { s with gr:=s.gr + 1 }:=⟨h.at_,Z2x _,by simp only []; omega,by simp only []; omega,Z2x _⟩
  exact go 5 0 (s.gr + 1) { s with gr:=s.gr + 1 } mm
 ·apply Z9W
  unfold Z6a
  rw [if_neg (Z1X (show ¬ d = 32 by omega))]
  exact e
theorem Zkk {l:List UInt8} (hl:l.length ≤ 1000):∀ (k:Nat) (d:Int),d + k = 32 → 0 ≤ d → ∀ s,Inv l s → AltR l d s (pAlt k s) (Z4k (bl l) s.pos s.gr d s.rf 0 0):=by
 intro k
 induction k with
 | zero =>
  intro d hd h0 s h
  refine Ztf hl (P:=fun p _ => .bad 25 p) ?_ h
  intro p s h
  refine ⟨by decide,nd0,true,s.gr,d,s.rf,by have:=h.rf; omega,?_⟩
  apply Z9W
  unfold Z6a
  rw [if_pos (Z1Q (show d = 32 by omega)),Z6L]
  rfl
 | succ k ih =>
  intro d hd h0 s h
  exact Ztf hl (P:=fun p s => Zas (pAlt k) p s) (fun p s h => ZsB hl (by omega) (ih (d + 1) (by omega) (by omega)) p s h) h
end Go.Proofs.YtocikhhkicahoaaDoor.N2
end
section
namespace Go.Proofs.YtocikhhkicahoaaDoor.N2
open Go Go.Abs Go.Proofs.Unis Go.Proofs.Norm
set_option maxRecDepth 100000
theorem Zpo {l:List UInt8} (R:List ZA) (hR:R.length ≤ 2000) (g c q k lo hi m rr:Int) (st:List Z8) (ks:List Z9) (fold:Bool) (hc:c ≠ 0):∀ (n i:Nat),i + n = R.length →
  Z81 R (R.length:Int) (i:Int) (bl l) g c q k lo hi m rr st ks fold = some (Zfk,⟨c,q⟩):=by
 intro n
 induction n with
 | zero =>
  intro i h
  apply Z9L
  unfold Z6I Z8R
  rw [if_neg (Z28 (by omega)),if_pos (Zx3 hc)]
  rfl
 | succ n ih =>
  intro i h
  have hil:i < R.length:=by omega
  apply Z9L
  unfold Z6I Z8Q
  rw [if_pos (Z2f (by omega)),Z4b,q4_ hil,q0_]
  have r13:Z5s R (R.length:Int) (i:Int) (bl l) g c q k lo hi m rr st ks fold = some (Zfk,⟨c,q⟩):=by
   unfold Z5s
   rw [wrap_i64 (by omega) (by omega)]
   exact ih (i + 1) (by omega)
  by_cases hg:g < R[i].group
  ·rw [if_pos (Z2f hg),Zsm _ _ _ _ _ hc,q0_]
   exact r13
  ·rw [if_neg (Z28 hg)]
   exact r13
theorem ZFg {l:List UInt8} (R:List ZA) (hR:R.length ≤ 2000) (g k lo hi m rr:Int) (st:List Z8) (ks:List Z9) (fold:Bool):∀ (n i:Nat),i + n = R.length →
  Z81 R (R.length:Int) (i:Int) (bl l) g 0 0 k lo hi m rr st ks fold = some (match (R.drop i).find? (fun x => decide (g < x.group)) with
   | some x => (Zfk,⟨26,x.at_⟩)
   | none => (⟨⟨k,lo,hi,m,rr,st,ks⟩,g,fold⟩,⟨0,0⟩)):=by
 intro n
 induction n with
 | zero =>
  intro i h
  rw [Zgg (by omega)]
  apply Z9L
  unfold Z6I Z8R
  rw [if_neg (Z28 (by omega)),if_neg (Zx2 rfl)]
  rfl
 | succ n ih =>
  intro i h
  have hil:i < R.length:=by omega
  apply Z9L
  unfold Z6I Z8Q
  rw [if_pos (Z2f (by omega)),Z4b,q4_ hil,q0_,Zgh hil,List.find?_cons]
  by_cases hg:g < R[i].group
  ·rw [if_pos (Z2f hg),Z6L,q0_]
   simp only [hg,decide_true]
   unfold Z5s
   rw [wrap_i64 (by omega) (by omega)]
   exact Zpo R hR g 26 _ k lo hi m rr st ks fold (by decide) n (i + 1) (by omega)
  ·rw [if_neg (Z28 hg)]
   simp only [hg,decide_false]
   unfold Z5s
   rw [wrap_i64 (by omega) (by omega)]
   exact ih (i + 1) (by omega)
theorem wFo:Wd (ByteArray.mk #[40,63,105,41]) [40,63,105,41]:=⟨[40,63,105,41],rfl,rfl,by decide,by decide,by decide⟩
def Z3d (x:ByteArray):Z1f × Z16 :=
 if 256 < x.data.toList.length then (Zfk,⟨12,0⟩) else Z7W (unis x.data.toList)
theorem Zx6 {l:List UInt8} (hl:l.length ≤ 1000) (fold:Bool) {s:St} (h:Inv l s) (hg:s.gr = 0) (hrf:s.rf = []) :
  ((Z4k (bl l) s.pos 0 0 [] 0 0).bind fun r2 =>
   if ((r2.2.2.2.2.2.1 == 0)) = true then
   (if ((decide (r2.2.1 < ((bl l).length:Int)))) = true then
   (Z9k (bl l) r2.2.1 r2.2.2.1 r2.2.2.2.2.1 r2.2.2.2.2.2.1 r2.2.2.2.2.2.2 r2.1.Kind r2.1.Lo r2.1.Hi r2.1.Mode r2.1.Ref r2.1.Set r2.1.Kids fold)
   else
   (Z52 (bl l) r2.2.2.1 r2.2.2.2.2.1 r2.2.2.2.2.2.1 r2.2.2.2.2.2.2 r2.1.Kind r2.1.Lo r2.1.Hi r2.1.Mode r2.1.Ref r2.1.Set r2.1.Kids fold))
   else
   (Z52 (bl l) r2.2.2.1 r2.2.2.2.2.1 r2.2.2.2.2.2.1 r2.2.2.2.2.2.2 r2.1.Kind r2.1.Lo r2.1.Hi r2.1.Mode r2.1.Ref r2.1.Set r2.1.Kids fold)) = some (pEnd fold (pAlt 32 s)):=by
 have ha:=Zkk hl 32 0 (by omega) (by omega) s h
 rw [hg,hrf] at ha
 cases hp:pAlt 32 s with
 | bad c q =>
  rw [hp] at ha
  obtain ⟨hc,n,g',d',rf',hq,ha⟩:=ha
  rw [ha,q0_]
  dsimp only
  rw [if_neg (Z1X hc)]
  unfold Z52 pEnd
  exact Zpo (l:=l) rf' (by omega) g' c q n.Kind n.Lo n.Hi n.Mode n.Ref n.Set n.Kids fold hc rf'.length 0 (by omega)
 | ok n s2 =>
  rw [hp] at ha
  obtain ⟨ha,hm⟩:=ha
  have hi:=hm.inv h
  have hR:=hi.rf
  rw [ha,q0_]
  dsimp only
  rw [if_pos (Z1Q rfl),Zcf]
  unfold Z9k Z52 pEnd
  by_cases hn:s2.us = []
  ·have hpos:=hm.at_.nil.1 hn
   rw [if_neg (Z28 (by omega))]
   dsimp only
   rw [if_neg (Zr1 hn)]
   have:=ZFg (l:=l) s2.rf (by omega) s2.gr n.Kind n.Lo n.Hi n.Mode n.Ref n.Set n.Kids fold s2.rf.length 0 (by omega)
   rw [Zpl,show (⟨n.Kind,n.Lo,n.Hi,n.Mode,n.Ref,n.Set,n.Kids⟩:Z9) = n by cases n; rfl] at this
   exact this
  ·have hpos:s2.pos < (l.length:Int):=by
    have h1:=hm.at_.len
    have:s2.pos ≠ l.length:=fun e => hn (hm.at_.nil.2 e)
    omega
   rw [if_pos (Z2f hpos),Z6L,q0_]
   dsimp only
   rw [if_pos hn]
   exact Zpo (l:=l) s2.rf (by omega) s2.gr 20 _ n.Kind n.Lo n.Hi n.Mode n.Ref n.Set n.Kids fold (by decide) s2.rf.length 0 (by omega)
theorem ZsC (x:ByteArray):Ze2 x = some (Z3d x):=by
 apply ZoU
 unfold ZdY Z3d
 have hsz:x.size = x.data.toList.length:=rfl
 by_cases h:256 < x.data.toList.length
 ·rw [if_pos (Z2f (by rw [hsz]; omega)),if_pos h]
  rfl
 ·rw [if_neg (Z28 (by rw [hsz]; omega)),if_neg h]
  unfold Zbk Z7W
  rw [Zzx]
  generalize x.data.toList = l at h ⊢
  have hat:At l ⟨unis l,0,0,[]⟩:=⟨0,by omega,rfl,rfl⟩
  have hi:Inv l ⟨unis l,0,0,[]⟩:=⟨hat,by simp,by simp,by have:=hat.len; simp only [] at this; simp; omega⟩
  cases hw:wd [40,63,105,41] ⟨unis l,0,0,[]⟩ with
  | none =>
   have:=Z4o wFo hat (by omega) hw
   dsimp only at this
   rw [this,q0_]
   exact Zx6 (by omega) false hi rfl rfl
  | some s1 =>
   obtain ⟨t1,t2,t3⟩:=Z2A wFo hat (by omega) hw
   dsimp only at t1
   rw [t1,q0_]
   exact Zx6 (by omega) true ((t2.mv hi).inv hi) t2.gr t2.rf
end Go.Proofs.YtocikhhkicahoaaDoor.N2
end
