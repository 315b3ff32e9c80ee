/- The parser as a plain function of units. No condition. -/
import Derived.Test.YtocikhhkicahoaaDoorEvD
import Derived.Test.YtocikhhkicahoaaDoorTypA

set_option linter.unusedSimpArgs false
set_option linter.unusedVariables false
set_option linter.defProp false
section
namespace Go.Proofs.Unis
open Go Go.Abs
theorem Zp6 {l:List UInt8} {j:Nat} {x:UInt8} (h:l[j]? = some x):(⟨l.toArray⟩:ByteArray).get! j = x:=by
 show l.toArray[j]! = x
 have hj:=(q2_.1 h)
 obtain ⟨h1,h2⟩:=hj
 rw [getElem!_pos l.toArray j (by simpa using h1)]
 simpa using h2
theorem size_mk (l:List UInt8):(⟨l.toArray⟩:ByteArray).size = l.length:=by
 show l.toArray.size = _
 simp
theorem ZDW {r:Nat} (h:Utf8.valid r = true):r ≤ 1114111:=by
 unfold Utf8.valid at h
 simp at h
 omega
theorem Zao {c:Prop} [Decidable c] {a b:Nat × Nat} {P:Nat × Nat → Prop} (h1:c → P a) (h2:¬ c → P b):P (if c then a else b):=by
 split
 ·exact h1 ‹_›
 ·exact h2 ‹_›
theorem ZsP (s:ByteArray):(Lib.decodeGo s).1 ≤ 1114111 ∧ (s.size ≠ 0 → 1 ≤ (Lib.decodeGo s).2) ∧ (Lib.decodeGo s).2 ≤ 4:=by
 unfold Lib.decodeGo
 split
 ·exact ⟨by simp,fun h => absurd ‹_› h,by simp⟩
 ·suffices h:(Utf8.decode s 0).1 ≤ 1114111 ∧ 1 ≤ (Utf8.decode s 0).2 ∧ (Utf8.decode s 0).2 ≤ 4 from ⟨h.1,fun _ => h.2.1,h.2.2⟩
  have hb:(s.get! 0).toNat < 256:=UInt8.toNat_lt _
  unfold Utf8.decode
  simp only
  refine Zao (P:=fun r => r.1 ≤ 1114111 ∧ 1 ≤ r.2 ∧ r.2 ≤ 4) (fun _ => ⟨by simp; omega,by simp,by simp⟩) fun _ => ?_
  refine Zao (P:=fun r => r.1 ≤ 1114111 ∧ 1 ≤ r.2 ∧ r.2 ≤ 4) (fun _ => Zao (P:=fun r => r.1 ≤ 1114111 ∧ 1 ≤ r.2 ∧ r.2 ≤ 4) (fun _ => ⟨by simp; omega,by simp,by simp⟩) fun _ => ⟨by simp [Utf8.runeError],by simp,by simp⟩) fun _ => ?_
  refine Zao (P:=fun r => r.1 ≤ 1114111 ∧ 1 ≤ r.2 ∧ r.2 ≤ 4) (fun _ => Zao (P:=fun r => r.1 ≤ 1114111 ∧ 1 ≤ r.2 ∧ r.2 ≤ 4) (fun h => ⟨by simp; omega,by simp,by simp⟩) fun _ => ⟨by simp [Utf8.runeError],by simp,by simp⟩) fun _ => ?_
  refine Zao (P:=fun r => r.1 ≤ 1114111 ∧ 1 ≤ r.2 ∧ r.2 ≤ 4) (fun _ => Zao (P:=fun r => r.1 ≤ 1114111 ∧ 1 ≤ r.2 ∧ r.2 ≤ 4) (fun h => ⟨ZDW (by simp only [Z4R,decide_eq_true_eq] at h; exact h.2),by simp,by simp⟩) fun _ => ⟨by simp [Utf8.runeError],by simp,by simp⟩) fun _ => ?_
  exact ⟨by simp [Utf8.runeError],by simp,by simp⟩
theorem ZC0 (l:List UInt8) (j:Nat):(⟨l.toArray⟩:ByteArray).get! j = l.getD j 0:=by
 by_cases h:j < l.length
 ·rw [Zp6 (x:=l[j]) (by simp [h])]
  simp [h]
 ·show l.toArray[j]! = _
  rw [getElem!_neg l.toArray j (by simpa using h)]
  rw [Z87,ZcL (by omega)]
  rfl
def dec (n a b c d:Nat):Nat × Nat :=
 if a < 128 then (a,1)
 else if a / 32 = 6 ∧ 1 < n ∧ b / 64 = 2 then (if (a % 32) * 64 + b % 64 ≥ 128 then ((a % 32) * 64 + b % 64,2) else (65533,1))
 else if a / 16 = 14 ∧ (1 < n ∧ b / 64 = 2) ∧ 2 < n ∧ c / 64 = 2 then
  (if (a % 16) * 4096 + (b % 64) * 64 + c % 64 ≥ 2048 ∧ Utf8.valid (((a % 16) * 4096 + (b % 64) * 64 + c % 64:Nat):Int) = true then ((a % 16) * 4096 + (b % 64) * 64 + c % 64,3) else (65533,1))
 else if a / 8 = 30 ∧ (1 < n ∧ b / 64 = 2) ∧ (2 < n ∧ c / 64 = 2) ∧ 3 < n ∧ d / 64 = 2 then
  (if (a % 8) * 262144 + (b % 64) * 4096 + (c % 64) * 64 + d % 64 ≥ 65536 ∧ Utf8.valid (((a % 8) * 262144 + (b % 64) * 4096 + (c % 64) * 64 + d % 64:Nat):Int) = true then ((a % 8) * 262144 + (b % 64) * 4096 + (c % 64) * 64 + d % 64,4) else (65533,1))
 else (65533,1)
theorem ZFv {l:List UInt8} (h:l ≠ []):Lib.decodeGo ⟨l.toArray⟩ = dec l.length (l.getD 0 0).toNat (l.getD 1 0).toNat (l.getD 2 0).toNat (l.getD 3 0).toNat:=by
 have hs:(⟨l.toArray⟩:ByteArray).size ≠ 0:=by
  rw [size_mk]
  exact fun e => h (Zpg.1 e)
 unfold Lib.decodeGo
 rw [if_neg hs]
 unfold Utf8.decode dec Utf8.runeError
 simp only [ZC0,size_mk,Zfq,ZbF,Z4R,decide_eq_true_eq,beq_iff_eq,ge_iff_le,and_assoc]
theorem ZCH (n:Nat):Utf8.valid (n:Int) = true ↔ n < 55296 ∨ (57344 ≤ n ∧ n ≤ 1114111):=by
 unfold Utf8.valid
 simp
 omega
def ZbS (a:Nat) (r:Nat × Nat):Int × Nat:=if r.1 = 65533 ∧ r.2 = 1 then (1114112 + (a:Int),1) else ((r.1:Int),r.2)
theorem Zwp {a m k:Nat} (h:k ≠ 1 ∨ m ≠ 65533):ZbS a (m,k) = ((m:Int),k):=by
 unfold ZbS
 rw [if_neg]
 rintro ⟨h1,h2⟩
 rcases h with h | h
 ·exact h h2
 ·exact h h1
def nth (s:List UInt8) (j:Nat):Nat:=(s.getD j 0).toNat
theorem ZCd (s:List UInt8) (j:Nat):nth s j < 256:=(s.getD j 0).toNat_lt
def U (s:List UInt8):Int × Nat:=ZbS (nth s 0) (dec s.length (nth s 0) (nth s 1) (nth s 2) (nth s 3))
def more (n j b:Nat):Prop:=j < n ∧ b / 64 = 2
theorem ZzF {n n' a b c d b' c' d':Nat} (hb:(more n 1 b ↔ more n' 1 b') ∧ (more n 1 b → b = b')) (hc:more n 1 b → (more n 2 c ↔ more n' 2 c') ∧ (more n 2 c → c = c'))
  (hd:more n 1 b → more n 2 c → (more n 3 d ↔ more n' 3 d') ∧ (more n 3 d → d = d')):dec n a b c d = dec n' a b' c' d':=by
 unfold more at hb hc hd
 unfold dec
 by_cases h1:1 < n ∧ b / 64 = 2
 ·have h1':=hb.1.1 h1
  have e1:=hb.2 h1
  subst e1
  by_cases h2:2 < n ∧ c / 64 = 2
  ·have h2':=(hc h1).1.1 h2
   have e2:=(hc h1).2 h2
   subst e2
   by_cases h3:3 < n ∧ d / 64 = 2
   ·have h3':=(hd h1 h2).1.1 h3
    have e3:=(hd h1 h2).2 h3
    subst e3
    simp only [h1,h1',h2,h2',h3,h3',true_and,and_true]
   ·have h3':¬ (3 < n' ∧ d' / 64 = 2):=fun h => h3 ((hd h1 h2).1.2 h)
    simp only [h1,h1',h2,h2',true_and,and_true,h3,h3',and_false,if_false]
  ·have h2':¬ (2 < n' ∧ c' / 64 = 2):=fun h => h2 ((hc h1).1.2 h)
   simp only [h1,h1',true_and,and_true,h2,h2',false_and,and_false,if_false]
 ·have h1':¬ (1 < n' ∧ b' / 64 = 2):=fun h => h1 (hb.1.2 h)
  simp only [h1,h1',false_and,and_false,if_false]
theorem ZD1 {n a b c d:Nat} (h:1 ≤ n):(dec n a b c d).2 ≤ n:=by
 unfold dec
 refine Zao (P:=fun r => r.2 ≤ n) (fun _ => h) fun _ => ?_
 refine Zao (P:=fun r => r.2 ≤ n) (fun h1 => Zao (P:=fun r => r.2 ≤ n) (fun _ => h1.2.1) fun _ => h) fun _ => ?_
 refine Zao (P:=fun r => r.2 ≤ n) (fun h1 => Zao (P:=fun r => r.2 ≤ n) (fun _ => h1.2.2.1) fun _ => h) fun _ => ?_
 exact Zao (P:=fun r => r.2 ≤ n) (fun h1 => Zao (P:=fun r => r.2 ≤ n) (fun _ => h1.2.2.2.1) fun _ => h) fun _ => h
theorem Zwq {a n:Nat} {r:Nat × Nat} (h:r.2 ≤ n):(ZbS a r).2 ≤ n:=by
 unfold ZbS
 split
 ·rename_i h1; simpa [h1.2] using h
 ·exact h
theorem Zzn {l:List UInt8} (h:l ≠ []):(U l).2 ≤ l.length :=
 Zwq (ZD1 (by cases l with | nil => exact absurd rfl h | cons a r => simp))
def fresh (s:List UInt8):Prop:=nth s 0 / 64 ≠ 2 ∨ s = []
theorem Zsx {a s:List UInt8} {j:Nat} (h:j < a.length):nth (a ++ s) j = nth a j:=by
 unfold nth
 rw [Z87,Z87,ZdB h]
theorem ZCc {a s:List UInt8} {j:Nat} (h:a.length = j):nth (a ++ s) j = nth s 0:=by
 unfold nth
 rw [Z87,Z87,ZbU (by omega),show j - a.length = 0 by omega]
theorem Zpb {a s:List UInt8} (hs:fresh s) {j:Nat} (hj:j ≤ a.length):(more a.length j (nth a j) ↔ more (a ++ s).length j (nth (a ++ s) j)) ∧ (more a.length j (nth a j) → nth a j = nth (a ++ s) j):=by
 by_cases h:j < a.length
 ·rw [Zsx h]
  unfold more
  simp only [q3_]
  exact ⟨⟨fun h => ⟨by omega,h.2⟩,fun h' => ⟨h,h'.2⟩⟩,fun _ => trivial⟩
 ·have e:a.length = j:=by omega
  rw [ZCc e]
  refine ⟨⟨fun h' => absurd h'.1 h,fun h' => ?_⟩,fun h' => absurd h'.1 h⟩
  unfold more at h'
  rcases hs with h1 | h1
  ·exact absurd h'.2 h1
  ·subst h1; simp at h'; omega
theorem ZI0 {a s:List UInt8} (ha:a ≠ []) (hs:fresh s):U (a ++ s) = U a:=by
 have h0:0 < a.length:=by cases a with | nil => exact absurd rfl ha | cons x r => simp
 unfold U
 rw [Zsx h0]
 congr 1
 refine (ZzF (Zpb hs (by omega)) (fun h1 => Zpb hs (by have:=h1.1; omega)) (fun _ h2 => Zpb hs (by have:=h2.1; omega))).symm
theorem ZyU {c:UInt8} {b:List UInt8} (h:c.toNat < 128):fresh (c :: b):=by
 refine .inl ?_
 have e:nth (c :: b) 0 = c.toNat:=rfl
 rw [e]
 omega
end Go.Proofs.Unis
end
section
namespace Go.Proofs.Unis
open Go
def Zoc:Nat → List UInt8 → List (Int × Int)
 | 0,_ => []
 | k + 1,l => if l = [] then [] else ((U l).1,((U l).2:Int)) :: Zoc k (l.drop (U l).2)
def unis (l:List UInt8):List (Int × Int):=Zoc l.length l
theorem ZEJ (n a b c d:Nat):1 ≤ (dec n a b c d).2:=by
 unfold dec
 repeat' split
 all_goals simp
theorem ZsU (l:List UInt8):1 ≤ (U l).2:=by
 unfold U ZbS
 split
 ·simp
 ·exact ZEJ _ _ _ _ _
theorem ZzG {n a b c d:Nat} (ha:a < 256):(dec n a b c d).1 ≤ 1114111 ∧ (128 ≤ a → 128 ≤ (dec n a b c d).1):=by
 unfold dec
 simp only [ZCH]
 repeat' split
 all_goals simp only []; omega
theorem ZEC (l:List UInt8):0 ≤ (U l).1 ∧ (U l).1 ≤ 1114367:=by
 have:=ZCd l 0
 have:=(ZzG (n:=l.length) (b:=nth l 1) (c:=nth l 2) (d:=nth l 3) this).1
 unfold U ZbS
 split
 ·simp only []; omega
 ·simp only []; omega
theorem ZEB {c:UInt8} {l:List UInt8} (h:c.toNat < 128):U (c :: l) = ((c.toNat:Int),1):=by
 unfold U
 have e:nth (c :: l) 0 = c.toNat:=rfl
 rw [e]
 unfold dec
 rw [if_pos h,Zwp (.inr (by omega))]
theorem Zzm {c:UInt8} {l:List UInt8} (h:128 ≤ c.toNat):128 ≤ (U (c :: l)).1:=by
 have e:nth (c :: l) 0 = c.toNat:=rfl
 have:=ZCd (c :: l) 0
 have:=(ZzG (n:=(c :: l).length) (b:=nth (c :: l) 1) (c:=nth (c :: l) 2) (d:=nth (c :: l) 3) this).2 (by rw [e]; exact h)
 unfold U ZbS
 split
 ·simp only []; omega
 ·simp only []; omega
theorem Zrk:∀ (k k':Nat) (l:List UInt8),l.length ≤ k → l.length ≤ k' → Zoc k l = Zoc k' l
 | 0,0,_,_,_ => rfl
 | 0,k' + 1,l,h,_ => by
  obtain rfl:l = []:=Zfo (by omega)
  rfl
 | k + 1,0,l,_,h => by
  obtain rfl:l = []:=Zfo (by omega)
  rfl
 | k + 1,k' + 1,l,h,h' => by
  unfold Zoc
  split
  ·rfl
  ·have:=ZsU l
   have hl:l.length ≠ 0:=fun e => ‹¬ l = []› (Zfo e)
   rw [Zrk k k' _ (by rw [Zns]; omega) (by rw [Zns]; omega)]
theorem Zjd:unis [] = []:=rfl
theorem Zbf {l:List UInt8} (h:l ≠ []):unis l = ((U l).1,((U l).2:Int)) :: unis (l.drop (U l).2):=by
 have hl:l.length ≠ 0:=fun e => h (Zfo e)
 obtain ⟨k,hk⟩:∃ k,l.length = k + 1:=⟨l.length - 1,by omega⟩
 have:=ZsU l
 rw [unis,hk,Zoc,if_neg h,unis,Zrk k _ _ (by rw [Zns]; omega) (Z2x _)]
theorem Zdj {c:UInt8} {l:List UInt8} (h:c.toNat < 128):unis (c :: l) = ((c.toNat:Int),1) :: unis l:=by
 rw [Zbf (by simp),ZEB h]
 rfl
theorem Zwt:∀ (n:Nat) (l:List UInt8),l.length ≤ n → (unis l).length ≤ l.length
 | 0,l,h => by
  obtain rfl:l = []:=Zfo (by omega)
  simp [Zjd]
 | n + 1,l,h => by
  by_cases hl:l = []
  ·subst hl; simp [Zjd]
  ·have:=ZsU l
   have h0:l.length ≠ 0:=fun e => hl (Zfo e)
   have:=Zwt n (l.drop (U l).2) (by rw [Zns]; omega)
   rw [Zbf hl,q5_]
   rw [Zns] at this
   omega
theorem Zws {s:List UInt8} (hs:fresh s):∀ n (a:List UInt8),a.length ≤ n → unis (a ++ s) = unis a ++ unis s
 | 0,a,h => by
  obtain rfl:a = []:=Zfo (by omega)
  rfl
 | n + 1,a,h => by
  by_cases ha:a = []
  ·subst ha; rfl
  ·have hp:=ZsU a
   have h0:a.length ≠ 0:=fun e => ha (Zfo e)
   have hU:=ZI0 ha hs
   have hz:=Zzn ha
   rw [Zbf (by simp [ha]),Zbf ha,hU,List.drop_append_of_le_length hz,Zws hs n _ (by rw [Zns]; omega)]
   rfl
end Go.Proofs.Unis
end
section
namespace Go.Proofs.YtocikhhkicahoaaDoor.N2
open Go Go.Abs Go.Proofs.Norm
abbrev Un:=Int × Int
structure St where
 us:List Un
 pos:Int
 gr:Int
 rf:List ZA
inductive Out (α:Type) where
 | ok (a:α) (s:St)
 | bad (c p:Int)
def Out.bind {α β:Type} (o:Out α) (f:α → St → Out β):Out β :=
 match o with
 | .ok a s => f a s
 | .bad c p => .bad c p
def peek (us:List Un):Int :=
 match us with
 | [] => -1
 | (u,_) :: _ => u
def take (s:St):St :=
 match s.us with
 | [] => s
 | (_,n) :: t => { s with us:=t,pos:=s.pos + n }
def isW:List Int → List Un → Option (List Un)
 | [],us => some us
 | c :: w,us => match us with
  | [] => none
  | (u,_) :: t => if u = c then isW w t else none
def wd (w:List Int) (s:St):Option St :=
 match isW w s.us with
 | some t => some { s with us:=t,pos:=s.pos + w.length }
 | none => none
def ofR (r:R2):Z8:=⟨r.1,r.2⟩
def notL (at_:Int):List R2 → List R2
 | [] => if at_ ≤ 1114367 then [(at_,1114367)] else []
 | r :: t => if at_ < r.1 then (at_,r.1 - 1) :: notL (r.2 + 1) t else notL (r.2 + 1) t
def notF (l:List R2):List R2:=notL 0 l
def setR (no:Bool) (rs:List R2):List R2:=if no = true then notF (Z5E rs) else Z5E rs
def setN (l:List R2):Z9:=⟨1,0,0,0,0,l.map ofR,[]⟩
def nd0:Z9:=⟨0,0,0,0,0,[],[]⟩
def edge (k:Int):Z9:=⟨9,0,0,0,k,[],[]⟩
def short (u:Int):List R2 :=
 if u = 100 ∨ u = 68 then [(48,57)]
 else if u = 119 ∨ u = 87 then [(48,57),(65,90),(95,95),(97,122)]
 else if u = 115 ∨ u = 83 then [(9,13),(32,32)]
 else []
def hexF (u:Int):Int :=
 if 48 ≤ u ∧ u ≤ 57 then u - 48 else if 97 ≤ u ∧ u ≤ 102 then u - 97 + 10 else -1
def ZsX (u:Int):Bool:=decide (48 ≤ u ∧ u ≤ 57) || decide (65 ≤ u ∧ u ≤ 90) || decide (97 ≤ u ∧ u ≤ 122)
def Z9z (u p:Int) (s:St):Out Int :=
 if u = 110 then .ok 10 s
 else if u = 116 then .ok 9 s
 else if u = 114 then .ok 13 s
 else if u = 120 then
  if 0 ≤ hexF (peek s.us) then
   if 0 ≤ hexF (peek (take s).us) then .ok (16 * hexF (peek s.us) + hexF (peek (take s).us)) (take (take s)) else .bad 21 p
  else .bad 21 p
 else if 32 < u ∧ u < 127 ∧ ZsX u = false then .ok u s
 else .bad 21 p
def pEsc (p:Int) (s:St):Out Z9 :=
 if s.us = [] then .bad 21 p
 else if short (peek s.us) ≠ [] then .ok (setN (setR (decide (peek s.us < 97)) (short (peek s.us)))) (take s)
 else if peek s.us = 98 then .ok (edge 2) (take s)
 else if peek s.us = 66 then .ok (edge 3) (take s)
 else if 49 ≤ peek s.us ∧ peek s.us ≤ 57 then .ok ⟨6,0,0,0,peek s.us - 48,[],[]⟩ { take s with rf:=s.rf ++ [⟨peek s.us - 48,p⟩] }
 else (Z9z (peek s.us) p (take s)).bind fun v s2 => .ok (setN (setR false [(v,v)])) s2
def pMem (s:St):Out (Int × List R2 × Bool) :=
 if peek s.us ≠ 92 then .ok (peek s.us,[],false) (take s)
 else if (take s).us = [] then .bad 21 s.pos
 else if short (peek (take s).us) ≠ [] then .ok (0,short (peek (take s).us),decide (peek (take s).us < 97)) (take (take s))
 else (Z9z (peek (take s).us) s.pos (take (take s))).bind fun v s2 => .ok (v,[],false) s2
def Z86 (p:Int) (no:Bool):Nat → Bool → List R2 → St → Out Z9
 | 0,_,_,_ => .bad 99 0
 | k + 1,fst,all,s =>
  if s.us = [] then .bad 22 p
  else if peek s.us = 93 then
   if fst = true then .bad 22 p else .ok (setN (if no = true then notF all else all)) (take s)
  else if peek s.us = 91 ∨ peek s.us = 45 then .bad 22 s.pos
  else (pMem s).bind fun m s1 =>
   if m.2.1 ≠ [] then
    if peek s1.us = 45 then .bad 22 s1.pos else Z86 p no k false (Z5E (all ++ setR m.2.2 m.2.1)) s1
   else match wd [45] s1 with
    | none => Z86 p no k false (Z5E (all ++ [(m.1,m.1)])) s1
    | some s2 =>
     if s2.us = [] ∨ peek s2.us = 93 ∨ peek s2.us = 91 ∨ peek s2.us = 45 then .bad 22 s.pos
     else (pMem s2).bind fun m2 s3 =>
      if m2.2.1 ≠ [] ∨ m2.1 < m.1 then .bad 22 s.pos else Z86 p no k false (Z5E (all ++ [(m.1,m2.1)])) s3
def Zfn (p:Int) (s:St):Out Z9 :=
 match wd [94] s with
 | some s1 => Z86 p true (s1.us.length + 1) true [] s1
 | none => Z86 p false (s.us.length + 1) true [] s
def Zo8 (p:Int) (s:St):Out Z9 :=
 match wd [63,61] s with
 | some s1 => .ok ⟨7,0,0,0,0,[],[]⟩ s1
 | none => match wd [63,33] s with
 | some s1 => .ok ⟨7,0,0,1,0,[],[]⟩ s1
 | none => match wd [63,60,61] s with
 | some s1 => .ok ⟨7,0,0,2,0,[],[]⟩ s1
 | none => match wd [63,60,33] s with
 | some s1 => .ok ⟨7,0,0,3,0,[],[]⟩ s1
 | none => match wd [63,62] s with
 | some s1 => .ok ⟨8,0,0,0,0,[],[]⟩ s1
 | none => match wd [63,58] s with
 | some s1 => .ok nd0 s1
 | none =>
  if peek s.us = 63 then .bad 20 p
  else if s.gr = 9 then .bad 24 p
  else .ok ⟨5,0,0,0,s.gr + 1,[],[]⟩ { s with gr:=s.gr + 1 }
def Zas (A:St → Out Z9) (p:Int) (s:St):Out (Z9 × Bool) :=
 (Zo8 p s).bind fun n s1 => (A s1).bind fun kid s2 =>
  match wd [41] s2 with
  | none => .bad 20 p
  | some s3 => if n.Kind = 0 then .ok (kid,true) s3 else .ok ({ n with Kids:=[kid] },n.Kind != 7) s3
def Zar (P:Int → St → Out (Z9 × Bool)) (s:St):Out (Z9 × Bool) :=
 if peek s.us = 46 then .ok (setN (setR true [(10,10)]),true) (take s)
 else if peek s.us = 94 then .ok (edge 0,false) (take s)
 else if peek s.us = 36 then .ok (edge 1,false) (take s)
 else if peek s.us = 92 then (pEsc s.pos (take s)).bind fun n s1 => .ok (n,n.Kind != 9) s1
 else if peek s.us = 91 then (Zfn s.pos (take s)).bind fun n s1 => .ok (n,true) s1
 else if peek s.us = 40 then P s.pos (take s)
 else if peek s.us = 42 ∨ peek s.us = 43 ∨ peek s.us = 63 ∨ peek s.us = 123 then .bad 23 s.pos
 else if peek s.us = 93 ∨ peek s.us = 125 then .bad 20 s.pos
 else .ok (setN (setR false [(peek s.us,peek s.us)]),true) (take s)
def digit (u:Int):Bool:=decide (48 ≤ u ∧ u ≤ 57)
def pNum (s:St):Int × St :=
 if digit (peek s.us) = true then
  if digit (peek (take s).us) = true then (10 * (peek s.us - 48) + peek (take s).us - 48,take (take s))
  else (peek s.us - 48,take s)
 else (-1,s)
def pFin (p lo hi:Int) (s:St):Out (Int × Int) :=
 if lo < 0 ∨ hi < lo ∨ 64 < hi then .bad 23 p
 else match wd [125] s with
  | none => .bad 23 p
  | some s1 => .ok (lo,hi) s1
def ZbQ (p:Int) (s:St):Out (Int × Int) :=
 match wd [44] (pNum s).2 with
 | none => pFin p (pNum s).1 (pNum s).1 (pNum s).2
 | some s2 =>
  if (pNum s2).1 < 0 ∧ 0 ≤ (pNum s).1 then
   match wd [125] (pNum s2).2 with
   | none => .bad 23 p
   | some s4 => if (pNum s).1 ≤ 64 then .ok ((pNum s).1,-1) s4 else .bad 23 p
  else pFin p (pNum s).1 (pNum s2).1 (pNum s2).2
def Z9A (kid:Z9) (may:Bool) (p lo hi:Int) (s:St):Out Z9 :=
 if may = false then .bad 23 p
 else match wd [63] s with
  | some s1 => .ok ⟨4,lo,hi,1,0,[],[kid]⟩ s1
  | none => match wd [43] s with
   | some s1 => .ok ⟨4,lo,hi,2,0,[],[kid]⟩ s1
   | none => .ok ⟨4,lo,hi,0,0,[],[kid]⟩ s
def pRep (kid:Z9) (may:Bool) (s:St):Out Z9 :=
 match wd [42] s with
 | some s1 => Z9A kid may s.pos 0 (-1) s1
 | none => match wd [43] s with
 | some s1 => Z9A kid may s.pos 1 (-1) s1
 | none => match wd [63] s with
 | some s1 => Z9A kid may s.pos 0 1 s1
 | none => match wd [123] s with
 | some s1 => (ZbQ s.pos s1).bind fun c s2 => Z9A kid may s.pos c.1 c.2 s2
 | none => .ok kid s
def joined (k:Int):List Z9 → Z9
 | [] => nd0
 | [x] => x
 | l => ⟨k,0,0,0,0,[],l⟩
def stops (us:List Un):Bool:=us.isEmpty || peek us == 124 || peek us == 41
def Z9N (P:Int → St → Out (Z9 × Bool)):Nat → List Z9 → St → Out Z9
 | 0,_,_ => .bad 99 0
 | k + 1,kids,s =>
  if stops s.us = true then .ok (joined 2 kids) s
  else (Zar P s).bind fun m s1 => (pRep m.1 m.2 s1).bind fun n s2 => Z9N P k (kids ++ [n]) s2
def pCat (P:Int → St → Out (Z9 × Bool)) (s:St):Out Z9:=Z9N P (s.us.length + 1) [] s
def Ze6 (P:Int → St → Out (Z9 × Bool)):Nat → List Z9 → St → Out Z9
 | 0,_,_ => .bad 99 0
 | k + 1,kids,s =>
  match wd [124] s with
  | none => .ok (joined 3 kids) s
  | some s1 => (pCat P s1).bind fun n s2 => Ze6 P k (kids ++ [n]) s2
def Ze5 (P:Int → St → Out (Z9 × Bool)) (s:St):Out Z9 :=
 (pCat P s).bind fun n s1 => Ze6 P (s1.us.length + 1) [n] s1
def pAlt:Nat → St → Out Z9
 | 0 => Ze5 fun p _ => .bad 25 p
 | d + 1 => Ze5 fun p s => Zas (pAlt d) p s
def Zfk:Z1f:=⟨nd0,0,false⟩
def pEnd (fold:Bool) (o:Out Z9):Z1f × Z16 :=
 match o with
 | .bad c p => (Zfk,⟨c,p⟩)
 | .ok n s =>
  if s.us ≠ [] then (Zfk,⟨20,s.pos⟩)
  else match s.rf.find? (fun x => decide (s.gr < x.group)) with
   | some x => (Zfk,⟨26,x.at_⟩)
   | none => (⟨n,s.gr,fold⟩,⟨0,0⟩)
def Z7W (us:List Un):Z1f × Z16 :=
 match wd [40,63,105,41] ⟨us,0,0,[]⟩ with
 | some s => pEnd true (pAlt 32 s)
 | none => pEnd false (pAlt 32 ⟨us,0,0,[]⟩)
end Go.Proofs.YtocikhhkicahoaaDoor.N2
end
