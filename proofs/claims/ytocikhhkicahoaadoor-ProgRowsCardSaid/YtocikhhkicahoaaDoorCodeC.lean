/- Programs one behind the other. No condition. -/
import Derived.Test.YtocikhhkicahoaaDoorCodeB

set_option linter.unusedSimpArgs false
set_option linter.unusedVariables false
set_option linter.defProp false
section
namespace Go.Proofs.YtocikhhkicahoaaDoor.N2
open Go Go.Abs Go.Proofs.Unis Go.Proofs.Norm
set_option maxRecDepth 100000
theorem ZfJ {a b:Int} (h:a ≠ b):(a != b) = true:=by simpa using h
theorem Z54 {a b:Int} (h:a = b):¬ ((a != b) = true):=by simpa using h
theorem ZjO {l:List UInt8} {u n:Int} {t:List Un} (h:unis l = (u,n) :: t) (hu:u < 128):∃ c r,l = c :: r ∧ (c.toNat:Int) = u ∧ unis r = t:=by
 cases l with
 | nil => simp [Zjd] at h
 | cons c r =>
  by_cases hc:c.toNat < 128
  ·rw [Zdj hc] at h
   simp only [Zj8,Z43] at h
   exact ⟨c,r,rfl,h.1.1,h.2⟩
  ·have:=Zzm (l:=r) (show 128 ≤ c.toNat by omega)
   rw [Zbf (by simp)] at h
   simp only [Zj8,Z43] at h
   omega
theorem byte_of {c:UInt8} {k:Nat} (h:(c.toNat:Int) = k) (hk:k < 256):c = UInt8.ofNat k:=by
 apply UInt8.toNat_inj.1
 rw [UInt8.toNat_ofNat']
 omega
theorem ZjT {x:ByteArray} (h:(Z3d x).1.Fold = true):3 < x.size ∧ x.extract 0 4 = ByteArray.mk #[40,63,105,41]:=by
 unfold Z3d at h
 split at h
 ·simp [Zfk] at h
 change (Z7W (unis (bytes x))).1.Fold = true at h
 have hend:∀ o,(pEnd false o).1.Fold = true → False:=by
  intro o
  unfold pEnd
  split
  ·simp [Zfk]
  ·split
   ·simp [Zfk]
   ·split
    ·simp [Zfk]
    ·simp
 unfold Z7W at h
 split at h
 ·rename_i s1 hw
  unfold wd at hw
  split at hw
  ·rename_i t ht
   obtain ⟨a,b,c,d,e⟩:=ZDl ht
   obtain ⟨c1,r1,e1,n1,e⟩:=ZjO e (by omega)
   obtain ⟨c2,r2,e2,n2,e⟩:=ZjO e (by omega)
   obtain ⟨c3,r3,e3,n3,e⟩:=ZjO e (by omega)
   obtain ⟨c4,r4,e4,n4,e⟩:=ZjO e (by omega)
   have hb:bytes x = 40 :: 63 :: 105 :: 41 :: r4:=by
    rw [e1,e2,e3,e4,byte_of (k:=40) n1 (by omega),byte_of (k:=63) n2 (by omega),byte_of (k:=105) n3 (by omega),byte_of (k:=41) n4 (by omega)]
    rfl
   refine ⟨by rw [Zm5,hb]; simp,?_⟩
   apply ByteArray.ext
   rw [ByteArray.data_extract]
   apply Array.ext'
   rw [Array.toList_extract]
   show List.extract (bytes x) 0 4 = _
   rw [hb]
   rfl
  ·simp at hw
 ·exact absurd h (fun h => hend _ h)
theorem ZCN {c:Cp} {i:Nat} {y:Zl} (h:c.1[i]? = some y):(whole c)[i + 1]? = some (mv 1 0 y):=by
 have hi:=(q2_.1 h).1
 unfold whole mvL
 rw [Zhz,ZdB (by simpa using hi),q7_,h]
 rfl
theorem ZFj {p q:Cp} {i:Nat} {y:Zl} (h:q.1[i]? = some y):(seqC [p,q]).1[p.1.length + i]? = some (mv p.1.length p.2 y):=by
 have hi:=(q2_.1 h).1
 rw [Zlb]
 unfold mvL
 rw [ZbU (by omega),show p.1.length + i - p.1.length = i by omega,q7_,h]
 rfl
theorem ZEK {x y:Zl} (h:er x = er y):x.Op = y.Op ∧ x.B = y.B ∧ x.C = y.C ∧ x.D = y.D ∧ x.Set = y.Set ∧ (y.Op ≠ 4 → x.A = y.A):=by
 have ho:∀ z:Zl,(er z).Op = z.Op:=by intro z; unfold er; split <;> rfl
 have e:=congrArg Zl.Op h
 rw [ho,ho] at e
 unfold er at h
 by_cases h4:y.Op = 4
 ·rw [if_pos (e.trans h4),if_pos h4] at h
  simp only [Zl.mk.injEq] at h
  exact ⟨h.1,h.2.2.1,h.2.2.2.1,h.2.2.2.2.1,h.2.2.2.2.2,fun hn => absurd h4 hn⟩
 ·rw [if_neg (by rw [e]; exact h4),if_neg h4] at h
  subst h
  exact ⟨rfl,rfl,rfl,rfl,rfl,fun _ => rfl⟩
theorem Zxi (a l:Int) (i:Zl):(mv a l i).C = i.C ∧ (mv a l i).D = i.D ∧ (mv a l i).Set = i.Set:=by
 unfold mv
 repeat' split
 all_goals exact ⟨rfl,rfl,rfl⟩
theorem Zzc {p p' q q':Cp} {X Z:List Zl} (hX:Z3c X = some (p.2:Int)) (hp:p'.1.length = p.1.length ∧ p'.2 = p.2) (hl:p.1.length ≤ 3000 ∧ q.1.length ≤ 3000) (hk:p.2 ≤ 3000) (hq:Rc q)
  (hZ:Z = whole (seqC [p',q'])) (he:mapP er q' = mapP er q) :
  ∀ (m i:Nat),i + m = q.1.length → Z4H X Z (p.1.length:Int) (mvL 1 0 q.1) (q.1.length:Int) (i:Int) = some true:=by
 have hql:q'.1.length = q.1.length:=by have:=congrArg (fun p:Cp => p.1.length) he; simpa [mapP] using this
 intro m
 induction m with
 | zero =>
  intro i h
  apply Z9O
  unfold Z4y
  rw [if_neg (Z28 (by omega))]
  rfl
 | succ m ih =>
  intro i h
  have hil:i < q.1.length:=by omega
  have nx:=ih (i + 1) (by omega)
  have gy:=q4_ hil
  have gy':q'.1[i]? = some (q'.1[i]'(by omega)):=q4_ (by omega)
  have hee:er (q'.1[i]'(by omega)) = er q.1[i]:=by
   have:=congrArg (fun p:Cp => p.1[i]?) he
   simp only [mapP,q7_,gy,gy',Z8O,q1_] at this
   exact this
  have hloc:=hq.1 i _ gy
  have hmk:marks (q.1.take i) ≤ 3000:=by
   have:=List.countP_le_length (p:=fun i:Zl => i.Op == 10) (l:=q.1.take i)
   rw [List.length_take] at this
   unfold marks
   omega
  generalize q.1[i] = y at *
  generalize hy':q'.1[i]'(by omega) = y' at *
  obtain ⟨o1,o2,o3,o4,o5,o6⟩:=ZEK hee
  rw [Zfq] at hloc
  obtain ⟨h0,h2,h3,h7,h10,h11⟩:=hloc
  have z1:lget Z ((i:Int) + 1 + p.1.length) = some (mv (p.1.length + 1) p.2 y'):=by
   have:=ZCN (ZFj (p:=p') gy')
   rw [← hZ,ZEu,hp.1,hp.2] at this
   rw [show (i:Int) + 1 + p.1.length = ((p.1.length + i + 1:Nat):Int) by omega,Z4b,this,Int.add_zero]
  have z0:lget (mvL 1 0 q.1) (i:Int) = some (mv 1 0 y):=by
   rw [Z4b]
   unfold mvL
   rw [q7_,gy]
   rfl
  apply Z9O
  unfold Z4y Z68
  rw [if_pos (Z2f (by omega)),z0,q0_,wrap_i64 (n:=(i:Int) + 1) (by omega) (by omega),wrap_i64 (by omega) (by omega),z1,q0_]
  obtain ⟨r1,r2,r3⟩:=Zxi 1 0 y
  obtain ⟨r4,r5,r6⟩:=Zxi (p.1.length + 1) p.2 y'
  have e1:=Zig 1 0 y
  have e2:=Zig (p.1.length + 1) p.2 y'
  rw [if_neg (Z54 (by rw [e1,e2,o1])),if_neg (Z54 (by rw [r1,r4,o3])),if_neg (Z54 (by rw [r2,r5,o4])),if_neg (Z54 (by rw [r3,r6,o5]))]
  have n32:Z15 X Z (p.1.length:Int) (mvL 1 0 q.1) (q.1.length:Int) (i:Int) = some true:=by
   unfold Z15
   rw [wrap_i64 (n:=(i:Int) + 1) (by omega) (by omega)]
   exact nx
  unfold Z69
  generalize ha:mv 1 0 y = a at *
  generalize hb:mv (p.1.length + 1) p.2 y' = b at *
  by_cases c2:y.Op = 2
  ·have q:=h2 c2
   have a1:a.A = y.A + 1:=by rw [← ha]; unfold mv; rw [if_pos c2]
   have b1:b.A = y.A + (p.1.length + 1):=by rw [← hb]; unfold mv; rw [if_pos (o1.trans c2)]; show y'.A + _ = _; rw [o6 (by omega)]
   rw [if_pos (Z1Q (by omega)),if_pos (Z1Q (by omega)),wrap_i64 (by omega) (by omega),if_neg (Z54 (by omega)),if_neg (Z1X (by omega))]
   exact n32
  rw [if_neg (Z1X (show ¬ a.Op = 2 by omega))]
  by_cases c3:y.Op = 3
  ·have q:=h3 c3
   have a1:a.A = y.A + 1:=by rw [← ha]; unfold mv; rw [if_neg (by omega),if_pos c3]
   have a2:a.B = y.B + 1:=by rw [← ha]; unfold mv; rw [if_neg (by omega),if_pos c3]
   have b1:b.A = y.A + (p.1.length + 1):=by rw [← hb]; unfold mv; rw [if_neg (by omega),if_pos (o1.trans c3)]; show y'.A + _ = _; rw [o6 (by omega)]
   have b2:b.B = y.B + (p.1.length + 1):=by rw [← hb]; unfold mv; rw [if_neg (by omega),if_pos (o1.trans c3)]; show y'.B + _ = _; rw [o2]
   rw [if_pos (Z1Q (by omega)),wrap_i64 (n:=a.A + p.1.length) (by omega) (by omega),if_neg (Z54 (by omega)),if_pos (Z1Q (by omega)),wrap_i64 (n:=a.B + p.1.length) (by omega) (by omega),if_neg (Z54 (by omega))]
   exact n32
  rw [if_neg (Z1X (show ¬ a.Op = 3 by omega))]
  by_cases c7:y.Op = 7
  ·obtain ⟨q1,q2,_⟩:=h7 (.inl c7)
   have a2:a.B = y.B + 1:=by rw [← ha]; unfold mv; rw [if_neg (by omega),if_neg (by omega),if_pos (.inl c7)]
   have b2:b.B = y.B + (p.1.length + 1):=by rw [← hb]; unfold mv; rw [if_neg (by omega),if_neg (by omega),if_pos (.inl (o1.trans c7))]; show y'.B + _ = _; rw [o2]
   rw [if_pos (Z1Q (by omega)),if_pos (Z1Q (by omega)),wrap_i64 (n:=a.B + p.1.length) (by omega) (by omega),if_neg (Z54 (by omega))]
   exact n32
  rw [if_neg (Z1X (show ¬ a.Op = 7 by omega))]
  by_cases c8:y.Op = 8
  ·obtain ⟨q1,q2,_⟩:=h7 (.inr c8)
   have a2:a.B = y.B + 1:=by rw [← ha]; unfold mv; rw [if_neg (by omega),if_neg (by omega),if_pos (.inr c8)]
   have b2:b.B = y.B + (p.1.length + 1):=by rw [← hb]; unfold mv; rw [if_neg (by omega),if_neg (by omega),if_pos (.inr (o1.trans c8))]; show y'.B + _ = _; rw [o2]
   rw [if_pos (Z1Q (by omega)),wrap_i64 (n:=a.B + p.1.length) (by omega) (by omega),if_neg (Z54 (by omega))]
   exact n32
  rw [if_neg (Z1X (show ¬ a.Op = 8 by omega))]
  have b10:y.Op = 10 ∨ y.Op = 11 → a.A = y.A ∧ b.A = y.A + p.2:=by
   intro c
   refine ⟨by rw [← ha]; unfold mv; rw [if_neg (by omega),if_neg (by omega),if_neg (by omega),if_pos c]; show y.A + 0 = _; omega,?_⟩
   rw [← hb]
   unfold mv
   rw [if_neg (by omega),if_neg (by omega),if_neg (by omega),if_pos (by omega)]
   show y'.A + _ = _
   rw [o6 (by omega)]
  by_cases c10:y.Op = 10
  ·obtain ⟨a1,b1⟩:=b10 (.inl c10)
   have:=h10 c10
   rw [if_pos (Z1Q (by omega)),if_pos (Z1Q (by omega)),hX,q0_,wrap_i64 (by omega) (by omega),if_neg (Z54 (by omega))]
   exact n32
  rw [if_neg (Z1X (show ¬ a.Op = 10 by omega))]
  by_cases c11:y.Op = 11
  ·obtain ⟨a1,b1⟩:=b10 (.inr c11)
   obtain ⟨q1,q2,_⟩:=h11 c11
   rw [if_pos (Z1Q (by omega)),hX,q0_,wrap_i64 (by omega) (by omega),if_neg (Z54 (by omega))]
   exact n32
  rw [if_neg (Z1X (show ¬ a.Op = 11 by omega))]
  exact n32
end Go.Proofs.YtocikhhkicahoaaDoor.N2
end
