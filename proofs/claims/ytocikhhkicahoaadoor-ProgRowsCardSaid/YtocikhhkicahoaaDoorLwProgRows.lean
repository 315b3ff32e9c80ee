/- ProgRows: true at every input; the input reads as it did. Condition: the tables lie as they are laid, which the card ties. -/
import Derived.Test.YtocikhhkicahoaaDoorCodeC
import Derived.Test.YtocikhhkicahoaaDoorRow
import Derived.Test.YtocikhhkicahoaaDoorCards
import Derived.Test.YtocikhhkicahoaaDoorTie
import Derived.SevenTiedAt

set_option linter.unusedSimpArgs false
set_option linter.unusedVariables false
set_option linter.defProp false
section
namespace Go.Proofs.YtocikhhkicahoaaDoor.N2
open Go Go.Abs Go.Proofs.Unis Go.Proofs.Norm
set_option maxRecDepth 100000
theorem Zm7 {x:ByteArray} (h:3 < x.size):ssl x 0 4 = some (x.extract 0 4):=by
 unfold ssl
 rw [if_pos ⟨by omega,by omega,by omega⟩]
 rfl
theorem ZC6 (q:Cp) (h:q.1.length ≤ 3000):lsl (whole q) 1 (IntKind.i64.wrap (((whole q).length:Int) - 2)) = some (mvL 1 0 q.1):=by
 have hw:=ZjP q
 rw [wrap_i64 (by omega) (by omega)]
 unfold lsl
 rw [if_pos ⟨by omega,by omega,by omega⟩]
 congr 1
 rw [show (((whole q).length:Int) - 2).toNat = q.1.length + 1 by omega]
 show ((whole q).take (q.1.length + 1)).drop 1 = _
 unfold whole
 rw [ZvZ,List.drop_succ_cons,Zpl,ZDJ (by rw [Z1o]; exact Z2x _),Zw0 (by rw [Z1o]; exact Z2x _)]
theorem progRows_val (x y:ByteArray):Z9s x y = some true:=by
 apply ZgM
 unfold Z7c
 rw [ZxF,q0_,if_neg (by simp)]
 unfold Z6u Z4S
 split
 ·rfl
 rename_i hx
 split
 ·rfl
 rename_i hy
 have lx:(bytes x).length ≤ 100:=by have q:=Zm5 x; simp only [decide_eq_true_eq] at hx; omega
 have ly:(bytes y).length ≤ 100:=by have q:=Zm5 y; simp only [decide_eq_true_eq] at hy; omega
 unfold Z6v Z29
 have b1:bytes (ByteArray.mk #[40,63,58]) = [40,63,58]:=rfl
 have b2:bytes (ByteArray.mk #[41,40,63,58]) = [41,40,63,58]:=rfl
 have b3:bytes (ByteArray.mk #[41]) = [41]:=rfl
 have eb:bytes (ByteArray.mk #[40,63,58] ++ x ++ ByteArray.mk #[41,40,63,58] ++ y ++ ByteArray.mk #[41]) = (40 :: 63 :: 58 :: bytes x) ++ 41 :: ((40 :: 63 :: 58 :: bytes y) ++ 41 :: []):=by
  rw [Z9d,Z9d,Z9d,Z9d,b1,b2,b3]
  simp
 have el:(bytes (ByteArray.mk #[40,63,58] ++ x ++ ByteArray.mk #[41,40,63,58] ++ y ++ ByteArray.mk #[41])).length ≤ 256:=by rw [eb]; simp only [q3_,q5_,q8_]; omega
 have eu:unis ((40 :: 63 :: 58 :: bytes x) ++ 41 :: ((40 :: 63 :: 58 :: bytes y) ++ 41 :: [])) = Z9c (unis (bytes x)) (Z9c (unis (bytes y)) []):=by rw [ZsK,ZsK,Zjd]
 generalize hz:ByteArray.mk #[40,63,58] ++ x ++ ByteArray.mk #[41,40,63,58] ++ y ++ ByteArray.mk #[41] = z at *
 obtain ⟨lx',fx,ex,mx⟩:=ZlQ x
 obtain ⟨ly',fy,ey,my⟩:=ZlQ y
 obtain ⟨lz,fz,ez,mz⟩:=ZlQ z
 rw [mx,q0_,my,q0_,Zob (by rw [b1]; simp only [q5_,q8_]; omega),q0_,
  Zob (by rw [Z9d,q3_,b1,b2]; simp only [q5_,q8_]; omega),q0_,
  Zob (by rw [Z9d,Z9d,q3_,q3_,b1,b2]; simp only [q5_,q8_]; omega),q0_,
  Zob (by rw [Z9d,Z9d,Z9d,q3_,q3_,q3_,b1,b2,b3]; simp only [q5_,q8_]; omega),q0_,hz,mz,q0_]
 dsimp only
 by_cases c1:fx = 0
 rotate_left
 ·rw [if_pos (ZfJ c1)]
 rw [if_neg (Z54 c1)]
 by_cases c2:fy = 0
 rotate_left
 ·rw [if_pos (ZfJ c2)]
 rw [if_neg (Z54 c2)]
 by_cases c3:fz = 0
 rotate_left
 ·rw [if_pos (ZfJ c3)]
 rw [if_neg (Z54 c3)]
 by_cases c4:ex = 0
 rotate_left
 ·rw [if_pos (ZfJ c4)]
 rw [if_neg (Z54 c4)]
 by_cases c5:ey = 0
 rotate_left
 ·rw [if_pos (ZfJ c5)]
 rw [if_neg (Z54 c5)]
 by_cases c6:ez = 0
 rotate_left
 ·rw [if_pos (ZfJ c6)]
 rw [if_neg (Z54 c6)]
 subst c1 c2 c3 c4 c5 c6
 have code:∀ {t:ByteArray} {l:List Zl} {e:Int},Z2m t = some (l,0,e) → (Z3d t).2.Code = 0:=by
  intro t l e hm
  by_cases h:(Z3d t).2.Code = 0
  ·exact h
  ·rw [ZvK h] at hm
   simp only [q1_,Z43] at hm
   exact absurd hm.2.1 h
 have h1:=code mx
 have h2:=code my
 have h3:=code mz
 have main:(Z3d x).1.Fold = false → (Z3d y).1.Fold = false → Z2v lx' ly' lz = some true:=by
  intro f1 f2
  obtain ⟨_,n,s,hr,e⟩:=Zwc h1 f1
  obtain ⟨_,m,s2,hr2,e2⟩:=Zwc h2 f2
  have hz3:=Zr6 h3
  have hbad:=ZEE (l:=bytes z) (by omega)
  have h3':=h3
  rw [Znk el] at h3' hz3
  rw [eb,eu] at h3' hz3 hbad
  obtain ⟨n',m',q1,q2,q3⟩:=ZFi hr hr2 hbad h3'
  rw [q3] at hz3
  have gk:=(Zen hz3).1
  obtain ⟨v1,p,hv1,hp,hs1,hc1⟩:=ZlP h1
  obtain ⟨v2,q,hv2,hq,hs2,hc2⟩:=ZlP h2
  rw [e] at hp
  rw [e2] at hq
  have hm1:p.1.length ≤ 1997 ∧ lx' = whole p:=by
   rcases hc1 with ⟨hc,hm⟩ | ⟨_,hl,hm⟩
   ·rw [mx] at hm; simp only [q1_,Z43] at hm; exact absurd hm.2.2.symm hc
   ·rw [mx] at hm; simp only [q1_,Z43] at hm; exact ⟨hl,hm.1⟩
  have hm2:q.1.length ≤ 1997 ∧ ly' = whole q:=by
   rcases hc2 with ⟨hc,hm⟩ | ⟨_,hl,hm⟩
   ·rw [my] at hm; simp only [q1_,Z43] at hm; exact absurd hm.2.2.symm hc
   ·rw [my] at hm; simp only [q1_,Z43] at hm; exact ⟨hl,hm.1⟩
  obtain ⟨p',hp',ep⟩:=ZE6 q1 (gk n' (by simp)) hp
  obtain ⟨q',hq',eq⟩:=ZE6 q2 (gk m' (by simp)) hq
  have cz:Cd false Zgu ⟨2,0,0,0,0,[],[n',m']⟩ (seqC [p',q']):=.cat [n',m'] [p',q'] (by simp) rfl (by
   intro i x p hx hp
   match i with
   | 0 => simp at hx hp; subst hx hp; exact hp'
   | 1 => simp at hx hp; subst hx hp; exact hq'
   | i + 2 => simp at hx)
  obtain ⟨v3,hv3,hs3⟩:=ZE7 cz
  have eP:Z3d z = Z7W (Z9c (unis (bytes x)) (Z9c (unis (bytes y)) [])):=by rw [Znk el,eb,eu]
  have eR:(Z3d z).1 = ⟨⟨2,0,0,0,0,[],[n',m']⟩,(Z3d z).1.Groups,false⟩:=by
   have ef:(Z3d z).1.Fold = false:=by
    by_cases hf:(Z3d z).1.Fold = false
    ·exact hf
    ·have:=(ZjT (x:=z) (by simpa using hf)).2
     have h4:=congrArg bytes this
     have hb:bytes (z.extract 0 4) = (bytes z).extract 0 4:=by
      show (z.extract 0 4).data.toList = _
      rw [ByteArray.data_extract,Array.toList_extract]
     rw [hb,eb] at h4
     simp [bytes,List.extract] at h4
   have er:(Z3d z).1.Root = ⟨2,0,0,0,0,[],[n',m']⟩:=by rw [eP]; exact q3
   have mkP:∀ (P:Z1f) (r:Z9),P.Root = r → P.Fold = false → P = ⟨r,P.Groups,false⟩:=by
    rintro ⟨a,b,c⟩ r rfl rfl
    rfl
   exact mkP _ _ er ef
  have hlz:lz = whole (seqC [p',q']):=by
   by_cases hc:chkF v3 = 0
   ·have:=Zix h3 (by rw [eR]; exact (ZhO hv3 hc cz hs3 _).2)
    rw [mz] at this
    simp only [q1_,Z43] at this
    exact this.1
   ·have:=Zix h3 (by rw [eR]; exact Zov hv3 hc _ _)
    rw [mz] at this
    simp only [q1_,Z43] at this
    exact absurd this.2.2.symm hc
  obtain ⟨t1,rfl⟩:=hm1
  obtain ⟨t2,rfl⟩:=hm2
  subst hlz
  have lp:p'.1.length = p.1.length:=by have:=congrArg (fun p:Cp => p.1.length) ep; simpa [mapP] using this
  have lq:q'.1.length = q.1.length:=by have:=congrArg (fun p:Cp => p.1.length) eq; simpa [mapP] using this
  have kp:p'.2 = p.2:=by have:=congrArg (fun p:Cp => p.2) ep; simpa [mapP] using this
  have kq:q'.2 = q.2:=by have:=congrArg (fun p:Cp => p.2) eq; simpa [mapP] using this
  have w1:=ZjP p
  have w2:=ZjP q
  have w3:=ZjP (seqC [p',q'])
  have l3:(seqC [p',q']).1.length = p.1.length + q.1.length:=by rw [Zlb]; simp only [q3_,Z1o]; omega
  have kl1:=ZE5 hp
  have kl2:=ZE5 hq
  unfold Lk at kl1 kl2
  have L1:Z3c (whole p) = some (p.2:Int):=by rw [ZjI _ (by omega),Zk9,ZoQ hp]
  have L2:Z3c (whole q) = some (q.2:Int):=by rw [ZjI _ (by omega),Zk9,ZoQ hq]
  have L3:Z3c (whole (seqC [p',q'])) = some ((p.2 + q.2:Nat):Int):=by
   rw [ZjI _ (by omega),Zk9,ZoQ cz,Zlb]
   show some (((p'.2 + q'.2:Nat)):Int) = _
   rw [kp,kq]
  unfold Z2v
  rw [wrap_i64 (n:=((whole p).length:Int) - 3) (by omega) (by omega),wrap_i64 (n:=((whole p).length:Int) - 3 + (whole q).length) (by omega) (by omega),if_neg (Z54 (by omega)),L3,q0_,L1,q0_,L2,q0_,wrap_i64 (by omega) (by omega),if_neg (Z54 (by omega))]
  unfold Z67
  rw [ZC6 q (by omega),q0_,Z1o,show ((whole p).length:Int) - 3 = p.1.length by omega]
  exact Zzc (p':=p') (q':=q') L1 ⟨lp,kp⟩ ⟨by omega,by omega⟩ (by omega) (ZI2 hq) rfl eq q.1.length 0 (by omega)
 have goY:(Z3d x).1.Fold = false → (if ((decide (3 < (y.size:Int)))) = true then
    ((ssl y 0 4).bind fun a9 => if ((seq a9 (ByteArray.mk #[40,63,105,41]))) = true then some true else (Z2v lx' ly' lz))
    else (Z2v lx' ly' lz)) = some true:=by
  intro f1
  by_cases f2:(Z3d y).1.Fold = false
  ·by_cases c:3 < (y.size:Int)
   ·rw [if_pos (Z2f c),Zm7 (by omega),q0_]
    split
    ·rfl
    ·exact main f1 f2
   ·rw [if_neg (Z28 c)]
    exact main f1 f2
  ·obtain ⟨q1,q2⟩:=ZjT (x:=y) (by simpa using f2)
   rw [if_pos (Z2f (by omega)),Zm7 q1,q0_,if_pos (Zrh.2 q2)]
 by_cases f1:(Z3d x).1.Fold = false
 ·by_cases c:3 < (x.size:Int)
  ·rw [if_pos (Z2f c),Zm7 (by omega),q0_]
   split
   ·rfl
   ·exact goY f1
  ·rw [if_neg (Z28 c)]
   exact goY f1
 ·obtain ⟨q1,q2⟩:=ZjT (x:=x) (by simpa using f1)
  rw [if_pos (Z2f (by omega)),Zm7 q1,q0_,if_pos (Zrh.2 q2)]
end Go.Proofs.YtocikhhkicahoaaDoor.N2
end
section
namespace Go.Proofs.YtocikhhkicahoaaDoor
open Go Go.Abs Go.RowKit Go.ChangeShapes Go.WideShapes Go.ChangeAt
set_option maxRecDepth 100000 in
theorem Zr9 (os:Os) (started:os.Started) (H:Type) (enc:TypeId × Value → H) :
  ReturnsInHanded {} Tryd.checked os 6 .any (fun w args => (Rows.progRowsSpec.pre enc Tryd.prog Tryd.f6 [] false w args ∧ laidMetH Tryd.prog Zie w) ∧ sizedMet enc Tryd.prog Tryd.f6 (OpenSpec.ofChange Rows.progRowsSpec) false w args)
   (Rows.progRowsSpec.post enc Tryd.prog Tryd.f6 false true false false):=by
 refine returnsInHanded_of_change_and (C:=Tryd.checked) (X:=fun w _ => laidMetH Tryd.prog Zie w) (fun _ _ _ hh h => h.of_heap hh) own started (by kernel_rfl) Tryd.func6
  (ChangeSpec.witness_shaped (enc:=enc) (C:=Tryd.checked) (os:=os) (X:=fun w _ => laidMetH Tryd.prog Zie w) false (Zst os) #[.string ⟨#[]⟩,.string ⟨#[]⟩] 8 rfl (World.shaped_of_RefB (by kernel_rfl) (by kernel_rfl)) (by kernel_rfl) (by kernel_rfl) (by kernel_rfl) (ZDo os _)) ?_
 intro W base args ds gs before hval0 hW _ hsz0 hL _
 have hval:∀ (j:Nat) t v,Tryd.f6.params[j]? = some t → args[j]? = some v → Value.okWide Tryd.prog W .any base t v:=hval0
 have hW':=hW
 have hlt:=fun p hp => hW.lt p hp
 obtain ⟨p,q,hA0,hV,rfl,hfz,hnd⟩:=hW
 have hA:DataW.TrodAll enc Tryd.prog W 0 (fun _ => true) true Tryd.f6.params.toList args.toList ds p:=hA0
 rw [Tryd.params6] at hA hval
 obtain ⟨v0,v1,d0,d1,p0,p1,rfl,rfl,rfl,h0,h1⟩:=trodAll_two hA
 obtain ⟨rfl,rfl⟩:=trodVars_none hV
 obtain ⟨x0,rfl,rfl,rfl,w0⟩:=Go.ChangeMaps.open_string Tryd.underlying9 (hval 0 9 v0 rfl rfl) h0
 obtain ⟨x1,rfl,rfl,rfl,w1⟩:=Go.ChangeMaps.open_string Tryd.underlying9 (hval 1 9 v1 rfl rfl) h1
 clear hA0 hval0
 simp only [Zkb,ZbE] at hW' hlt
 have htab:=ZFo hL
 obtain ⟨q,hq,ex,rfl⟩:=N2.ZgN x0 x1  true (N2.progRows_val x0 x1 )
 refine (Zzy N2.fspec (Tabs.old htab) hq rfl ?_).mono ?_
 ·intro i x v hx hv
  match i with
  | 0 =>
   simp only [ZcJ,q1_] at hx
   have hv':Value.string x0 = v:=by simpa using hv
   subst hx; subst hv'
   exact ⟨.p _ _ (.v _ rfl),rfl⟩
  | 1 =>
   simp only [Zhz,ZcJ,q1_] at hx
   have hv':Value.string x1 = v:=by simpa using hv
   subst hx; subst hv'
   exact ⟨.p _ _ (.v _ rfl),rfl⟩
  | i + 2 => simp at hx
 ·rintro e W' ⟨v,S',β',rfl,bel,hr⟩
  have:=Z5b hr
  subst this
  refine ⟨_,rfl,_,_,_,[],_,[],hW',trodAll_mk1 (shut_bool Tryd.underlying4 _),trodAll_cons_mk (Go.ChangeMaps.shut_string Tryd.underlying9 w0) (trodAll_cons_mk (Go.ChangeMaps.shut_string Tryd.underlying9 w1) (trodAll_mk0)),rfl,?_,fun h => by cases h⟩
  exact bel.frame _
theorem Zsb:Rows.ProgRowsSaid :=
 OpenClaim.holds_of_wide 6 Tryd.f6 rfl rfl rfl rfl rfl rfl rfl ⟨rfl,rfl,rfl,rfl,rfl⟩ rfl rfl rfl rfl rfl (by kernel_rfl) Tryd.func6 (by kernel_rfl)
  (of_decide_eq_true (by kernel_rfl)) (by unfold Func.isWrapper; first | (rw [if_pos (by decide +kernel)]; kernel_rfl) | (rw [if_neg (by decide +kernel)]; exact ⟨rfl,rfl⟩))
  (fun os started H enc _ => Zr9 os started H enc)
theorem progRows_card:Rows.ProgRowsCardSaid :=
 Claim7.holds_tied_plain_at .later [] [.data, .pinned] true (true, "e07b5c6b66d562b60017c6efe40723018a2d94e29c465ada8e23d3efa3048f54") false
  Zsb (fun _ h => by cases h) (by kernel_rfl) (fun _ h => by cases h) progRows_row_tie rfl ⟨rfl,rfl⟩ (by kernel_rfl) rfl
  (fun f fn hf hfn => by
   obtain rfl : f = 6 := Option.some.inj ((show Tryd.prog.funcNamed "colander/colanderlaw05.ProgRows" = some 6 by kernel_rfl).symm.trans hf) |>.symm
   obtain rfl:fn = Tryd.f6:=(Option.some.inj (Tryd.func6.symm.trans hfn)).symm
   exact ⟨by kernel_rfl,fun j t ht => by
    rw [Tryd.params6] at ht
    have hm:t ∈ [9,9]:=by simpa using Zw4 ht
    have hall:([9,9].all fun u => !Tryd.prog.wantsStandIn u) = true:=by kernel_rfl
    exact (show Tryd.prog.wantsStandIn t = false by simpa using Z8v.1 hall t hm)⟩)
  (by kernel_rfl)
#print axioms progRows_card
end Go.Proofs.YtocikhhkicahoaaDoor
end
