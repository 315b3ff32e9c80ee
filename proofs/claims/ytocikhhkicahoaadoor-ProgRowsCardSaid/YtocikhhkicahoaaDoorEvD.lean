/- The evaluator is sound: what it answers is what a call comes to. No condition. -/
import Derived.Test.YtocikhhkicahoaaDoorEvC
import Derived.Below
import Derived.ChangeOld
import Derived.Shelf.Spec.DecodeRune

set_option linter.unusedSimpArgs false
set_option linter.unusedVariables false
set_option linter.defProp false
section
namespace Go.Abs
open Go
section
variable {P:Program} {nt:Nat} {sl:Sl} {B:List Row} {a:Act} {w:World} {S:Stay} {β:Nat → Nat}
def Zl9 (tmps:Array Value):ResultVar → Sem Value
 | .tmp t => pure (tmps.getD t undef)
 | .cell a t => do loadVar t (← asAddr (tmps.getD a undef))
theorem Zze (hg:Good nt w S β sl B a) {rv:ResultVar} {x:AV} (h:Zrf P sl B rv = some x) :
  ∃ v,(Zl9 a.tmps rv).run P w = .ok v w ∧ ARel w S β B.length x v ∧ (isUn x = true → ∃ t,Here nt sl a.tmps B β w (.slot t) x v):=by
 cases rv with
 | tmp t =>
  simp only [Zrf,q1_] at h
  subst h
  refine ⟨a.tmps.getD t undef,rfl,?_,fun hu => ?_⟩
  ·have:=hg.ev (.tmp t); exact this
  ·obtain ⟨t',e,ht,here⟩:=Zd1 hg (x:=.tmp t) hu
   cases e
   exact ⟨t,here⟩
 | cell t ty =>
  simp only [Zrf] at h
  obtain ⟨s,hs,h⟩:=ZR h
  have hx:=hg.ev (.tmp t)
  obtain ⟨b,off,c,hu,hrun,hr,hun⟩:=ZvI (P:=P) (ag:=s.1) (k:=s.2) hg.mem (show ARel w S β B.length (get sl t) (a.eval (.tmp t)) from hx) hs h
  refine ⟨c,?_,hr,fun hu => by rw [hun] at hu; simp at hu⟩
  have hu':a.tmps.getD t undef = .pointer (some ⟨b,off,none⟩):=hu
  simp [Zl9,hu',asAddr,hrun]
theorem ZoI (hg:Good nt w S β sl B a):∀ (rs:List ResultVar) (xs:List AV),ZiA P sl B rs = some xs →
  ∃ vs:List Value,(rs.mapM (Zl9 a.tmps)).run P w = .ok vs w ∧ vs.length = xs.length ∧
   ∀ (i:Nat) (x:AV) (v:Value),xs[i]? = some x → vs[i]? = some v → ARel w S β B.length x v ∧ (isUn x = true → ∃ t,Here nt sl a.tmps B β w (.slot t) x v)
 | [],xs,h => by
  simp only [ZiA,q1_] at h
  subst h
  exact ⟨[],rfl,rfl,fun i x v hx => by simp at hx⟩
 | r :: rs,xs,h => by
  simp only [ZiA] at h
  obtain ⟨x,hx,h1⟩:=ZR h
  obtain ⟨ys,hys,h2⟩:=ZR h1
  simp only [q1_] at h2
  subst h2
  obtain ⟨v,v1,v2,v3⟩:=Zze hg hx
  obtain ⟨vs,w1,w2,w3⟩:=ZoI hg rs ys hys
  refine ⟨v :: vs,?_,by simp [w2],?_⟩
  ·simp only [List.mapM_cons,Sem.run_bind,v1,Result.andThen_ok,w1]
   rfl
  ·intro i y u hy hu
   cases i with
   | zero => simp at hy hu; subst hy; subst hu; exact ⟨v2,v3⟩
   | succ i => exact w3 i y u (by simpa using hy) (by simpa using hu)
theorem Zsv {xs:List AV} {arr:Array Value} {n:Nat} (hl:arr.size = xs.length) (hr:∀ (i:Nat) (x:AV) (v:Value),xs[i]? = some x → arr[i]? = some v → ARel w S β n x v)
  (hu:∀ x,x ∈ xs → isUn x = false):ARel w S β n (Z98 xs) (.tuple arr):=by
 have allP_spec:∀ (xs:List AV) (ps:List PV),allP xs = some ps → xs = ps.map .p:=by
  intro xs
  induction xs with
  | nil => intro ps h; simp only [allP,q1_] at h; subst h; rfl
  | cons x r ih =>
   intro ps h
   cases x with
   | p y =>
    simp only [allP] at h
    obtain ⟨qs,hq,rfl⟩:=q6_.1 h
    rw [ih qs hq]; rfl
   | _ => simp [allP] at h
 unfold Z98
 split
 ·rename_i ps hps
  have:=allP_spec xs ps hps
  subst this
  refine .p _ _ (.tup ps arr (by simpa using hl) ?_ ?_)
  ·intro c hc
   have:=hu (.p c) (Z7a.2 ⟨c,hc,rfl⟩)
   rw [ZkY] at this
   simpa using this
  ·intro i c v hc hv
   have:=hr i (.p c) v (by rw [q7_,hc]; rfl) hv
   cases this with | p _ _ h => exact h
 ·exact .tup xs arr hl hu hr
theorem ZqT (xs:List AV):isUn (Z98 xs) = false:=by
 unfold Z98
 split <;> rfl
theorem ZqY {H:Hints} {f:FuncId} {fn:Func} {b:Base} {r:Res} {e:Ex} (hk:kret P H f fn.results e sl B = some r) (h:At b sl B a w) :
  ∃ v,(results fn a.tmps).run P w = .ok v w ∧ a.defers = [] ∧ ∃ S β,Entry w S β [r.1] r.2 #[v] ∧ Step b.m0 b.w b.S b.β b.n b.U w S β r.2.length (UB (Z8w [r.1] #[v] r.2 β w)):=by
 obtain ⟨S,β,hg,hst⟩:=h
 unfold kret at hk
 have hk':(ob (ZiA P sl B fn.results.toList) fun vs => some ((if H.raw f = true then (match vs with | [v] => v | vs => Z98 (vs.map shr)) else nrmA (match vs with | [v] => v | vs => Z98 (vs.map shr))),B)) = some r:=by
  cases e with
  | exit i => simp at hk
  | normal => exact hk
  | ret => exact hk
 obtain ⟨xs,hxs,hr⟩:=ZR hk'
 simp only [q1_] at hr
 obtain ⟨vs,v1,v2,v3⟩:=ZoI hg fn.results.toList xs hxs
 have hres:(results fn a.tmps).run P w = .ok (if h:vs.length = 1 then vs[0]'(by omega) else .tuple vs.toArray) w:=by
  have gen:∀ F:ResultVar → Sem Value,(∀ x,F x = Zl9 a.tmps x) →
    (do let vs ← fn.results.mapM F; pure (if h:vs.size = 1 then vs[0] else .tuple vs):Sem Value).run P w = .ok (if h:vs.length = 1 then vs[0]'(by omega) else .tuple vs.toArray) w:=by
   intro F hFx
   have hFe:F = Zl9 a.tmps:=funext hFx
   subst hFe
   rw [Array.mapM_eq_mapM_toList]
   simp only [Sem.run_bind,map_eq_pure_bind,v1,Result.andThen_ok,Sem.run_pure,Zpk]
   by_cases h1:vs.length = 1
   ·simp [h1]
   ·simp [h1]
  exact gen _ fun x => by cases x <;> rfl
 have key:∀ (x:AV) (v:Value),ARel w S β B.length x v → (isUn x = true → ∃ t,Here b.nt sl a.tmps B β w (.slot t) x v) →
   Entry w S β [x] B #[v] ∧ Step b.m0 b.w b.S b.β b.n b.U w S β B.length (UB (Z8w [x] #[v] B β w)):=by
  intro x v hx hu
  have back:∀ l y u,Z8w [x] #[v] B β w l y u → isUn y = true → (∃ t,l = .slot 0 ∧ y = x ∧ u = v ∧ Here b.nt sl a.tmps B β w (.slot t) x v) ∨ (∃ id j,l = .box id j ∧ Here b.nt sl a.tmps B β w (.box id j) y u):=by
   intro l y u hl hy
   cases l with
   | slot i =>
    left
    obtain ⟨q1,q2⟩:=hl
    cases i with
    | zero =>
     simp only [ZcJ,q1_] at q1
     subst q1
     have q2:v = u:=by simpa using q2
     subst q2
     obtain ⟨t,ht⟩:=hu hy
     exact ⟨t,rfl,rfl,rfl,ht⟩
    | succ i => simp at q1
   | box id j => exact .inr ⟨id,j,rfl,hl⟩
  refine ⟨⟨rfl,?_,hg.mem,⟨?_,?_⟩⟩,hst.less ?_⟩
  ·intro i y u hy hu'
   cases i with
   | zero =>
    simp only [ZcJ,q1_] at hy
    subst hy
    have:v = u:=by simpa using hu'
    subst this
    exact hx
   | succ i => simp at hy
  ·intro l y u hl hy
   rcases back l y u hl hy with ⟨t,rfl,rfl,rfl,q⟩ | ⟨id,j,rfl,q⟩
   ·exact hg.uns.ok _ _ _ q hy
   ·exact hg.uns.ok _ _ _ q hy
  ·intro l l' y y' u u' hl hl' hy hy' he
   rcases back l y u hl hy with ⟨t,rfl,rfl,rfl,q⟩ | ⟨id,j,rfl,q⟩ <;> rcases back l' y' u' hl' hy' with ⟨t',rfl,rfl,rfl,q'⟩ | ⟨id',j',rfl,q'⟩
   ·rfl
   ·have:=hg.uns.inj _ _ _ _ _ _ q q' hy hy' he; simp at this
   ·have:=hg.uns.inj _ _ _ _ _ _ q q' hy hy' he; simp at this
   ·exact hg.uns.inj _ _ _ _ _ _ q q' hy hy' he
  ·rintro c ⟨l,y,u,hl,hy,hb⟩
   rcases back l y u hl hy with ⟨t,rfl,rfl,rfl,q⟩ | ⟨id,j,rfl,q⟩
   ·exact ⟨_,_,_,q,hy,hb⟩
   ·exact ⟨_,_,_,q,hy,hb⟩
 have nkey:∀ (x:AV) (v:Value),ARel w S β B.length x v → Entry w S β [nrmA x] B #[v] ∧ Step b.m0 b.w b.S b.β b.n b.U w S β B.length (UB (Z8w [nrmA x] #[v] B β w)):=fun x v hx =>
  key (nrmA x) v hx.nrmA fun hu => by rw [ZjF] at hu; simp at hu
 refine ⟨_,hres,hg.defers,S,β,?_⟩
 have main:∃ x v,r.2 = B ∧ (if h:vs.length = 1 then vs[0]'(by omega) else .tuple vs.toArray) = v ∧ ((r.1 = x ∧ (isUn x = true → ∃ t,Here b.nt sl a.tmps B β w (.slot t) x v)) ∨ r.1 = nrmA x) ∧ ARel w S β B.length x v:=by
  match xs,hr,v2,v3 with
  | [x],hr,v2,v3 =>
   have h1:vs.length = 1:=by simpa using v2
   obtain ⟨q1,q2⟩:=v3 0 x vs[0] rfl (by simp [h1])
   refine ⟨x,vs[0],by rw [← hr],by rw [dif_pos h1],?_,q1⟩
   cases hraw:H.raw f with
   | true => left; rw [← hr]; simp only [hraw,if_true]; exact ⟨trivial,q2⟩
   | false => right; rw [← hr]; simp only [hraw]; rfl
  | [],hr,v2,v3 =>
   have hvs:vs = []:=Zpg.1 (by simpa using v2)
   subst hvs
   refine ⟨Z98 [],.tuple #[],by rw [← hr],by simp,?_,Zsv rfl (fun i x v hx => by simp at hx) (by simp)⟩
   cases hraw:H.raw f with
   | true => left; rw [← hr]; simp only [hraw,if_true]; exact ⟨by simp,fun hu => by rw [ZqT] at hu; simp at hu⟩
   | false => right; rw [← hr]; simp only [hraw]; rfl
  | x :: y :: zs,hr,v2,v3 =>
   have hn:¬ vs.length = 1:=by rw [v2]; simp
   refine ⟨Z98 ((x :: y :: zs).map shr),.tuple vs.toArray,by rw [← hr],by rw [dif_neg hn],?_,Zsv (by simpa using v2) ?_ ?_⟩
   ·cases hraw:H.raw f with
    | true => left; rw [← hr]; simp only [hraw,if_true]; exact ⟨trivial,fun hu => by rw [ZqT] at hu; simp at hu⟩
    | false => right; rw [← hr]; simp only [hraw]; rfl
   ·intro i z v hz hv
    rw [q7_] at hz
    obtain ⟨z0,hz0,rfl⟩:=q6_.1 hz
    exact (v3 i z0 v hz0 (by simpa using hv)).1.shr
   ·intro z hz
    obtain ⟨z0,_,rfl⟩:=Z7a.1 hz
    exact Z4p z0
 obtain ⟨x,v,e1,e2,e3,e4⟩:=main
 rw [e1,e2]
 rcases e3 with ⟨e3,e5⟩ | e3
 ·rw [e3]; exact key x v e4 e5
 ·rw [e3]; exact nkey x v e4
end
abbrev Xs:=FuncId → Option (List AV → List Row → Option Res)
def ZsV (P:Program) (I:Inv) (X:Xs):Prop:=∀ f m,X f = some m → ∀ args B r,m args B = some r → ∀ w S β vals,I w S → Entry w S β args B vals → Plain P f ∧ Calls P f vals w (Zbg w S β args B vals r)
def progOk (P:Program) (X:Xs) (H:Hints):Bool :=
 (List.range P.funcs.size).all fun f => (X f).isSome || match P.funcs[f]? with
  | none => true
  | some fn => match fn.body with
   | none => true
   | some c => codeOk H f fn.ntmps c && !(fn.name == "runtime.NumGoroutine")
theorem ZwU {P:Program} {X:Xs} {H:Hints} (h:progOk P X H = true) {f:FuncId} {fn:Func} {c:Code} (hX:X f = none) (hf:P.funcs[f]? = some fn) (hb:fn.body = some c) :
  codeOk H f fn.ntmps c = true ∧ (fn.name == "runtime.NumGoroutine") = false := by
 unfold progOk at h
 simp only [Z8v,ZhB] at h
 have:=h f (Z8t.1 hf).1
 simp only [hX,hf,hb,Option.isSome_none,Bool.false_or,Z4R,Zes] at this
 exact this
theorem ZqP:∀ (args:List AV) (k t:Nat),get (number k args) t = if k ≤ t ∧ t < k + args.length then args.getD (t - k) jk else jk
 | [],k,t => by simp [number,get]
 | x :: r,k,t => by
  rw [number,Z1Z,ZqP r (k + 1) t]
  by_cases e:k = t
  ·subst e; simp
  ·rw [if_neg e]
   by_cases h:k + 1 ≤ t ∧ t < k + 1 + r.length
   ·rw [if_pos h,if_pos (by simp; omega)]
    obtain ⟨j,rfl⟩:∃ j,t = k + 1 + j:=⟨t - (k + 1),by omega⟩
    have e1:k + 1 + j - (k + 1) = j:=by omega
    have e2:k + 1 + j - k = j + 1:=by omega
    rw [e1,e2]
    simp
   ·rw [if_neg h,if_neg (by simp; omega)]
section
variable {P:Program} {w:World} {S:Stay} {β:Nat → Nat}
theorem ZxP {args:List AV} {B:List Row} {vals:Array Value} (h:Entry w S β args B vals) {nt:Nat} (hn:args.length ≤ nt) :
  At ⟨nt,B.length,B.length,w,S,β,UB (Z8w args vals B β w)⟩ (number 0 args) B { tmps:=vals ++ Array.replicate (nt - vals.size) undef,defers:=[] } w:=by
 have hsz:(vals ++ Array.replicate (nt - vals.size) undef).size = nt:=by
  rw [Znq,Array.size_replicate,h.size]; omega
 have hget:∀ t,get (number 0 args) t = args.getD t jk:=by
  intro t
  rw [ZqP]
  split
  ·rw [Nat.sub_zero]
  ·rename_i hc
   rw [Z87,ZcL (by omega)]
   rfl
 have hval:∀ t,t < args.length → (vals ++ Array.replicate (nt - vals.size) undef).getD t undef = vals.getD t undef:=by
  intro t ht
  have h1:t < vals.size:=by rw [h.size]; exact ht
  simp only [Zsc,Zno,if_pos h1]
 have here:∀ l x v,Here nt (number 0 args) (vals ++ Array.replicate (nt - vals.size) undef) B β w l x v → isUn x = true → Z8w args vals B β w l x v:=by
  intro l x v hl hu
  cases l with
  | slot t =>
   obtain ⟨ht,rfl,rfl⟩:=hl
   rw [hget] at hu ⊢
   rcases Z9X t args.length with h1 | h1
   ·rw [hval t h1]
    have h2:t < vals.size:=by rw [h.size]; exact h1
    refine ⟨?_,?_⟩
    ·rw [Z87,q4_ h1]; rfl
    ·simp [h2]
   ·rw [Z87,ZcL h1] at hu
    simp [isUn,jk] at hu
  | box id j => exact hl
 refine ⟨S,β,⟨hsz,rfl,?_,?_,h.mem,⟨?_,?_⟩⟩,?_⟩
 ·intro t ht
  rw [hget]
  rcases Z9X t args.length with h1 | h1
  ·have h2:t < vals.size:=by rw [h.size]; exact h1
   show ARel w S β B.length _ ((vals ++ Array.replicate (nt - vals.size) undef).getD t undef)
   rw [hval t h1]
   refine h.rel t _ _ ?_ ?_
   ·rw [Z87,q4_ h1]; rfl
   ·simp [h2]
  ·rw [Z87,ZcL h1]
   exact ARel.junk _
 ·intro t ht
  have ht:nt ≤ t:=ht
  rw [hget,Z87,ZcL (by omega)]
  rfl
 ·intro l x v hl hu
  exact h.uns.ok l x v (here l x v hl hu) hu
 ·intro l l' x x' v v' hl hl' hu hu' he
  exact h.uns.inj l l' x x' v v' (here l x v hl hu) (here l' x' v' hl' hu') hu hu' he
 ·refine { Step.refl B.length w S β B.length (UB (Z8w args vals B β w)) with uns:=fun c hc => .inl ?_ }
  obtain ⟨l,x,v,hl,hu,hb⟩:=hc
  exact ⟨l,x,v,here l x v hl hu,hu,hb⟩
variable {X:Xs} {H:Hints}
theorem ZxG {G:GF} {LP:LF} {I:Inv} (hp:Pers I) (hm:P.follows .mixedOrders = true) (hX:ZsV P I X) (hok:progOk P X H = true) (hF:Z90 P I G) (hL:ZxE P I H LP):Z90 P I (fun f args B => body P X H G LP f args B):=by
 intro f args B r h w S β vals hI he
 change body P X H G LP f args B = some r at h
 unfold body at h
 split at h
 ·rename_i m hXf
  exact hX f m hXf args B r h w S β vals hI he
 ·rename_i hXf
  split at h
  ·simp at h
  ·rename_i fn hf
   split at h
   ·simp at h
   ·rename_i c hb
    split at h
    ·rename_i hn
     obtain ⟨hc,hname⟩:=ZwU hok hXf hf hb
     refine ⟨⟨fn,hf,hname,by rw [hb]; rfl⟩,?_⟩
     refine calls_of_wp hf hb ?_
     refine wp_mono (ZpF (b:=⟨fn.ntmps,B.length,B.length,w,S,β,UB (Z8w args vals B β w)⟩) hp hF hL hm hI c _ _ B _ w hc h (ZxP he hn)) ?_
     intro e a w' hq
     cases e with
     | normal =>
      obtain ⟨sl,B',hk,ha⟩:=hq
      obtain ⟨v,h1,h2,S',β',h3,h4⟩:=ZqY hk ha
      exact ⟨h2,v,h1,S',β',h3,h4⟩
     | ret =>
      obtain ⟨sl,B',hk,ha⟩:=hq
      obtain ⟨v,h1,h2,S',β',h3,h4⟩:=ZqY hk ha
      exact ⟨h2,v,h1,S',β',h3,h4⟩
     | exit id =>
      obtain ⟨sl,B',hk,ha⟩:=hq
      simp [kret] at hk
     | goto l => exact hq.elim
     | panic ch => exact hq.elim
     | outgrown => exact hq.elim
    ·simp at h
theorem ZpE {I:Inv} (hp:Pers I) (hm:P.follows .mixedOrders = true) (hX:ZsV P I X) (hok:progOk P X H = true):∀ n,Z90 P I (evlp P X H n).1 ∧ ZxE P I H (evlp P X H n).2
 | 0 => ⟨fun f args B r h => by simp [evlp] at h,fun f m0 c K sl B r b a w _ _ _ h => by simp [evlp] at h⟩
 | n + 1 => by
  obtain ⟨h1,h2⟩:=ZpE hp hm hX hok n
  refine ⟨ZxG hp hm hX hok h1 h2,?_⟩
  intro f m0 c K sl B r b a w hI hc hb h ha
  subst hb
  change exec P H f b.m0 (evlp P X H n).1 (evlp P X H n).2 c (kloop H f b.m0 c ((evlp P X H n).2 f b.m0 c K) K) sl B = some r at h
  refine Zz1 (wp_mono (ZpF hp h1 h2 hm hI c _ sl B a w hc h ha) ?_)
  intro e a w hq
  cases e with
  | normal =>
   obtain ⟨sl',B',hk,ha'⟩:=hq
   obtain ⟨sl2,B2,hk2,ha2⟩:=ZhP (k:=fun sl B => lp ((evlp P X H n).2 f b.m0 c K sl B)) hk ha'
   exact h2 f b.m0 c K sl2 B2 r b a w hI hc rfl hk2 ha2
  | exit id => exact hq
  | ret => exact hq
  | goto l => exact hq.elim
  | panic ch => exact hq.elim
  | outgrown => exact hq.elim
theorem ZEA {I:Inv} (hp:Pers I) (hm:P.follows .mixedOrders = true) (hX:ZsV P I X) (hok:progOk P X H = true):Z90 P I (E P X H):=by
 intro f args B r h
 obtain ⟨n,hn⟩:=E_to P X H h
 exact (ZpE hp hm hX hok n).1 f args B r hn
end
end Go.Abs
end
section
namespace Go.Abs
open Go
section
variable {P:Program} {t s d:TypeId} {k k':IntKind} {a b n:Int}
theorem ZIL {e:TypeId} (h:P.underlying t = some (.slice e)) (o:Own) (xs:List PV):xlen P t (.p (.lst o xs)) = some (.p (.v (.int .i64 xs.length))):=by
 unfold xlen; rw [h]
end
theorem ZCy (xs:List PV):shr (.p (.lst .nl xs)) = .p (.lst .nl xs):=rfl
theorem ZsS {P:Program} {X:Xs} {H:Hints} {f:FuncId} {m:List AV → List Row → Option Res} (h:X f = some m) (args:List AV) (B:List Row):E P X H f args B = m args B:=by
 rw [E_eq]
 unfold body
 rw [h]
theorem wrap_i64 {n:Int} (h1:-9223372036854775808 ≤ n) (h2:n ≤ 9223372036854775807):IntKind.i64.wrap n = n:=by
 show (if (true && decide (n % 18446744073709551616 ≥ 9223372036854775808)) = true then n % 18446744073709551616 - 18446744073709551616 else n % 18446744073709551616) = n
 simp only [Zw8,decide_eq_true_eq]
 split <;> omega
theorem wrap_i32 {n:Int} (h1:-2147483648 ≤ n) (h2:n ≤ 2147483647):IntKind.i32.wrap n = n:=by
 show (if (true && decide (n % 4294967296 ≥ 2147483648)) = true then n % 4294967296 - 4294967296 else n % 4294967296) = n
 simp only [Zw8,decide_eq_true_eq]
 split <;> omega
end Go.Abs
end
section
namespace Go.Abs
open Go Go.RowKit
def Old (w:World):Stay:=fun b _ => b < w.heap.size
theorem ZoG {w w':World} {S:Stay} {β:Nat → Nat} {args:List AV} {B:List Row} {vals:Array Value} {x:AV} {v:Value} (he:Entry w S β args B vals) (hb:Below w.heap.size w w')
  {S':Stay} (hS:∀ b o,S' b o → S b o ∨ (w.heap.size ≤ b ∧ b < w'.heap.size)) (hS2:∀ b o,S b o → S' b o) (hx:ARel w' S' β B.length x v) (hu:isUn x = true → UnOk w' S' x v ∧ ∀ b,Z3U v = some b → w.heap.size ≤ b):Zbg w S β args B vals (x,B) (.returned v) w':=by
 have hlt:∀ i,i < B.length → β i < w.heap.size:=fun i hi => he.mem.lt hi
 have hblk:∀ i,i < B.length → w'.heap[β i]? = w.heap[β i]?:=fun i hi => hb.block _ (hlt i hi)
 have hk:Keeps w S w' S':=⟨hS2,fun b o hs => cell_of_heap (hb.block b (he.mem.stay b o hs))⟩
 have here:∀ l y u,Z8w [x] #[v] B β w' l y u → isUn y = true → (l = .slot 0 ∧ y = x ∧ u = v) ∨ ∃ id j,l = .box id j ∧ Z8w args vals B β w (.box id j) y u:=by
  intro l y u hl hy
  cases l with
  | slot i =>
   obtain ⟨q1,q2⟩:=hl
   cases i with
   | zero =>
    simp only [ZcJ,q1_] at q1
    have q2:v = u:=by simpa using q2
    exact .inl ⟨rfl,q1.symm,q2.symm⟩
   | succ i => simp at q1
  | box id j =>
   obtain ⟨row,q1,q2,q3⟩:=hl
   have hid:=(q2_.1 q1).1
   exact .inr ⟨id,j,rfl,row,q1,q2,by rw [cell_of_heap (hblk id hid)] at q3; exact q3⟩
 have ublk:∀ y u,UnOk w S y u → UnOk w' S' y u:=by
  intro y u hok
  refine hok.world hk fun b hbb => ?_
  have h2:=hok.blk hbb
  refine ⟨hb.block b h2,fun o ho => ?_⟩
  rcases hS b o ho with h3 | ⟨h3,_⟩
  ·exact h3
  ·omega
 refine ⟨S',β,⟨rfl,?_,⟨?_,?_,he.mem.inj,?_,?_,fun id r es hr hm => (he.mem.maps id r es hr hm).keeps hk (hblk id (q2_.1 hr).1)⟩,⟨?_,?_⟩⟩,?_⟩
 ·intro i y u hy hu'
  cases i with
  | zero =>
   simp only [ZcJ,q1_] at hy
   subst hy
   have:v = u:=by simpa using hu'
   subst this
   exact hx
  | succ i => simp at hy
 ·intro id r hr hm
  obtain ⟨cs,ty,q1,q2⟩:=he.mem.row id r hr hm
  exact ⟨cs,ty,(hblk id (q2_.1 hr).1).trans q1,q2⟩
 ·intro id r j y hr hm hy
  obtain ⟨u,q1,q2,q3⟩:=he.mem.cell id r j y hr hm hy
  exact ⟨u,(cell_of_heap (hblk id (q2_.1 hr).1)).trans q1,q2.keeps hk (fun _ _ => rfl) (Z2x _),q3⟩
 ·intro i hi o ho
  rcases hS _ o ho with h3 | ⟨h3,_⟩
  ·exact he.mem.apart i hi o h3
  ·have:=hlt i hi; omega
 ·intro b o ho
  rcases hS b o ho with h3 | ⟨_,h3⟩
  ·exact Znp (he.mem.stay b o h3) hb.size
  ·exact h3
 ·intro l y u hl hy
  rcases here l y u hl hy with ⟨rfl,rfl,rfl⟩ | ⟨id,j,rfl,q⟩
  ·obtain ⟨q1,q2⟩:=hu hy
   refine ⟨q1,fun i hi e => ?_⟩
   have h1:=q2 _ e
   have h2:=hlt i hi
   omega
  ·obtain ⟨q1,q2⟩:=he.uns.ok _ y u q hy
   exact ⟨ublk y u q1,q2⟩
 ·intro l l' y y' u u' hl hl' hy hy' e
  rcases here l y u hl hy with ⟨rfl,rfl,rfl⟩ | ⟨id,j,rfl,q⟩ <;> rcases here l' y' u' hl' hy' with ⟨rfl,rfl,rfl⟩ | ⟨id',j',rfl,q'⟩
  ·rfl
  ·obtain ⟨b,e1,e2⟩:=e
   have h1:=(hu hy).2 b e1
   have h2:=(he.uns.ok _ y' u' q' hy').1.blk e2
   omega
  ·obtain ⟨b,e1,e2⟩:=e
   have h1:=(hu hy').2 b e2
   have h2:=(he.uns.ok _ y u q hy).1.blk e1
   omega
  ·exact he.uns.inj _ _ _ _ _ _ q q' hy hy' e
 ·refine ⟨hk,hb.size,hb.os,hb.tape,hb.output,fun h => ⟨h,fun _ _ => rfl⟩,fun i hi => .inl ⟨i,hi,rfl,id⟩,?_,?_,fun b h1 _ _ => hb.block b h1⟩
  ·rintro b ⟨l,y,u,hl,hy,hbb⟩
   rcases here l y u hl hy with ⟨rfl,rfl,rfl⟩ | ⟨id,j,rfl,q⟩
   ·exact .inr ((hu hy).2 b hbb)
   ·exact .inl ⟨_,y,u,q,hy,hbb⟩
  ·intro b o ho
   rcases hS b o ho with h3 | ⟨h3,_⟩
   ·exact .inl h3
   ·exact .inr (.inl h3)
theorem Zim {w w':World} {S:Stay} {β:Nat → Nat} {args:List AV} {B:List Row} {vals:Array Value} {x:AV} {v:Value} (he:Entry w S β args B vals) (hb:Below w.heap.size w w')
  {S':Stay} (hS:∀ b o,S' b o → S b o ∨ (w.heap.size ≤ b ∧ b < w'.heap.size)) (hS2:∀ b o,S b o → S' b o) (hx:ARel w' S' β B.length x v) (hu:isUn x = false):Zbg w S β args B vals (x,B) (.returned v) w' :=
 ZoG he hb hS hS2 hx (fun h => by rw [hu] at h; simp at h)
theorem ZzL {w:World} {β:Nat → Nat} {args:List AV} {vals:Array Value} (hs:vals.size = args.length) (hr:∀ (i:Nat) (x:AV) (v:Value),args[i]? = some x → vals[i]? = some v → ARel w (Old w) β 0 x v ∧ isUn x = false) :
  Entry w (Old w) β args [] vals:=by
 refine ⟨hs,fun i x v hx hv => (hr i x v hx hv).1,⟨?_,?_,?_,?_,fun b o h => h,fun id r es h => by simp at h⟩,⟨?_,?_⟩⟩
 ·intro id r h; simp at h
 ·intro id r j x h; simp at h
 ·intro i j h; simp at h
 ·intro i h; simp at h
 ·intro l x v hl hu
  cases l with
  | slot i => rw [(hr i x v hl.1 hl.2).2] at hu; simp at hu
  | box id j => obtain ⟨row,h,_⟩:=hl; simp at h
 ·intro l l' x x' v v' hl _ hu
  cases l with
  | slot i => rw [(hr i x v hl.1 hl.2).2] at hu; simp at hu
  | box id j => obtain ⟨row,h,_⟩:=hl; simp at h
theorem Zzy {P:Program} {I:Inv} {G:GF} (hF:Z90 P I G) {f:FuncId} {args:List AV} {vals:Array Value} {r:Res} {w:World} (hI:I w (Old w)) (hE:G f args [] = some r) (hs:vals.size = args.length)
  (hr:∀ (i:Nat) (x:AV) (v:Value),args[i]? = some x → vals[i]? = some v → ARel w (Old w) (fun _ => 0) 0 x v ∧ isUn x = false) :
  Calls P f vals w fun e w' => ∃ v S' β',e = .returned v ∧ Below w.heap.size w w' ∧ ARel w' S' β' r.2.length r.1 v:=by
 obtain ⟨_,hc⟩:=hF f args [] r hE w (Old w) (fun _ => 0) vals hI (ZzL hs hr)
 refine hc.mono fun e w' hp => ?_
 cases e with
 | returned v =>
  obtain ⟨S',β',he,hst⟩:=hp
  refine ⟨v,S',β',rfl,⟨hst.os,hst.tape,hst.output,hst.size,fun k hk => hst.block k hk (fun i hi => by simp at hi) ?_⟩,he.rel 0 r.1 v rfl rfl⟩
  rintro ⟨l,x,u,hl,hu,_⟩
  cases l with
  | slot i => rw [(hr i x u hl.1 hl.2).2] at hu; simp at hu
  | box id j => obtain ⟨row,h,_⟩:=hl; simp at h
 | panicked c => exact hp.elim
 | outgrown => exact hp.elim
def Tabs (g3 g4:Nat):Inv:=fun w S => Lib.Utf8Tabs g3 g4 w ∧ (∀ o,o < 256 → S g3 o) ∧ ∀ o,o < 32 → S g4 o
theorem Tabs.pers (g3 g4:Nat):Pers (Tabs g3 g4):=by
 intro w w' S S' hk h
 obtain ⟨⟨h1,h2⟩,h3,h4⟩:=h
 refine ⟨⟨fun c hc => (hk.cell _ _ (h3 c hc)).trans (h1 c hc),fun i hi => ?_⟩,fun o ho => hk.more _ _ (h3 o ho),fun o ho => hk.more _ _ (h4 o ho)⟩
 obtain ⟨a,b⟩:=h2 i hi
 exact ⟨(hk.cell _ _ (h4 _ (by omega))).trans a,(hk.cell _ _ (h4 _ (by omega))).trans b⟩
theorem Tabs.old {g3 g4:Nat} {w:World} (h:Lib.Utf8Tabs g3 g4 w):Tabs g3 g4 w (Old w):=by
 refine ⟨h,fun o _ => ?_,fun o _ => ?_⟩
 ·have:=h.1 0 (by omega)
  unfold World.cell? at this
  cases hh:w.heap[g3]? with
  | none => rw [hh] at this; simp at this
  | some x => exact (Z8t.1 hh).1
 ·have:=(h.2 0 (by omega)).1
  unfold World.cell? at this
  cases hh:w.heap[g4]? with
  | none => rw [hh] at this; simp at this
  | some x => exact (Z8t.1 hh).1
def ZxH:PV → Option UInt8
 | .v (.int .u8 n) => if 0 ≤ n ∧ n < 256 then some (UInt8.ofNat n.toNat) else none
 | _ => none
def ZgD:List PV → Option (List UInt8)
 | [] => some []
 | x :: r => match ZxH x,ZgD r with
  | some a,some b => some (a :: b)
  | _,_ => none
theorem Zos:∀ {xs:List PV} {l:List UInt8},ZgD xs = some l → xs = l.map fun b => .v (.int .u8 b.toNat)
 | [],l,h => by simp [ZgD] at h; subst h; rfl
 | x :: r,l,h => by
  simp only [ZgD] at h
  split at h
  ·rename_i b bs hb hbs
   simp only [q1_] at h
   subst h
   rw [Zos hbs]
   unfold ZxH at hb
   split at hb
   ·rename_i n
    split at hb
    ·simp only [q1_] at hb
     subst hb
     have:(UInt8.ofNat n.toNat).toNat = n.toNat:=by simp; omega
     simp only [Z99,this]
     congr 3
     omega
    ·simp at hb
   ·simp at hb
  ·simp at h
theorem Zpy:∀ (l:List UInt8),ZgD (l.map fun b => .v (.int .u8 b.toNat)) = some l
 | [] => rfl
 | b :: l => by
  have hb:b.toNat < 256:=b.toNat_lt
  simp only [Z99,ZgD,ZxH,Zpy l]
  rw [if_pos (by omega)]
  simp
theorem ZwD {w:World} {S:Stay} {o:Own} {l:List UInt8} {v:Value} (h:PRel w S (.lst o (l.map fun b => .v (.int .u8 b.toNat))) v) :
  ∃ a cap,v = .slice a l.length cap ∧ l.length ≤ cap ∧ (l ≠ [] → ∃ b off,a = some ⟨b,off,none⟩ ∧ ∀ (j:Nat) (x:UInt8),l[j]? = some x → w.cell? ⟨b,off + j,none⟩ = some (.int .u8 x.toNat) ∧ S b (off + j)):=by
 obtain ⟨a,cap,rfl,h1,h2,h3⟩:=ZeL (n:=1) h (by
  unfold szOk
  simp [Z8v,Z1r])
 refine ⟨a,cap,by simp,by simpa using h1,fun hne => ?_⟩
 obtain ⟨b,off,rfl,h4⟩:=h3 (by simpa using hne)
 refine ⟨b,off,rfl,fun j x hx => ?_⟩
 obtain ⟨u,q1,q2,_,q4⟩:=h4 j (.v (.int .u8 x.toNat)) 0 (.v (.int .u8 x.toNat)) (by rw [q7_,hx]; rfl) rfl
 have:u = .int .u8 x.toNat:=by cases q4 with | v _ _ => rfl
 subst this
 simp only [Nat.mul_one,ZbF] at q1 q2
 exact ⟨q1,q2⟩
end Go.Abs
end
section
namespace Go.Proofs.Norm
abbrev R2:=Int × Int
def Z2O (acc:List R2) (r:R2):List R2 :=
 match acc with
 | o :: os => if r.1 ≤ o.2 + 1 then (o.1,max o.2 r.2) :: os else r :: o :: os
 | [] => [r]
def ZlK (a b:R2):Bool:=decide (a.1 < b.1) || (decide (a.1 = b.1) && decide (a.2 ≤ b.2))
def ins (r:R2):List R2 → List R2
 | [] => [r]
 | x :: t => if ZlK r x then r :: x :: t else x :: ins r t
def Zby:List R2 → List R2
 | [] => []
 | x :: t => ins x (Zby t)
def Z5E (rs:List R2):List R2:=((Zby rs).foldl Z2O []).reverse
theorem Zhj {a b:R2}:ZlK a b = true ↔ a.1 < b.1 ∨ (a.1 = b.1 ∧ a.2 ≤ b.2):=by
 simp [ZlK]
theorem Zp9 (r:R2):∀ l,(ins r l).Perm (r :: l)
 | [] => List.Perm.refl _
 | x :: t => by
  unfold ins
  split
  ·exact List.Perm.refl _
  ·exact ((Zp9 r t).cons x).trans (List.Perm.swap r x t)
theorem Z97:∀ l,(Zby l).Perm l
 | [] => List.Perm.refl _
 | x :: t => (Zp9 x (Zby t)).trans ((Z97 t).cons x)
theorem ZqR (r:R2):∀ l,l.Pairwise (fun a b => ZlK a b = true) → (ins r l).Pairwise (fun a b => ZlK a b = true)
 | [],_ => by simp [ins]
 | x :: t,h => by
  obtain ⟨h1,h2⟩:=Zj6.1 h
  unfold ins
  split
  ·rename_i hc
   refine Zj6.2 ⟨?_,h⟩
   intro y hy
   rcases Z5G.1 hy with rfl | hy
   ·exact hc
   ·have:=h1 y hy
    rw [Zhj] at *
    omega
  ·rename_i hc
   refine Zj6.2 ⟨?_,ZqR r t h2⟩
   intro y hy
   rcases Z5G.1 ((Zp9 r t).mem_iff.1 hy) with rfl | hy
   ·rw [Zhj] at *
    omega
   ·exact h1 y hy
theorem Zfh:∀ l,(Zby l).Pairwise (fun a b => ZlK a b = true)
 | [] => List.Pairwise.nil
 | x :: t => ZqR x _ (Zfh t)
theorem ZwQ {l1 l2:List R2} (h:l1.Perm l2):Zby l1 = Zby l2:=by
 refine List.Perm.eq_of_pairwise (le:=fun a b => ZlK a b = true) (fun a b _ _ h1 h2 => ?_) (Zfh l1) (Zfh l2) (((Z97 l1).trans h).trans (Z97 l2).symm)
 rw [Zhj] at h1 h2
 exact Z3F (by omega) (by omega)
theorem Zz5 {acc:List R2} {x y:R2} (he:x.1 = y.1) (hx:x.1 ≤ x.2) (hy:y.1 ≤ y.2):Z2O (Z2O acc y) x = Z2O (Z2O acc x) y:=by
 cases acc with
 | nil =>
  show (if x.1 ≤ y.2 + 1 then [(y.1,max y.2 x.2)] else [x,y]) = (if y.1 ≤ x.2 + 1 then [(x.1,max x.2 y.2)] else [y,x])
  rw [if_pos (by omega),if_pos (by omega),he,Int.max_comm]
 | cons o os =>
  by_cases h:x.1 ≤ o.2 + 1
  ·have h':y.1 ≤ o.2 + 1:=by omega
   simp only [Z2O,h,h',if_true]
   rw [if_pos (by omega),if_pos (by omega)]
   congr 2
   omega
  ·have h':¬ y.1 ≤ o.2 + 1:=by omega
   simp only [Z2O,h,h',if_false]
   rw [if_pos (by omega),if_pos (by omega),he]
   congr 2
   omega
theorem ZvF {x:R2} (hx:x.1 ≤ x.2):∀ (s:List R2) (acc:List R2),(∀ y ∈ s,x.1 ≤ y.1 ∧ y.1 ≤ y.2) → (ins x s).foldl Z2O acc = s.foldl Z2O (Z2O acc x)
 | [],_,_ => rfl
 | y :: t,acc,h => by
  unfold ins
  split
  ·rfl
  ·rename_i hc
   rw [Zhj] at hc
   have hy:=h y (Z9C ..)
   rw [ZdD,ZdD,ZvF hx t _ (fun z hz => h z (Zay _ hz)),Zz5 (by omega) hx hy.2]
theorem ZqV:∀ (l:List R2) (acc:List R2),l.Pairwise (fun a b => a.1 ≤ b.1) → (∀ y ∈ l,y.1 ≤ y.2) → (Zby l).foldl Z2O acc = l.foldl Z2O acc
 | [],_,_,_ => rfl
 | x :: t,acc,hs,hr => by
  obtain ⟨h1,h2⟩:=Zj6.1 hs
  have hr':=fun y hy => hr y (Zay _ hy)
  rw [Zby,ZvF (hr x (Z9C ..)) _ _ fun y hy => ⟨h1 y ((Z97 t).mem_iff.1 hy),hr' y ((Z97 t).mem_iff.1 hy)⟩,ZqV t _ h2 hr',ZdD]
theorem Zl3 {l rs:List R2} (hp:l.Perm rs) (hs:l.Pairwise (fun a b => a.1 ≤ b.1)) (hr:∀ y ∈ rs,y.1 ≤ y.2):(l.foldl Z2O []).reverse = Z5E rs:=by
 rw [Z5E,← ZwQ hp,ZqV l [] hs fun y hy => hr y (hp.mem_iff.1 hy)]
def hasF (rs:List R2) (u:Int):Prop:=∃ r ∈ rs,r.1 ≤ u ∧ u ≤ r.2
def Desc:List R2 → Prop
 | [] => True
 | [r] => 0 ≤ r.1 ∧ r.1 ≤ r.2 ∧ r.2 ≤ 1114367
 | r :: o :: os => (0 ≤ r.1 ∧ r.1 ≤ r.2 ∧ r.2 ≤ 1114367) ∧ o.2 + 2 ≤ r.1 ∧ Desc (o :: os)
theorem Desc.hd {r:R2} {l:List R2} (h:Desc (r :: l)):0 ≤ r.1 ∧ r.1 ≤ r.2 ∧ r.2 ≤ 1114367:=by
 cases l with
 | nil => exact h
 | cons o os => exact h.1
theorem Zz4 {acc:List R2} {r:R2} (h:Desc acc) (hr:0 ≤ r.1 ∧ r.1 ≤ r.2 ∧ r.2 ≤ 1114367) (hl:∀ o os,acc = o :: os → o.1 ≤ r.1):Desc (Z2O acc r) ∧ (∀ o os,Z2O acc r = o :: os → o.1 ≤ r.1) ∧ ∀ u,hasF (Z2O acc r) u ↔ hasF acc u ∨ (r.1 ≤ u ∧ u ≤ r.2):=by
 cases acc with
 | nil =>
  refine ⟨hr,?_,fun u => ?_⟩
  ·intro o os e
   simp only [Z2O,Zj8] at e
   rw [← e.1]
   omega
  ·simp [hasF,Z2O]
 | cons o os =>
  have ho:=hl o os rfl
  have hh:=h.hd
  by_cases hc:r.1 ≤ o.2 + 1
  ·simp only [Z2O,hc,if_true]
   refine ⟨?_,?_,fun u => ?_⟩
   ·cases os with
    | nil => exact ⟨hh.1,by simp only []; omega,by simp only []; omega⟩
    | cons p ps => exact ⟨⟨hh.1,by simp only []; omega,by simp only []; omega⟩,h.2.1,h.2.2⟩
   ·intro o' os' e
    simp only [Zj8] at e
    rw [← e.1]
    exact ho
   ·simp only [hasF,Z5G,exists_eq_or_imp]
    constructor
    ·rintro (⟨h1,h2⟩ | h1)
     ·by_cases h3:u ≤ o.2
      ·exact .inl (.inl ⟨h1,h3⟩)
      ·exact .inr (by omega)
     ·exact .inl (.inr h1)
    ·rintro ((⟨h1,h2⟩ | h1) | ⟨h1,h2⟩)
     ·exact .inl ⟨h1,by omega⟩
     ·exact .inr h1
     ·exact .inl ⟨by omega,by omega⟩
  ·simp only [Z2O,hc,if_false]
   refine ⟨⟨hr,by omega,h⟩,?_,fun u => ?_⟩
   ·intro o' os' e
    simp only [Zj8] at e
    rw [← e.1]
    omega
   ·simp only [hasF,Z5G,exists_eq_or_imp]
    constructor
    ·rintro (h1 | h1)
     ·exact .inr h1
     ·exact .inl h1
    ·rintro (h1 | h1)
     ·exact .inr h1
     ·exact .inl h1
theorem Zsp:∀ (l acc:List R2),Desc acc → l.Pairwise (fun a b => a.1 ≤ b.1) → (∀ r ∈ l,0 ≤ r.1 ∧ r.1 ≤ r.2 ∧ r.2 ≤ 1114367) → (∀ o os,acc = o :: os → ∀ r ∈ l,o.1 ≤ r.1) →
  Desc (l.foldl Z2O acc) ∧ ∀ u,hasF (l.foldl Z2O acc) u ↔ hasF acc u ∨ hasF l u
 | [],acc,h,_,_,_ => ⟨h,fun u => by simp [hasF]⟩
 | r :: t,acc,h,hs,hr,hl => by
  obtain ⟨h1,h2⟩:=Zj6.1 hs
  obtain ⟨d,d1,d2⟩:=Zz4 h (hr r (Z9C ..)) fun o os e => hl o os e r (Z9C ..)
  obtain ⟨k1,k2⟩:=Zsp t (Z2O acc r) d h2 (fun x hx => hr x (Zay _ hx)) fun o os e x hx => Znu (d1 o os e) (h1 x hx)
  refine ⟨k1,fun u => ?_⟩
  rw [ZdD,k2,d2]
  simp only [hasF,Z5G,exists_eq_or_imp,or_assoc]
def Z2Y (l:List R2):Prop:=Desc l.reverse
theorem Zfl {rs:List R2} (hr:∀ r ∈ rs,0 ≤ r.1 ∧ r.1 ≤ r.2 ∧ r.2 ≤ 1114367):Z2Y (Z5E rs) ∧ ∀ u,hasF (Z5E rs) u ↔ hasF rs u:=by
 have hs:(Zby rs).Pairwise (fun a b => a.1 ≤ b.1):=(Zfh rs).imp fun h => by rw [Zhj] at h; omega
 obtain ⟨h1,h2⟩:=Zsp (Zby rs) [] trivial hs (fun r h => hr r ((Z97 rs).mem_iff.1 h)) (fun o os e => by simp at e)
 unfold Z2Y Z5E
 rw [List.reverse_reverse]
 refine ⟨h1,fun u => ?_⟩
 have e1:hasF ((Zby rs).foldl Z2O []).reverse u ↔ hasF ((Zby rs).foldl Z2O []) u:=by simp [hasF]
 rw [e1,h2]
 have e2:hasF (Zby rs) u ↔ hasF rs u:=by
  unfold hasF
  constructor
  ·rintro ⟨r,h,h'⟩; exact ⟨r,(Z97 rs).mem_iff.1 h,h'⟩
  ·rintro ⟨r,h,h'⟩; exact ⟨r,(Z97 rs).mem_iff.2 h,h'⟩
 rw [e2]
 simp [hasF]
end Go.Proofs.Norm
end
section
namespace Go.Proofs.YtocikhhkicahoaaDoor
open Go Go.Abs Go.Proofs.Norm
def Zod:List AV → List Row → Option Res
 | [.p (.lst _ xs)],B => match xs with
  | [] => none
  | _ => (ZgD xs).map fun l => (.p (.tup [.v (.int .i32 (Lib.decodeGo ⟨l.toArray⟩).1),.v (.int .i64 (Lib.decodeGo ⟨l.toArray⟩).2)]),B)
 | _,_ => none
def Zwb:PV → Option R2
 | .agg [.v (.int .i64 a),.v (.int .i64 b)] => some (a,b)
 | _ => none
def Zdi:List PV → Option (List R2)
 | [] => some []
 | x :: r => match Zwb x,Zdi r with
  | some a,some b => some (a :: b)
  | _,_ => none
def encR (r:R2):PV:=.agg [.v (.int .i64 r.1),.v (.int .i64 r.2)]
def Zwi (r:R2):Prop:=0 ≤ r.1 ∧ r.1 ≤ r.2 ∧ r.2 ≤ 1114367
instance (r:R2):Decidable (Zwi r):=by unfold Zwi; infer_instance
def Zlh:List AV → List Row → Option Res
 | [.p (.lst _ xs)],B => match Zdi xs with
  | some rs => if rs.length ≤ 1048576 ∧ ∀ r ∈ rs,Zwi r then some (.p (.lst .sh ((Z5E rs).map encR)),B) else none
  | none => none
 | _,_ => none
def Zl0:List PV → Option (List (List R2))
 | [] => some []
 | x :: r => match x,Zl0 r with
  | .lst _ xs,some b => (Zdi xs).map (· :: b)
  | _,_ => none
def Zlg:List AV → List Row → Option Res
 | [.p (.lst _ xs)],B => match Zl0 xs with
  | some ls => if ls.length ≤ 1048576 ∧ ls.flatten.length ≤ 1048576 then some (.p (.lst .sh (ls.flatten.map encR)),B) else none
  | none => none
 | _,_ => none
def Zlf:List AV → List Row → Option Res
 | [.p (.lst _ xs)],B => match Zdi xs with
  | some _ => if xs.length ≤ 1048576 then some (.p (.lst (apo .ex xs) xs),B) else none
  | none => none
 | _,_ => none
end Go.Proofs.YtocikhhkicahoaaDoor
end
