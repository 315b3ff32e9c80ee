/- What is given of the library to the evaluator does what is said of it. Condition: the tables lie as they are laid. -/
import Derived.Test.YtocikhhkicahoaaDoorEvD
import Derived.Test.YtocikhhkicahoaaDoorWalk
import Derived.Shelf.SlicesE.Clone
import Derived.Laws.OwnMore
import Derived.WalkKit
import Derived.Lib.Walk

set_option linter.unusedSimpArgs false
set_option linter.unusedVariables false
set_option linter.defProp false
section
namespace Go.Proofs.YtocikhhkicahoaaDoor
open Go Go.Abs Go.RowKit Go.Proofs.Norm
theorem mixed:Tryd.prog.follows .mixedOrders = true:=by kernel_rfl
theorem size_mk (l:List UInt8):(⟨l.toArray⟩:ByteArray).size = l.length:=by
 show l.toArray.size = _
 simp
theorem Zp6 {l:List UInt8} {j:Nat} {x:UInt8} (h:l[j]? = some x):(⟨l.toArray⟩:ByteArray).get! j = x:=by
 show l.toArray[j]! = x
 have hj:=(q2_.1 h)
 obtain ⟨h1,h2⟩:=hj
 rw [getElem!_pos l.toArray j (by simpa using h1)]
 simpa using h2
theorem ZDT {w:World} {S:Stay} {β:Nat → Nat} {n:Nat} (a b:Value) (ha:scal a = true) (hb:scal b = true):ARel w S β n (.p (.tup [.v a,.v b])) (.tuple #[a,b]):=by
 refine .p _ _ (.tup _ _ rfl (by simp [Zfm]) ?_)
 intro i c v hc hv
 match i,hc,hv with
 | 0,hc,hv => simp at hc hv; subst hc hv; exact .v _ ha
 | 1,hc,hv => simp at hc hv; subst hc hv; exact .v _ hb
 | i + 2,hc,hv => simp at hc
theorem Z85 {w:World} {S:Stay} {β:Nat → Nat} {x:PV} {B:List Row} {vals:Array Value} (he:Entry w S β [.p x] B vals):∃ v,vals = #[v] ∧ PRel w S x v:=by
 obtain ⟨v,rfl⟩:∃ v,vals = #[v]:=by
  have:=he.size
  have h1:vals.size = 1:=by simpa using this
  exact Array.size_eq_one_iff.1 h1
 have hr:=he.rel 0 _ v rfl rfl
 exact ⟨v,rfl,by cases hr with | p _ _ h => exact h⟩
theorem ZFc:Plain Tryd.prog 76:=⟨Tryd.f76,Tryd.func76,by kernel_rfl,by kernel_rfl⟩
theorem ZFe:Plain Tryd.prog 25:=⟨Tryd.f25,Tryd.func25,by kernel_rfl,by kernel_rfl⟩
theorem ZFf:Plain Tryd.prog 57:=⟨Tryd.f57,Tryd.func57,by kernel_rfl,by kernel_rfl⟩
theorem ZwK {args:List AV} {B:List Row} {r:Res} (h:Zod args B = some r) (w:World) (S:Stay) (β:Nat → Nat) (vals:Array Value) (hI:Tabs 0 1 w S) (he:Entry w S β args B vals) :
  Plain Tryd.prog 76 ∧ Calls Tryd.prog 76 vals w (Zbg w S β args B vals r):=by
 refine ⟨ZFc,?_⟩
 unfold Zod at h
 split at h
 ·rename_i a1 b1 o xs
  split at h
  ·simp at h
  ·rename_i hne
   obtain ⟨l,hl,rfl⟩:=q6_.1 h
   have hxs:=Zos hl
   subst hxs
   obtain ⟨v,rfl,hp⟩:=Z85 he
   obtain ⟨a,cap,rfl,hcap,hc⟩:=ZwD hp
   have hln:l ≠ []:=by rintro rfl; exact hne rfl
   obtain ⟨b,off,rfl,hcell⟩:=hc hln
   have:=Any7.utf8_DecodeRune Tryd.lays32 ⟨l.toArray⟩ b off cap w hI.1 (by
    intro j hj
    rw [size_mk] at hj
    have hx:l[j]? = some l[j]:=by simp [hj]
    rw [Zp6 hx]
    exact (hcell j _ hx).1)
   rw [size_mk] at this
   refine this.mono ?_
   rintro e w' ⟨rfl,hb⟩
   exact Zim (S':=S) he hb (fun _ _ h => .inl h) (fun _ _ h => h) (ZDT _ _ rfl rfl) rfl
 ·simp at h
theorem ZwW {p:PV} {r:R2} (h:Zwb p = some r):p = encR r:=by
 unfold Zwb at h
 split at h
 ·cases h; rfl
 ·simp at h
theorem Zfr:∀ {xs:List PV} {rs:List R2},Zdi xs = some rs → xs = rs.map encR
 | [],rs,h => by simp [Zdi] at h; subst h; rfl
 | x :: r,rs,h => by
  simp only [Zdi] at h
  split at h
  ·rename_i a b ha hb
   cases h
   rw [ZwW ha,Zfr hb]
   rfl
  ·simp at h
theorem Zwf {w:World} {S:Stay} {o:Abs.Own} {rs:List R2} {v:Value} (hS:∀ b o,S b o → b < w.heap.size) (h:PRel w S (.lst o (rs.map encR)) v):Tryd.Lies w.heap.size w v rs:=by
 obtain ⟨a,cap,rfl,h1,h2,h3⟩:=ZeL (n:=2) h (by
  unfold szOk
  simp [Z8v,encR,Z1r])
 refine ⟨a,cap,by simp,?_⟩
 by_cases hn:rs = []
 ·exact .inl hn
 obtain ⟨b,off,rfl,h4⟩:=h3 (by simpa using hn)
 have key:∀ i x,rs[i]? = some x → (w.cell? ⟨b,off + i * 2,none⟩ = some (.int .i64 x.1) ∧ w.cell? ⟨b,off + i * 2 + 1,none⟩ = some (.int .i64 x.2)) ∧ S b (off + (i * 2 + 0)):=by
  intro i x hx
  have hi:(rs.map encR)[i]? = some (encR x):=by rw [q7_,hx]; rfl
  obtain ⟨u,q1,q2,_,q4⟩:=h4 i _ 0 (.v (.int .i64 x.1)) hi rfl
  obtain ⟨u',p1,p2,_,p4⟩:=h4 i _ 1 (.v (.int .i64 x.2)) hi rfl
  have e1:u = .int .i64 x.1:=by cases q4 with | v _ _ => rfl
  have e2:u' = .int .i64 x.2:=by cases p4 with | v _ _ => rfl
  subst e1 e2
  exact ⟨⟨q1,by rwa [show off + (i * 2 + 1) = off + i * 2 + 1 by omega] at p1⟩,q2⟩
 refine .inr ⟨b,off,rfl,?_,fun i x hx => (key i x hx).1⟩
 cases rs with
 | nil => exact absurd rfl hn
 | cons x r => exact hS _ _ (key 0 x rfl).2
theorem Zso:∀ (l:List R2) (i:Nat) (x:R2),l[i]? = some x → (Tryd.flat l)[i * 2]? = some (.int .i64 x.1) ∧ (Tryd.flat l)[i * 2 + 1]? = some (.int .i64 x.2):=by
 intro l
 induction l with
 | nil => intro i x h; simp at h
 | cons y r ih =>
  intro i x h
  cases i with
  | zero => simp at h; subst h; exact ⟨rfl,rfl⟩
  | succ i =>
   have:=ih i x (by simpa using h)
   rw [show (i + 1) * 2 = i * 2 + 2 by omega]
   exact this
theorem Zxu {w w':World} {S:Stay} {v:Value} {l:List R2} (h:w'.ownsRow w.heap.size 47 2 v l.length (Tryd.flat l)) :
  PRel w' (fun b o => S b o ∨ (w.heap.size ≤ b ∧ b < w'.heap.size)) (.lst .sh (l.map encR)) v:=by
 rcases h.2 with ⟨rfl,hz⟩ | ⟨g,cap,cur,rfl,hg,hh,h1,h2,h3,h4⟩
 ·obtain rfl:l = []:=Zfo hz
  exact .lst .sh [] none 0 0 0 0 (fun _ _ => undef) (Z2x _) (by simp) (by simp) (by simp) (fun _ => rfl) (by simp) (by simp) (by simp)
 ·have hlt:g < w'.heap.size:=(Z8t.1 hh).1
  have hcell:∀ t u,(Tryd.flat l)[t]? = some u → w'.cell? ⟨g,0 + t,none⟩ = some u:=by
   intro t u ht
   have:=h.cells (g:=g) rfl t u ht
   rwa [Z8M] at this
  have key:=PRel.lst (w:=w') (S:=fun b o => S b o ∨ (w.heap.size ≤ b ∧ b < w'.heap.size)) .sh (l.map encR) (some ⟨g,0,none⟩) cap g 0 2 (fun i j => ((Tryd.flat l)[i * 2 + j]?).getD undef) (by simpa using h1) (by simp) (by simp) (by simp) (by simp)
   (fun _ => ⟨rfl,by omega,fun e he => by obtain ⟨z,_,rfl⟩:=Z7a.1 he; rfl⟩)
   (fun i e j c he hj => by
    rw [q7_] at he
    obtain ⟨x,hx,rfl⟩:=q6_.1 he
    obtain ⟨q1,q2⟩:=Zso l i x hx
    match j,hj with
    | 0,hj =>
     simp [encR,Z1r] at hj
     subst hj
     refine ⟨?_,.inr ⟨hg,hlt⟩,rfl⟩
     rw [ZbF,q1]
     exact hcell _ _ q1
    | 1,hj =>
     simp [encR,Z1r] at hj
     subst hj
     refine ⟨?_,.inr ⟨hg,hlt⟩,rfl⟩
     rw [q2]
     exact hcell _ _ q2
    | j + 2,hj => simp [encR,Z1r] at hj)
   (fun i e j c he hj => by
    rw [q7_] at he
    obtain ⟨x,hx,rfl⟩:=q6_.1 he
    obtain ⟨q1,q2⟩:=Zso l i x hx
    match j,hj with
    | 0,hj =>
     simp [encR,Z1r] at hj
     subst hj
     rw [ZbF,q1]
     exact .v _ rfl
    | 1,hj =>
     simp [encR,Z1r] at hj
     subst hj
     rw [q2]
     exact .v _ rfl
    | j + 2,hj => simp [encR,Z1r] at hj)
  simpa using key
theorem ZwR {args:List AV} {B:List Row} {r:Res} (h:Zlh args B = some r) (w:World) (S:Stay) (β:Nat → Nat) (vals:Array Value) (he:Entry w S β args B vals) :
  Plain Tryd.prog 25 ∧ Calls Tryd.prog 25 vals w (Zbg w S β args B vals r):=by
 refine ⟨ZFe,?_⟩
 unfold Zlh at h
 split at h
 case h_2 => simp at h
 rename_i a1 b1 o xs
 split at h
 case h_2 => simp at h
 rename_i rs hrs
 split at h
 case isFalse => simp at h
 rename_i hc
 cases h
 have hxs:=Zfr hrs
 subst hxs
 obtain ⟨v,rfl,hp⟩:=Z85 he
 have hl:=Zwf he.mem.stay hp
 obtain ⟨a,cap,rfl,_⟩:=id hl
 refine (Tryd.normal_calls rs a cap w hc.2 hc.1 (fun W0 Bs h1 h2 h3 => callsIn_wide.1 (Tryd.sortedFunc_in Fence.wide 5 trivial trivial trivial trivial trivial rfl (Z2x _) Bs a cap rs (by omega) W0 h1 h2 h3)) hl).mono ?_
 rintro e w' ⟨v,rfl,hown,hb⟩
 exact Zim (S':=fun b o => S b o ∨ (w.heap.size ≤ b ∧ b < w'.heap.size)) he hb (fun _ _ h => h) (fun _ _ h => .inl h) (.p _ _ (Zxu hown)) rfl
theorem ZoC:∀ {xs:List PV} {ls:List (List R2)},Zl0 xs = some ls → xs.length = ls.length ∧ ∀ (i:Nat) (l:List R2),ls[i]? = some l → ∃ o:Abs.Own,xs[i]? = some (PV.lst o (l.map encR))
 | [],ls,h => by simp [Zl0] at h; subst h; simp
 | x :: r,ls,h => by
  unfold Zl0 at h
  split at h
  ·rename_i o ys b hb
   obtain ⟨l,hl,rfl⟩:=q6_.1 h
   obtain ⟨q1,q2⟩:=ZoC hb
   refine ⟨by simp [q1],fun i m hm => ?_⟩
   cases i with
   | zero =>
    simp at hm
    subst hm
    exact ⟨o,by rw [Zfr hl]; rfl⟩
   | succ i => simpa using q2 i m (by simpa using hm)
  ·simp at h
theorem ZwH {args:List AV} {B:List Row} {r:Res} (h:Zlg args B = some r) (w:World) (S:Stay) (β:Nat → Nat) (vals:Array Value) (he:Entry w S β args B vals) :
  Plain Tryd.prog 57 ∧ Calls Tryd.prog 57 vals w (Zbg w S β args B vals r):=by
 refine ⟨ZFf,?_⟩
 unfold Zlg at h
 split at h
 case h_2 => simp at h
 rename_i a1 b1 o xs
 split at h
 case h_2 => simp at h
 rename_i ls hls
 split at h
 case isFalse => simp at h
 rename_i hc
 cases h
 obtain ⟨q1,q2⟩:=ZoC hls
 obtain ⟨v,rfl,hp⟩:=Z85 he
 have hsz:szOk 1 xs = true:=by
  unfold szOk
  rw [Z8v]
  intro e he
  obtain ⟨i,hi⟩:=ZcK.1 he
  have hlt:i < ls.length:=by have:=(q2_.1 hi).1; omega
  obtain ⟨o,ho⟩:=q2 i _ (q4_ hlt)
  rw [hi] at ho
  cases ho
  rfl
 obtain ⟨a,cap,rfl,_,_,h3⟩:=ZeL (n:=1) hp hsz
 have hL:Tryd.Lists w.heap.size w (.slice a ls.length cap) ls:=by
  refine ⟨a,cap,rfl,?_⟩
  by_cases hn:ls = []
  ·exact .inl hn
  obtain ⟨b,off,rfl,h4⟩:=h3 (by rintro rfl; apply hn; exact Zfo q1.symm)
  have key:∀ i l,ls[i]? = some l → (∃ v,w.cell? ⟨b,off + i,none⟩ = some v ∧ Tryd.Lies w.heap.size w v l) ∧ S b (off + (i * 1 + 0)):=by
   intro i l hl
   obtain ⟨o,ho⟩:=q2 i l hl
   obtain ⟨u,p1,p2,_,p4⟩:=h4 i _ 0 _ ho rfl
   rw [Nat.mul_one,ZbF] at p1
   exact ⟨⟨u,p1,Zwf he.mem.stay p4⟩,p2⟩
  refine .inr ⟨b,off,rfl,?_,fun i l hl => (key i l hl).1⟩
  cases ls with
  | nil => exact absurd rfl hn
  | cons x r => exact he.mem.stay _ _ (key 0 x rfl).2
 rw [q1] at he ⊢
 refine (Tryd.concat_calls ls a cap w hc.2 hc.1 hL).mono ?_
 rintro e w' ⟨v,rfl,hown,hb⟩
 exact Zim (S':=fun b o => S b o ∨ (w.heap.size ≤ b ∧ b < w'.heap.size)) he hb (fun _ _ h => h) (fun _ _ h => .inl h) (.p _ _ (Zxu hown)) rfl
end Go.Proofs.YtocikhhkicahoaaDoor
end
section
namespace Go.Proofs.YtocikhhkicahoaaDoor
open Go Go.Abs Go.RowKit Go.Shelf Go.Lib
theorem ZwA {P:Program} {w:World} (base:Nat) (t ty e:TypeId) (i:TypeInfo) (size:Nat) (ht:P.underlying t = some (.slice e)) (hi:P.info? e = some i)
  (v:Value) (n:Nat) (xs:List Value) (hown:w.ownsRow base e size v n xs) (a:Option Addr) (c:Nat) :
  (Builtin.append_ #[t,t] ty #[v,.slice a 0 c]).run P w = .ok v w:=by
 rcases hown.2 with ⟨rfl,rfl⟩ | ⟨g,cap,cur,rfl,_,_,hnc,_⟩
 ·cases a <;> simp [Builtin.append_,run_underlying ht,sizeOf,typeInfo,hi,Builtin.lenOf,Builtin.firstCells,loadCells,loadCellsFrom]
 ·cases a <;> simp [Builtin.append_,run_underlying ht,sizeOf,typeInfo,hi,Builtin.lenOf,Builtin.firstCells,loadCells,loadCellsFrom,hnc,storeCells]
theorem ZnI {P:Program} {w:World} {ops:Array Oper} {rest:List Oper} {o:Oper} {a:Act} {Q:Exit → Act → World → Prop} (hgd:o.guard = none) (s x:Operand) (t:TypeId)
  (ho:o.op = .call { callee:=.builtin .append,args:=#[s,x],argTypes:=#[t,t] })
  (base:Nat) (e:TypeId) (i:TypeInfo) (size:Nat) (ht:P.underlying t = some (.slice e)) (hi:P.info? e = some i)
  (v:Value) (n:Nat) (xs:List Value) (hs:a.eval s = v) (hown:w.ownsRow base e size v n xs) (ao:Option Addr) (c:Nat) (hx:a.eval x = .slice ao 0 c)
  (h:wpList P ops Q rest (a.put o.dst v) w):wpList P ops Q (o :: rest) a w:=by
 refine wpList_plain hgd fun K hK => ?_
 have hrun:=ZwA (P:=P) (w:=w) base t o.type e i size ht hi v n xs hown ao c
 unfold Oper.wp
 simp [execOp,ho,resolve,invoke,builtin,hs,hx,hrun,Result.andThen]
 exact hK _ _ h
noncomputable def Zzf:TypeInfo:=(Tryd.prog.info? 47).get (by kernel_rfl)
theorem Zwj:Tryd.prog.info? 47 = some Zzf:=by kernel_rfl
theorem ZFd:Plain Tryd.prog 23:=⟨Tryd.f23,Tryd.func23,by kernel_rfl,by kernel_rfl⟩
set_option maxHeartbeats 1000000 in
set_option maxRecDepth 100000 in
theorem ZwG (a:Addr) (c:Nat) (w:World):Calls Tryd.prog 23 #[.slice (some a) 0 c] w fun e w' => e = .returned (.slice (some ⟨w.heap.size,0,none⟩) 0 0) ∧ Below w.heap.size w w':=by
 have qn:∀ (w:World) (a:Option Addr) (n c n' c':Nat),(binOp .eql 28 (.slice a n c) (.slice none n' c')).run Tryd.prog w = .ok (.bool a.isNone) w:=fun w a n c n' c' => Lib.run_eql_slice_nil w _ _ a n c n' c' Tryd.underlying28
 go_enter Tryd.func23,Tryd.ntmps23
 go_wp2_with (at_builtin; refine ZnI rfl _ _ 28 rfl w.heap.size 47 Zzf 2 Tryd.underlying28 Zwj _ 0 [] rfl (World.ownsRow_made w #[] 0 (Z2x _) (ZhD _) (by simp)) (some a) c rfl ?_)
 go_wp2
 go_ret
 exact ⟨rfl,(Below.refl _ w).alloc (Z2x _) _⟩
def ZqU:PV → Bool
 | .v x => scal x
 | _ => false
def pv:PV → Value
 | .v x => x
 | _ => undef
def Zcg (xs:List PV):List Value:=(xs.flatMap Z1r).map pv
theorem flat_len {n:Nat}:∀ {xs:List PV},(∀ e ∈ xs,(Z1r e).length = n) → (xs.flatMap Z1r).length = xs.length * n
 | [],_ => by simp
 | e :: xs,h => by
  rw [List.flatMap_cons,q3_,h e (by simp),flat_len fun x hx => h x (by simp [hx]),q5_,Z9Y]
  omega
theorem flat_get {n:Nat}:∀ {xs:List PV},(∀ e ∈ xs,(Z1r e).length = n) → ∀ (i j:Nat) (e:PV) (c:PV),xs[i]? = some e → (Z1r e)[j]? = some c → (xs.flatMap Z1r)[i * n + j]? = some c
 | [],_,i,j,e,c,h,_ => by simp at h
 | x :: xs,hn,i,j,e,c,h,hc => by
  have hx:=hn x (by simp)
  rw [List.flatMap_cons]
  cases i with
  | zero =>
   simp only [ZcJ,q1_] at h
   subst h
   have hj:j < (Z1r x).length:=(q2_.1 hc).1
   rw [Zgi,Nat.zero_mul,Zfq,if_pos hj]
   exact hc
  | succ i =>
   have ih:=flat_get (fun y hy => hn y (Zay _ hy)) i j e c (by simpa using h) hc
   rw [Zgi,if_neg (by rw [hx,Z9Y]; omega),hx]
   rw [show (i + 1) * n + j - n = i * n + j by rw [Z9Y]; omega]
   exact ih
theorem ZEQ {n:Nat} {xs:List PV} (h0:0 < n) (hn:∀ e ∈ xs,(Z1r e).length = n) {k:Nat} {c:PV} (h:(xs.flatMap Z1r)[k]? = some c):∃ i j e,k = i * n + j ∧ xs[i]? = some e ∧ (Z1r e)[j]? = some c:=by
 have hk:=(q2_.1 h).1
 rw [flat_len hn] at hk
 have hi:k / n < xs.length:=Nat.div_lt_of_lt_mul (by rw [Nat.mul_comm]; exact hk)
 have hj:k % n < n:=Nat.mod_lt _ h0
 have he:xs[k / n]? = some xs[k / n]:=q4_ hi
 have hl:=hn xs[k / n] (Znm hi)
 have hc:(Z1r xs[k / n])[k % n]? = some ((Z1r xs[k / n])[k % n]'(by omega)):=q4_ (by omega)
 have e:k / n * n + k % n = k:=by rw [Nat.mul_comm]; exact Nat.div_add_mod k n
 have:=flat_get hn _ _ _ _ he hc
 rw [e,h] at this
 exact ⟨k / n,k % n,_,e.symm,he,by rw [hc]; exact this.symm⟩
theorem ZDH {w w':World} {S:Stay} {v:Value} {xs:List PV} {n t:Nat} (hS:∀ b o,S b o → b < w.heap.size) (h0:0 < n) (hx:xs ≠ []) (hn:∀ e ∈ xs,(Z1r e).length = n) (hv:∀ e ∈ xs,∀ c ∈ Z1r e,ZqU c = true) (h:w'.ownsRow w.heap.size t n v xs.length (Zcg xs)) :
  ∃ S':Stay,(∀ b o,S' b o → S b o ∨ (w.heap.size ≤ b ∧ b < w'.heap.size)) ∧ (∀ b o,S b o → S' b o) ∧ PRel w' S' (.lst .un xs) v ∧ UnOk w' S' (.p (.lst .un xs)) v ∧ ∀ b,Z3U v = some b → w.heap.size ≤ b:=by
 have hlen:0 < xs.length:=by
  cases xs with
  | nil => exact absurd rfl hx
  | cons x r => simp
 rcases h.2 with ⟨_,hz⟩ | ⟨g,cap,cur,rfl,hg,hh,h1,h2,h3,h4⟩
 ·omega
 have hlt:g < w'.heap.size:=(Z8t.1 hh).1
 have hcell:∀ t u,(Zcg xs)[t]? = some u → w'.cell? ⟨g,0 + t,none⟩ = some u:=by
  intro t u ht
  have:=h.cells (g:=g) rfl t u ht
  rwa [Z8M] at this
 refine ⟨fun b o => S b o ∨ (b = g ∧ o < xs.length * n),?_,fun _ _ h => .inl h,?_,?_,?_⟩
 ·rintro b o (h | ⟨rfl,_⟩)
  ·exact .inl h
  ·exact .inr ⟨hg,hlt⟩
 ·refine PRel.lst (w:=w') (S:=fun b o => S b o ∨ (b = g ∧ o < xs.length * n)) .un xs (some ⟨g,0,none⟩) cap g 0 n (fun i j => ((Zcg xs)[i * n + j]?).getD undef) h1 (by simp) (by simp) (fun _ => hx) (by simp) (fun _ => ⟨rfl,h0,hn⟩) ?_ ?_
  ·intro i e j c he hj
   have hf:=flat_get hn i j e c he hj
   have hcv:(Zcg xs)[i * n + j]? = some (pv c):=by unfold Zcg; rw [q7_,hf]; rfl
   have hc:=hv e (q9_ he) c (q9_ hj)
   have hb:=(q2_.1 hf).1
   rw [flat_len hn] at hb
   refine ⟨?_,.inr ⟨rfl,by omega⟩,?_⟩
   ·rw [hcv]
    exact hcell _ _ hcv
   ·cases c <;> simp [ZqU] at hc
    rfl
  ·intro i e j c he hj
   have hf:=flat_get hn i j e c he hj
   have hcv:(Zcg xs)[i * n + j]? = some (pv c):=by unfold Zcg; rw [q7_,hf]; rfl
   have hc:=hv e (q9_ he) c (q9_ hj)
   rw [hcv]
   cases c <;> simp [ZqU] at hc
   exact .v _ hc
 ·refine .inr ⟨g,0,xs.length,cap,cur,t,n,rfl,hh,h0,by omega,h1,.inl ⟨xs,rfl,hlen,?_,hn⟩⟩
  rintro o ho (h | ⟨_,h⟩)
  ·have:=hS _ _ h; omega
  ·omega
 ·intro b hb
  cases hb
  exact hg
theorem ZxL {args:List AV} {B:List Row} {r:Res} (h:Zlf args B = some r) (w:World) (S:Stay) (β:Nat → Nat) (vals:Array Value) (he:Entry w S β args B vals) :
  Plain Tryd.prog 23 ∧ Calls Tryd.prog 23 vals w (Zbg w S β args B vals r):=by
 refine ⟨ZFd,?_⟩
 unfold Zlf at h
 split at h
 case h_2 => simp at h
 rename_i o xs
 split at h
 case h_2 => simp at h
 rename_i l hl
 split at h
 case isFalse => simp at h
 rename_i hlen
 simp only [q1_] at h
 subst h
 have hx:=Zfr hl
 have hn:∀ e ∈ xs,(Z1r e).length = 2:=by
  intro e he
  rw [hx] at he
  obtain ⟨r,_,rfl⟩:=Z7a.1 he
  rfl
 have hv:∀ e ∈ xs,∀ c ∈ Z1r e,ZqU c = true:=by
  intro e he c hc
  rw [hx] at he
  obtain ⟨r,_,rfl⟩:=Z7a.1 he
  have hc:c ∈ [PV.v (.int .i64 r.1),PV.v (.int .i64 r.2)]:=hc
  simp only [Z5G,Zpm,or_false] at hc
  rcases hc with rfl | rfl <;> rfl
 obtain ⟨v,rfl,hp⟩:=Z85 he
 obtain ⟨a,cap,rfl,h1,h2,h3⟩:=ZeL (n:=2) hp (by unfold szOk; simp only [Z8v,beq_iff_eq]; exact hn)
 by_cases hx0:xs = []
 ·subst hx0
  have fin:∀ {a':Option Addr} {w':World},Below w.heap.size w w' → Zbg w S β [.p (.lst o [])] B #[.slice a 0 cap] (.p (.lst (apo .ex []) []),B) (.returned (.slice a' 0 0)) w':=fun {a' w'} hb =>
   Zim (S':=S) he hb (fun _ _ h => .inl h) (fun _ _ h => h) (.p _ _ (.lst .ex [] a' 0 0 0 0 (fun _ _ => undef) (Z2x _) (by simp) (by simp) (by simp) (fun _ => rfl) (by simp) (by simp) (by simp))) rfl
  cases a with
  | none =>
   obtain rfl:=h2 rfl
   refine (AnyE.slices_Clone_nil Tryd.cloneA 0 0 w).mono ?_
   rintro e w' ⟨rfl,rfl⟩
   exact fin (Below.refl _ _)
  | some a =>
   refine (ZwG a cap w).mono ?_
   rintro e w' ⟨rfl,hb⟩
   exact fin hb
 ·obtain ⟨b,off,rfl,h4⟩:=h3 hx0
  have key:∀ j u,(Zcg xs)[j]? = some u → w.cell? ⟨b,off + j,none⟩ = some u ∧ u.oneCell' = true:=by
   intro k u hu
   unfold Zcg at hu
   rw [q7_] at hu
   obtain ⟨c,hcc,rfl⟩:=q6_.1 hu
   obtain ⟨i,j,e,rfl,q1,q2⟩:=ZEQ (by omega) hn hcc
   obtain ⟨u,p1,_,_,p4⟩:=h4 i e j c q1 q2
   have hc:=hv e (q9_ q1) c (q9_ q2)
   obtain ⟨x,rfl,hsx⟩:∃ x,c = .v x ∧ scal x = true:=by
    cases c <;> simp [ZqU] at hc
    exact ⟨_,rfl,hc⟩
   have:u = x:=by cases p4 with | v _ _ => rfl
   subst this
   refine ⟨p1,?_⟩
   show u.oneCell' = true
   cases u <;> first | rfl | (simp [scal] at hsx)
  have:=AnyE.slices_Clone Tryd.cloneA Zzf (.agg #[.int .i64 0,.int .i64 0]) 2 16 Zwj (by kernel_rfl) (by kernel_rfl) (by kernel_rfl) rfl (by decide) Tryd.sizeOf47 b off xs.length cap (Zcg xs) w
   (by unfold Zcg; rw [ZbC,flat_len hn]) (by unfold maxLen; omega) (by omega) (fun j u hu => (key j u hu).1) (fun u hu => by
    obtain ⟨k,hk⟩:=List.getElem?_of_mem hu
    exact (key k u hk).2)
  refine this.mono ?_
  rintro e w' ⟨v',rfl,hrow,_,hb⟩
  obtain ⟨S',s1,s2,s3,s4,s5⟩:=ZDH he.mem.stay (by omega) hx0 hn hv hrow
  have ha:apo .ex xs = .un:=by cases xs with | nil => exact absurd rfl hx0 | cons x r => rfl
  rw [ha]
  exact ZoG he hb s1 s2 (.p _ _ s3) fun _ => ⟨s4,s5⟩
end Go.Proofs.YtocikhhkicahoaaDoor
end
