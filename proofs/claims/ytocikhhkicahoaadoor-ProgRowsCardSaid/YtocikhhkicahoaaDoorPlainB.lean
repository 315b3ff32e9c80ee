/- What the parser gives is right; widths and sizes are in order. No condition. -/
import Derived.Test.YtocikhhkicahoaaDoorPlain
import Derived.Test.YtocikhhkicahoaaDoorTypB
import Derived.Test.YtocikhhkicahoaaDoorTypC

set_option linter.unusedSimpArgs false
set_option linter.unusedVariables false
set_option linter.defProp false
section
namespace Go.Proofs.YtocikhhkicahoaaDoor.N2
open Go Go.Abs Go.Proofs.Unis Go.Proofs.Norm
set_option maxRecDepth 100000
inductive Good:Z9 → Prop
 | none:Good nd0
 | set (l:List R2):Z2Y l → Good (setN l)
 | row (k:Int) (l:List Z9):k = 2 ∨ k = 3 → 2 ≤ l.length → l.length ≤ 3000 → (∀ x ∈ l,Good x) → Good ⟨k,0,0,0,0,[],l⟩
 | rep (lo hi m:Int) (x:Z9):0 ≤ lo ∧ lo ≤ 64 → hi = -1 ∨ (lo ≤ hi ∧ hi ≤ 64) → 0 ≤ m ∧ m ≤ 2 → Good x → Good ⟨4,lo,hi,m,0,[],[x]⟩
 | group (r:Int) (x:Z9):1 ≤ r ∧ r ≤ 9 → Good x → Good ⟨5,0,0,0,r,[],[x]⟩
 | back (r:Int):1 ≤ r ∧ r ≤ 9 → Good ⟨6,0,0,0,r,[],[]⟩
 | look (m:Int) (x:Z9):0 ≤ m ∧ m ≤ 3 → Good x → Good ⟨7,0,0,m,0,[],[x]⟩
 | atomic (x:Z9):Good x → Good ⟨8,0,0,0,0,[],[x]⟩
 | edge (k:Int):0 ≤ k ∧ k ≤ 3 → Good (edge k)
theorem ZoB (k:Int) (hk:k = 2 ∨ k = 3):∀ l:List Z9,l.length ≤ 3000 → (∀ x ∈ l,Good x) → Good (joined k l)
 | [],_,_ => .none
 | [x],_,h => h x (Z9C ..)
 | x :: y :: r,hl,h => .row k _ hk (by simp) hl h
theorem ZD5 {l:List UInt8} {s s':St} {p:Int} {n:Z9} (h:At l s) (e:pEsc p s = .ok n s'):Good n:=by
 have hr:=h.range
 unfold pEsc at e
 split at e
 ·simp at e
 rename_i hn
 have hu:0 ≤ peek s.us ∧ peek s.us ≤ 1114367:=by
  rcases hr with ⟨_,h2⟩ | h2
  ·exact absurd h2 hn
  ·omega
 split at e
 ·cases e; exact .set _ (ZbR _ (Zkd _).2)
 split at e
 ·cases e; exact .edge 2 (by omega)
 split at e
 ·cases e; exact .edge 3 (by omega)
 split at e
 ·cases e; exact .back _ (by omega)
 ·cases hp:Z9z (peek s.us) p (take s) with
  | bad c q => rw [hp] at e; simp [Out.bind] at e
  | ok v s2 =>
   rw [hp] at e
   obtain ⟨_,hv⟩:=Zpf h.take hu hp
   cases e
   exact .set _ (ZbR _ (by simp; omega))
theorem ZpA {l:List UInt8} (hl:l.length ≤ 1000) (p:Int) (no:Bool):∀ (k:Nat) (fst:Bool) (all:List R2) (s:St) (n:Z9) (s':St),At l s → Z2Y all → Z86 p no k fst all s = .ok n s' → Good n:=by
 intro k
 induction k with
 | zero => intro fst all s n s' _ _ e; simp [Z86] at e
 | succ k ih =>
  intro fst all s n s' h hall e
  unfold Z86 at e
  split at e
  ·simp at e
  rename_i hn
  split at e
  ·split at e
   ·simp at e
   ·cases e
    split
    ·exact .set _ (ZoE hall)
    ·exact .set _ hall
  split at e
  ·simp at e
  have hm:=Zo5 h hl hn 0 0 []
  cases hp:pMem s with
  | bad c q => rw [hp] at e; simp [Out.bind] at e
  | ok m s1 =>
   rw [hp] at e hm
   obtain ⟨_,hnx,_,hm1,_,hm3⟩:=hm
   dsimp only [Out.bind] at e
   split at e
   ·split at e
    ·simp at e
    ·exact ih _ _ _ _ _ hnx.at_ (Zhl hall (ZbR _ hm3)) e
   split at e
   ·exact ih _ _ _ _ _ hnx.at_ (Zhl hall (Zih (by simp only []; omega))) e
   ·rename_i s2 hw
    obtain ⟨_,q2,_⟩:=Z2A w45 hnx.at_ hl hw
    split at e
    ·simp at e
    rename_i hc
    have hn2:s2.us ≠ []:=fun e => hc (.inl e)
    have hm':=Zo5 q2.at_ hl hn2 0 0 []
    cases hp2:pMem s2 with
    | bad c q => rw [hp2] at e; simp at e
    | ok m2 s3 =>
     rw [hp2] at e hm'
     obtain ⟨_,hnx',_,hm1',_,_⟩:=hm'
     dsimp only at e
     split at e
     ·simp at e
     ·rename_i hc2
      have:¬ m2.1 < m.1:=fun e => hc2 (.inr e)
      exact ih _ _ _ _ _ hnx'.at_ (Zhl hall (Zih (by simp only []; omega))) e
theorem Zvz {p lo hi:Int} {s s':St} {c:Int × Int} (e:pFin p lo hi s = .ok c s'):(0 ≤ c.1 ∧ c.1 ≤ 64) ∧ c.1 ≤ c.2 ∧ c.2 ≤ 64:=by
 unfold pFin at e
 split at e
 ·simp at e
 split at e
 ·simp at e
 ·cases e
  simp only []
  omega
theorem ZwI {p:Int} {s s':St} {c:Int × Int} (e:ZbQ p s = .ok c s'):(0 ≤ c.1 ∧ c.1 ≤ 64) ∧ (c.2 = -1 ∨ (c.1 ≤ c.2 ∧ c.2 ≤ 64)):=by
 unfold ZbQ at e
 split at e
 ·have:=Zvz e; exact ⟨this.1,.inr this.2⟩
 split at e
 ·split at e
  ·simp at e
  split at e
  ·cases e
   exact ⟨by simp only []; omega,.inl rfl⟩
  ·simp at e
 ·have:=Zvz e; exact ⟨this.1,.inr this.2⟩
theorem Zin {kid n:Z9} {may:Bool} {p lo hi:Int} {s s':St} (hk:Good kid) (h1:0 ≤ lo ∧ lo ≤ 64) (h2:hi = -1 ∨ (lo ≤ hi ∧ hi ≤ 64)) (e:Z9A kid may p lo hi s = .ok n s'):Good n:=by
 unfold Z9A at e
 split at e
 ·simp at e
 split at e
 ·cases e; exact .rep _ _ _ _ h1 h2 (by omega) hk
 split at e
 ·cases e; exact .rep _ _ _ _ h1 h2 (by omega) hk
 ·cases e; exact .rep _ _ _ _ h1 h2 (by omega) hk
theorem ZDO {kid n:Z9} {may:Bool} {s s':St} (hk:Good kid) (e:pRep kid may s = .ok n s'):Good n:=by
 unfold pRep at e
 split at e
 ·exact Zin hk (by omega) (.inl rfl) e
 split at e
 ·exact Zin hk (by omega) (.inl rfl) e
 split at e
 ·exact Zin hk (by omega) (.inr (by omega)) e
 split at e
 ·rename_i s1 _
  cases hp:ZbQ s.pos s1 with
  | bad c q => rw [hp] at e; simp [Out.bind] at e
  | ok c s2 =>
   rw [hp] at e
   have:=ZwI hp
   exact Zin hk this.1 this.2 e
 ·cases e; exact hk
section
variable {l:List UInt8} (hl:l.length ≤ 1000) {d:Int} {P:Int → St → Out (Z9 × Bool)} (HP:∀ p s,Inv l s → AtmR l d s (P p s) (Z59 p (bl l) s.pos s.gr d s.rf 0 0))
 (HG:∀ p s n s',Inv l s → P p s = .ok n s' → Good n.1)
include hl HG in
theorem Zzv {s s':St} {n:Z9 × Bool} (h:Inv l s) (hn:s.us ≠ []) (e:Zar P s = .ok n s'):Good n.1:=by
 have hu:0 ≤ peek s.us ∧ peek s.us ≤ 1114367:=by
  rcases h.at_.range with ⟨_,h2⟩ | h2
  ·exact absurd h2 hn
  ·omega
 unfold Zar at e
 split at e
 ·cases e; exact .set _ (ZbR _ (by simp))
 split at e
 ·cases e; exact .edge 0 (by omega)
 split at e
 ·cases e; exact .edge 1 (by omega)
 split at e
 ·cases hp:pEsc s.pos (take s) with
  | bad c q => rw [hp] at e; simp [Out.bind] at e
  | ok m s2 =>
   rw [hp] at e
   cases e
   exact ZD5 h.at_.take hp
 split at e
 ·cases hp:Zfn s.pos (take s) with
  | bad c q => rw [hp] at e; simp [Out.bind] at e
  | ok m s2 =>
   rw [hp] at e
   cases e
   have n0:Z2Y []:=trivial
   unfold Zfn at hp
   split at hp
   ·rename_i s1 hw
    exact ZpA hl _ _ _ _ _ _ _ _ (Z2A w94 h.at_.take hl hw).2.1.at_ n0 hp
   ·exact ZpA hl _ _ _ _ _ _ _ _ h.at_.take n0 hp
 split at e
 ·exact HG _ _ _ _ (((Z88 h.at_).mv h).inv h) e
 split at e
 ·simp at e
 split at e
 ·simp at e
 ·cases e; exact .set _ (ZbR _ (by simp; omega))
include hl HP HG in
theorem Ztl:∀ (k:Nat) (kids:List Z9) (s:St) (n:Z9) (s':St),Inv l s → kids.length + s.us.length ≤ 3000 → (∀ x ∈ kids,Good x) → Z9N P k kids s = .ok n s' → Good n:=by
 intro k
 induction k with
 | zero => intro kids s n s' _ _ _ e; simp [Z9N] at e
 | succ k ih =>
  intro kids s n s' h hb hk e
  unfold Z9N at e
  split at e
  ·cases e; exact ZoB 2 (.inl rfl) kids (by omega) hk
  rename_i hs
  have hn:s.us ≠ []:=by
   intro e
   apply hs
   rw [e]
   rfl
  have hlt:=Zld h.at_ hn
  have hiv:=((Z88 h.at_).mv h).inv h
  have ha:=Zti hl HP h hn
  cases hp:Zar P s with
  | bad c q => rw [hp] at e; simp [Out.bind] at e
  | ok m s1 =>
   rw [hp] at e ha
   have hm:=ha.2
   have hr:=Zxx hm.at_ hl m.1 m.2 0 0 []
   dsimp only [Out.bind] at e
   cases hp2:pRep m.1 m.2 s1 with
   | bad c q => rw [hp2] at e; simp at e
   | ok n2 s2 =>
    rw [hp2] at e hr
    have hx:=hr.2.mv (hm.inv hiv)
    have h1:=hm.len
    have h2:=hx.len
    have hg:=ZDO (Zzv hl HG h hn hp) hp2
    refine ih _ _ _ _ (hx.inv (hm.inv hiv)) (by simp; omega) ?_ e
    intro x hx
    rcases Zb8.1 hx with hx | hx
    ·exact hk x hx
    ·simp at hx; subst hx; exact hg
include hl HP HG in
theorem Zzs:∀ (k:Nat) (kids:List Z9) (s:St) (n:Z9) (s':St),Inv l s → kids.length + s.us.length ≤ 3000 → (∀ x ∈ kids,Good x) → Ze6 P k kids s = .ok n s' → Good n:=by
 intro k
 induction k with
 | zero => intro kids s n s' _ _ _ e; simp [Ze6] at e
 | succ k ih =>
  intro kids s n s' h hb hk e
  unfold Ze6 at e
  split at e
  ·cases e; exact ZoB 3 (.inr rfl) kids (by omega) hk
  rename_i s1 hw
  obtain ⟨_,t2,t3⟩:=Z2A w124 h.at_ hl hw
  have m1:=t2.mv h
  have hi1:=m1.inv h
  have hc:=ZnM hl HP hi1
  have hrf:=hi1.rf
  cases hp:pCat P s1 with
  | bad c q => rw [hp] at e; simp [Out.bind] at e
  | ok n2 s2 =>
   rw [hp] at e hc
   have hm:=hc.2
   have h2:=hm.len
   have hg:=Ztl hl HP HG _ _ _ _ _ hi1 (by simp; omega) (by simp) hp
   refine ih _ _ _ _ (hm.inv hi1) (by simp; omega) ?_ e
   intro x hx
   rcases Zb8.1 hx with hx | hx
   ·exact hk x hx
   ·simp at hx; subst hx; exact hg
include hl HP HG in
theorem Zsi {s s':St} {n:Z9} (h:Inv l s) (e:Ze5 P s = .ok n s'):Good n:=by
 have hc:=ZnM hl HP h
 have hrf:=h.rf
 unfold Ze5 at e
 cases hp:pCat P s with
 | bad c q => rw [hp] at e; simp [Out.bind] at e
 | ok n2 s2 =>
  rw [hp] at e hc
  have hm:=hc.2
  have h2:=hm.len
  have hg:=Ztl hl HP HG _ _ _ _ _ h (by simp; omega) (by simp) hp
  exact Zzs hl HP HG _ _ _ _ _ (hm.inv h) (by simp; omega) (by simpa using hg) e
end
theorem ZCU {l:List UInt8} (hl:l.length ≤ 1000):∀ (k:Nat) (d:Int),d + k = 32 → 0 ≤ d → ∀ s n s',Inv l s → pAlt k s = .ok n s' → Good n:=by
 intro k
 induction k with
 | zero =>
  intro d hd h0 s n s' h e
  refine Zsi hl (d:=d) (P:=fun p _ => .bad 25 p) ?_ ?_ h e
  ·intro p s h
   refine ⟨by decide,nd0,true,s.gr,d,s.rf,by have:=h.rf; omega,?_⟩
   apply Z9W
   unfold Z6a
   rw [if_pos (Z1Q (show d = 32 by omega)),Z6L]
   rfl
  ·intro p s n s' _ e; simp at e
 | succ k ih =>
  intro d hd h0 s n s' h e
  have hal:=Zkk hl k (d + 1) (by omega) (by omega)
  refine Zsi hl (P:=fun p s => Zas (pAlt k) p s) (fun p s h => ZsB hl (d:=d) (by omega) hal p s h) ?_ h e
  intro p s n s' h e
  unfold Zas at e
  have go:∀ (n0:Z9) (s1:St),Mv l s s1 → (n0.Kind = 0 ∨ ∀ x,Good x → Good { n0 with Kids:=[x] }) → ((pAlt k s1).bind fun kid s2 => match wd [41] s2 with
    | none => .bad 20 p
    | some s3 => if n0.Kind = 0 then .ok (kid,true) s3 else .ok ({ n0 with Kids:=[kid] },n0.Kind != 7) s3) = .ok n s' → Good n.1:=by
   intro n0 s1 hm hk e
   cases hp:pAlt k s1 with
   | bad c q => rw [hp] at e; simp [Out.bind] at e
   | ok kid s2 =>
    rw [hp] at e
    have hg:=ih (d + 1) (by omega) (by omega) _ _ _ (hm.inv h) hp
    dsimp only [Out.bind] at e
    split at e
    ·simp at e
    split at e
    ·cases e; exact hg
    ·rename_i hk0
     cases e
     rcases hk with hk | hk
     ·exact absurd hk hk0
     ·exact hk _ hg
  have g0:=h.g0
  have g9:=h.g9
  unfold Zo8 at e
  split at e
  ·rename_i s1 hw; exact go _ s1 ((Z2A wL0 h.at_ hl hw).2.1.mv h) (.inr fun x hx => .look 0 x (by omega) hx) e
  split at e
  ·rename_i s1 hw; exact go _ s1 ((Z2A wL1 h.at_ hl hw).2.1.mv h) (.inr fun x hx => .look 1 x (by omega) hx) e
  split at e
  ·rename_i s1 hw; exact go _ s1 ((Z2A wL2 h.at_ hl hw).2.1.mv h) (.inr fun x hx => .look 2 x (by omega) hx) e
  split at e
  ·rename_i s1 hw; exact go _ s1 ((Z2A wL3 h.at_ hl hw).2.1.mv h) (.inr fun x hx => .look 3 x (by omega) hx) e
  split at e
  ·rename_i s1 hw; exact go _ s1 ((Z2A wAt h.at_ hl hw).2.1.mv h) (.inr fun x hx => .atomic x hx) e
  split at e
  ·rename_i s1 hw; exact go _ s1 ((Z2A wNo h.at_ hl hw).2.1.mv h) (.inl rfl) e
  split at e
  ·simp [Out.bind] at e
  split at e
  ·simp [Out.bind] at e
  ·rename_i h9
   exact go _ { s with gr:=s.gr + 1 } ⟨h.at_,Z2x _,by simp only []; omega,by simp only []; omega,Z2x _⟩ (.inr fun x hx => .group (s.gr + 1) x (by omega) hx) e
theorem Zr6 {x:ByteArray} (h:(Z3d x).2.Code = 0):Good (Z3d x).1.Root:=by
 unfold Z3d at h ⊢
 split at h
 ·simp at h
 rename_i hx
 rw [if_neg hx]
 generalize x.data.toList = l at hx h ⊢
 have hat:At l ⟨unis l,0,0,[]⟩:=⟨0,by omega,rfl,rfl⟩
 have hi:Inv l ⟨unis l,0,0,[]⟩:=⟨hat,Zew _,show (0:Int) ≤ 9 by decide,by have:=hat.len; simp only [] at this; show 0 + (unis l).length ≤ 1500; omega⟩
 have key:∀ (fold:Bool) (s:St),Inv l s → Good (pEnd fold (pAlt 32 s)).1.Root:=by
  intro fold s hs
  cases hp:pAlt 32 s with
  | bad c q => exact .none
  | ok n s2 =>
   have hg:=ZCU (by omega) 32 0 (by omega) (by omega) s n s2 hs hp
   unfold pEnd
   dsimp only
   split
   ·exact .none
   split
   ·exact .none
   ·exact hg
 unfold Z7W
 split
 ·rename_i s1 hw
  exact key true s1 (((Z2A wFo hat (by omega) hw).2.1.mv hi).inv hi)
 ·exact key false _ hi
end Go.Proofs.YtocikhhkicahoaaDoor.N2
end
section
namespace Go.Proofs.YtocikhhkicahoaaDoor.N2
open Go Go.Abs Go.Proofs.Unis Go.Proofs.Norm
set_option maxRecDepth 100000
def Wok (lo hi:Int):Prop:=0 ≤ lo ∧ lo ≤ 1048576 ∧ -1 ≤ hi ∧ hi ≤ 1048576 ∧ (hi < 0 ∨ lo ≤ hi)
def sumF (a b:Int):Int:=if a < 0 ∨ b < 0 then -1 else if 1048576 < a + b then -1 else a + b
def Zjc (h n:Int):Int:=if h = 0 ∨ n = 0 then 0 else if h < 0 ∨ n < 0 then -1 else if 1048576 < h * n then -1 else h * n
theorem ZvN (h:Int):Zcv h = some (if 1048576 < h then -1 else h):=by
 apply ZqM
 unfold Zf2 Zc3
 by_cases c:1048576 < h
 ·rw [if_pos (Z2f c),if_pos c]
 ·rw [if_neg (Z28 c),if_neg c]
theorem ZFn (a b:Int) (ha:-1 ≤ a ∧ a ≤ 1048576) (hb:-1 ≤ b ∧ b ≤ 1048576):Zgv a b = some (sumF a b):=by
 apply Zs2
 unfold Zgs sumF ZaX ZcX
 by_cases h1:a < 0
 ·rw [if_pos (Z2f h1),if_pos (.inl h1)]
 by_cases h2:b < 0
 ·rw [if_neg (Z28 h1),if_pos (Z2f h2),if_pos (.inr h2)]
 rw [if_neg (Z28 h1),if_neg (Z28 h2),if_neg (show ¬ (a < 0 ∨ b < 0) by omega),wrap_i64 (by omega) (by omega),ZvN]
 rfl
theorem ZFm {a b l m:Int} (h1:Wok l a) (h2:Wok m b):Wok (min (l + m) 1048576) (sumF a b):=by
 unfold Wok at *
 unfold sumF
 split
 ·omega
 split
 ·omega
 ·omega
theorem Zbd {a b x y:Int} (h1:0 ≤ a ∧ a ≤ x) (h2:0 ≤ b ∧ b ≤ y):0 ≤ a * b ∧ a * b ≤ x * y :=
 ⟨Int.mul_nonneg h1.1 h2.1,Int.mul_le_mul h1.2 h2.2 h2.1 (Znu h1.1 h1.2)⟩
theorem ZCD (h n:Int) (hh:-1 ≤ h ∧ h ≤ 1048576) (hn:-1 ≤ n ∧ n ≤ 64):ZbK h n = some (Zjc h n):=by
 apply Zp4
 unfold Ze1 Zjc Z9p Zbn Z9q Zbo
 by_cases h1:h = 0
 ·rw [if_pos (Z1Q h1),if_pos (.inl h1)]
 by_cases h2:n = 0
 ·rw [if_neg (Z1X h1),if_pos (Z1Q h2),if_pos (.inr h2)]
 rw [if_neg (Z1X h1),if_neg (Z1X h2),if_neg (show ¬ (h = 0 ∨ n = 0) by omega)]
 by_cases h3:h < 0
 ·rw [if_pos (Z2f h3),if_pos (.inl h3)]
 by_cases h4:n < 0
 ·rw [if_neg (Z28 h3),if_pos (Z2f h4),if_pos (.inr h4)]
 have hb:=Zbd (a:=h) (b:=n) (x:=1048576) (y:=64) (by omega) (by omega)
 rw [if_neg (Z28 h3),if_neg (Z28 h4),if_neg (show ¬ (h < 0 ∨ n < 0) by omega),wrap_i64 (by omega) (by omega),ZvN]
 rfl

structure Sh where
 lo:Int
 hi:Int
 sz:Int
 bd:Bool
def Sh.Ok (v:Sh):Prop:=Wok v.lo v.hi ∧ 0 ≤ v.sz ∧ v.sz ≤ 1048576
def catS (c v:Sh):Sh:=⟨min (c.lo + v.lo) 1048576,sumF c.hi v.hi,min (c.sz + v.sz) 1048576,c.bd && v.bd⟩
def altS (c v:Sh):Sh:=⟨min c.lo v.lo,if v.hi < 0 ∨ c.hi < 0 then -1 else max c.hi v.hi,min (c.sz + v.sz) 1048576,c.bd && v.bd⟩
def cat0:Sh:=⟨0,0,0,true⟩
def alt0:Sh:=⟨1048576,0,0,true⟩
def repZ (lo hi m c:Int):Int:=min (lo * c + (if hi < 0 then c + 4 else (hi - lo) * (c + 1)) + (if m = 2 then 2 else 0)) 1048576
def Zt5 (m:Int) (v:Sh):Bool:=v.bd && (decide (m < 2) || (decide (0 ≤ v.hi) && decide (v.hi ≤ 32)))
inductive Shp:Z9 → Sh → Prop
 | none:Shp nd0 ⟨0,0,0,true⟩
 | set (l:List R2):Shp (setN l) ⟨1,1,1,true⟩
 | cat (l:List Z9) (V:List Sh):l.length ≤ 3000 → V.length = l.length → (∀ (i:Nat) (x:Z9) (v:Sh),l[i]? = some x → V[i]? = some v → Shp x v) → Shp ⟨2,0,0,0,0,[],l⟩ (V.foldl catS cat0)
 | alt (l:List Z9) (V:List Sh):l.length ≤ 3000 → 2 ≤ l.length → V.length = l.length → (∀ (i:Nat) (x:Z9) (v:Sh),l[i]? = some x → V[i]? = some v → Shp x v) →
   Shp ⟨3,0,0,0,0,[],l⟩ { V.foldl altS alt0 with sz:=min ((V.foldl altS alt0).sz + 2 * ((l.length:Int) - 1)) 1048576 }
 | rep (lo hi m:Int) (x:Z9) (v:Sh):0 ≤ lo ∧ lo ≤ 64 → hi = -1 ∨ (lo ≤ hi ∧ hi ≤ 64) → Shp x v → Shp ⟨4,lo,hi,m,0,[],[x]⟩ ⟨min (v.lo * lo) 1048576,Zjc v.hi hi,repZ lo hi m v.sz,v.bd⟩
 | group (r:Int) (x:Z9) (v:Sh):Shp x v → Shp ⟨5,0,0,0,r,[],[x]⟩ { v with sz:=min (v.sz + 2) 1048576 }
 | back (r:Int):Shp ⟨6,0,0,0,r,[],[]⟩ ⟨0,-1,1,true⟩
 | look (m:Int) (x:Z9) (v:Sh):Shp x v → Shp ⟨7,0,0,m,0,[],[x]⟩ ⟨0,0,min (v.sz + 2) 1048576,Zt5 m v⟩
 | atomic (x:Z9) (v:Sh):Shp x v → Shp ⟨8,0,0,0,0,[],[x]⟩ { v with sz:=min (v.sz + 2) 1048576 }
 | edge (k:Int):Shp (edge k) ⟨0,0,1,true⟩
theorem ZDp {l:List Z9} (h:∀ x ∈ l,∃ v,Shp x v):∃ V:List Sh,V.length = l.length ∧ ∀ (i:Nat) (x:Z9) (v:Sh),l[i]? = some x → V[i]? = some v → Shp x v:=by
 induction l with
 | nil => exact ⟨[],rfl,by simp⟩
 | cons y r ih =>
  obtain ⟨v,hv⟩:=h y (Z9C ..)
  obtain ⟨V,h1,h2⟩:=ih fun x hx => h x (Zay _ hx)
  refine ⟨v :: V,by simp [h1],fun i x u hx hu => ?_⟩
  cases i with
  | zero => simp at hx hu; subst hx hu; exact hv
  | succ i => exact h2 i x u (by simpa using hx) (by simpa using hu)
theorem ZDf {n:Z9} (h:Good n):∃ v,Shp n v:=by
 induction h with
 | none => exact ⟨_,.none⟩
 | set l _ => exact ⟨_,.set l⟩
 | row k l hk h2 h3 _ ih =>
  obtain ⟨V,q1,q2⟩:=ZDp ih
  rcases hk with rfl | rfl
  ·exact ⟨_,.cat l V h3 q1 q2⟩
  ·exact ⟨_,.alt l V h3 h2 q1 q2⟩
 | rep lo hi m x h1 h2 _ _ ih => obtain ⟨v,hv⟩:=ih; exact ⟨_,.rep lo hi m x v h1 h2 hv⟩
 | group r x _ _ ih => obtain ⟨v,hv⟩:=ih; exact ⟨_,.group r x v hv⟩
 | back r _ => exact ⟨_,.back r⟩
 | look m x _ _ ih => obtain ⟨v,hv⟩:=ih; exact ⟨_,.look m x v hv⟩
 | atomic x _ ih => obtain ⟨v,hv⟩:=ih; exact ⟨_,.atomic x v hv⟩
 | edge k _ => exact ⟨_,.edge k⟩
theorem Zx5 {c v:Sh} (hc:c.Ok) (hv:v.Ok):(catS c v).Ok:=by
 obtain ⟨h1,h2⟩:=hc
 obtain ⟨h3,h4⟩:=hv
 exact ⟨ZFm h1 h3,by simp only [catS]; omega,by simp only [catS]; omega⟩
theorem Zot:∀ (V:List Sh) (c:Sh),c.Ok → (∀ v ∈ V,v.Ok) → (V.foldl catS c).Ok
 | [],_,hc,_ => hc
 | v :: V,c,hc,h => Zot V _ (Zx5 hc (h v (Z9C ..))) fun u hu => h u (Zay _ hu)
theorem w00:Wok 0 0:=by unfold Wok; omega
theorem w11:Wok 1 1:=by unfold Wok; omega
theorem w0n:Wok 0 (-1):=by unfold Wok; omega
theorem Zx4:cat0.Ok:=⟨w00,by simp [cat0],by simp [cat0]⟩
def ZE3 (c:Sh):Prop:=c.Ok ∨ (c.lo = 1048576 ∧ c.hi = 0 ∧ c.sz = 0)
theorem ZED {c v:Sh} (hc:ZE3 c) (hv:v.Ok):(altS c v).Ok:=by
 obtain ⟨h3,h4⟩:=hv
 unfold Wok at h3
 have hb:((0 ≤ c.lo ∧ c.lo ≤ 1048576 ∧ -1 ≤ c.hi ∧ c.hi ≤ 1048576 ∧ (c.hi < 0 ∨ c.lo ≤ c.hi)) ∨ (c.lo = 1048576 ∧ c.hi = 0)) ∧ 0 ≤ c.sz ∧ c.sz ≤ 1048576:=by
  rcases hc with ⟨h1,h2⟩ | ⟨h1,h2,h3⟩
  ·unfold Wok at h1; exact ⟨.inl h1,h2⟩
  ·exact ⟨.inr ⟨h1,h2⟩,by omega⟩
 unfold Sh.Ok Wok altS
 dsimp only
 split <;> omega
theorem Zop:∀ (V:List Sh) (c:Sh),V ≠ [] → ZE3 c → (∀ v ∈ V,v.Ok) → (V.foldl altS c).Ok:=by
 intro V
 induction V with
 | nil => intro c h; exact absurd rfl h
 | cons v V ih =>
  intro c _ hc h
  have h1:=ZED hc (h v (Z9C ..))
  by_cases hV:V = []
  ·subst hV; exact h1
  ·exact ih _ hV (.inl h1) fun u hu => h u (Zay _ hu)
theorem ZHT {lo hi m:Int} {v:Sh} (h1:0 ≤ lo ∧ lo ≤ 64) (h2:hi = -1 ∨ (lo ≤ hi ∧ hi ≤ 64)) (hv:v.Ok):(⟨min (v.lo * lo) 1048576,Zjc v.hi hi,repZ lo hi m v.sz,v.bd⟩:Sh).Ok:=by
 obtain ⟨w,z0,z1⟩:=hv
 unfold Wok at w
 have hb:=Zbd (a:=v.lo) (b:=lo) (x:=1048576) (y:=64) (by omega) (by omega)
 have hc:=Zbd (a:=lo) (b:=v.sz) (x:=64) (y:=1048576) (by omega) (by omega)
 refine ⟨?_,?_,?_⟩
 ·show Wok (min (v.lo * lo) 1048576) (Zjc v.hi hi)
  unfold Zjc
  split
  ·rename_i hc
   have:v.lo * lo = 0:=by
    rcases hc with hc | hc
    ·have:v.lo = 0:=by omega
     rw [this,Int.zero_mul]
    ·have:lo = 0:=by omega
     rw [this,Int.mul_zero]
   unfold Wok
   omega
  split
  ·unfold Wok; omega
  split
  ·unfold Wok; omega
  ·have hb2:=Zbd (a:=v.lo) (b:=lo) (x:=v.hi) (y:=hi) (by omega) (by omega)
   unfold Wok
   omega
 ·show 0 ≤ repZ lo hi m v.sz
  unfold repZ
  split
  ·split <;> omega
  ·have hb2:=Zbd (a:=hi - lo) (b:=v.sz + 1) (x:=64) (y:=1048577) (by omega) (by omega)
   split <;> omega
 ·show repZ lo hi m v.sz ≤ 1048576
  unfold repZ
  omega
theorem ZcM {n:Z9} {v:Sh} (h:Shp n v):v.Ok:=by
 have z:Wok 0 0:=by unfold Wok; omega
 have mem:∀ {l:List Z9} {V:List Sh},V.length = l.length → (∀ (i:Nat) (x:Z9) (v:Sh),l[i]? = some x → V[i]? = some v → v.Ok) → ∀ v ∈ V,v.Ok:=by
  intro l V h1 h2 v hv
  obtain ⟨i,hi⟩:=ZcK.1 hv
  have hil:i < l.length:=by have:=(q2_.1 hi).1; omega
  exact h2 i _ v (q4_ hil) hi
 induction h with
 | none => exact ⟨z,by simp,by simp⟩
 | set l => exact ⟨w11,by simp,by simp⟩
 | cat l V _ h1 _ ih => exact Zot V _ Zx4 (mem h1 ih)
 | alt l V _ h2 h1 _ ih =>
  have:=Zop V alt0 (by rintro rfl; simp at h1; omega) (.inr ⟨rfl,rfl,rfl⟩) (mem h1 ih)
  obtain ⟨q1,q2,q3⟩:=this
  exact ⟨q1,by simp only []; omega,by simp only []; omega⟩
 | rep lo hi m x v h1 h2 _ ih => exact ZHT h1 h2 ih
 | group r x v _ ih => exact ⟨ih.1,by have:=ih.2; simp only []; omega,by simp only []; omega⟩
 | back r => exact ⟨w0n,by simp,by simp⟩
 | look m x v _ ih => exact ⟨z,by have:=ih.2; simp only []; omega,by simp only []; omega⟩
 | atomic x v _ ih => exact ⟨ih.1,by have:=ih.2; simp only []; omega,by simp only []; omega⟩
 | edge k => exact ⟨z,by simp,by simp⟩
def Kid {α:Type} (f:Z9 → Option α) (g:Sh → α) (K:List Z9) (V:List Sh):Prop:=∀ (i:Nat) (x:Z9) (v:Sh),K[i]? = some x → V[i]? = some v → f x = some (g v)
theorem ZwF (K:List Z9) (V:List Sh) (hl:K.length ≤ 3000) (hV:V.length = K.length) (hK:Kid Z3j (fun v => (v.lo,v.hi)) K V) (hO:∀ v ∈ V,v.Ok):∀ (m i:Nat) (c:Sh),i + m = K.length → c.Ok →
  Z9u c.lo c.hi K (K.length:Int) (i:Int) = some (((V.drop i).foldl catS c).lo,((V.drop i).foldl catS c).hi):=by
 intro m
 induction m with
 | zero =>
  intro i c h hc
  apply ZfH
  unfold Z9o
  rw [if_neg (Z28 (by omega)),Zgg (by omega)]
  rfl
 | succ m ih =>
  intro i c h hc
  have hil:i < K.length:=by omega
  have hv:V[i]? = some V[i]:=q4_ (by omega)
  have e1:=hK i K[i] V[i] (q4_ hil) hv
  have hvo:=hO V[i] (Znm _)
  have hb:=hc.1
  have hb2:=hvo.1
  unfold Wok at hb hb2
  have e2:=ih (i + 1) _ (by omega) (Zx5 hc hvo)
  apply ZfH
  unfold Z9o Zbm
  rw [if_pos (Z2f (by omega)),Z4b,q4_ hil,q0_,e1,q0_,ZFn _ _ (by omega) (by simp only []; omega),q0_]
  dsimp only
  rw [wrap_i64 (n:=c.lo + V[i].lo) (by omega) (by omega),wrap_i64 (n:=(i:Int) + 1) (by omega) (by omega),Zgh (show i < V.length by omega),ZdD]
  exact e2
theorem Zwy (K:List Z9) (V:List Sh) (hl:K.length ≤ 3000) (hV:V.length = K.length) (hK:Kid Z3j (fun v => (v.lo,v.hi)) K V):∀ (m i:Nat) (c:Sh),i + m = K.length →
  Z8W c.lo c.hi K (K.length:Int) (i:Int) = some (((V.drop i).foldl altS c).lo,((V.drop i).foldl altS c).hi):=by
 intro m
 induction m with
 | zero =>
  intro i c h
  apply Zfa
  unfold Z8S
  rw [if_neg (Z28 (by omega)),Zgg (by omega)]
  rfl
 | succ m ih =>
  intro i c h
  have hil:i < K.length:=by omega
  have hv:V[i]? = some V[i]:=q4_ (by omega)
  have e1:=hK i K[i] V[i] (q4_ hil) hv
  have e2:=ih (i + 1) (altS c V[i]) (by omega)
  apply Zfa
  unfold Z8S ZaJ Z8T ZaK Z8U
  rw [if_pos (Z2f (by omega)),Z4b,q4_ hil,q0_,e1,q0_]
  dsimp only
  rw [wrap_i64 (n:=(i:Int) + 1) (by omega) (by omega),Zgh (show i < V.length by omega),ZdD]
  unfold altS at e2 ⊢
  dsimp only at e2
  by_cases c1:V[i].hi < 0
  ·rw [if_pos (Z2f c1)]
   rw [if_pos (.inl c1)] at e2
   simp only [c1,true_or,if_true]
   exact e2
  by_cases c2:c.hi < 0
  ·rw [if_neg (Z28 c1),if_pos (Z2f c2)]
   rw [if_pos (.inr c2)] at e2
   simp only [c2,or_true,if_true]
   exact e2
  ·rw [if_neg (Z28 c1),if_neg (Z28 c2)]
   rw [if_neg (show ¬ (V[i].hi < 0 ∨ c.hi < 0) by omega)] at e2
   simp only [c1,c2,or_self,if_false]
   exact e2
theorem ZsN {n:Z9} {v:Sh} (h:Shp n v):Z3j n = some (v.lo,v.hi):=by
 have top:∀ {n:Z9} {r},Ze0 n = some r → Z3j n = some r:=fun e => Zp2 _ e
 have mem:∀ {l:List Z9} {V:List Sh},V.length = l.length → (∀ (i:Nat) (x:Z9) (v:Sh),l[i]? = some x → V[i]? = some v → Shp x v) → ∀ v ∈ V,v.Ok:=by
  intro l V h1 h2 v hv
  obtain ⟨i,hi⟩:=ZcK.1 hv
  have hil:i < l.length:=by have:=(q2_.1 hi).1; omega
  exact ZcM (h2 i _ v (q4_ hil) hi)
 induction h with
 | none => exact top rfl
 | set l => exact top rfl
 | back r => exact top rfl
 | edge k => exact top rfl
 | look m x v _ _ => exact top rfl
 | group r x v _ ih =>
  refine top ?_
  show ((lget [x] 0).bind fun a4 => (Z3j a4).bind fun r5 => some (r5.1,r5.2)) = _
  rw [show lget [x] 0 = some x from rfl,q0_,ih]
  rfl
 | atomic x v _ ih =>
  refine top ?_
  show ((lget [x] 0).bind fun a4 => (Z3j a4).bind fun r5 => some (r5.1,r5.2)) = _
  rw [show lget [x] 0 = some x from rfl,q0_,ih]
  rfl
 | cat l V hl h1 h2 ih => exact top (ZwF l V hl h1 ih (mem h1 h2) l.length 0 cat0 (by omega) Zx4)
 | alt l V hl _ h1 _ ih => exact top (Zwy l V hl h1 ih l.length 0 alt0 (by omega))
 | rep lo hi m x v h1 h2 hx ih =>
  have w:=(ZcM hx).1
  unfold Wok at w
  have hb:=Zbd (a:=v.lo) (b:=lo) (x:=1048576) (y:=64) (by omega) (by omega)
  refine top ?_
  show ((lget [x] 0).bind fun a1 => (Z3j a1).bind fun r2 => (ZbK r2.2 hi).bind fun r3 => some ((min (IntKind.i64.wrap (r2.1 * lo)) 1048576),r3)) = _
  rw [show lget [x] 0 = some x from rfl,q0_,ih,q0_,ZCD _ _ (by simp only []; omega) (by omega),q0_]
  dsimp only
  rw [wrap_i64 (by omega) (by omega)]
theorem Zke (n:Z9) (K:List Z9) (S:List Int) (hl:K.length ≤ 3000) (hV:S.length = K.length) (hK:∀ (i:Nat) (x:Z9) (s:Int),K[i]? = some x → S[i]? = some s → Z62 x = some s ∧ 0 ≤ s ∧ s ≤ 1048576):∀ (m i:Nat) (c:Int),i + m = K.length → 0 ≤ c ∧ c ≤ 1048576 →
  ∀ r,Z5z ((S.drop i).foldl (fun c s => min (c + s) 1048576) c) n = some r → Z6z c K (K.length:Int) (i:Int) n = some r:=by
 intro m
 induction m with
 | zero =>
  intro i c h hc r e
  rw [Zgg (by omega)] at e
  apply Zhc
  unfold Zad
  rw [if_neg (Z28 (by omega))]
  exact e
 | succ m ih =>
  intro i c h hc r e
  have hil:i < K.length:=by omega
  obtain ⟨e1,v0,v1⟩:=hK i K[i] S[i] (q4_ hil) (q4_ (by omega))
  rw [Zgh (show i < S.length by omega),ZdD] at e
  apply Zhc
  unfold Zad Zc1
  rw [if_pos (Z2f (by omega)),Z4b,q4_ hil,q0_,e1,q0_,wrap_i64 (n:=c + S[i]) (by omega) (by omega),wrap_i64 (n:=(i:Int) + 1) (by omega) (by omega)]
  exact ih (i + 1) _ (by omega) (by omega) r e
theorem Zm6 {n x:Z9} {s r:Int} (hk:n.Kids = [x]) (h:Z62 x = some s ∧ 0 ≤ s ∧ s ≤ 1048576) (e:Z5z s n = some r):Z62 n = some r:=by
 apply Zf9
 show Z6z 0 n.Kids (n.Kids.length:Int) 0 n = some r
 rw [hk]
 refine Zke n [x] [s] (by simp) rfl ?_ 1 0 0 rfl (by omega) r ?_
 ·intro i y t hy ht
  cases i with
  | zero => simp at hy ht; subst hy ht; exact h
  | succ i => simp at hy
 ·show Z5z (min (0 + s) 1048576) n = some r
  rw [show min (0 + s) 1048576 = s by omega]
  exact e
theorem ZjN {n:Z9} {r:Int} (hk:n.Kids = []) (e:Z5z 0 n = some r):Z62 n = some r:=by
 apply Zf9
 show Z6z 0 n.Kids (n.Kids.length:Int) 0 n = some r
 rw [hk]
 exact Zke n [] [] (by simp) rfl (by simp) 0 0 0 rfl (by omega) r e
theorem Zox:∀ (V:List Sh) (c:Sh),(V.map Sh.sz).foldl (fun c s => min (c + s) 1048576) c.sz = (V.foldl catS c).sz
 | [],_ => rfl
 | v :: V,c => Zox V (catS c v)
theorem Zow:∀ (V:List Sh) (c:Sh),(V.map Sh.sz).foldl (fun c s => min (c + s) 1048576) c.sz = (V.foldl altS c).sz
 | [],_ => rfl
 | v :: V,c => Zow V (altS c v)
theorem Zwo {n:Z9} {l:List Z9} {V:List Sh} {r:Int} (hk:n.Kids = l) (hl:l.length ≤ 3000) (h1:V.length = l.length) (h:∀ (i:Nat) (x:Z9) (v:Sh),l[i]? = some x → V[i]? = some v → Z62 x = some v.sz ∧ v.Ok)
  (e:Z5z ((V.map Sh.sz).foldl (fun c s => min (c + s) 1048576) 0) n = some r):Z62 n = some r:=by
 apply Zf9
 show Z6z 0 n.Kids (n.Kids.length:Int) 0 n = some r
 rw [hk]
 refine Zke n l (V.map Sh.sz) hl (by simp [h1]) ?_ l.length 0 0 (by omega) (by omega) r e
 intro i x s hx hs
 rw [q7_] at hs
 obtain ⟨v,hv,rfl⟩:=q6_.1 hs
 obtain ⟨q1,q2⟩:=h i x v hx hv
 exact ⟨q1,q2.2⟩
theorem Zj9 (c:Int):Z1z c = some (min c 1048576):=rfl
theorem ZDS {n:Z9} {v:Sh} (h:Shp n v):Z62 n = some v.sz:=by
 induction h with
 | none => exact ZjN rfl rfl
 | set l => exact ZjN rfl rfl
 | back r => exact ZjN rfl rfl
 | edge k => exact ZjN rfl rfl
 | look m x v hx ih =>
  have ok:=ZcM hx
  obtain ⟨_,z0,z1⟩:=ok
  refine Zm6 rfl ⟨ih,z0,z1⟩ ?_
  show Z1z (IntKind.i64.wrap (v.sz + 2)) = _
  rw [wrap_i64 (by omega) (by omega),Zj9]
 | group r x v hx ih =>
  have ok:=ZcM hx
  obtain ⟨_,z0,z1⟩:=ok
  refine Zm6 rfl ⟨ih,z0,z1⟩ ?_
  show Z1z (IntKind.i64.wrap (v.sz + 2)) = _
  rw [wrap_i64 (by omega) (by omega),Zj9]
 | atomic x v hx ih =>
  have ok:=ZcM hx
  obtain ⟨_,z0,z1⟩:=ok
  refine Zm6 rfl ⟨ih,z0,z1⟩ ?_
  show Z1z (IntKind.i64.wrap (v.sz + 2)) = _
  rw [wrap_i64 (by omega) (by omega),Zj9]
 | cat l V hl h1 h2 ih =>
  refine Zwo rfl hl h1 (fun i x v hx hv => ⟨ih i x v hx hv,ZcM (h2 i x v hx hv)⟩) ?_
  have ok:(V.foldl catS cat0).Ok:=ZcM (.cat l V hl h1 h2)
  have e:=Zox V cat0
  rw [show cat0.sz = 0 from rfl] at e
  rw [e]
  show Z1z _ = _
  obtain ⟨_,z0,z1⟩:=ok
  rw [Zj9,show min (V.foldl catS cat0).sz 1048576 = (V.foldl catS cat0).sz by omega]
 | alt l V hl h0 h1 h2 ih =>
  refine Zwo rfl hl h1 (fun i x v hx hv => ⟨ih i x v hx hv,ZcM (h2 i x v hx hv)⟩) ?_
  have e:=Zow V alt0
  rw [show alt0.sz = 0 from rfl] at e
  rw [e]
  have ok:(V.foldl altS alt0).Ok:=by
   refine Zop V alt0 (by rintro rfl; simp at h1; omega) (.inr ⟨rfl,rfl,rfl⟩) ?_
   intro v hv
   obtain ⟨i,hi⟩:=ZcK.1 hv
   have hil:i < l.length:=by have:=(q2_.1 hi).1; omega
   exact ZcM (h2 i _ v (q4_ hil) hi)
  obtain ⟨_,z0,z1⟩:=ok
  show Z1z (IntKind.i64.wrap ((V.foldl altS alt0).sz + IntKind.i64.wrap (2 * IntKind.i64.wrap ((l.length:Int) - 1)))) = _
  rw [wrap_i64 (n:=(l.length:Int) - 1) (by omega) (by omega),wrap_i64 (n:=2 * ((l.length:Int) - 1)) (by omega) (by omega),wrap_i64 (by omega) (by omega),Zj9]
 | rep lo hi m x v q1 q2 hx ih =>
  have ok:=ZcM hx
  obtain ⟨_,z0,z1⟩:=ok
  refine Zm6 rfl ⟨ih,z0,z1⟩ ?_
  have r24:∀ z,0 ≤ z → z ≤ 1000000000 → Z1R z ⟨4,lo,hi,m,0,[],[x]⟩ = some (min (z + (if m = 2 then 2 else 0)) 1048576):=by
   intro z z0 z1
   unfold Z1R
   dsimp only
   by_cases hm:m = 2
   ·rw [if_pos (Z1Q hm),if_pos hm,wrap_i64 (by omega) (by omega),Zj9]
   ·rw [if_neg (Z1X hm),if_neg hm,Zj9,Int.add_zero]
  have hb:=Zbd (a:=lo) (b:=v.sz) (x:=64) (y:=1048576) (by omega) (by omega)
  generalize v.sz = c at *
  have e:Z5z c ⟨4,lo,hi,m,0,[],[x]⟩ = (if ((decide (hi < 0))) = true then (Z1R ((IntKind.i64.wrap ((IntKind.i64.wrap (lo * c)) + (IntKind.i64.wrap (c + 4))))) ⟨4,lo,hi,m,0,[],[x]⟩) else (Z1R ((IntKind.i64.wrap ((IntKind.i64.wrap (lo * c)) + (IntKind.i64.wrap ((IntKind.i64.wrap (hi - lo)) * (IntKind.i64.wrap (c + 1))))))) ⟨4,lo,hi,m,0,[],[x]⟩)):=rfl
  rw [e]
  show _ = some (repZ lo hi m c)
  unfold repZ
  by_cases hh:hi < 0
  ·rw [if_pos (Z2f hh),if_pos hh,wrap_i64 (n:=lo * c) (by omega) (by omega),wrap_i64 (n:=c + 4) (by omega) (by omega),wrap_i64 (by omega) (by omega)]
   exact r24 _ (by omega) (by omega)
  ·have hb2:=Zbd (a:=hi - lo) (b:=c + 1) (x:=64) (y:=1048577) (by omega) (by omega)
   rw [if_neg (Z28 hh),if_neg hh,wrap_i64 (n:=lo * c) (by omega) (by omega),wrap_i64 (n:=hi - lo) (by omega) (by omega),wrap_i64 (n:=c + 1) (by omega) (by omega),wrap_i64 (n:=(hi - lo) * (c + 1)) (by omega) (by omega),wrap_i64 (by omega) (by omega)]
   exact r24 _ (by omega) (by omega)
theorem ZEU (K:List Z9) (V:List Sh) (hl:K.length ≤ 3000) (hV:V.length = K.length) (hK:Kid Z4l Sh.bd K V):∀ (m i:Nat),i + m = K.length →
  ∃ r,Z4m K (K.length:Int) (i:Int) = some r ∧ decide (0 ≤ r) = !(V.drop i).all Sh.bd:=by
 intro m
 induction m with
 | zero =>
  intro i h
  refine ⟨-1,?_,by rw [Zgg (by omega)]; rfl⟩
  apply Z6G
  unfold Z3D
  rw [if_neg (Z28 (by omega))]
  rfl
 | succ m ih =>
  intro i h
  have hil:i < K.length:=by omega
  have hv:V[i]? = some V[i]:=q4_ (by omega)
  have e1:=hK i K[i] V[i] (q4_ hil) hv
  obtain ⟨r,e2,e3⟩:=ih (i + 1) (by omega)
  have hd:V.drop i = V[i] :: V.drop (i + 1):=Zgh (by omega)
  have hb1:ZaN K[i] = some (!V[i].bd):=by
   apply ZlD
   unfold ZaL
   rw [e1]
   rfl
  rw [hd]
  cases hbd:V[i].bd with
  | false =>
   refine ⟨i,?_,by rw [List.all_cons,hbd,Bool.false_and]; simp⟩
   apply Z6G
   unfold Z3D Z4h
   rw [if_pos (Z2f (by omega)),Z4b,q4_ hil,q0_,hb1,q0_,hbd,if_pos (by rfl)]
  | true =>
   refine ⟨r,?_,by rw [List.all_cons,hbd,Zw8]; exact e3⟩
   apply Z6G
   unfold Z3D Z4h Z5B
   rw [if_pos (Z2f (by omega)),Z4b,q4_ hil,q0_,hb1,q0_,hbd,if_neg (by simp),wrap_i64 (n:=(i:Int) + 1) (by omega) (by omega)]
   exact e2
theorem r5_b {n:Z9} {K:List Z9} {V:List Sh} (hk:n.Kids = K) (hl:K.length ≤ 3000) (hV:V.length = K.length) (hK:Kid Z4l Sh.bd K V):Z3L n = some (V.all Sh.bd):=by
 obtain ⟨r,e1,e2⟩:=ZEU K V hl hV hK K.length 0 (by omega)
 have e3:Z5D n.Kids = some (!V.all Sh.bd):=by
  apply ZdP
  unfold Z5A
  have:Z6A n.Kids = some r:=by
   apply Zfe
   unfold Z6y
   rw [hk]
   exact e1
  rw [this,q0_,e2]
  rfl
 unfold Z3L
 rw [e3,q0_,Bool.not_not]
theorem ZzA:∀ (V:List Sh) (c:Sh),(V.foldl catS c).bd = (c.bd && V.all Sh.bd)
 | [],c => by simp
 | v :: V,c => by rw [ZdD,ZzA V,List.all_cons]; simp [catS,Bool.and_assoc]
theorem Zzq:∀ (V:List Sh) (c:Sh),(V.foldl altS c).bd = (c.bd && V.all Sh.bd)
 | [],c => by simp
 | v :: V,c => by rw [ZdD,Zzq V,List.all_cons]; simp [altS,Bool.and_assoc]
theorem ZEW {x:Z9} {v:Sh} (h:Z4l x = some v.bd):Kid Z4l Sh.bd [x] [v]:=by
 intro i y u hy hu
 cases i with
 | zero => simp at hy hu; subst hy hu; exact h
 | succ i => simp at hy
theorem ZwB {n:Z9} {v:Sh} (h:Shp n v):Z4l n = some v.bd:=by
 have top:∀ {n:Z9} {r},Zc2 n = some r → Z4l n = some r:=fun e => Zn5 _ e
 have one:∀ {n x:Z9} {v:Sh},n.Kids = [x] → Z4l x = some v.bd → Z3L n = some v.bd:=by
  intro n x v h1 h2
  have:=r5_b h1 (by simp) rfl (ZEW h2)
  simpa using this
 have zero:∀ {n:Z9},n.Kids = [] → Z3L n = some true:=fun h1 => r5_b (V:=[]) h1 (by simp) rfl (fun i x v hx => by simp at hx)
 induction h with
 | none => exact top (zero rfl)
 | set l => exact top (zero rfl)
 | back r => exact top (zero rfl)
 | edge k => exact top (zero rfl)
 | group r x v _ ih => exact top (one rfl ih)
 | atomic x v _ ih => exact top (one rfl ih)
 | rep lo hi m x v _ _ _ ih => exact top (one rfl ih)
 | cat l V hl h1 _ ih =>
  refine top (Eq.trans (r5_b rfl hl h1 ih) ?_)
  rw [ZzA]
  rfl
 | alt l V hl _ h1 _ ih =>
  refine top (Eq.trans (r5_b rfl hl h1 ih) ?_)
  show _ = some (V.foldl altS alt0).bd
  rw [Zzq]
  rfl
 | look m x v hx ih =>
  refine top ?_
  have hw:=ZsN hx
  have o:=one (n:=⟨7,0,0,m,0,[],[x]⟩) rfl ih
  show (if (decide (2 ≤ m)) = true then Z8m ⟨7,0,0,m,0,[],[x]⟩ else Z3L ⟨7,0,0,m,0,[],[x]⟩) = some (Zt5 m v)
  unfold Zt5
  by_cases h2:2 ≤ m
  ·rw [if_pos (Z2f h2),decide_eq_false (show ¬ m < 2 by omega),Bool.false_or]
   unfold Z8m Z8n
   rw [show lget [x] 0 = some x from rfl,q0_,hw,q0_]
   dsimp only
   by_cases h3:v.hi < 0
   ·rw [if_pos (Z2f h3),decide_eq_false (show ¬ 0 ≤ v.hi by omega)]
    simp
   by_cases h4:32 < v.hi
   ·rw [if_neg (Z28 h3),if_pos (Z2f h4),decide_eq_false (show ¬ v.hi ≤ 32 by omega)]
    simp
   ·rw [if_neg (Z28 h3),if_neg (Z28 h4),decide_eq_true (show 0 ≤ v.hi by omega),decide_eq_true (show v.hi ≤ 32 by omega),o]
    simp
  ·rw [if_neg (Z28 h2),decide_eq_true (show m < 2 by omega),o]
   simp
def chkF (v:Sh):Int:=if v.bd = false then 27 else if 1997 < v.sz then 28 else 0
theorem Zsj {n:Z9} {v:Sh} (h:Shp n v) (g:Int) (f:Bool):Ze4 ⟨n,g,f⟩ = some (chkF v):=by
 obtain ⟨_,z0,z1⟩:=ZcM h
 apply ZoZ
 unfold ZdZ Zbl chkF
 rw [ZwB h,q0_,ZDS h]
 cases v.bd with
 | false => rfl
 | true =>
  rw [if_neg (by simp),if_neg (by simp),q0_,wrap_i64 (by omega) (by omega)]
  by_cases c:1997 < v.sz
  ·rw [if_pos (Z2f (by omega)),if_pos c]
  ·rw [if_neg (Z28 (by omega)),if_neg c]
theorem ZHW {l:List Z9} {x y:Z9} {a b:Sh} (hl:l = [x,y]) (hx:Shp x a) (hy:Shp y b):∀ (i:Nat) (z:Z9) (v:Sh),l[i]? = some z → [a,b][i]? = some v → Shp z v:=by
 subst hl
 intro i z v hz hv
 match i,hz,hv with
 | 0,hz,hv => simp at hz hv; subst hz hv; exact hx
 | 1,hz,hv => simp at hz hv; subst hz hv; exact hy
 | i + 2,hz,hv => simp at hz
theorem ZEF {x y:Z9} {a b:Sh} (hx:Shp x a) (hy:Shp y b):Shp ⟨3,0,0,0,0,[],[x,y]⟩ { altS (altS alt0 a) b with sz:=min ((altS (altS alt0 a) b).sz + 2 * ((2:Int) - 1)) 1048576 }:=.alt [x,y] [a,b] (by simp) (by simp) rfl (ZHW rfl hx hy)
end Go.Proofs.YtocikhhkicahoaaDoor.N2
end
