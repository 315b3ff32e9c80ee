/- What the parser gives is right; widths and sizes are in order. No condition. -/
import Derived.Test.YtocikhhkicahoaaDoorPlain
import Derived.Test.YtocikhhkicahoaaDoorTypB
import Derived.Test.YtocikhhkicahoaaDoorTypC

set_option linter.unusedSimpArgs false
set_option linter.unusedVariables false
set_option linter.defProp false
section
namespace Go.Proofs.YtocikhhkicahoaaDoor.N2
open Go Go.Abs Go.Proofs.Unis Go.Proofs.Norm
set_option maxRecDepth 100000
inductive Good : Z9 → Prop
 | none : Good nd0
 | set (l : List R2) : Z2N l → Good (setN l)
 | row (k : Int) (l : List Z9) : k = 2 ∨ k = 3 → 2 ≤ l.length → l.length ≤ 3000 → (∀ x ∈ l, Good x) → Good ⟨k, 0, 0, 0, 0, [], l⟩
 | rep (lo hi m : Int) (x : Z9) : 0 ≤ lo ∧ lo ≤ 64 → hi = -1 ∨ (lo ≤ hi ∧ hi ≤ 64) → 0 ≤ m ∧ m ≤ 2 → Good x → Good ⟨4, lo, hi, m, 0, [], [x]⟩
 | group (r : Int) (x : Z9) : 1 ≤ r ∧ r ≤ 9 → Good x → Good ⟨5, 0, 0, 0, r, [], [x]⟩
 | back (r : Int) : 1 ≤ r ∧ r ≤ 9 → Good ⟨6, 0, 0, 0, r, [], []⟩
 | look (m : Int) (x : Z9) : 0 ≤ m ∧ m ≤ 3 → Good x → Good ⟨7, 0, 0, m, 0, [], [x]⟩
 | atomic (x : Z9) : Good x → Good ⟨8, 0, 0, 0, 0, [], [x]⟩
 | edge (k : Int) : 0 ≤ k ∧ k ≤ 3 → Good (edge k)
theorem ZoD (k : Int) (hk : k = 2 ∨ k = 3) : ∀ l : List Z9, l.length ≤ 3000 → (∀ x ∈ l, Good x) → Good (joined k l)
 | [], _, _ => .none
 | [x], _, h => h x (ZbH ..)
 | x :: y :: r, hl, h => .row k _ hk (by simp) hl h
theorem ZDq {l : List UInt8} {s s' : St} {p : Int} {n : Z9} (h : At l s) (e : pEsc p s = .ok n s') : Good n := by
 have hr := h.range
 unfold pEsc at e
 split at e
 ·simp at e
 rename_i hn
 have hu : 0 ≤ peek s.us ∧ peek s.us ≤ 1114367 := by
  rcases hr with ⟨_, h2⟩ | h2
  ·exact absurd h2 hn
  ·omega
 split at e
 ·cases e; exact .set _ (ZbV _ (Zkf _).2)
 split at e
 ·cases e; exact .edge 2 (by omega)
 split at e
 ·cases e; exact .edge 3 (by omega)
 split at e
 ·cases e; exact .back _ (by omega)
 ·cases hp : Z8u (peek s.us) p (take s) with
  | bad c q => rw [hp] at e; simp [Out.bind] at e
  | ok v s2 =>
   rw [hp] at e
   obtain ⟨_, hv⟩ := Zpi h.take hu hp
   cases e
   exact .set _ (ZbV _ (by simp; omega))
theorem ZpF {l : List UInt8} (hl : l.length ≤ 1000) (p : Int) (no : Bool) : ∀ (k : Nat) (fst : Bool) (all : List R2) (s : St) (n : Z9) (s' : St), At l s → Z2N all → Z6y p no k fst all s = .ok n s' → Good n := by
 intro k
 induction k with
 | zero => intro fst all s n s' _ _ e; simp [Z6y] at e
 | succ k ih =>
  intro fst all s n s' h hall e
  unfold Z6y at e
  split at e
  ·simp at e
  rename_i hn
  split at e
  ·split at e
   ·simp at e
   ·cases e
    split
    ·exact .set _ (ZoG hall)
    ·exact .set _ hall
  split at e
  ·simp at e
  have hm := Zoa h hl hn 0 0 []
  cases hp : pMem s with
  | bad c q => rw [hp] at e; simp [Out.bind] at e
  | ok m s1 =>
   rw [hp] at e hm
   obtain ⟨_, hnx, _, hm1, _, hm3⟩ := hm
   dsimp only [Out.bind] at e
   split at e
   ·split at e
    ·simp at e
    ·exact ih _ _ _ _ _ hnx.at_ (Zht hall (ZbV _ hm3)) e
   split at e
   ·exact ih _ _ _ _ _ hnx.at_ (Zht hall (Zis (by simp only []; omega))) e
   ·rename_i s2 hw
    obtain ⟨_, q2, _⟩ := Z2w w45 hnx.at_ hl hw
    split at e
    ·simp at e
    rename_i hc
    have hn2 : s2.us ≠ [] := fun e => hc (.inl e)
    have hm' := Zoa q2.at_ hl hn2 0 0 []
    cases hp2 : pMem s2 with
    | bad c q => rw [hp2] at e; simp at e
    | ok m2 s3 =>
     rw [hp2] at e hm'
     obtain ⟨_, hnx', _, hm1', _, _⟩ := hm'
     dsimp only at e
     split at e
     ·simp at e
     ·rename_i hc2
      have : ¬ m2.1 < m.1 := fun e => hc2 (.inr e)
      exact ih _ _ _ _ _ hnx'.at_ (Zht hall (Zis (by simp only []; omega))) e
theorem ZvB {p lo hi : Int} {s s' : St} {c : Int × Int} (e : pFin p lo hi s = .ok c s') : (0 ≤ c.1 ∧ c.1 ≤ 64) ∧ c.1 ≤ c.2 ∧ c.2 ≤ 64 := by
 unfold pFin at e
 split at e
 ·simp at e
 split at e
 ·simp at e
 ·cases e
  simp only []
  omega
theorem ZwF {p : Int} {s s' : St} {c : Int × Int} (e : Za0 p s = .ok c s') : (0 ≤ c.1 ∧ c.1 ≤ 64) ∧ (c.2 = -1 ∨ (c.1 ≤ c.2 ∧ c.2 ≤ 64)) := by
 unfold Za0 at e
 split at e
 ·have := ZvB e; exact ⟨this.1, .inr this.2⟩
 split at e
 ·split at e
  ·simp at e
  split at e
  ·cases e
   exact ⟨by simp only []; omega, .inl rfl⟩
  ·simp at e
 ·have := ZvB e; exact ⟨this.1, .inr this.2⟩
theorem Ziz {kid n : Z9} {may : Bool} {p lo hi : Int} {s s' : St} (hk : Good kid) (h1 : 0 ≤ lo ∧ lo ≤ 64) (h2 : hi = -1 ∨ (lo ≤ hi ∧ hi ≤ 64)) (e : Zbb kid may p lo hi s = .ok n s') : Good n := by
 unfold Zbb at e
 split at e
 ·simp at e
 split at e
 ·cases e; exact .rep _ _ _ _ h1 h2 (by omega) hk
 split at e
 ·cases e; exact .rep _ _ _ _ h1 h2 (by omega) hk
 ·cases e; exact .rep _ _ _ _ h1 h2 (by omega) hk
theorem ZEe {kid n : Z9} {may : Bool} {s s' : St} (hk : Good kid) (e : pRep kid may s = .ok n s') : Good n := by
 unfold pRep at e
 split at e
 ·exact Ziz hk (by omega) (.inl rfl) e
 split at e
 ·exact Ziz hk (by omega) (.inl rfl) e
 split at e
 ·exact Ziz hk (by omega) (.inr (by omega)) e
 split at e
 ·rename_i s1 _
  cases hp : Za0 s.pos s1 with
  | bad c q => rw [hp] at e; simp [Out.bind] at e
  | ok c s2 =>
   rw [hp] at e
   have := ZwF hp
   exact Ziz hk this.1 this.2 e
 ·cases e; exact hk
section
variable {l : List UInt8} (hl : l.length ≤ 1000) {d : Int} {P : Int → St → Out (Z9 × Bool)} (HP : ∀ p s, Inv l s → AtmR l d s (P p s) (Z4X p (bl l) s.pos s.gr d s.rf 0 0))
 (HG : ∀ p s n s', Inv l s → P p s = .ok n s' → Good n.1)
include hl HG in
theorem ZzF {s s' : St} {n : Z9 × Bool} (h : Inv l s) (hn : s.us ≠ []) (e : ZaO P s = .ok n s') : Good n.1 := by
 have hu : 0 ≤ peek s.us ∧ peek s.us ≤ 1114367 := by
  rcases h.at_.range with ⟨_, h2⟩ | h2
  ·exact absurd h2 hn
  ·omega
 unfold ZaO at e
 split at e
 ·cases e; exact .set _ (ZbV _ (by simp))
 split at e
 ·cases e; exact .edge 0 (by omega)
 split at e
 ·cases e; exact .edge 1 (by omega)
 split at e
 ·cases hp : pEsc s.pos (take s) with
  | bad c q => rw [hp] at e; simp [Out.bind] at e
  | ok m s2 =>
   rw [hp] at e
   cases e
   exact ZDq h.at_.take hp
 split at e
 ·cases hp : ZcM s.pos (take s) with
  | bad c q => rw [hp] at e; simp [Out.bind] at e
  | ok m s2 =>
   rw [hp] at e
   cases e
   have n0 : Z2N [] := trivial
   unfold ZcM at hp
   split at hp
   ·rename_i s1 hw
    exact ZpF hl _ _ _ _ _ _ _ _ (Z2w w94 h.at_.take hl hw).2.1.at_ n0 hp
   ·exact ZpF hl _ _ _ _ _ _ _ _ h.at_.take n0 hp
 split at e
 ·exact HG _ _ _ _ (((Z87 h.at_).mv h).inv h) e
 split at e
 ·simp at e
 split at e
 ·simp at e
 ·cases e; exact .set _ (ZbV _ (by simp; omega))
include hl HP HG in
theorem Zti : ∀ (k : Nat) (kids : List Z9) (s : St) (n : Z9) (s' : St), Inv l s → kids.length + s.us.length ≤ 3000 → (∀ x ∈ kids, Good x) → ZaP P k kids s = .ok n s' → Good n := by
 intro k
 induction k with
 | zero => intro kids s n s' _ _ _ e; simp [ZaP] at e
 | succ k ih =>
  intro kids s n s' h hb hk e
  unfold ZaP at e
  split at e
  ·cases e; exact ZoD 2 (.inl rfl) kids (by omega) hk
  rename_i hs
  have hn : s.us ≠ [] := by
   intro e
   apply hs
   rw [e]
   rfl
  have hlt := Zlc h.at_ hn
  have hiv := ((Z87 h.at_).mv h).inv h
  have ha := Zte hl HP h hn
  cases hp : ZaO P s with
  | bad c q => rw [hp] at e; simp [Out.bind] at e
  | ok m s1 =>
   rw [hp] at e ha
   have hm := ha.2
   have hr := Zxw hm.at_ hl m.1 m.2 0 0 []
   dsimp only [Out.bind] at e
   cases hp2 : pRep m.1 m.2 s1 with
   | bad c q => rw [hp2] at e; simp at e
   | ok n2 s2 =>
    rw [hp2] at e hr
    have hx := hr.2.mv (hm.inv hiv)
    have h1 := hm.len
    have h2 := hx.len
    have hg := ZEe (ZzF hl HG h hn hp) hp2
    refine ih _ _ _ _ (hx.inv (hm.inv hiv)) (by simp; omega) ?_ e
    intro x hx
    rcases Zbc.1 hx with hx | hx
    ·exact hk x hx
    ·simp at hx; subst hx; exact hg
include hl HP HG in
theorem ZzC : ∀ (k : Nat) (kids : List Z9) (s : St) (n : Z9) (s' : St), Inv l s → kids.length + s.us.length ≤ 3000 → (∀ x ∈ kids, Good x) → Zdl P k kids s = .ok n s' → Good n := by
 intro k
 induction k with
 | zero => intro kids s n s' _ _ _ e; simp [Zdl] at e
 | succ k ih =>
  intro kids s n s' h hb hk e
  unfold Zdl at e
  split at e
  ·cases e; exact ZoD 3 (.inr rfl) kids (by omega) hk
  rename_i s1 hw
  obtain ⟨_, t2, t3⟩ := Z2w w124 h.at_ hl hw
  have m1 := t2.mv h
  have hi1 := m1.inv h
  have hc := ZnR hl HP hi1
  have hrf := hi1.rf
  cases hp : pCat P s1 with
  | bad c q => rw [hp] at e; simp [Out.bind] at e
  | ok n2 s2 =>
   rw [hp] at e hc
   have hm := hc.2
   have h2 := hm.len
   have hg := Zti hl HP HG _ _ _ _ _ hi1 (by simp; omega) (by simp) hp
   refine ih _ _ _ _ (hm.inv hi1) (by simp; omega) ?_ e
   intro x hx
   rcases Zbc.1 hx with hx | hx
   ·exact hk x hx
   ·simp at hx; subst hx; exact hg
include hl HP HG in
theorem Zsj {s s' : St} {n : Z9} (h : Inv l s) (e : Zdk P s = .ok n s') : Good n := by
 have hc := ZnR hl HP h
 have hrf := h.rf
 unfold Zdk at e
 cases hp : pCat P s with
 | bad c q => rw [hp] at e; simp [Out.bind] at e
 | ok n2 s2 =>
  rw [hp] at e hc
  have hm := hc.2
  have h2 := hm.len
  have hg := Zti hl HP HG _ _ _ _ _ h (by simp; omega) (by simp) hp
  exact ZzC hl HP HG _ _ _ _ _ (hm.inv h) (by simp; omega) (by simpa using hg) e
end
theorem ZDc {l : List UInt8} (hl : l.length ≤ 1000) : ∀ (k : Nat) (d : Int), d + k = 32 → 0 ≤ d → ∀ s n s', Inv l s → pAlt k s = .ok n s' → Good n := by
 intro k
 induction k with
 | zero =>
  intro d hd h0 s n s' h e
  refine Zsj hl (d := d) (P := fun p _ => .bad 25 p) ?_ ?_ h e
  ·intro p s h
   refine ⟨by decide, nd0, true, s.gr, d, s.rf, by have := h.rf; omega, ?_⟩
   apply Z9V
   unfold Z64
   rw [if_pos (Z29 (show d = 32 by omega)), Z6G]
   rfl
  ·intro p s n s' _ e; simp at e
 | succ k ih =>
  intro d hd h0 s n s' h e
  have hal := ZnP hl k (d + 1) (by omega) (by omega)
  refine Zsj hl (P := fun p s => Z9C (pAlt k) p s) (fun p s h => ZsD hl (d := d) (by omega) hal p s h) ?_ h e
  intro p s n s' h e
  unfold Z9C at e
  have go : ∀ (n0 : Z9) (s1 : St), Mv l s s1 → (n0.Kind = 0 ∨ ∀ x, Good x → Good { n0 with Kids := [x] }) → ((pAlt k s1).bind fun kid s2 => match wd [41] s2 with
    | none => .bad 20 p
    | some s3 => if n0.Kind = 0 then .ok (kid, true) s3 else .ok ({ n0 with Kids := [kid] }, n0.Kind != 7) s3) = .ok n s' → Good n.1 := by
   intro n0 s1 hm hk e
   cases hp : pAlt k s1 with
   | bad c q => rw [hp] at e; simp [Out.bind] at e
   | ok kid s2 =>
    rw [hp] at e
    have hg := ih (d + 1) (by omega) (by omega) _ _ _ (hm.inv h) hp
    dsimp only [Out.bind] at e
    split at e
    ·simp at e
    split at e
    ·cases e; exact hg
    ·rename_i hk0
     cases e
     rcases hk with hk | hk
     ·exact absurd hk hk0
     ·exact hk _ hg
  have g0 := h.g0
  have g9 := h.g9
  unfold Ziw at e
  split at e
  ·rename_i s1 hw; exact go _ s1 ((Z2w wL0 h.at_ hl hw).2.1.mv h) (.inr fun x hx => .look 0 x (by omega) hx) e
  split at e
  ·rename_i s1 hw; exact go _ s1 ((Z2w wL1 h.at_ hl hw).2.1.mv h) (.inr fun x hx => .look 1 x (by omega) hx) e
  split at e
  ·rename_i s1 hw; exact go _ s1 ((Z2w wL2 h.at_ hl hw).2.1.mv h) (.inr fun x hx => .look 2 x (by omega) hx) e
  split at e
  ·rename_i s1 hw; exact go _ s1 ((Z2w wL3 h.at_ hl hw).2.1.mv h) (.inr fun x hx => .look 3 x (by omega) hx) e
  split at e
  ·rename_i s1 hw; exact go _ s1 ((Z2w wAt h.at_ hl hw).2.1.mv h) (.inr fun x hx => .atomic x hx) e
  split at e
  ·rename_i s1 hw; exact go _ s1 ((Z2w wNo h.at_ hl hw).2.1.mv h) (.inl rfl) e
  split at e
  ·simp [Out.bind] at e
  split at e
  ·simp [Out.bind] at e
  ·rename_i h9
   exact go _ { s with gr := s.gr + 1 } ⟨h.at_, Z2H _, by simp only []; omega, by simp only []; omega, Z2H _⟩ (.inr fun x hx => .group (s.gr + 1) x (by omega) hx) e
theorem Zzj {x : ByteArray} (h : (Z4h x).2.Code = 0) : Good (Z4h x).1.Root := by
 unfold Z4h at h ⊢
 split at h
 ·simp at h
 rename_i hx
 rw [if_neg hx]
 generalize x.data.toList = l at hx h ⊢
 have hat : At l ⟨unis l, 0, 0, []⟩ := ⟨0, by omega, rfl, rfl⟩
 have hi : Inv l ⟨unis l, 0, 0, []⟩ := ⟨hat, ZdJ _, show (0 : Int) ≤ 9 by decide, by have := hat.len; simp only [] at this; show 0 + (unis l).length ≤ 1500; omega⟩
 have key : ∀ (fold : Bool) (s : St), Inv l s → Good (pEnd fold (pAlt 32 s)).1.Root := by
  intro fold s hs
  cases hp : pAlt 32 s with
  | bad c q => exact .none
  | ok n s2 =>
   have hg := ZDc (by omega) 32 0 (by omega) (by omega) s n s2 hs hp
   unfold pEnd
   dsimp only
   split
   ·exact .none
   split
   ·exact .none
   ·exact hg
 unfold Z7Y
 split
 ·rename_i s1 hw
  exact key true s1 (((Z2w wFo hat (by omega) hw).2.1.mv hi).inv hi)
 ·exact key false _ hi
end Go.Proofs.YtocikhhkicahoaaDoor.N2
end
section
namespace Go.Proofs.YtocikhhkicahoaaDoor.N2
open Go Go.Abs Go.Proofs.Unis Go.Proofs.Norm
set_option maxRecDepth 100000
def Wok (lo hi : Int) : Prop := 0 ≤ lo ∧ lo ≤ 1048576 ∧ -1 ≤ hi ∧ hi ≤ 1048576 ∧ (hi < 0 ∨ lo ≤ hi)
def sumF (a b : Int) : Int := if a < 0 ∨ b < 0 then -1 else if 1048576 < a + b then -1 else a + b
def Zld (h n : Int) : Int := if h = 0 ∨ n = 0 then 0 else if h < 0 ∨ n < 0 then -1 else if 1048576 < h * n then -1 else h * n
theorem ZvN (h : Int) : ZcA h = some (if 1048576 < h then -1 else h) := by
 apply ZqU
 unfold Zf5 Zc6
 by_cases c : 1048576 < h
 ·rw [if_pos (Z2j c), if_pos c]
 ·rw [if_neg (Z25 c), if_neg c]
theorem ZFH (a b : Int) (ha : -1 ≤ a ∧ a ≤ 1048576) (hb : -1 ≤ b ∧ b ≤ 1048576) : ZgF a b = some (sumF a b) := by
 apply Zs6
 unfold ZgD sumF ZaY Zd1
 by_cases h1 : a < 0
 ·rw [if_pos (Z2j h1), if_pos (.inl h1)]
 by_cases h2 : b < 0
 ·rw [if_neg (Z25 h1), if_pos (Z2j h2), if_pos (.inr h2)]
 rw [if_neg (Z25 h1), if_neg (Z25 h2), if_neg (show ¬ (a < 0 ∨ b < 0) by omega), wrap_i64 (by omega) (by omega), ZvN]
 rfl
theorem ZFG {a b l m : Int} (h1 : Wok l a) (h2 : Wok m b) : Wok (min (l + m) 1048576) (sumF a b) := by
 unfold Wok at *
 unfold sumF
 split
 ·omega
 split
 ·omega
 ·omega
theorem Zbh {a b x y : Int} (h1 : 0 ≤ a ∧ a ≤ x) (h2 : 0 ≤ b ∧ b ≤ y) : 0 ≤ a * b ∧ a * b ≤ x * y :=
 ⟨Int.mul_nonneg h1.1 h2.1, Int.mul_le_mul h1.2 h2.2 h2.1 (Zny h1.1 h1.2)⟩
theorem ZCW (h n : Int) (hh : -1 ≤ h ∧ h ≤ 1048576) (hn : -1 ≤ n ∧ n ≤ 64) : ZbO h n = some (Zld h n) := by
 apply Zp8
 unfold Zec Zld Z9t Zbq Z9u Zbr
 by_cases h1 : h = 0
 ·rw [if_pos (Z29 h1), if_pos (.inl h1)]
 by_cases h2 : n = 0
 ·rw [if_neg (Z28 h1), if_pos (Z29 h2), if_pos (.inr h2)]
 rw [if_neg (Z28 h1), if_neg (Z28 h2), if_neg (show ¬ (h = 0 ∨ n = 0) by omega)]
 by_cases h3 : h < 0
 ·rw [if_pos (Z2j h3), if_pos (.inl h3)]
 by_cases h4 : n < 0
 ·rw [if_neg (Z25 h3), if_pos (Z2j h4), if_pos (.inr h4)]
 have hb := Zbh (a := h) (b := n) (x := 1048576) (y := 64) (by omega) (by omega)
 rw [if_neg (Z25 h3), if_neg (Z25 h4), if_neg (show ¬ (h < 0 ∨ n < 0) by omega), wrap_i64 (by omega) (by omega), ZvN]
 rfl

structure Sh where
 lo : Int
 hi : Int
 sz : Int
 bd : Bool
def Sh.Ok (v : Sh) : Prop := Wok v.lo v.hi ∧ 0 ≤ v.sz ∧ v.sz ≤ 1048576
def catS (c v : Sh) : Sh := ⟨min (c.lo + v.lo) 1048576, sumF c.hi v.hi, min (c.sz + v.sz) 1048576, c.bd && v.bd⟩
def altS (c v : Sh) : Sh := ⟨min c.lo v.lo, if v.hi < 0 ∨ c.hi < 0 then -1 else max c.hi v.hi, min (c.sz + v.sz) 1048576, c.bd && v.bd⟩
def cat0 : Sh := ⟨0, 0, 0, true⟩
def alt0 : Sh := ⟨1048576, 0, 0, true⟩
def repZ (lo hi m c : Int) : Int := min (lo * c + (if hi < 0 then c + 4 else (hi - lo) * (c + 1)) + (if m = 2 then 2 else 0)) 1048576
def Zz5 (m : Int) (v : Sh) : Bool := v.bd && (decide (m < 2) || (decide (0 ≤ v.hi) && decide (v.hi ≤ 32)))
inductive Shp : Z9 → Sh → Prop
 | none : Shp nd0 ⟨0, 0, 0, true⟩
 | set (l : List R2) : Shp (setN l) ⟨1, 1, 1, true⟩
 | cat (l : List Z9) (V : List Sh) : l.length ≤ 3000 → V.length = l.length → (∀ (i : Nat) (x : Z9) (v : Sh), l[i]? = some x → V[i]? = some v → Shp x v) → Shp ⟨2, 0, 0, 0, 0, [], l⟩ (V.foldl catS cat0)
 | alt (l : List Z9) (V : List Sh) : l.length ≤ 3000 → 2 ≤ l.length → V.length = l.length → (∀ (i : Nat) (x : Z9) (v : Sh), l[i]? = some x → V[i]? = some v → Shp x v) →
   Shp ⟨3, 0, 0, 0, 0, [], l⟩ { V.foldl altS alt0 with sz := min ((V.foldl altS alt0).sz + 2 * ((l.length : Int) - 1)) 1048576 }
 | rep (lo hi m : Int) (x : Z9) (v : Sh) : 0 ≤ lo ∧ lo ≤ 64 → hi = -1 ∨ (lo ≤ hi ∧ hi ≤ 64) → Shp x v → Shp ⟨4, lo, hi, m, 0, [], [x]⟩ ⟨min (v.lo * lo) 1048576, Zld v.hi hi, repZ lo hi m v.sz, v.bd⟩
 | group (r : Int) (x : Z9) (v : Sh) : Shp x v → Shp ⟨5, 0, 0, 0, r, [], [x]⟩ { v with sz := min (v.sz + 2) 1048576 }
 | back (r : Int) : Shp ⟨6, 0, 0, 0, r, [], []⟩ ⟨0, -1, 1, true⟩
 | look (m : Int) (x : Z9) (v : Sh) : Shp x v → Shp ⟨7, 0, 0, m, 0, [], [x]⟩ ⟨0, 0, min (v.sz + 2) 1048576, Zz5 m v⟩
 | atomic (x : Z9) (v : Sh) : Shp x v → Shp ⟨8, 0, 0, 0, 0, [], [x]⟩ { v with sz := min (v.sz + 2) 1048576 }
 | edge (k : Int) : Shp (edge k) ⟨0, 0, 1, true⟩
theorem ZDJ {l : List Z9} (h : ∀ x ∈ l, ∃ v, Shp x v) : ∃ V : List Sh, V.length = l.length ∧ ∀ (i : Nat) (x : Z9) (v : Sh), l[i]? = some x → V[i]? = some v → Shp x v := by
 induction l with
 | nil => exact ⟨[], rfl, by simp⟩
 | cons y r ih =>
  obtain ⟨v, hv⟩ := h y (ZbH ..)
  obtain ⟨V, h1, h2⟩ := ih fun x hx => h x (ZcP _ hx)
  refine ⟨v :: V, by simp [h1], fun i x u hx hu => ?_⟩
  cases i with
  | zero => simp at hx hu; subst hx hu; exact hv
  | succ i => exact h2 i x u (by simpa using hx) (by simpa using hu)
theorem ZDz {n : Z9} (h : Good n) : ∃ v, Shp n v := by
 induction h with
 | none => exact ⟨_, .none⟩
 | set l _ => exact ⟨_, .set l⟩
 | row k l hk h2 h3 _ ih =>
  obtain ⟨V, q1, q2⟩ := ZDJ ih
  rcases hk with rfl | rfl
  ·exact ⟨_, .cat l V h3 q1 q2⟩
  ·exact ⟨_, .alt l V h3 h2 q1 q2⟩
 | rep lo hi m x h1 h2 _ _ ih => obtain ⟨v, hv⟩ := ih; exact ⟨_, .rep lo hi m x v h1 h2 hv⟩
 | group r x _ _ ih => obtain ⟨v, hv⟩ := ih; exact ⟨_, .group r x v hv⟩
 | back r _ => exact ⟨_, .back r⟩
 | look m x _ _ ih => obtain ⟨v, hv⟩ := ih; exact ⟨_, .look m x v hv⟩
 | atomic x _ ih => obtain ⟨v, hv⟩ := ih; exact ⟨_, .atomic x v hv⟩
 | edge k _ => exact ⟨_, .edge k⟩
theorem Zx1 {c v : Sh} (hc : c.Ok) (hv : v.Ok) : (catS c v).Ok := by
 obtain ⟨h1, h2⟩ := hc
 obtain ⟨h3, h4⟩ := hv
 exact ⟨ZFG h1 h3, by simp only [catS]; omega, by simp only [catS]; omega⟩
theorem Zov : ∀ (V : List Sh) (c : Sh), c.Ok → (∀ v ∈ V, v.Ok) → (V.foldl catS c).Ok
 | [], _, hc, _ => hc
 | v :: V, c, hc, h => Zov V _ (Zx1 hc (h v (ZbH ..))) fun u hu => h u (ZcP _ hu)
theorem w00 : Wok 0 0 := by unfold Wok; omega
theorem w11 : Wok 1 1 := by unfold Wok; omega
theorem w0n : Wok 0 (-1) := by unfold Wok; omega
theorem Zx0 : cat0.Ok := ⟨w00, by simp [cat0], by simp [cat0]⟩
def ZEu (c : Sh) : Prop := c.Ok ∨ (c.lo = 1048576 ∧ c.hi = 0 ∧ c.sz = 0)
theorem ZF1 {c v : Sh} (hc : ZEu c) (hv : v.Ok) : (altS c v).Ok := by
 obtain ⟨h3, h4⟩ := hv
 unfold Wok at h3
 have hb : ((0 ≤ c.lo ∧ c.lo ≤ 1048576 ∧ -1 ≤ c.hi ∧ c.hi ≤ 1048576 ∧ (c.hi < 0 ∨ c.lo ≤ c.hi)) ∨ (c.lo = 1048576 ∧ c.hi = 0)) ∧ 0 ≤ c.sz ∧ c.sz ≤ 1048576 := by
  rcases hc with ⟨h1, h2⟩ | ⟨h1, h2, h3⟩
  ·unfold Wok at h1; exact ⟨.inl h1, h2⟩
  ·exact ⟨.inr ⟨h1, h2⟩, by omega⟩
 unfold Sh.Ok Wok altS
 dsimp only
 split <;> omega
theorem Zor : ∀ (V : List Sh) (c : Sh), V ≠ [] → ZEu c → (∀ v ∈ V, v.Ok) → (V.foldl altS c).Ok := by
 intro V
 induction V with
 | nil => intro c h; exact absurd rfl h
 | cons v V ih =>
  intro c _ hc h
  have h1 := ZF1 hc (h v (ZbH ..))
  by_cases hV : V = []
  ·subst hV; exact h1
  ·exact ih _ hV (.inl h1) fun u hu => h u (ZcP _ hu)
theorem ZId {lo hi m : Int} {v : Sh} (h1 : 0 ≤ lo ∧ lo ≤ 64) (h2 : hi = -1 ∨ (lo ≤ hi ∧ hi ≤ 64)) (hv : v.Ok) : (⟨min (v.lo * lo) 1048576, Zld v.hi hi, repZ lo hi m v.sz, v.bd⟩ : Sh).Ok := by
 obtain ⟨w, z0, z1⟩ := hv
 unfold Wok at w
 have hb := Zbh (a := v.lo) (b := lo) (x := 1048576) (y := 64) (by omega) (by omega)
 have hc := Zbh (a := lo) (b := v.sz) (x := 64) (y := 1048576) (by omega) (by omega)
 refine ⟨?_, ?_, ?_⟩
 ·show Wok (min (v.lo * lo) 1048576) (Zld v.hi hi)
  unfold Zld
  split
  ·rename_i hc
   have : v.lo * lo = 0 := by
    rcases hc with hc | hc
    ·have : v.lo = 0 := by omega
     rw [this, Int.zero_mul]
    ·have : lo = 0 := by omega
     rw [this, Int.mul_zero]
   unfold Wok
   omega
  split
  ·unfold Wok; omega
  split
  ·unfold Wok; omega
  ·have hb2 := Zbh (a := v.lo) (b := lo) (x := v.hi) (y := hi) (by omega) (by omega)
   unfold Wok
   omega
 ·show 0 ≤ repZ lo hi m v.sz
  unfold repZ
  split
  ·split <;> omega
  ·have hb2 := Zbh (a := hi - lo) (b := v.sz + 1) (x := 64) (y := 1048577) (by omega) (by omega)
   split <;> omega
 ·show repZ lo hi m v.sz ≤ 1048576
  unfold repZ
  omega
theorem ZcQ {n : Z9} {v : Sh} (h : Shp n v) : v.Ok := by
 have z : Wok 0 0 := by unfold Wok; omega
 have mem : ∀ {l : List Z9} {V : List Sh}, V.length = l.length → (∀ (i : Nat) (x : Z9) (v : Sh), l[i]? = some x → V[i]? = some v → v.Ok) → ∀ v ∈ V, v.Ok := by
  intro l V h1 h2 v hv
  obtain ⟨i, hi⟩ := ZcO.1 hv
  have hil : i < l.length := by have := (q2_.1 hi).1; omega
  exact h2 i _ v (q4_ hil) hi
 induction h with
 | none => exact ⟨z, by simp, by simp⟩
 | set l => exact ⟨w11, by simp, by simp⟩
 | cat l V _ h1 _ ih => exact Zov V _ Zx0 (mem h1 ih)
 | alt l V _ h2 h1 _ ih =>
  have := Zor V alt0 (by rintro rfl; simp at h1; omega) (.inr ⟨rfl, rfl, rfl⟩) (mem h1 ih)
  obtain ⟨q1, q2, q3⟩ := this
  exact ⟨q1, by simp only []; omega, by simp only []; omega⟩
 | rep lo hi m x v h1 h2 _ ih => exact ZId h1 h2 ih
 | group r x v _ ih => exact ⟨ih.1, by have := ih.2; simp only []; omega, by simp only []; omega⟩
 | back r => exact ⟨w0n, by simp, by simp⟩
 | look m x v _ ih => exact ⟨z, by have := ih.2; simp only []; omega, by simp only []; omega⟩
 | atomic x v _ ih => exact ⟨ih.1, by have := ih.2; simp only []; omega, by simp only []; omega⟩
 | edge k => exact ⟨z, by simp, by simp⟩
def Kid {α : Type} (f : Z9 → Option α) (g : Sh → α) (K : List Z9) (V : List Sh) : Prop := ∀ (i : Nat) (x : Z9) (v : Sh), K[i]? = some x → V[i]? = some v → f x = some (g v)
theorem ZwC (K : List Z9) (V : List Sh) (hl : K.length ≤ 3000) (hV : V.length = K.length) (hK : Kid Z3g (fun v => (v.lo, v.hi)) K V) (hO : ∀ v ∈ V, v.Ok) : ∀ (m i : Nat) (c : Sh), i + m = K.length → c.Ok →
  Z9x c.lo c.hi K (K.length : Int) (i : Int) = some (((V.drop i).foldl catS c).lo, ((V.drop i).foldl catS c).hi) := by
 intro m
 induction m with
 | zero =>
  intro i c h hc
  apply ZfR
  unfold Z9s
  rw [if_neg (Z25 (by omega)), Zgq (by omega)]
  rfl
 | succ m ih =>
  intro i c h hc
  have hil : i < K.length := by omega
  have hv : V[i]? = some V[i] := q4_ (by omega)
  have e1 := hK i K[i] V[i] (q4_ hil) hv
  have hvo := hO V[i] (ZlZ _)
  have hb := hc.1
  have hb2 := hvo.1
  unfold Wok at hb hb2
  have e2 := ih (i + 1) _ (by omega) (Zx1 hc hvo)
  apply ZfR
  unfold Z9s Zbp
  rw [if_pos (Z2j (by omega)), Z3X, q4_ hil, ZW, e1, ZW, ZFH _ _ (by omega) (by simp only []; omega), ZW]
  dsimp only
  rw [wrap_i64 (n := c.lo + V[i].lo) (by omega) (by omega), wrap_i64 (n := (i : Int) + 1) (by omega) (by omega), Zgr (show i < V.length by omega), ZdG]
  exact e2
theorem Zwv (K : List Z9) (V : List Sh) (hl : K.length ≤ 3000) (hV : V.length = K.length) (hK : Kid Z3g (fun v => (v.lo, v.hi)) K V) : ∀ (m i : Nat) (c : Sh), i + m = K.length →
  Z90 c.lo c.hi K (K.length : Int) (i : Int) = some (((V.drop i).foldl altS c).lo, ((V.drop i).foldl altS c).hi) := by
 intro m
 induction m with
 | zero =>
  intro i c h
  apply Zff
  unfold Z8W
  rw [if_neg (Z25 (by omega)), Zgq (by omega)]
  rfl
 | succ m ih =>
  intro i c h
  have hil : i < K.length := by omega
  have hv : V[i]? = some V[i] := q4_ (by omega)
  have e1 := hK i K[i] V[i] (q4_ hil) hv
  have e2 := ih (i + 1) (altS c V[i]) (by omega)
  apply Zff
  unfold Z8W ZaI Z8X ZaJ Z8Y
  rw [if_pos (Z2j (by omega)), Z3X, q4_ hil, ZW, e1, ZW]
  dsimp only
  rw [wrap_i64 (n := (i : Int) + 1) (by omega) (by omega), Zgr (show i < V.length by omega), ZdG]
  unfold altS at e2 ⊢
  dsimp only at e2
  by_cases c1 : V[i].hi < 0
  ·rw [if_pos (Z2j c1)]
   rw [if_pos (.inl c1)] at e2
   simp only [c1, true_or, if_true]
   exact e2
  by_cases c2 : c.hi < 0
  ·rw [if_neg (Z25 c1), if_pos (Z2j c2)]
   rw [if_pos (.inr c2)] at e2
   simp only [c2, or_true, if_true]
   exact e2
  ·rw [if_neg (Z25 c1), if_neg (Z25 c2)]
   rw [if_neg (show ¬ (V[i].hi < 0 ∨ c.hi < 0) by omega)] at e2
   simp only [c1, c2, or_self, if_false]
   exact e2
theorem ZsO {n : Z9} {v : Sh} (h : Shp n v) : Z3g n = some (v.lo, v.hi) := by
 have top : ∀ {n : Z9} {r}, Zeb n = some r → Z3g n = some r := fun e => Zp6 _ e
 have mem : ∀ {l : List Z9} {V : List Sh}, V.length = l.length → (∀ (i : Nat) (x : Z9) (v : Sh), l[i]? = some x → V[i]? = some v → Shp x v) → ∀ v ∈ V, v.Ok := by
  intro l V h1 h2 v hv
  obtain ⟨i, hi⟩ := ZcO.1 hv
  have hil : i < l.length := by have := (q2_.1 hi).1; omega
  exact ZcQ (h2 i _ v (q4_ hil) hi)
 induction h with
 | none => exact top rfl
 | set l => exact top rfl
 | back r => exact top rfl
 | edge k => exact top rfl
 | look m x v _ _ => exact top rfl
 | group r x v _ ih =>
  refine top ?_
  show ((lget [x] 0).bind fun a4 => (Z3g a4).bind fun r5 => some (r5.1, r5.2)) = _
  rw [show lget [x] 0 = some x from rfl, ZW, ih]
  rfl
 | atomic x v _ ih =>
  refine top ?_
  show ((lget [x] 0).bind fun a4 => (Z3g a4).bind fun r5 => some (r5.1, r5.2)) = _
  rw [show lget [x] 0 = some x from rfl, ZW, ih]
  rfl
 | cat l V hl h1 h2 ih => exact top (ZwC l V hl h1 ih (mem h1 h2) l.length 0 cat0 (by omega) Zx0)
 | alt l V hl _ h1 _ ih => exact top (Zwv l V hl h1 ih l.length 0 alt0 (by omega))
 | rep lo hi m x v h1 h2 hx ih =>
  have w := (ZcQ hx).1
  unfold Wok at w
  have hb := Zbh (a := v.lo) (b := lo) (x := 1048576) (y := 64) (by omega) (by omega)
  refine top ?_
  show ((lget [x] 0).bind fun a1 => (Z3g a1).bind fun r2 => (ZbO r2.2 hi).bind fun r3 => some ((min (IntKind.i64.wrap (r2.1 * lo)) 1048576), r3)) = _
  rw [show lget [x] 0 = some x from rfl, ZW, ih, ZW, ZCW _ _ (by simp only []; omega) (by omega), ZW]
  dsimp only
  rw [wrap_i64 (by omega) (by omega)]
theorem Zkg (n : Z9) (K : List Z9) (S : List Int) (hl : K.length ≤ 3000) (hV : S.length = K.length) (hK : ∀ (i : Nat) (x : Z9) (s : Int), K[i]? = some x → S[i]? = some s → Z5W x = some s ∧ 0 ≤ s ∧ s ≤ 1048576) : ∀ (m i : Nat) (c : Int), i + m = K.length → 0 ≤ c ∧ c ≤ 1048576 →
  ∀ r, Z5q ((S.drop i).foldl (fun c s => min (c + s) 1048576) c) n = some r → Z6r c K (K.length : Int) (i : Int) n = some r := by
 intro m
 induction m with
 | zero =>
  intro i c h hc r e
  rw [Zgq (by omega)] at e
  apply Zhk
  unfold Zaf
  rw [if_neg (Z25 (by omega))]
  exact e
 | succ m ih =>
  intro i c h hc r e
  have hil : i < K.length := by omega
  obtain ⟨e1, v0, v1⟩ := hK i K[i] S[i] (q4_ hil) (q4_ (by omega))
  rw [Zgr (show i < S.length by omega), ZdG] at e
  apply Zhk
  unfold Zaf Zc4
  rw [if_pos (Z2j (by omega)), Z3X, q4_ hil, ZW, e1, ZW, wrap_i64 (n := c + S[i]) (by omega) (by omega), wrap_i64 (n := (i : Int) + 1) (by omega) (by omega)]
  exact ih (i + 1) _ (by omega) (by omega) r e
theorem Zm8 {n x : Z9} {s r : Int} (hk : n.Kids = [x]) (h : Z5W x = some s ∧ 0 ≤ s ∧ s ≤ 1048576) (e : Z5q s n = some r) : Z5W n = some r := by
 apply Zfe
 show Z6r 0 n.Kids (n.Kids.length : Int) 0 n = some r
 rw [hk]
 refine Zkg n [x] [s] (by simp) rfl ?_ 1 0 0 rfl (by omega) r ?_
 ·intro i y t hy ht
  cases i with
  | zero => simp at hy ht; subst hy ht; exact h
  | succ i => simp at hy
 ·show Z5q (min (0 + s) 1048576) n = some r
  rw [show min (0 + s) 1048576 = s by omega]
  exact e
theorem ZjT {n : Z9} {r : Int} (hk : n.Kids = []) (e : Z5q 0 n = some r) : Z5W n = some r := by
 apply Zfe
 show Z6r 0 n.Kids (n.Kids.length : Int) 0 n = some r
 rw [hk]
 exact Zkg n [] [] (by simp) rfl (by simp) 0 0 0 rfl (by omega) r e
theorem Zoz : ∀ (V : List Sh) (c : Sh), (V.map Sh.sz).foldl (fun c s => min (c + s) 1048576) c.sz = (V.foldl catS c).sz
 | [], _ => rfl
 | v :: V, c => Zoz V (catS c v)
theorem Zoy : ∀ (V : List Sh) (c : Sh), (V.map Sh.sz).foldl (fun c s => min (c + s) 1048576) c.sz = (V.foldl altS c).sz
 | [], _ => rfl
 | v :: V, c => Zoy V (altS c v)
theorem Zwl {n : Z9} {l : List Z9} {V : List Sh} {r : Int} (hk : n.Kids = l) (hl : l.length ≤ 3000) (h1 : V.length = l.length) (h : ∀ (i : Nat) (x : Z9) (v : Sh), l[i]? = some x → V[i]? = some v → Z5W x = some v.sz ∧ v.Ok)
  (e : Z5q ((V.map Sh.sz).foldl (fun c s => min (c + s) 1048576) 0) n = some r) : Z5W n = some r := by
 apply Zfe
 show Z6r 0 n.Kids (n.Kids.length : Int) 0 n = some r
 rw [hk]
 refine Zkg n l (V.map Sh.sz) hl (by simp [h1]) ?_ l.length 0 0 (by omega) (by omega) r e
 intro i x s hx hs
 rw [q8_] at hs
 obtain ⟨v, hv, rfl⟩ := q6_.1 hs
 obtain ⟨q1, q2⟩ := h i x v hx hv
 exact ⟨q1, q2.2⟩
theorem Zji (c : Int) : Z1u c = some (min c 1048576) := rfl
theorem ZEj {n : Z9} {v : Sh} (h : Shp n v) : Z5W n = some v.sz := by
 induction h with
 | none => exact ZjT rfl rfl
 | set l => exact ZjT rfl rfl
 | back r => exact ZjT rfl rfl
 | edge k => exact ZjT rfl rfl
 | look m x v hx ih =>
  have ok := ZcQ hx
  obtain ⟨_, z0, z1⟩ := ok
  refine Zm8 rfl ⟨ih, z0, z1⟩ ?_
  show Z1u (IntKind.i64.wrap (v.sz + 2)) = _
  rw [wrap_i64 (by omega) (by omega), Zji]
 | group r x v hx ih =>
  have ok := ZcQ hx
  obtain ⟨_, z0, z1⟩ := ok
  refine Zm8 rfl ⟨ih, z0, z1⟩ ?_
  show Z1u (IntKind.i64.wrap (v.sz + 2)) = _
  rw [wrap_i64 (by omega) (by omega), Zji]
 | atomic x v hx ih =>
  have ok := ZcQ hx
  obtain ⟨_, z0, z1⟩ := ok
  refine Zm8 rfl ⟨ih, z0, z1⟩ ?_
  show Z1u (IntKind.i64.wrap (v.sz + 2)) = _
  rw [wrap_i64 (by omega) (by omega), Zji]
 | cat l V hl h1 h2 ih =>
  refine Zwl rfl hl h1 (fun i x v hx hv => ⟨ih i x v hx hv, ZcQ (h2 i x v hx hv)⟩) ?_
  have ok : (V.foldl catS cat0).Ok := ZcQ (.cat l V hl h1 h2)
  have e := Zoz V cat0
  rw [show cat0.sz = 0 from rfl] at e
  rw [e]
  show Z1u _ = _
  obtain ⟨_, z0, z1⟩ := ok
  rw [Zji, show min (V.foldl catS cat0).sz 1048576 = (V.foldl catS cat0).sz by omega]
 | alt l V hl h0 h1 h2 ih =>
  refine Zwl rfl hl h1 (fun i x v hx hv => ⟨ih i x v hx hv, ZcQ (h2 i x v hx hv)⟩) ?_
  have e := Zoy V alt0
  rw [show alt0.sz = 0 from rfl] at e
  rw [e]
  have ok : (V.foldl altS alt0).Ok := by
   refine Zor V alt0 (by rintro rfl; simp at h1; omega) (.inr ⟨rfl, rfl, rfl⟩) ?_
   intro v hv
   obtain ⟨i, hi⟩ := ZcO.1 hv
   have hil : i < l.length := by have := (q2_.1 hi).1; omega
   exact ZcQ (h2 i _ v (q4_ hil) hi)
  obtain ⟨_, z0, z1⟩ := ok
  show Z1u (IntKind.i64.wrap ((V.foldl altS alt0).sz + IntKind.i64.wrap (2 * IntKind.i64.wrap ((l.length : Int) - 1)))) = _
  rw [wrap_i64 (n := (l.length : Int) - 1) (by omega) (by omega), wrap_i64 (n := 2 * ((l.length : Int) - 1)) (by omega) (by omega), wrap_i64 (by omega) (by omega), Zji]
 | rep lo hi m x v q1 q2 hx ih =>
  have ok := ZcQ hx
  obtain ⟨_, z0, z1⟩ := ok
  refine Zm8 rfl ⟨ih, z0, z1⟩ ?_
  have r24 : ∀ z, 0 ≤ z → z ≤ 1000000000 → Z1M z ⟨4, lo, hi, m, 0, [], [x]⟩ = some (min (z + (if m = 2 then 2 else 0)) 1048576) := by
   intro z z0 z1
   unfold Z1M
   dsimp only
   by_cases hm : m = 2
   ·rw [if_pos (Z29 hm), if_pos hm, wrap_i64 (by omega) (by omega), Zji]
   ·rw [if_neg (Z28 hm), if_neg hm, Zji, Int.add_zero]
  have hb := Zbh (a := lo) (b := v.sz) (x := 64) (y := 1048576) (by omega) (by omega)
  generalize v.sz = c at *
  have e : Z5q c ⟨4, lo, hi, m, 0, [], [x]⟩ = (if ((decide (hi < 0))) = true then (Z1M ((IntKind.i64.wrap ((IntKind.i64.wrap (lo * c)) + (IntKind.i64.wrap (c + 4))))) ⟨4, lo, hi, m, 0, [], [x]⟩) else (Z1M ((IntKind.i64.wrap ((IntKind.i64.wrap (lo * c)) + (IntKind.i64.wrap ((IntKind.i64.wrap (hi - lo)) * (IntKind.i64.wrap (c + 1))))))) ⟨4, lo, hi, m, 0, [], [x]⟩)) := rfl
  rw [e]
  show _ = some (repZ lo hi m c)
  unfold repZ
  by_cases hh : hi < 0
  ·rw [if_pos (Z2j hh), if_pos hh, wrap_i64 (n := lo * c) (by omega) (by omega), wrap_i64 (n := c + 4) (by omega) (by omega), wrap_i64 (by omega) (by omega)]
   exact r24 _ (by omega) (by omega)
  ·have hb2 := Zbh (a := hi - lo) (b := c + 1) (x := 64) (y := 1048577) (by omega) (by omega)
   rw [if_neg (Z25 hh), if_neg hh, wrap_i64 (n := lo * c) (by omega) (by omega), wrap_i64 (n := hi - lo) (by omega) (by omega), wrap_i64 (n := c + 1) (by omega) (by omega), wrap_i64 (n := (hi - lo) * (c + 1)) (by omega) (by omega), wrap_i64 (by omega) (by omega)]
   exact r24 _ (by omega) (by omega)
theorem ZFh (K : List Z9) (V : List Sh) (hl : K.length ≤ 3000) (hV : V.length = K.length) (hK : Kid Z4f Sh.bd K V) : ∀ (m i : Nat), i + m = K.length →
  ∃ r, Z4g K (K.length : Int) (i : Int) = some r ∧ decide (0 ≤ r) = !(V.drop i).all Sh.bd := by
 intro m
 induction m with
 | zero =>
  intro i h
  refine ⟨-1, ?_, by rw [Zgq (by omega)]; rfl⟩
  apply Z6B
  unfold Z3B
  rw [if_neg (Z25 (by omega))]
  rfl
 | succ m ih =>
  intro i h
  have hil : i < K.length := by omega
  have hv : V[i]? = some V[i] := q4_ (by omega)
  have e1 := hK i K[i] V[i] (q4_ hil) hv
  obtain ⟨r, e2, e3⟩ := ih (i + 1) (by omega)
  have hd : V.drop i = V[i] :: V.drop (i + 1) := Zgr (by omega)
  have hb1 : ZaM K[i] = some (!V[i].bd) := by
   apply ZlA
   unfold ZaK
   rw [e1]
   rfl
  rw [hd]
  cases hbd : V[i].bd with
  | false =>
   refine ⟨i, ?_, by rw [List.all_cons, hbd, Bool.false_and]; simp⟩
   apply Z6B
   unfold Z3B Z4b
   rw [if_pos (Z2j (by omega)), Z3X, q4_ hil, ZW, hb1, ZW, hbd, if_pos (by rfl)]
  | true =>
   refine ⟨r, ?_, by rw [List.all_cons, hbd, Bool.true_and]; exact e3⟩
   apply Z6B
   unfold Z3B Z4b Z5s
   rw [if_pos (Z2j (by omega)), Z3X, q4_ hil, ZW, hb1, ZW, hbd, if_neg (by simp), wrap_i64 (n := (i : Int) + 1) (by omega) (by omega)]
   exact e2
theorem r5_b {n : Z9} {K : List Z9} {V : List Sh} (hk : n.Kids = K) (hl : K.length ≤ 3000) (hV : V.length = K.length) (hK : Kid Z4f Sh.bd K V) : Z3M n = some (V.all Sh.bd) := by
 obtain ⟨r, e1, e2⟩ := ZFh K V hl hV hK K.length 0 (by omega)
 have e3 : Z5v n.Kids = some (!V.all Sh.bd) := by
  apply Ze0
  unfold Z5r
  have : Z6s n.Kids = some r := by
   apply Zfj
   unfold Z6q
   rw [hk]
   exact e1
  rw [this, ZW, e2]
  rfl
 unfold Z3M
 rw [e3, ZW, Bool.not_not]
theorem ZzJ : ∀ (V : List Sh) (c : Sh), (V.foldl catS c).bd = (c.bd && V.all Sh.bd)
 | [], c => by simp
 | v :: V, c => by rw [ZdG, ZzJ V, List.all_cons]; simp [catS, Bool.and_assoc]
theorem ZzA : ∀ (V : List Sh) (c : Sh), (V.foldl altS c).bd = (c.bd && V.all Sh.bd)
 | [], c => by simp
 | v :: V, c => by rw [ZdG, ZzA V, List.all_cons]; simp [altS, Bool.and_assoc]
theorem ZFj {x : Z9} {v : Sh} (h : Z4f x = some v.bd) : Kid Z4f Sh.bd [x] [v] := by
 intro i y u hy hu
 cases i with
 | zero => simp at hy hu; subst hy hu; exact h
 | succ i => simp at hy
theorem Zwy {n : Z9} {v : Sh} (h : Shp n v) : Z4f n = some v.bd := by
 have top : ∀ {n : Z9} {r}, Zc5 n = some r → Z4f n = some r := fun e => Zn9 _ e
 have one : ∀ {n x : Z9} {v : Sh}, n.Kids = [x] → Z4f x = some v.bd → Z3M n = some v.bd := by
  intro n x v h1 h2
  have := r5_b h1 (by simp) rfl (ZFj h2)
  simpa using this
 have zero : ∀ {n : Z9}, n.Kids = [] → Z3M n = some true := fun h1 => r5_b (V := []) h1 (by simp) rfl (fun i x v hx => by simp at hx)
 induction h with
 | none => exact top (zero rfl)
 | set l => exact top (zero rfl)
 | back r => exact top (zero rfl)
 | edge k => exact top (zero rfl)
 | group r x v _ ih => exact top (one rfl ih)
 | atomic x v _ ih => exact top (one rfl ih)
 | rep lo hi m x v _ _ _ ih => exact top (one rfl ih)
 | cat l V hl h1 _ ih =>
  refine top (Eq.trans (r5_b rfl hl h1 ih) ?_)
  rw [ZzJ]
  rfl
 | alt l V hl _ h1 _ ih =>
  refine top (Eq.trans (r5_b rfl hl h1 ih) ?_)
  show _ = some (V.foldl altS alt0).bd
  rw [ZzA]
  rfl
 | look m x v hx ih =>
  refine top ?_
  have hw := ZsO hx
  have o := one (n := ⟨7, 0, 0, m, 0, [], [x]⟩) rfl ih
  show (if (decide (2 ≤ m)) = true then Z8n ⟨7, 0, 0, m, 0, [], [x]⟩ else Z3M ⟨7, 0, 0, m, 0, [], [x]⟩) = some (Zz5 m v)
  unfold Zz5
  by_cases h2 : 2 ≤ m
  ·rw [if_pos (Z2j h2), decide_eq_false (show ¬ m < 2 by omega), Bool.false_or]
   unfold Z8n Z8o
   rw [show lget [x] 0 = some x from rfl, ZW, hw, ZW]
   dsimp only
   by_cases h3 : v.hi < 0
   ·rw [if_pos (Z2j h3), decide_eq_false (show ¬ 0 ≤ v.hi by omega)]
    simp
   by_cases h4 : 32 < v.hi
   ·rw [if_neg (Z25 h3), if_pos (Z2j h4), decide_eq_false (show ¬ v.hi ≤ 32 by omega)]
    simp
   ·rw [if_neg (Z25 h3), if_neg (Z25 h4), decide_eq_true (show 0 ≤ v.hi by omega), decide_eq_true (show v.hi ≤ 32 by omega), o]
    simp
  ·rw [if_neg (Z25 h2), decide_eq_true (show m < 2 by omega), o]
   simp
def chkF (v : Sh) : Int := if v.bd = false then 27 else if 1997 < v.sz then 28 else 0
theorem Zsm {n : Z9} {v : Sh} (h : Shp n v) (g : Int) (f : Bool) : Zef ⟨n, g, f⟩ = some (chkF v) := by
 obtain ⟨_, z0, z1⟩ := ZcQ h
 apply Zp3
 unfold Zea Zbo chkF
 rw [Zwy h, ZW, ZEj h]
 cases v.bd with
 | false => rfl
 | true =>
  rw [if_neg (by simp), if_neg (by simp), ZW, wrap_i64 (by omega) (by omega)]
  by_cases c : 1997 < v.sz
  ·rw [if_pos (Z2j (by omega)), if_pos c]
  ·rw [if_neg (Z25 (by omega)), if_neg c]
theorem ZIg {l : List Z9} {x y : Z9} {a b : Sh} (hl : l = [x, y]) (hx : Shp x a) (hy : Shp y b) : ∀ (i : Nat) (z : Z9) (v : Sh), l[i]? = some z → [a, b][i]? = some v → Shp z v := by
 subst hl
 intro i z v hz hv
 match i, hz, hv with
 | 0, hz, hv => simp at hz hv; subst hz hv; exact hx
 | 1, hz, hv => simp at hz hv; subst hz hv; exact hy
 | i + 2, hz, hv => simp at hz
theorem ZF3 {x y : Z9} {a b : Sh} (hx : Shp x a) (hy : Shp y b) : Shp ⟨3, 0, 0, 0, 0, [], [x, y]⟩ { altS (altS alt0 a) b with sz := min ((altS (altS alt0 a) b).sz + 2 * ((2 : Int) - 1)) 1048576 } := .alt [x, y] [a, b] (by simp) (by simp) rfl (ZIg rfl hx hy)
end Go.Proofs.YtocikhhkicahoaaDoor.N2
end
