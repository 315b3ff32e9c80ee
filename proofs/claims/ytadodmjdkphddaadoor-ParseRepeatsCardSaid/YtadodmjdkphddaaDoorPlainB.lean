/- What the parser gives is right. No condition. -/
import Derived.Test.YtadodmjdkphddaaDoorPlain

section
set_option linter.unusedSimpArgs false
set_option linter.unusedVariables false
namespace Go.Proofs.YtadodmjdkphddaaDoor.N2
open Go Go.Abs Go.Proofs.Unis Go.Proofs.Norm
set_option maxRecDepth 100000
inductive Good : Z8 → Prop
 | none : Good nd0
 | set (l : List R2) : NormalF l → Good (setN l)
 | row (k : Int) (l : List Z8) : k = 2 ∨ k = 3 → 2 ≤ l.length → l.length ≤ 3000 → (∀ x ∈ l, Good x) → Good ⟨k, 0, 0, 0, 0, [], l⟩
 | rep (lo hi m : Int) (x : Z8) : 0 ≤ lo ∧ lo ≤ 64 → hi = -1 ∨ (lo ≤ hi ∧ hi ≤ 64) → 0 ≤ m ∧ m ≤ 2 → Good x → Good ⟨4, lo, hi, m, 0, [], [x]⟩
 | group (r : Int) (x : Z8) : 1 ≤ r ∧ r ≤ 9 → Good x → Good ⟨5, 0, 0, 0, r, [], [x]⟩
 | back (r : Int) : 1 ≤ r ∧ r ≤ 9 → Good ⟨6, 0, 0, 0, r, [], []⟩
 | look (m : Int) (x : Z8) : 0 ≤ m ∧ m ≤ 3 → Good x → Good ⟨7, 0, 0, m, 0, [], [x]⟩
 | atomic (x : Z8) : Good x → Good ⟨8, 0, 0, 0, 0, [], [x]⟩
 | edge (k : Int) : 0 ≤ k ∧ k ≤ 3 → Good (edge k)
theorem joined_good (k : Int) (hk : k = 2 ∨ k = 3) : ∀ l : List Z8, l.length ≤ 3000 → (∀ x ∈ l, Good x) → Good (joined k l)
 | [], _, _ => .none
 | [x], _, h => h x (List.mem_cons_self ..)
 | x :: y :: r, hl, h => .row k _ hk (by simp) hl h
theorem esc_good {l : List UInt8} {s s' : St} {p : Int} {n : Z8} (h : At l s) (e : pEsc p s = .ok n s') : Good n := by
 have hr := h.range
 unfold pEsc at e
 split at e
 ·simp at e
 rename_i hn
 have hu : 0 ≤ peek s.us ∧ peek s.us ≤ 1114367 := by
  rcases hr with ⟨_, h2⟩ | h2
  ·exact absurd h2 hn
  ·omega
 split at e
 ·cases e; exact .set _ (setR_normal _ (short_right _).2)
 split at e
 ·cases e; exact .edge 2 (by omega)
 split at e
 ·cases e; exact .edge 3 (by omega)
 split at e
 ·cases e; exact .back _ (by omega)
 ·cases hp : pPlain (peek s.us) p (take s) with
  | bad c q => rw [hp] at e; simp [Out.bind] at e
  | ok v s2 =>
   rw [hp] at e
   obtain ⟨_, hv⟩ := plain_nx h.take hu hp
   cases e
   exact .set _ (setR_normal _ (by simp; omega))
theorem class_good {l : List UInt8} (hl : l.length ≤ 1000) (p : Int) (no : Bool) : ∀ (k : Nat) (fst : Bool) (all : List R2) (s : St) (n : Z8) (s' : St), At l s → NormalF all → pClassL p no k fst all s = .ok n s' → Good n := by
 intro k
 induction k with
 | zero => intro fst all s n s' _ _ e; simp [pClassL] at e
 | succ k ih =>
  intro fst all s n s' h hall e
  unfold pClassL at e
  split at e
  ·simp at e
  rename_i hn
  split at e
  ·split at e
   ·simp at e
   ·cases e
    split
    ·exact .set _ (notF_normal hall)
    ·exact .set _ hall
  split at e
  ·simp at e
  have hm := mem_val h hl hn 0 0 []
  cases hp : pMem s with
  | bad c q => rw [hp] at e; simp [Out.bind] at e
  | ok m s1 =>
   rw [hp] at e hm
   obtain ⟨_, hnx, _, hm1, _, hm3⟩ := hm
   dsimp only [Out.bind] at e
   split at e
   ·split at e
    ·simp at e
    ·exact ih _ _ _ _ _ hnx.at_ (or_normal hall (setR_normal _ hm3)) e
   split at e
   ·exact ih _ _ _ _ _ hnx.at_ (or_normal hall (normal_one (by simp only []; omega))) e
   ·rename_i s2 hw
    obtain ⟨_, q2, _⟩ := word_some w45 hnx.at_ hl hw
    split at e
    ·simp at e
    rename_i hc
    have hn2 : s2.us ≠ [] := fun e => hc (.inl e)
    have hm' := mem_val q2.at_ hl hn2 0 0 []
    cases hp2 : pMem s2 with
    | bad c q => rw [hp2] at e; simp at e
    | ok m2 s3 =>
     rw [hp2] at e hm'
     obtain ⟨_, hnx', _, hm1', _, _⟩ := hm'
     dsimp only at e
     split at e
     ·simp at e
     ·rename_i hc2
      have : ¬ m2.1 < m.1 := fun e => hc2 (.inr e)
      exact ih _ _ _ _ _ hnx'.at_ (or_normal hall (normal_one (by simp only []; omega))) e
theorem fin_good {p lo hi : Int} {s s' : St} {c : Int × Int} (e : pFin p lo hi s = .ok c s') : (0 ≤ c.1 ∧ c.1 ≤ 64) ∧ c.1 ≤ c.2 ∧ c.2 ≤ 64 := by
 unfold pFin at e
 split at e
 ·simp at e
 split at e
 ·simp at e
 ·cases e
  simp only []
  omega
theorem counts_good {p : Int} {s s' : St} {c : Int × Int} (e : pCounts p s = .ok c s') : (0 ≤ c.1 ∧ c.1 ≤ 64) ∧ (c.2 = -1 ∨ (c.1 ≤ c.2 ∧ c.2 ≤ 64)) := by
 unfold pCounts at e
 split at e
 ·have := fin_good e; exact ⟨this.1, .inr this.2⟩
 split at e
 ·split at e
  ·simp at e
  split at e
  ·cases e
   exact ⟨by simp only []; omega, .inl rfl⟩
  ·simp at e
 ·have := fin_good e; exact ⟨this.1, .inr this.2⟩
theorem quant_good {kid n : Z8} {may : Bool} {p lo hi : Int} {s s' : St} (hk : Good kid) (h1 : 0 ≤ lo ∧ lo ≤ 64) (h2 : hi = -1 ∨ (lo ≤ hi ∧ hi ≤ 64)) (e : pQuant kid may p lo hi s = .ok n s') : Good n := by
 unfold pQuant at e
 split at e
 ·simp at e
 split at e
 ·cases e; exact .rep _ _ _ _ h1 h2 (by omega) hk
 split at e
 ·cases e; exact .rep _ _ _ _ h1 h2 (by omega) hk
 ·cases e; exact .rep _ _ _ _ h1 h2 (by omega) hk
theorem rep_good {kid n : Z8} {may : Bool} {s s' : St} (hk : Good kid) (e : pRep kid may s = .ok n s') : Good n := by
 unfold pRep at e
 split at e
 ·exact quant_good hk (by omega) (.inl rfl) e
 split at e
 ·exact quant_good hk (by omega) (.inl rfl) e
 split at e
 ·exact quant_good hk (by omega) (.inr (by omega)) e
 split at e
 ·rename_i s1 _
  cases hp : pCounts s.pos s1 with
  | bad c q => rw [hp] at e; simp [Out.bind] at e
  | ok c s2 =>
   rw [hp] at e
   have := counts_good hp
   exact quant_good hk this.1 this.2 e
 ·cases e; exact hk
section
variable {l : List UInt8} (hl : l.length ≤ 1000) {d : Int} {P : Int → St → Out (Z8 × Bool)} (HP : ∀ p s, Inv l s → AtmR l d s (P p s) (Z2T p (bl l) s.pos s.gr d s.rf 0 0))
 (HG : ∀ p s n s', Inv l s → P p s = .ok n s' → Good n.1)
include hl HG in
theorem atom_good {s s' : St} {n : Z8 × Bool} (h : Inv l s) (hn : s.us ≠ []) (e : pAtom P s = .ok n s') : Good n.1 := by
 have hu : 0 ≤ peek s.us ∧ peek s.us ≤ 1114367 := by
  rcases h.at_.range with ⟨_, h2⟩ | h2
  ·exact absurd h2 hn
  ·omega
 unfold pAtom at e
 split at e
 ·cases e; exact .set _ (setR_normal _ (by simp))
 split at e
 ·cases e; exact .edge 0 (by omega)
 split at e
 ·cases e; exact .edge 1 (by omega)
 split at e
 ·cases hp : pEsc s.pos (take s) with
  | bad c q => rw [hp] at e; simp [Out.bind] at e
  | ok m s2 =>
   rw [hp] at e
   cases e
   exact esc_good h.at_.take hp
 split at e
 ·cases hp : pClass s.pos (take s) with
  | bad c q => rw [hp] at e; simp [Out.bind] at e
  | ok m s2 =>
   rw [hp] at e
   cases e
   have n0 : NormalF [] := trivial
   unfold pClass at hp
   split at hp
   ·rename_i s1 hw
    exact class_good hl _ _ _ _ _ _ _ _ (word_some w94 h.at_.take hl hw).2.1.at_ n0 hp
   ·exact class_good hl _ _ _ _ _ _ _ _ h.at_.take n0 hp
 split at e
 ·exact HG _ _ _ _ (((take_nx h.at_).mv h).inv h) e
 split at e
 ·simp at e
 split at e
 ·simp at e
 ·cases e; exact .set _ (setR_normal _ (by simp; omega))
include hl HP HG in
theorem cat_good : ∀ (k : Nat) (kids : List Z8) (s : St) (n : Z8) (s' : St), Inv l s → kids.length + s.us.length ≤ 3000 → (∀ x ∈ kids, Good x) → pCatL P k kids s = .ok n s' → Good n := by
 intro k
 induction k with
 | zero => intro kids s n s' _ _ _ e; simp [pCatL] at e
 | succ k ih =>
  intro kids s n s' h hb hk e
  unfold pCatL at e
  split at e
  ·cases e; exact joined_good 2 (.inl rfl) kids (by omega) hk
  rename_i hs
  have hn : s.us ≠ [] := by
   intro e
   apply hs
   rw [e]
   rfl
  have hlt := take_lt h.at_ hn
  have hiv := ((take_nx h.at_).mv h).inv h
  have ha := atom_val hl HP h hn
  cases hp : pAtom P s with
  | bad c q => rw [hp] at e; simp [Out.bind] at e
  | ok m s1 =>
   rw [hp] at e ha
   have hm := ha.2
   have hr := rep_val hm.at_ hl m.1 m.2 0 0 []
   dsimp only [Out.bind] at e
   cases hp2 : pRep m.1 m.2 s1 with
   | bad c q => rw [hp2] at e; simp at e
   | ok n2 s2 =>
    rw [hp2] at e hr
    have hx := hr.2.mv (hm.inv hiv)
    have h1 := hm.len
    have h2 := hx.len
    have hg := rep_good (atom_good hl HG h hn hp) hp2
    refine ih _ _ _ _ (hx.inv (hm.inv hiv)) (by simp; omega) ?_ e
    intro x hx
    rcases List.mem_append.1 hx with hx | hx
    ·exact hk x hx
    ·simp at hx; subst hx; exact hg
include hl HP HG in
theorem altl_good : ∀ (k : Nat) (kids : List Z8) (s : St) (n : Z8) (s' : St), Inv l s → kids.length + s.us.length ≤ 3000 → (∀ x ∈ kids, Good x) → pAltL P k kids s = .ok n s' → Good n := by
 intro k
 induction k with
 | zero => intro kids s n s' _ _ _ e; simp [pAltL] at e
 | succ k ih =>
  intro kids s n s' h hb hk e
  unfold pAltL at e
  split at e
  ·cases e; exact joined_good 3 (.inr rfl) kids (by omega) hk
  rename_i s1 hw
  obtain ⟨_, t2, t3⟩ := word_some w124 h.at_ hl hw
  have m1 := t2.mv h
  have hi1 := m1.inv h
  have hc := cat_val hl HP hi1
  have hrf := hi1.rf
  cases hp : pCat P s1 with
  | bad c q => rw [hp] at e; simp [Out.bind] at e
  | ok n2 s2 =>
   rw [hp] at e hc
   have hm := hc.2
   have h2 := hm.len
   have hg := cat_good hl HP HG _ _ _ _ _ hi1 (by simp; omega) (by simp) hp
   refine ih _ _ _ _ (hm.inv hi1) (by simp; omega) ?_ e
   intro x hx
   rcases List.mem_append.1 hx with hx | hx
   ·exact hk x hx
   ·simp at hx; subst hx; exact hg
include hl HP HG in
theorem alt1_good {s s' : St} {n : Z8} (h : Inv l s) (e : pAlt1 P s = .ok n s') : Good n := by
 have hc := cat_val hl HP h
 have hrf := h.rf
 unfold pAlt1 at e
 cases hp : pCat P s with
 | bad c q => rw [hp] at e; simp [Out.bind] at e
 | ok n2 s2 =>
  rw [hp] at e hc
  have hm := hc.2
  have h2 := hm.len
  have hg := cat_good hl HP HG _ _ _ _ _ h (by simp; omega) (by simp) hp
  exact altl_good hl HP HG _ _ _ _ _ (hm.inv h) (by simp; omega) (by simpa using hg) e
end
theorem alt_good {l : List UInt8} (hl : l.length ≤ 1000) : ∀ (k : Nat) (d : Int), d + k = 32 → 0 ≤ d → ∀ s n s', Inv l s → pAlt k s = .ok n s' → Good n := by
 intro k
 induction k with
 | zero =>
  intro d hd h0 s n s' h e
  refine alt1_good hl (d := d) (P := fun p _ => .bad 25 p) ?_ ?_ h e
  ·intro p s h
   refine ⟨by decide, nd0, true, s.gr, d, s.rf, by have := h.rf; omega, ?_⟩
   apply Z5y
   unfold Z3x
   rw [if_pos (beq_pos (show d = 32 by omega)), fail_val]
   rfl
  ·intro p s n s' _ e; simp at e
 | succ k ih =>
  intro d hd h0 s n s' h e
  have hal := alt_val hl k (d + 1) (by omega) (by omega)
  refine alt1_good hl (P := fun p s => pParen (pAlt k) p s) (fun p s h => paren_val hl (d := d) (by omega) hal p s h) ?_ h e
  intro p s n s' h e
  unfold pParen at e
  have go : ∀ (n0 : Z8) (s1 : St), Mv l s s1 → (n0.Kind = 0 ∨ ∀ x, Good x → Good { n0 with Kids := [x] }) → ((pAlt k s1).bind fun kid s2 => match wd [41] s2 with
    | none => .bad 20 p
    | some s3 => if n0.Kind = 0 then .ok (kid, true) s3 else .ok ({ n0 with Kids := [kid] }, n0.Kind != 7) s3) = .ok n s' → Good n.1 := by
   intro n0 s1 hm hk e
   cases hp : pAlt k s1 with
   | bad c q => rw [hp] at e; simp [Out.bind] at e
   | ok kid s2 =>
    rw [hp] at e
    have hg := ih (d + 1) (by omega) (by omega) _ _ _ (hm.inv h) hp
    dsimp only [Out.bind] at e
    split at e
    ·simp at e
    split at e
    ·cases e; exact hg
    ·rename_i hk0
     cases e
     rcases hk with hk | hk
     ·exact absurd hk hk0
     ·exact hk _ hg
  have g0 := h.g0
  have g9 := h.g9
  unfold pOpen at e
  split at e
  ·rename_i s1 hw; exact go _ s1 ((word_some wL0 h.at_ hl hw).2.1.mv h) (.inr fun x hx => .look 0 x (by omega) hx) e
  split at e
  ·rename_i s1 hw; exact go _ s1 ((word_some wL1 h.at_ hl hw).2.1.mv h) (.inr fun x hx => .look 1 x (by omega) hx) e
  split at e
  ·rename_i s1 hw; exact go _ s1 ((word_some wL2 h.at_ hl hw).2.1.mv h) (.inr fun x hx => .look 2 x (by omega) hx) e
  split at e
  ·rename_i s1 hw; exact go _ s1 ((word_some wL3 h.at_ hl hw).2.1.mv h) (.inr fun x hx => .look 3 x (by omega) hx) e
  split at e
  ·rename_i s1 hw; exact go _ s1 ((word_some wAt h.at_ hl hw).2.1.mv h) (.inr fun x hx => .atomic x hx) e
  split at e
  ·rename_i s1 hw; exact go _ s1 ((word_some wNo h.at_ hl hw).2.1.mv h) (.inl rfl) e
  split at e
  ·simp [Out.bind] at e
  split at e
  ·simp [Out.bind] at e
  ·rename_i h9
   exact go _ { s with gr := s.gr + 1 } ⟨h.at_, Nat.le_refl _, by simp only []; omega, by simp only []; omega, Nat.le_refl _⟩ (.inr fun x hx => .group (s.gr + 1) x (by omega) hx) e
theorem parse_good {x : ByteArray} (h : (parseF x).2.Code = 0) : Good (parseF x).1.Root := by
 unfold parseF at h ⊢
 split at h
 ·simp at h
 rename_i hx
 rw [if_neg hx]
 generalize x.data.toList = l at hx h ⊢
 have hat : At l ⟨unis l, 0, 0, []⟩ := ⟨0, by omega, rfl, rfl⟩
 have hi : Inv l ⟨unis l, 0, 0, []⟩ := ⟨hat, Int.le_refl _, show (0 : Int) ≤ 9 by decide, by have := hat.len; simp only [] at this; show 0 + (unis l).length ≤ 1500; omega⟩
 have key : ∀ (fold : Bool) (s : St), Inv l s → Good (pEnd fold (pAlt 32 s)).1.Root := by
  intro fold s hs
  cases hp : pAlt 32 s with
  | bad c q => exact .none
  | ok n s2 =>
   have hg := alt_good (by omega) 32 0 (by omega) (by omega) s n s2 hs hp
   unfold pEnd
   dsimp only
   split
   ·exact .none
   split
   ·exact .none
   ·exact hg
 unfold pParse
 split
 ·rename_i s1 hw
  exact key true s1 (((word_some wFo hat (by omega) hw).2.1.mv hi).inv hi)
 ·exact key false _ hi
end Go.Proofs.YtadodmjdkphddaaDoor.N2
end
section
set_option linter.unusedSimpArgs false
set_option linter.unusedVariables false
namespace Go.Proofs.YtadodmjdkphddaaDoor.N2
open Go Go.Abs Go.Proofs.Unis Go.Proofs.Norm
set_option maxRecDepth 100000
theorem anchor3_val : Z4M = some true := by
 have e1 : (parseF (ByteArray.mk #[97, 124, 98, 42, 63])) = (⟨⟨3, 0, 0, 0, 0, [], [⟨1, 0, 0, 0, 0, [⟨97, 97⟩], []⟩, ⟨4, 0, -1, 1, 0, [], [⟨1, 0, 0, 0, 0, [⟨98, 98⟩], []⟩]⟩]⟩, 0, false⟩, ⟨0, 0⟩) := by rfl
 have e2 : (parseF (ByteArray.mk #[97, 42, 42])) = (noPat, ⟨23, 2⟩) := by rfl
 have e3 : (parseF (ByteArray.mk #[40, 97])) = (noPat, ⟨20, 0⟩) := by rfl
 have e4 : (parseF (ByteArray.mk #[92, 49])) = (noPat, ⟨26, 0⟩) := by rfl
 apply Z9g
 unfold Z4Q
 rw [parse_val, Option.bind_some, parse_val, Option.bind_some, parse_val, Option.bind_some, parse_val, Option.bind_some, e1, e2, e3, e4]
 rfl
end Go.Proofs.YtadodmjdkphddaaDoor.N2
end
