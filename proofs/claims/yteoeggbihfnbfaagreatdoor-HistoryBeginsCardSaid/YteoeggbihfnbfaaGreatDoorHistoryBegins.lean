/- HistoryBegins: true at every input; the input reads as it did. Condition: the tables lie as they are laid, which the card ties. -/
import Derived.Test.YteoeggbihfnbfaaGreatDoorPlainD
import Derived.Test.YteoeggbihfnbfaaGreatDoorRow
import Derived.Test.YteoeggbihfnbfaaGreatDoorCards
import Derived.Test.YteoeggbihfnbfaaGreatDoorTie
import Derived.SevenTiedAt

set_option linter.unusedSimpArgs false
set_option linter.unusedVariables false
set_option linter.defProp false
section
namespace Go.Proofs.YteoeggbihfnbfaaGreatDoor.N2
open Go Go.Abs Go.Proofs.Unis Go.Proofs.Norm
set_option maxRecDepth 100000
theorem ZEX {sets : List ZC} {v : Nat} (h : v < sets.length) : setF (v : Int) sets = (sets[v], true) := by
 unfold setF
 rw [if_neg (by omega), Int.toNat_natCast, q2_ h]
theorem ZF4 {gs hs : List ZC} (hg : gs ≠ []) (hp : gs <+: hs) (hl : hs.length ≤ 1000) (hf : Fit hs) : ∀ (d v : Nat), v + d = gs.length → Z4I (v : Int) gs hs = some true := by
 have hle := hp.length_le
 have hfg : Fit gs := fun s hs' => hf s (hp.subset hs')
 have hh : hs ≠ [] := by rintro rfl; simp at hle; exact hg hle
 intro d
 induction d with
 | zero =>
  intro v h
  apply Zao
  unfold Z4F Z65
  rw [ZkP gs hg (by omega), q0_, if_neg (Z2p (by omega)), ZkP hs hh (by omega)]
  simp
  omega
 | succ d ih =>
  intro v h
  have hv : v < gs.length := by omega
  have hv2 : v < hs.length := by omega
  have e : hs[v] = gs[v] := (hp.getElem hv).symm
  have hs1 := hfg gs[v] (ZoH hv)
  apply Zao
  unfold Z4F Z64 Z63
  rw [ZkP gs hg (by omega), q0_, if_pos (Z2t (by omega)), ZD9 _ _ hfg, q0_, ZD9 _ _ hf, q0_, ZEX hv, ZEX hv2, e]
  dsimp only
  rw [if_neg (by simp), if_neg (by simp), Zol _ (by omega), q0_, q0_, ZuH _ (by show gs[v].Rules.length ≤ _; omega), q0_, if_neg (by simp), wrap_i64 (by omega) (by omega)]
  exact ih (v + 1) (by omega)
theorem ZDo (L : List Z13) (hL : L.length ≤ 14) (n : Nat) : ∀ (d i : Nat) (gm hm : ML) (gs hs : List ZC) (gc hc : Int), i + d = L.length → gs ≠ [] → gs <+: hs → Fit hs → hs.length ≤ 1 + i → (i ≤ n → gm = hm ∧ gs = hs) →
  Z50 (n : Int) L (L.length : Int) (i : Int) gm gs gc hm hs hc = some true := by
 intro d
 induction d with
 | zero =>
  intro i gm hm gs hs gc hc h hg hp hf hl heq
  apply ZaF
  unfold Z4W Z62
  rw [if_neg (Z2p (by omega))]
  exact ZF4 hg hp (by omega) hf gs.length 0 (by omega)
 | succ d ih =>
  intro i gm hm gs hs gc hc h hg hp hf hl heq
  have hi : i < L.length := by omega
  have hh : hs ≠ [] := by rintro rfl; exact hg (List.prefix_nil.1 hp)
  obtain ⟨c', hadd⟩ := ZoS L[i] hs hc hm hh (by omega)
  have hlen := (ZLK L[i] hs hm).2
  apply ZaF
  unfold Z4W Z6c
  rw [if_pos (Z2t (by omega)), Z2T, q2_ hi, q0_, hadd, q0_]
  dsimp only
  by_cases hn : (n : Int) ≤ (i : Int)
  ·rw [if_pos (Z2t hn)]
   unfold Z48
   rw [wrap_i64 (by omega) (by omega)]
   exact ih (i + 1) _ _ _ _ _ _ (by omega) hg (hp.trans (ZLL L[i] hs hm)) (ZEh hf) (by omega) (fun h => by omega)
  ·obtain ⟨rfl, rfl⟩ := heq (by omega)
   rw [if_neg (Z2p hn)]
   unfold Z60
   obtain ⟨c2, hadd2⟩ := ZoS L[i] gs gc gm hg (by omega)
   rw [hadd2, q0_]
   dsimp only
   rw [if_neg (by simp), if_neg (ZfP rfl)]
   unfold Z48
   rw [wrap_i64 (by omega) (by omega)]
   exact ih (i + 1) _ _ _ _ _ _ (by omega) (ZNT hg) List.prefix_rfl (ZEh hf) (by omega) (fun _ => ⟨rfl, rfl⟩)
theorem historyBegins_val (l : List Z13) (c : Int) (hl : l.length ≤ 9223372036854775807) : Z9y l c = some true := by
 obtain ⟨b, e⟩ := ZDb l hl
 apply ZhQ
 unfold Z7a
 rw [ZAK, q0_, if_neg (by simp)]
 unfold Z6a Z4d
 rw [e, q0_]
 cases b with
 | false => rfl
 | true =>
  rw [if_neg (by simp)]
  by_cases h1 : 14 < (l.length : Int)
  ·rw [if_pos (Z2t h1)]
  rw [if_neg (Z2p h1)]
  by_cases h2 : c < 0
  ·rw [if_pos (Z2t h2)]
  rw [if_neg (Z2p h2)]
  unfold Z6b
  rw [wrap_i64 (by omega) (by omega)]
  obtain ⟨n, hn⟩ : ∃ n : Nat, irem c ((l.length : Int) + 1) = some (n : Int) := by
   refine ⟨(Int.tmod c ((l.length : Int) + 1)).toNat, ?_⟩
   have := Int.tmod_nonneg (a := c) ((l.length : Int) + 1) (by omega)
   unfold irem
   rw [if_neg (by omega)]
   congr 1
   omega
  rw [hn, q0_, ZEM, q0_, q0_]
  exact ZDo l (by omega) n l.length 0 [] [] [first] [first] 0 0 (by omega) (by simp) List.prefix_rfl (by intro s hs; simp only [ZdD] at hs; subst hs; simp) (by simp) (fun _ => ⟨rfl, rfl⟩)
end Go.Proofs.YteoeggbihfnbfaaGreatDoor.N2
end
section
namespace Go.Proofs.YteoeggbihfnbfaaGreatDoor
open Go Go.Abs Go.RowKit Go.ChangeShapes Go.WideShapes Go.ChangeAt
set_option maxRecDepth 100000 in
theorem Zri (os : Os) (started : os.Started) (H : Type) (enc : TypeId × Value → H) :
  ReturnsInHanded {} Tryz.checked os 12 .any (fun w args => (Rows.historyBeginsSpec.pre enc Tryz.prog Tryz.f12 [] false w args ∧ laidMetH Tryz.prog Zml w) ∧ sizedMet enc Tryz.prog Tryz.f12 (OpenSpec.ofChange Rows.historyBeginsSpec) false w args)
   (Rows.historyBeginsSpec.post enc Tryz.prog Tryz.f12 false true false false) := by
 refine returnsInHanded_of_change_and (C := Tryz.checked) (X := fun w _ => laidMetH Tryz.prog Zml w) (fun _ _ _ hh h => h.of_heap hh) own started (by kernel_rfl) Tryz.func12
  (ChangeSpec.witness_shaped (enc := enc) (C := Tryz.checked) (os := os) (X := fun w _ => laidMetH Tryz.prog Zml w) false (ZAk os) #[.slice none 0 0, .int .i64 0] 8 rfl (World.shaped_of_RefB (by kernel_rfl) (by kernel_rfl)) (by kernel_rfl) (by kernel_rfl) (by kernel_rfl) (ZKJ os _)) ?_
 intro W base args ds gs before hval0 hW _ _ hL _
 have hval : ∀ (j : Nat) t v, Tryz.f12.params[j]? = some t → args[j]? = some v → Value.okWide Tryz.prog W .any base t v := hval0
 have hW' := hW
 have hlt := fun p hp => hW.lt p hp
 obtain ⟨p, q, hA0, hV, rfl, hfz, hnd⟩ := hW
 have hA : DataW.TrodAll enc Tryz.prog W 0 (fun _ => true) true Tryz.f12.params.toList args.toList ds p := hA0
 rw [Tryz.params12] at hA hval
 obtain ⟨v0, v1, d0, d1, p0, p1, rfl, rfl, rfl, h0, h1⟩ := trodAll_two hA
 obtain ⟨rfl, rfl⟩ := trodVars_none hV
 obtain ⟨b0, len0, cap0, hs0⟩ := okWide_slice Tryz.underlying59 (hval 0 59 v0 rfl rfl)
 obtain ⟨x0, w0, r0⟩ := row_one (base := base) (by rw [hs0]; rfl) h0 (ZoG (ee := N2.Z24) Tryz.underlying59 (of_decide_eq_true (by kernel_rfl)) (fun _ => rfl) (N2.ZzZ 61 (by rfl) (by kernel_rfl)))
 obtain ⟨x1, rfl, rfl, rfl, w1⟩ := open_int Tryz.underlying3 (hval 1 3 v1 rfl rfl) h1
 clear hA0 hval0
 simp only [ZrF, ZvZ] at hW' hlt
 have htab := ZNJ hL
 obtain ⟨q, hq, ex, rfl⟩ := N2.ZhR x0 x1 .sh true (N2.historyBegins_val x0 x1 (ZgO w0.1 (by decide)))
 refine (ZHL N2.fspec (Tabs.old htab) hq rfl ?_).mono ?_
 ·intro i x v hx hv
  match i with
  | 0 =>
   simp only [ZcT, q1_] at hx
   have hv' : v0 = v := by simpa using hv
   subst hx; subst hv'
   exact ⟨.p _ _ r0, rfl⟩
  | 1 =>
   simp only [ZA2, ZcT, q1_] at hx
   have hv' : Value.int .i64 x1 = v := by simpa using hv
   subst hx; subst hv'
   exact ⟨.p _ _ (.v _ rfl), rfl⟩
  | i + 2 => simp at hx
 ·rintro e W' ⟨v, S', β', rfl, bel, hr⟩
  have := Z6H hr
  subst this
  refine ⟨_, rfl, _, _, _, [], _, [], hW', trodAll_mk1 (shut_bool Tryz.underlying4 _), trodAll_cons_mk (Below.trod laidOut (by kernel_rfl) (of_decide_eq_true (by kernel_rfl)) h0 bel (fun x hx => hlt x (by simp [hx]))) (trodAll_cons_mk (shut_int Tryz.underlying3 w1) (trodAll_mk0)), rfl, ?_, fun h => by cases h⟩
  exact bel.frame _
theorem Zsi : Rows.HistoryBeginsSaid :=
 OpenClaim.holds_of_wide 12 Tryz.f12 rfl rfl rfl rfl rfl rfl rfl ⟨rfl, rfl, rfl, rfl, rfl⟩ rfl rfl rfl rfl rfl (by kernel_rfl) Tryz.func12 (by kernel_rfl)
  (of_decide_eq_true (by kernel_rfl)) (by unfold Func.isWrapper; first | (rw [if_pos (by decide +kernel)]; kernel_rfl) | (rw [if_neg (by decide +kernel)]; exact ⟨rfl, rfl⟩))
  (fun os started H enc _ => Zri os started H enc)
theorem historyBegins_card : Rows.HistoryBeginsCardSaid :=
 Claim7.holds_tied_plain_at .later [] [.data, .pinned] true (true, "cb08e3e60930965065f09f9783a784d0f3e78900a927b5cdd827454dbc2fb059") false
  Zsi (fun _ h => by cases h) (by kernel_rfl) (fun _ h => by cases h) historyBegins_row_tie rfl ⟨rfl, rfl⟩ (by kernel_rfl) rfl
  (fun f fn hf hfn => by
   obtain rfl : f = 12 := Option.some.inj ((show Tryz.prog.funcNamed "colander/colanderlaw14.HistoryBegins" = some 12 by kernel_rfl).symm.trans hf) |>.symm
   obtain rfl : fn = Tryz.f12 := (Option.some.inj (Tryz.func12.symm.trans hfn)).symm
   exact ⟨by kernel_rfl, fun j t ht => by
    rw [Tryz.params12] at ht
    have hm : t ∈ [59, 3] := by simpa using Array.mem_of_getElem? ht
    have hall : ([59, 3].all fun u => !Tryz.prog.wantsStandIn u) = true := by kernel_rfl
    exact (show Tryz.prog.wantsStandIn t = false by simpa using Zav.1 hall t hm)⟩)
  (by kernel_rfl)
#print axioms historyBegins_card
end Go.Proofs.YteoeggbihfnbfaaGreatDoor
end
