/- The evaluator is sound: what it answers is what a call comes to. No condition. -/
import Derived.Test.YtbmmhbpalkepeaaEvC
import Derived.Below
import Derived.ChangeOld

set_option linter.unusedSimpArgs false
set_option linter.unusedVariables false
set_option linter.defProp false
section
namespace Go.Abs
open Go
section
variable {P : Program} {nt : Nat} {sl : Sl} {B : List Row} {a : Act} {w : World} {S : Stay} {β : Nat → Nat}
def Z5y (tmps : Array Value) : ResultVar → Sem Value
 | .tmp t => pure (tmps.getD t undef)
 | .cell a t => do loadVar t (← asAddr (tmps.getD a undef))
theorem Zfw (hg : Good nt w S β sl B a) {rv : ResultVar} {x : AV} (h : Z9F P sl B rv = some x) :
  ∃ v, (Z5y a.tmps rv).run P w = .ok v w ∧ ARel w S β B.length x v ∧ (isUn x = true → ∃ t, Here nt sl a.tmps B β w (.slot t) x v) := by
 cases rv with
 | tmp t =>
  simp only [Z9F, ZO] at h
  subst h
  refine ⟨a.tmps.getD t undef, rfl, ?_, fun hu => ?_⟩
  ·have := hg.ev (.tmp t); exact this
  ·obtain ⟨t', e, ht, here⟩ := Z3v hg (x := .tmp t) hu
   cases e
   exact ⟨t, here⟩
 | cell t ty =>
  simp only [Z9F] at h
  obtain ⟨s, hs, h⟩ := ZH h
  have hx := hg.ev (.tmp t)
  obtain ⟨b, off, c, hu, hrun, hr, hun⟩ := Zcc (P := P) (ag := s.1) (k := s.2) hg.mem (show ARel w S β B.length (get sl t) (a.eval (.tmp t)) from hx) hs h
  refine ⟨c, ?_, hr, fun hu => by rw [hun] at hu; simp at hu⟩
  have hu' : a.tmps.getD t undef = .pointer (some ⟨b, off, none⟩) := hu
  simp [Z5y, hu', asAddr, hrun]
theorem Z7V (hg : Good nt w S β sl B a) : ∀ (rs : List ResultVar) (xs : List AV), Z4r P sl B rs = some xs →
  ∃ vs : List Value, (rs.mapM (Z5y a.tmps)).run P w = .ok vs w ∧ vs.length = xs.length ∧
   ∀ (i : Nat) (x : AV) (v : Value), xs[i]? = some x → vs[i]? = some v → ARel w S β B.length x v ∧ (isUn x = true → ∃ t, Here nt sl a.tmps B β w (.slot t) x v)
 | [], xs, h => by
  simp only [Z4r, ZO] at h
  subst h
  exact ⟨[], rfl, rfl, fun i x v hx => by simp at hx⟩
 | r :: rs, xs, h => by
  simp only [Z4r] at h
  obtain ⟨x, hx, h1⟩ := ZH h
  obtain ⟨ys, hys, h2⟩ := ZH h1
  simp only [ZO] at h2
  subst h2
  obtain ⟨v, v1, v2, v3⟩ := Zfw hg hx
  obtain ⟨vs, w1, w2, w3⟩ := Z7V hg rs ys hys
  refine ⟨v :: vs, ?_, by simp [w2], ?_⟩
  ·simp only [List.mapM_cons, Sem.run_bind, v1, Result.andThen_ok, w1]
   rfl
  ·intro i y u hy hu
   cases i with
   | zero => simp at hy hu; subst hy; subst hu; exact ⟨v2, v3⟩
   | succ i => exact w3 i y u (by simpa using hy) (by simpa using hu)
theorem ZaK {xs : List AV} {arr : Array Value} {n : Nat} (hl : arr.size = xs.length) (hr : ∀ (i : Nat) (x : AV) (v : Value), xs[i]? = some x → arr[i]? = some v → ARel w S β n x v)
  (hu : ∀ x, x ∈ xs → isUn x = false) : ARel w S β n (Z2P xs) (.tuple arr) := by
 have allP_spec : ∀ (xs : List AV) (ps : List PV), allP xs = some ps → xs = ps.map .p := by
  intro xs
  induction xs with
  | nil => intro ps h; simp only [allP, ZO] at h; subst h; rfl
  | cons x r ih =>
   intro ps h
   cases x with
   | p y =>
    simp only [allP] at h
    obtain ⟨qs, hq, rfl⟩ := q4_.1 h
    rw [ih qs hq]; rfl
   | _ => simp [allP] at h
 have hne : ∀ x, x ∈ xs → ∀ ys, x ≠ .p (.lst .un ys) := by
  intro x hx ys e
  have := hu x hx
  rw [e] at this
  simp [isUn] at this
 unfold Z2P
 split
 ·rename_i ps hps
  have := allP_spec xs ps hps
  subst this
  refine .p _ _ (.tup ps arr (by simpa using hl) ?_ ?_)
  ·intro c hc
   have := hne (.p c) (Z1B.2 ⟨c, hc, rfl⟩)
   unfold Z1Y
   split
   ·rename_i ys; exact absurd rfl (this ys)
   ·rfl
  ·intro i c v hc hv
   have := hr i (.p c) v (by rw [q6_, hc]; rfl) hv
   cases this with | p _ _ h => exact h
 ·exact .tup xs arr hl hne hr
theorem Z9q (xs : List AV) : isUn (Z2P xs) = false := by
 unfold Z2P
 split <;> rfl
theorem Z9r {H : Hints} {f : FuncId} {fn : Func} {b : Base} {r : Res} {e : Ex} (hk : kret P H f fn.results e sl B = some r) (h : At b sl B a w) :
  ∃ v, (results fn a.tmps).run P w = .ok v w ∧ a.defers = [] ∧ ∃ S β, Entry w S β [r.1] r.2 #[v] ∧ Step b.m0 b.w b.S b.β b.n b.U w S β r.2.length (UB (Z2d [r.1] #[v] r.2 β w)) := by
 obtain ⟨S, β, hg, hst⟩ := h
 unfold kret at hk
 have hk' : (ob (Z4r P sl B fn.results.toList) fun vs => some ((if H.raw f = true then (match vs with | [v] => v | vs => Z2P (vs.map shr)) else nrmA (match vs with | [v] => v | vs => Z2P (vs.map shr))), B)) = some r := by
  cases e with
  | exit i => simp at hk
  | normal => exact hk
  | ret => exact hk
 obtain ⟨xs, hxs, hr⟩ := ZH hk'
 simp only [ZO] at hr
 obtain ⟨vs, v1, v2, v3⟩ := Z7V hg fn.results.toList xs hxs
 have hres : (results fn a.tmps).run P w = .ok (if h : vs.length = 1 then vs[0]'(by omega) else .tuple vs.toArray) w := by
  have gen : ∀ F : ResultVar → Sem Value, (∀ x, F x = Z5y a.tmps x) →
    (do let vs ← fn.results.mapM F; pure (if h : vs.size = 1 then vs[0] else .tuple vs) : Sem Value).run P w = .ok (if h : vs.length = 1 then vs[0]'(by omega) else .tuple vs.toArray) w := by
   intro F hFx
   have hFe : F = Z5y a.tmps := funext hFx
   subst hFe
   rw [Array.mapM_eq_mapM_toList]
   simp only [Sem.run_bind, map_eq_pure_bind, v1, Result.andThen_ok, Sem.run_pure, List.size_toArray]
   by_cases h1 : vs.length = 1
   ·simp [h1]
   ·simp [h1]
  exact gen _ fun x => by cases x <;> rfl
 have key : ∀ (x : AV) (v : Value), ARel w S β B.length x v → (isUn x = true → ∃ t, Here b.nt sl a.tmps B β w (.slot t) x v) →
   Entry w S β [x] B #[v] ∧ Step b.m0 b.w b.S b.β b.n b.U w S β B.length (UB (Z2d [x] #[v] B β w)) := by
  intro x v hx hu
  have back : ∀ l y u, Z2d [x] #[v] B β w l y u → isUn y = true → (∃ t, l = .slot 0 ∧ y = x ∧ u = v ∧ Here b.nt sl a.tmps B β w (.slot t) x v) ∨ (∃ id j, l = .box id j ∧ Here b.nt sl a.tmps B β w (.box id j) y u) := by
   intro l y u hl hy
   cases l with
   | slot i =>
    left
    obtain ⟨q1, q2⟩ := hl
    cases i with
    | zero =>
     simp only [Z2m, ZO] at q1
     subst q1
     have q2 : v = u := by simpa using q2
     subst q2
     obtain ⟨t, ht⟩ := hu hy
     exact ⟨t, rfl, rfl, rfl, ht⟩
    | succ i => simp at q1
   | box id j => exact .inr ⟨id, j, rfl, hl⟩
  refine ⟨⟨rfl, ?_, hg.mem, ⟨?_, ?_⟩⟩, hst.less ?_⟩
  ·intro i y u hy hu'
   cases i with
   | zero =>
    simp only [Z2m, ZO] at hy
    subst hy
    have : v = u := by simpa using hu'
    subst this
    exact hx
   | succ i => simp at hy
  ·intro l y u hl hy
   rcases back l y u hl hy with ⟨t, rfl, rfl, rfl, q⟩ | ⟨id, j, rfl, q⟩
   ·exact hg.uns.ok _ _ _ q hy
   ·exact hg.uns.ok _ _ _ q hy
  ·intro l l' y y' u u' hl hl' hy hy' he
   rcases back l y u hl hy with ⟨t, rfl, rfl, rfl, q⟩ | ⟨id, j, rfl, q⟩ <;> rcases back l' y' u' hl' hy' with ⟨t', rfl, rfl, rfl, q'⟩ | ⟨id', j', rfl, q'⟩
   ·rfl
   ·have := hg.uns.inj _ _ _ _ _ _ q q' hy hy' he; simp at this
   ·have := hg.uns.inj _ _ _ _ _ _ q q' hy hy' he; simp at this
   ·exact hg.uns.inj _ _ _ _ _ _ q q' hy hy' he
  ·rintro c ⟨l, y, u, hl, hy, hb⟩
   rcases back l y u hl hy with ⟨t, rfl, rfl, rfl, q⟩ | ⟨id, j, rfl, q⟩
   ·exact ⟨_, _, _, q, hy, hb⟩
   ·exact ⟨_, _, _, q, hy, hb⟩
 have nkey : ∀ (x : AV) (v : Value), ARel w S β B.length x v → Entry w S β [nrmA x] B #[v] ∧ Step b.m0 b.w b.S b.β b.n b.U w S β B.length (UB (Z2d [nrmA x] #[v] B β w)) := fun x v hx =>
  key (nrmA x) v hx.nrmA fun hu => by rw [Z6W] at hu; simp at hu
 refine ⟨_, hres, hg.defers, S, β, ?_⟩
 have main : ∃ x v, r.2 = B ∧ (if h : vs.length = 1 then vs[0]'(by omega) else .tuple vs.toArray) = v ∧ ((r.1 = x ∧ (isUn x = true → ∃ t, Here b.nt sl a.tmps B β w (.slot t) x v)) ∨ r.1 = nrmA x) ∧ ARel w S β B.length x v := by
  match xs, hr, v2, v3 with
  | [x], hr, v2, v3 =>
   have h1 : vs.length = 1 := by simpa using v2
   obtain ⟨q1, q2⟩ := v3 0 x vs[0] rfl (by simp [h1])
   refine ⟨x, vs[0], by rw [← hr], by rw [dif_pos h1], ?_, q1⟩
   cases hraw : H.raw f with
   | true => left; rw [← hr]; simp only [hraw, if_true]; exact ⟨trivial, q2⟩
   | false => right; rw [← hr]; simp only [hraw]; rfl
  | [], hr, v2, v3 =>
   have hvs : vs = [] := Zcm.1 (by simpa using v2)
   subst hvs
   refine ⟨Z2P [], .tuple #[], by rw [← hr], by simp, ?_, ZaK rfl (fun i x v hx => by simp at hx) (by simp)⟩
   cases hraw : H.raw f with
   | true => left; rw [← hr]; simp only [hraw, if_true]; exact ⟨by simp, fun hu => by rw [Z9q] at hu; simp at hu⟩
   | false => right; rw [← hr]; simp only [hraw]; rfl
  | x :: y :: zs, hr, v2, v3 =>
   have hn : ¬ vs.length = 1 := by rw [v2]; simp
   refine ⟨Z2P ((x :: y :: zs).map shr), .tuple vs.toArray, by rw [← hr], by rw [dif_neg hn], ?_, ZaK (by simpa using v2) ?_ ?_⟩
   ·cases hraw : H.raw f with
    | true => left; rw [← hr]; simp only [hraw, if_true]; exact ⟨trivial, fun hu => by rw [Z9q] at hu; simp at hu⟩
    | false => right; rw [← hr]; simp only [hraw]; rfl
   ·intro i z v hz hv
    rw [q6_] at hz
    obtain ⟨z0, hz0, rfl⟩ := q4_.1 hz
    exact (v3 i z0 v hz0 (by simpa using hv)).1.shr
   ·intro z hz
    obtain ⟨z0, _, rfl⟩ := Z1B.1 hz
    exact Z1w z0
 obtain ⟨x, v, e1, e2, e3, e4⟩ := main
 rw [e1, e2]
 rcases e3 with ⟨e3, e5⟩ | e3
 ·rw [e3]; exact key x v e4 e5
 ·rw [e3]; exact nkey x v e4
end
abbrev Xs := FuncId → Option (List AV → List Row → Option Res)
def Z8n (P : Program) (I : Inv) (X : Xs) : Prop := ∀ f m, X f = some m → ∀ args B r, m args B = some r → ∀ w S β vals, I w S → Entry w S β args B vals → Plain P f ∧ Calls P f vals w (Z2D w S β args B vals r)
def progOk (P : Program) (X : Xs) (H : Hints) : Bool :=
 (List.range P.funcs.size).all fun f => (X f).isSome || match P.funcs[f]? with
  | none => true
  | some fn => match fn.body with
   | none => true
   | some c => codeOk H f fn.ntmps c && !(fn.name == "runtime.NumGoroutine")
theorem Zdm {P : Program} {X : Xs} {H : Hints} (h : progOk P X H = true) {f : FuncId} {fn : Func} {c : Code} (hX : X f = none) (hf : P.funcs[f]? = some fn) (hb : fn.body = some c) :
  codeOk H f fn.ntmps c = true ∧ (fn.name == "runtime.NumGoroutine") = false := by
 unfold progOk at h
 simp only [Z2w, Z4g] at h
 have := h f (Z2z.1 hf).1
 simp only [hX, hf, hb, Option.isSome_none, Bool.false_or, q5_, Z79] at this
 exact this
theorem Z9n : ∀ (args : List AV) (k t : Nat), get (number k args) t = if k ≤ t ∧ t < k + args.length then args.getD (t - k) jk else jk
 | [], k, t => by simp [number, get]
 | x :: r, k, t => by
  rw [number, Z10, Z9n r (k + 1) t]
  by_cases e : k = t
  ·subst e; simp
  ·rw [if_neg e]
   by_cases h : k + 1 ≤ t ∧ t < k + 1 + r.length
   ·rw [if_pos h, if_pos (by simp; omega)]
    obtain ⟨j, rfl⟩ : ∃ j, t = k + 1 + j := ⟨t - (k + 1), by omega⟩
    have e1 : k + 1 + j - (k + 1) = j := by omega
    have e2 : k + 1 + j - k = j + 1 := by omega
    rw [e1, e2]
    simp
   ·rw [if_neg h, if_neg (by simp; omega)]
section
variable {P : Program} {w : World} {S : Stay} {β : Nat → Nat}
theorem Zea {args : List AV} {B : List Row} {vals : Array Value} (h : Entry w S β args B vals) {nt : Nat} (hn : args.length ≤ nt) :
  At ⟨nt, B.length, B.length, w, S, β, UB (Z2d args vals B β w)⟩ (number 0 args) B { tmps := vals ++ Array.replicate (nt - vals.size) undef, defers := [] } w := by
 have hsz : (vals ++ Array.replicate (nt - vals.size) undef).size = nt := by
  rw [Zae, Array.size_replicate, h.size]; omega
 have hget : ∀ t, get (number 0 args) t = args.getD t jk := by
  intro t
  rw [Z9n]
  split
  ·rw [Nat.sub_zero]
  ·rename_i hc
   rw [q9_, Z3L (by omega)]
   rfl
 have hval : ∀ t, t < args.length → (vals ++ Array.replicate (nt - vals.size) undef).getD t undef = vals.getD t undef := by
  intro t ht
  have h1 : t < vals.size := by rw [h.size]; exact ht
  simp only [Zcl, Z7a, if_pos h1]
 have here : ∀ l x v, Here nt (number 0 args) (vals ++ Array.replicate (nt - vals.size) undef) B β w l x v → isUn x = true → Z2d args vals B β w l x v := by
  intro l x v hl hu
  cases l with
  | slot t =>
   obtain ⟨ht, rfl, rfl⟩ := hl
   rw [hget] at hu ⊢
   rcases Z22 t args.length with h1 | h1
   ·rw [hval t h1]
    have h2 : t < vals.size := by rw [h.size]; exact h1
    refine ⟨?_, ?_⟩
    ·rw [q9_, q2_ h1]; rfl
    ·simp [h2]
   ·rw [q9_, Z3L h1] at hu
    simp [isUn, jk] at hu
  | box id j => exact hl
 refine ⟨S, β, ⟨hsz, rfl, ?_, ?_, h.mem, ⟨?_, ?_⟩⟩, ?_⟩
 ·intro t ht
  rw [hget]
  rcases Z22 t args.length with h1 | h1
  ·have h2 : t < vals.size := by rw [h.size]; exact h1
   show ARel w S β B.length _ ((vals ++ Array.replicate (nt - vals.size) undef).getD t undef)
   rw [hval t h1]
   refine h.rel t _ _ ?_ ?_
   ·rw [q9_, q2_ h1]; rfl
   ·simp [h2]
  ·rw [q9_, Z3L h1]
   exact ARel.junk _
 ·intro t ht
  have ht : nt ≤ t := ht
  rw [hget, q9_, Z3L (by omega)]
  rfl
 ·intro l x v hl hu
  exact h.uns.ok l x v (here l x v hl hu) hu
 ·intro l l' x x' v v' hl hl' hu hu' he
  exact h.uns.inj l l' x x' v v' (here l x v hl hu) (here l' x' v' hl' hu') hu hu' he
 ·refine { Step.refl B.length w S β B.length (UB (Z2d args vals B β w)) with uns := fun c hc => .inl ?_ }
  obtain ⟨l, x, v, hl, hu, hb⟩ := hc
  exact ⟨l, x, v, here l x v hl hu, hu, hb⟩
variable {X : Xs} {H : Hints}
theorem Ze5 {G : GF} {LP : LF} {I : Inv} (hp : Pers I) (hm : P.follows .mixedOrders = true) (hX : Z8n P I X) (hok : progOk P X H = true) (hF : Z2n P I G) (hL : Ze1 P I H LP) : Z2n P I (fun f args B => body P X H G LP f args B) := by
 intro f args B r h w S β vals hI he
 change body P X H G LP f args B = some r at h
 unfold body at h
 split at h
 ·rename_i m hXf
  exact hX f m hXf args B r h w S β vals hI he
 ·rename_i hXf
  split at h
  ·simp at h
  ·rename_i fn hf
   split at h
   ·simp at h
   ·rename_i c hb
    split at h
    ·rename_i hn
     obtain ⟨hc, hname⟩ := Zdm hok hXf hf hb
     refine ⟨⟨fn, hf, hname, by rw [hb]; rfl⟩, ?_⟩
     refine calls_of_wp hf hb ?_
     refine wp_mono (Z8J (b := ⟨fn.ntmps, B.length, B.length, w, S, β, UB (Z2d args vals B β w)⟩) hp hF hL hm hI c _ _ B _ w hc h (Zea he hn)) ?_
     intro e a w' hq
     cases e with
     | normal =>
      obtain ⟨sl, B', hk, ha⟩ := hq
      obtain ⟨v, h1, h2, S', β', h3, h4⟩ := Z9r hk ha
      exact ⟨h2, v, h1, S', β', h3, h4⟩
     | ret =>
      obtain ⟨sl, B', hk, ha⟩ := hq
      obtain ⟨v, h1, h2, S', β', h3, h4⟩ := Z9r hk ha
      exact ⟨h2, v, h1, S', β', h3, h4⟩
     | exit id =>
      obtain ⟨sl, B', hk, ha⟩ := hq
      simp [kret] at hk
     | goto l => exact hq.elim
     | panic ch => exact hq.elim
     | outgrown => exact hq.elim
    ·simp at h
theorem Z8I {I : Inv} (hp : Pers I) (hm : P.follows .mixedOrders = true) (hX : Z8n P I X) (hok : progOk P X H = true) : ∀ n, Z2n P I (evlp P X H n).1 ∧ Ze1 P I H (evlp P X H n).2
 | 0 => ⟨fun f args B r h => by simp [evlp] at h, fun f m0 c K sl B r b a w _ _ _ h => by simp [evlp] at h⟩
 | n + 1 => by
  obtain ⟨h1, h2⟩ := Z8I hp hm hX hok n
  refine ⟨Ze5 hp hm hX hok h1 h2, ?_⟩
  intro f m0 c K sl B r b a w hI hc hb h ha
  subst hb
  change exec P H f b.m0 (evlp P X H n).1 (evlp P X H n).2 c (kloop H f b.m0 c ((evlp P X H n).2 f b.m0 c K) K) sl B = some r at h
  refine Zfc (wp_mono (Z8J hp h1 h2 hm hI c _ sl B a w hc h ha) ?_)
  intro e a w hq
  cases e with
  | normal =>
   obtain ⟨sl', B', hk, ha'⟩ := hq
   obtain ⟨sl2, B2, hk2, ha2⟩ := Z4m (k := fun sl B => lp ((evlp P X H n).2 f b.m0 c K sl B)) hk ha'
   exact h2 f b.m0 c K sl2 B2 r b a w hI hc rfl hk2 ha2
  | exit id => exact hq
  | ret => exact hq
  | goto l => exact hq.elim
  | panic ch => exact hq.elim
  | outgrown => exact hq.elim
theorem Zdt {I : Inv} (hp : Pers I) (hm : P.follows .mixedOrders = true) (hX : Z8n P I X) (hok : progOk P X H = true) : Z2n P I (E P X H) := by
 intro f args B r h
 obtain ⟨n, hn⟩ := E_to P X H h
 exact (Z8I hp hm hX hok n).1 f args B r hn
end
end Go.Abs
end
section
namespace Go.Abs
open Go
section
variable {P : Program} {t s d : TypeId} {k k' : IntKind} {a b n : Int}
theorem ZmC {e : TypeId} (h : P.underlying t = some (.slice e)) (o : Own) (xs : List PV) : xlen P t (.p (.lst o xs)) = some (.p (.v (.int .i64 xs.length))) := by
 unfold xlen; rw [h]
end
theorem Ze0 {P : Program} {X : Xs} {H : Hints} {f : FuncId} {m : List AV → List Row → Option Res} (h : X f = some m) (args : List AV) (B : List Row) : E P X H f args B = m args B := by
 rw [E_eq]
 unfold body
 rw [h]
theorem wrap_i64 {n : Int} (h1 : -9223372036854775808 ≤ n) (h2 : n ≤ 9223372036854775807) : IntKind.i64.wrap n = n := by
 show (if (true && decide (n % 18446744073709551616 ≥ 9223372036854775808)) = true then n % 18446744073709551616 - 18446744073709551616 else n % 18446744073709551616) = n
 simp only [Z8a, decide_eq_true_eq]
 split <;> omega
end Go.Abs
end
section
namespace Go.Abs
open Go Go.RowKit
def Old (w : World) : Stay := fun b _ => b < w.heap.size
theorem Z9C {w w' : World} {S : Stay} {β : Nat → Nat} {args : List AV} {B : List Row} {vals : Array Value} {x : AV} {v : Value} (he : Entry w S β args B vals) (hb : Below w.heap.size w w')
  {S' : Stay} (hS : ∀ b o, S' b o → S b o ∨ (w.heap.size ≤ b ∧ b < w'.heap.size)) (hS2 : ∀ b o, S b o → S' b o) (hx : ARel w' S' β B.length x v) (hu : isUn x = false) : Z2D w S β args B vals (x, B) (.returned v) w' := by
 have hlt : ∀ i, i < B.length → β i < w.heap.size := fun i hi => he.mem.lt hi
 have hblk : ∀ i, i < B.length → w'.heap[β i]? = w.heap[β i]? := fun i hi => hb.block _ (hlt i hi)
 have hk : Keeps w S w' S' := ⟨hS2, fun b o hs => cell_of_heap (hb.block b (he.mem.stay b o hs))⟩
 have here : ∀ l y u, Z2d [x] #[v] B β w' l y u → isUn y = true → ∃ id j, l = .box id j ∧ Z2d args vals B β w (.box id j) y u := by
  intro l y u hl hy
  cases l with
  | slot i =>
   obtain ⟨q1, q2⟩ := hl
   cases i with
   | zero => simp only [Z2m, ZO] at q1; rw [← q1, hu] at hy; simp at hy
   | succ i => simp at q1
  | box id j =>
   obtain ⟨row, q1, q2, q3⟩ := hl
   have hid := (q1_.1 q1).1
   exact ⟨id, j, rfl, row, q1, q2, by rw [cell_of_heap (hblk id hid)] at q3; exact q3⟩
 have ublk : ∀ y u, UnOk w S y u → UnOk w' S' y u := by
  intro y u hok
  refine hok.world fun b hbb => ?_
  obtain ⟨b', h1, h2⟩ := hok.blk
  rw [hbb] at h1
  cases h1
  refine ⟨hb.block b h2, fun o ho => ?_⟩
  rcases hS b o ho with h3 | ⟨h3, _⟩
  ·exact h3
  ·omega
 refine ⟨S', β, ⟨rfl, ?_, ⟨?_, ?_, he.mem.inj, ?_, ?_, fun id r es hr hm => (he.mem.maps id r es hr hm).keeps hk (hblk id (q1_.1 hr).1)⟩, ⟨?_, ?_⟩⟩, ?_⟩
 ·intro i y u hy hu'
  cases i with
  | zero =>
   simp only [Z2m, ZO] at hy
   subst hy
   have : v = u := by simpa using hu'
   subst this
   exact hx
  | succ i => simp at hy
 ·intro id r hr hm
  obtain ⟨cs, ty, q1, q2⟩ := he.mem.row id r hr hm
  exact ⟨cs, ty, (hblk id (q1_.1 hr).1).trans q1, q2⟩
 ·intro id r j y hr hm hy
  obtain ⟨u, q1, q2, q3⟩ := he.mem.cell id r j y hr hm hy
  exact ⟨u, (cell_of_heap (hblk id (q1_.1 hr).1)).trans q1, q2.keeps hk (fun _ _ => rfl) (Z1y _), q3⟩
 ·intro i hi o ho
  rcases hS _ o ho with h3 | ⟨h3, _⟩
  ·exact he.mem.apart i hi o h3
  ·have := hlt i hi; omega
 ·intro b o ho
  rcases hS b o ho with h3 | ⟨_, h3⟩
  ·exact Z4T (he.mem.stay b o h3) hb.size
  ·exact h3
 ·intro l y u hl hy
  obtain ⟨id, j, rfl, q⟩ := here l y u hl hy
  obtain ⟨q1, q2⟩ := he.uns.ok _ y u q hy
  exact ⟨ublk y u q1, q2⟩
 ·intro l l' y y' u u' hl hl' hy hy' e
  obtain ⟨id, j, rfl, q⟩ := here l y u hl hy
  obtain ⟨id', j', rfl, q'⟩ := here l' y' u' hl' hy'
  exact he.uns.inj _ _ _ _ _ _ q q' hy hy' e
 ·refine ⟨hk, hb.size, hb.os, hb.tape, hb.output, fun h => ⟨h, fun _ _ => rfl⟩, fun i hi => .inl ⟨i, hi, rfl, id⟩, ?_, ?_, fun b h1 _ _ => hb.block b h1⟩
  ·rintro b ⟨l, y, u, hl, hy, hbb⟩
   obtain ⟨id, j, rfl, q⟩ := here l y u hl hy
   exact .inl ⟨_, y, u, q, hy, hbb⟩
  ·intro b o ho
   rcases hS b o ho with h3 | ⟨h3, _⟩
   ·exact .inl h3
   ·exact .inr (.inl h3)
theorem ZfP {w : World} {β : Nat → Nat} {args : List AV} {vals : Array Value} (hs : vals.size = args.length) (hr : ∀ (i : Nat) (x : AV) (v : Value), args[i]? = some x → vals[i]? = some v → ARel w (Old w) β 0 x v ∧ isUn x = false) :
  Entry w (Old w) β args [] vals := by
 refine ⟨hs, fun i x v hx hv => (hr i x v hx hv).1, ⟨?_, ?_, ?_, ?_, fun b o h => h, fun id r es h => by simp at h⟩, ⟨?_, ?_⟩⟩
 ·intro id r h; simp at h
 ·intro id r j x h; simp at h
 ·intro i j h; simp at h
 ·intro i h; simp at h
 ·intro l x v hl hu
  cases l with
  | slot i => rw [(hr i x v hl.1 hl.2).2] at hu; simp at hu
  | box id j => obtain ⟨row, h, _⟩ := hl; simp at h
 ·intro l l' x x' v v' hl _ hu
  cases l with
  | slot i => rw [(hr i x v hl.1 hl.2).2] at hu; simp at hu
  | box id j => obtain ⟨row, h, _⟩ := hl; simp at h
theorem ZfL {P : Program} {I : Inv} {G : GF} (hF : Z2n P I G) {f : FuncId} {args : List AV} {vals : Array Value} {r : Res} {w : World} (hI : I w (Old w)) (hE : G f args [] = some r) (hs : vals.size = args.length)
  (hr : ∀ (i : Nat) (x : AV) (v : Value), args[i]? = some x → vals[i]? = some v → ARel w (Old w) (fun _ => 0) 0 x v ∧ isUn x = false) :
  Calls P f vals w fun e w' => ∃ v S' β', e = .returned v ∧ Below w.heap.size w w' ∧ ARel w' S' β' r.2.length r.1 v := by
 obtain ⟨_, hc⟩ := hF f args [] r hE w (Old w) (fun _ => 0) vals hI (ZfP hs hr)
 refine hc.mono fun e w' hp => ?_
 cases e with
 | returned v =>
  obtain ⟨S', β', he, hst⟩ := hp
  refine ⟨v, S', β', rfl, ⟨hst.os, hst.tape, hst.output, hst.size, fun k hk => hst.block k hk (fun i hi => by simp at hi) ?_⟩, he.rel 0 r.1 v rfl rfl⟩
  rintro ⟨l, x, u, hl, hu, _⟩
  cases l with
  | slot i => rw [(hr i x u hl.1 hl.2).2] at hu; simp at hu
  | box id j => obtain ⟨row, h, _⟩ := hl; simp at h
 | panicked c => exact hp.elim
 | outgrown => exact hp.elim
end Go.Abs
end
