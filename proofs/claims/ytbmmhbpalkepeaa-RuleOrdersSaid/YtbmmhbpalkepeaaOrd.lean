/- The stable sort of a few, and Order, walked. No condition. -/
import Derived.Sort.LotA
import Derived.Test.YtbmmhbpalkepeaaEvA
import Derived.Shelf.SlSortCmp.Insertion1
import Derived.Laws.AppendOwn
import Derived.Test.YtbmmhbpalkepeaaShelf
import Derived.WalkKit
import Derived.Lib.Walk
import Derived.Deep.QuietTactic

set_option linter.unusedSimpArgs false
set_option linter.unusedVariables false
set_option linter.defProp false
section
namespace Go.Abs.Ord
open Go Go.Sort
def ltP (pr : Int → Int) (x y : Int) : Bool := decide (pr y < pr x)
def ltQ (pr : Int → Int) (x y : Int) : Bool := decide (pr y < pr x ∨ (pr x = pr y ∧ x < y))
variable {pr : Int → Int}
theorem Zk2 : SWO (ltQ pr) where
 irrefl x := by unfold ltQ; simp
 trans x y z h1 h2 := by unfold ltQ at *; simp only [decide_eq_true_eq] at *; omega
 ntrans x y z h1 h2 := by unfold ltQ at *; simp only [decide_eq_false_iff_not] at *; omega
theorem Zk4 {x y : Int} (h : y < x) : ltP pr x y = ltQ pr x y := by
 unfold ltP ltQ
 exact decide_eq_decide.2 (by omega)
theorem swp_size (d : Array Int) (i j : Nat) : (swp d i j).size = d.size := by simp [swp]
theorem swp_get {d : Array Int} {i j k : Nat} (hi : i < d.size) (hj : j < d.size) (hk : k < d.size) : (swp d i j)[k]! = if k = j then d[i]! else if k = i then d[j]! else d[k]! := by
 unfold swp
 rw [getElem!_pos _ k (by simpa using hk), Array.getElem_setIfInBounds (by simpa using hk)]
 by_cases e : j = k
 ·subst e; simp
 ·by_cases e2 : i = k
  ·subst e2
   rw [if_neg e, Array.getElem_setIfInBounds hk, if_pos rfl, if_neg (fun h => e h.symm), if_pos rfl]
  ·rw [if_neg e, Array.getElem_setIfInBounds hk, if_neg e2, if_neg (fun h => e h.symm), if_neg (fun h => e2 h.symm), getElem!_pos d k hk]
theorem Z9o : ∀ (j : Nat) (d : Array Int), j < d.size → (∀ k, k < j → d[k]! < d[j]!) →
  insInner (ltP pr) 0 j d = insInner (ltQ pr) 0 j d ∧ (insInner (ltP pr) 0 j d).size = d.size ∧ (∀ k, j < k → k < d.size → (insInner (ltP pr) 0 j d)[k]! = d[k]!) ∧ ∀ k, k ≤ j → ∃ m, m ≤ j ∧ (insInner (ltP pr) 0 j d)[k]! = d[m]!
 | 0, d, _, _ => ⟨rfl, rfl, fun _ _ _ => rfl, fun k hk => ⟨k, hk, rfl⟩⟩
 | j + 1, d, hj, h => by
  have e : ltP pr d[j + 1]! d[j]! = ltQ pr d[j + 1]! d[j]! := Zk4 (h j (by omega))
  unfold insInner
  rw [← e]
  by_cases c : ltP pr d[j + 1]! d[j]! = true
  ·have hc : (decide (j + 1 > 0) && ltP pr d[j + 1]! d[j]!) = true := by rw [c]; simp
   rw [if_pos hc, if_pos hc]
   have hg := fun k (hk : k < d.size) => swp_get (d := d) (i := j + 1) (j := j) (k := k) hj (by omega) hk
   obtain ⟨h1, h2, h3, h4⟩ := Z9o j (swp d (j + 1) j) (by rw [swp_size]; omega) (fun k hk => by
    rw [hg k (by omega), hg j (by omega), if_neg (by omega), if_neg (by omega), if_pos rfl]
    exact h k (by omega))
   rw [swp_size] at h2 h3
   refine ⟨h1, h2, fun k hk hks => ?_, fun k hk => ?_⟩
   ·rw [h3 k (by omega) hks, hg k hks, if_neg (by omega), if_neg (by omega)]
   ·by_cases hkj : k ≤ j
    ·obtain ⟨m, hm, e⟩ := h4 k hkj
     rw [e, hg m (by omega)]
     by_cases e1 : m = j
     ·exact ⟨j + 1, Z1y _, by rw [if_pos e1]⟩
     ·exact ⟨m, by omega, by rw [if_neg e1, if_neg (by omega)]⟩
    ·obtain rfl : k = j + 1 := by omega
     exact ⟨j, by omega, by rw [h3 (j + 1) (by omega) hj, hg (j + 1) hj, if_neg (by omega), if_pos rfl]⟩
  ·have hc : ¬ (decide (j + 1 > 0) && ltP pr d[j + 1]! d[j]!) = true := by simp [c]
   rw [if_neg hc, if_neg hc]
   exact ⟨rfl, rfl, fun _ _ _ => rfl, fun k hk => ⟨k, hk, rfl⟩⟩
theorem insOuter_go (lt : Int → Int → Bool) (a b i : Nat) (d : Array Int) (h : i < b) : insOuter lt a b i d = insOuter lt a b (i + 1) (insInner lt a i d) := by rw [insOuter, if_pos h]
theorem insOuter_stop (lt : Int → Int → Bool) (a b i : Nat) (d : Array Int) (h : ¬ i < b) : insOuter lt a b i d = d := by rw [insOuter, if_neg h]
theorem Z9z : ∀ (n i : Nat) (d : Array Int), i + n = d.size → (∀ p q, i ≤ q → q < d.size → p < q → d[p]! < d[q]!) → insOuter (ltP pr) 0 d.size i d = insOuter (ltQ pr) 0 d.size i d
 | 0, i, d, h, _ => by rw [insOuter_stop _ _ _ _ _ (by omega), insOuter_stop _ _ _ _ _ (by omega)]
 | n + 1, i, d, h, hd => by
  obtain ⟨h1, h2, h3, h4⟩ := Z9o (pr := pr) i d (by omega) (fun k hk => hd k i (Z1y _) (by omega) hk)
  rw [insOuter_go (ltP pr) 0 d.size i d (by omega), insOuter_go (ltQ pr) 0 d.size i d (by omega), ← h1]
  have ih := Z9z n (i + 1) (insInner (ltP pr) 0 i d) (by rw [h2]; omega) (fun p q hq hqs hpq => by
   rw [h2] at hqs
   rw [h3 q (by omega) hqs]
   by_cases hp : p ≤ i
   ·obtain ⟨m, hm, e⟩ := h4 p hp
    rw [e]
    exact hd m q (by omega) hqs (by omega)
   ·rw [h3 p (by omega) (by omega)]
    exact hd p q (by omega) hqs hpq)
  rw [h2] at ih
  exact ih
theorem Zfx {l : List Int} (h : l.Pairwise (· < ·)) {p q : Nat} (hpq : p < q) (hq : q < l.length) : l.toArray[p]! < l.toArray[q]! := by
 rw [getElem!_pos l.toArray p (by simp; omega), getElem!_pos l.toArray q (by simpa using hq)]
 simp only [List.getElem_toArray]
 exact Zaa.1 h p q (by omega) hq hpq
theorem sort_spec {l : List Int} (h : l.Pairwise (· < ·)) : (insertionSort (ltP pr) l.toArray 0 l.length).toList.Perm l ∧ (insertionSort (ltP pr) l.toArray 0 l.length).toList.Pairwise (fun x y => ltQ pr x y = true) ∧ (insertionSort (ltP pr) l.toArray 0 l.length).size = l.length := by
 have e : insertionSort (ltP pr) l.toArray 0 l.length = insertionSort (ltQ pr) l.toArray 0 l.length := by
  unfold insertionSort
  rcases Z64 l.length with h0 | h0
  ·rw [insOuter_stop _ _ _ _ _ (by omega), insOuter_stop _ _ _ _ _ (by omega)]
  ·have := Z9z (pr := pr) (l.length - 1) 1 l.toArray (by simp; omega) (fun p q _ hq hpq => Zfx h hpq (by simpa using hq))
   simpa using this
 obtain ⟨⟨h1, _, h3⟩, h4⟩ := insertionSort_holds (lt := ltQ pr) Zk2 l.toArray 0 l.length (Nat.zero_le _) (by simp)
 rw [e]
 generalize hd : insertionSort (ltQ pr) l.toArray 0 l.length = d at *
 have hs : d.size = l.length := by simpa using h1
 have e1 : d.extract 0 l.length = d := by rw [← hs]; simp
 have e2 : l.toArray.extract 0 l.length = l.toArray := by simp
 rw [e1, e2] at h3
 have hp : d.toList.Perm l := by simpa using h3
 refine ⟨hp, ?_, hs⟩
 rw [Zaa]
 intro i j hi hj hij
 have hj' : j < d.size := by simpa using hj
 have := h4 i j (Nat.zero_le _) hij (by omega)
 rw [getElem!_pos d j hj', getElem!_pos d i (by omega)] at this
 have hnd : l.Nodup := h.imp fun h => by omega
 have hne : d.toList[i] ≠ d.toList[j] := Zaa.1 (hp.nodup_iff.2 hnd) i j hi hj hij
 simp only [Array.getElem_toList] at hne ⊢
 unfold ltQ at this ⊢
 simp only [decide_eq_false_iff_not, decide_eq_true_eq] at this ⊢
 omega
theorem Zfm {a b : List Int} (hp : a.Perm b) (ha : a.Pairwise (fun x y => ltQ pr x y = true)) (hb : b.Pairwise (fun x y => ltQ pr x y = true)) : a = b :=
 hp.eq_of_pairwise (le := fun x y => ltQ pr x y = true) (fun x y _ _ h1 h2 => by unfold ltQ at h1 h2; simp only [decide_eq_true_eq] at h1 h2; omega) ha hb
end Go.Abs.Ord
end
section
namespace Go.Abs.Ord
open Go Go.Sort Go.Lib Go.Proofs Go.RowKit
theorem Zks {enc : Int → Value} {w W : World} {g : Nat} {cur : Array Value} {e : TypeId} {fr : Nat × Nat} {d : Array Int} (hb : w.heap[g]? = some (.cells cur e fr)) (h : SW enc w g 0 d W) : W.heap[g]? = some (.cells (putCells enc 0 d cur) e fr) := by
 obtain ⟨n, os, rfl⟩ := h
 have hg : g < w.heap.size := (Z2z.1 hb).1
 unfold sortWorld
 rw [heap_grow_old _ _ (by simpa [putRow, mapBlock, Sort.ahead] using hg)]
 simp [putRow, mapBlock, Sort.ahead, Zcp, hb, onCells]
theorem ZcK {enc : Int → Value} {w W : World} {g : Nat} {d : Array Int} (h : SW enc w g 0 d W) : w.grownBy W (some g) := by
 obtain ⟨n, os, rfl⟩ := h
 unfold sortWorld
 refine ⟨rfl, rfl, rfl, by simp [putRow, mapBlock, Sort.ahead], fun k hk hne => ?_⟩
 rw [heap_grow_old _ _ (by simpa [putRow, mapBlock, Sort.ahead] using hk)]
 have : g ≠ k := fun e => hne (by rw [e])
 simp [putRow, mapBlock, Sort.ahead, Zcp, this]
theorem Zik (enc : Int → Value) (cur : Array Value) (d : Array Int) (h : d.size ≤ cur.size) : (putCells enc 0 d cur).toList.take d.size = d.toList.map enc := by
 apply Z7b
 intro j
 by_cases hj : j < d.size
 ·rw [List.getElem?_take_of_lt hj, Zfs]
  simp [putCells, hj, show j < cur.size by omega]
 ·rw [List.getElem?_take_eq_none (by omega), Z3L (by simpa using hj)]
theorem Zkt {enc : Int → Value} {w W : World} {base g cap : Nat} {e : TypeId} {l : List Value} {d : Array Int} (ho : w.ownsRow base e 1 (.slice (some ⟨g, 0, none⟩) l.length cap) l.length l) (hl : 0 < l.length) (hd : d.size = l.length) (h : SW enc w g 0 d W) :
  W.ownsRow base e 1 (.slice (some ⟨g, 0, none⟩) l.length cap) l.length (d.toList.map enc) := by
 refine ⟨by simp [hd], .inr ?_⟩
 rcases ho.2 with ⟨_, h0⟩ | ⟨g', cap', cur, hv, hb, hh, h1, h2, h3, _⟩
 ·omega
 ·simp only [Value.slice.injEq, ZO, Addr.mk.injEq] at hv
  obtain ⟨⟨rfl, _⟩, _, rfl⟩ := hv
  refine ⟨g, cap, _, rfl, hb, Zks hh h, h1, h2, by simpa [putCells] using h3, ?_⟩
  have := Zik enc cur d (by rw [h3, hd]; omega)
  rw [hd] at this
  rw [Nat.mul_one]
  exact this
theorem Zfn {enc : Int → Value} {w : World} {base g cap : Nat} {e : TypeId} {l : List Int} (henc : ∀ x ∈ l, enc x = .int .i64 x) (ho : w.ownsRow base e 1 (.slice (some ⟨g, 0, none⟩) l.length cap) l.length (l.map (Value.int .i64))) : Holds enc w g 0 l.toArray ∧ (l ≠ [] → g < w.heap.size) := by
 refine ⟨fun j hj => ?_, fun hn => ?_⟩
 ·have hj' : j < l.length := by simpa using hj
  have hc := ho.cells (g := g) rfl j (.int .i64 l[j]) (by simp [hj'])
  rw [show (⟨g, 0, none⟩ : Addr).add j = ⟨g, 0 + j, none⟩ by unfold Addr.add; split <;> simp_all] at hc
  refine ⟨?_, ?_⟩
  ·rw [hc, getElem!_pos l.toArray j hj]
   simp only [List.getElem_toArray]
   rw [henc _ (Zcz hj')]
  ·rcases ho.2 with ⟨hv, _⟩ | ⟨g', cap', cur, hv, _, hh, _⟩
   ·simp at hv
   ·simp only [Value.slice.injEq, ZO, Addr.mk.injEq] at hv
    obtain ⟨⟨rfl, _⟩, _, rfl⟩ := hv
    simp [World.frozen?, hh]
 ·rcases ho.2 with ⟨hv, _⟩ | ⟨g', cap', cur, hv, _, hh, _⟩
  ·simp at hv
  ·simp only [Value.slice.injEq, ZO, Addr.mk.injEq] at hv
   obtain ⟨⟨rfl, _⟩, _, rfl⟩ := hv
   exact (Z2z.1 hh).1
end Go.Abs.Ord
end
section
namespace Go.Proofs.Ytbmmhbpalkepeaa.Ord
open Go Go.Abs.Ord Go.RowKit Go.Sort Go.Lib
def cl (n : Nat) (x : Int) : Int := if 0 ≤ x ∧ x < n then x else 0
theorem Ze7 {n : Nat} {x : Int} (h0 : 0 ≤ x) (h1 : x < n) : cl n x = x := if_pos ⟨h0, h1⟩
theorem ZiR {n : Nat} (hn : 0 < n) (x : Int) : ∃ k : Nat, cl n x = k ∧ k < n := by
 unfold cl
 split
 ·exact ⟨x.toNat, by omega, by omega⟩
 ·exact ⟨0, rfl, hn⟩
def prO (R : List (Int × Int)) (x : Int) : Int := ((R[(cl R.length x).toNat]?).getD (0, 0)).1
def encO (R : List (Int × Int)) (x : Int) : Value := .int .i64 (cl R.length x)
def cmpO (R : List (Int × Int)) (x y : Int) : Int := Lib.compareInt (prO R y) (prO R x)
theorem Zk3 (R : List (Int × Int)) : ltOf (cmpO R) = ltP (prO R) := by
 funext x y
 unfold ltOf cmpO Lib.compareInt ltP
 by_cases h1 : prO R y < prO R x
 ·simp [h1]
 ·by_cases h2 : prO R x < prO R y <;> simp [h1, h2]
def LiesR (m : Nat) (w : World) (a : Option Addr) (R : List (Int × Int)) : Prop :=
 R = [] ∨ ∃ b off, a = some ⟨b, off, none⟩ ∧ b < m ∧ ∀ (i : Nat) (x : Int × Int), R[i]? = some x → ∃ z0 z2 s4, w.cell? ⟨b, off + i * 5, none⟩ = some (.int .i64 z0) ∧ w.cell? ⟨b, off + i * 5 + 1, none⟩ = some (.int .i64 x.1) ∧
  w.cell? ⟨b, off + i * 5 + 2, none⟩ = some (.int .i64 z2) ∧ w.cell? ⟨b, off + i * 5 + 3, none⟩ = some (.int .i64 x.2) ∧ w.cell? ⟨b, off + i * 5 + 4, none⟩ = some (.string s4)
set_option maxRecDepth 100000 in
set_option maxHeartbeats 2000000 in
theorem ZfM (N cap b off sb i k : Nat) (pi pk : Int) (W : World) (hs : W.cell? ⟨sb, 4, none⟩ = some (.slice (some ⟨b, off, none⟩) N cap)) (hi : i < N) (hk : k < N)
  (c1 : W.cell? ⟨b, off + i * 5 + 1, none⟩ = some (.int .i64 pi)) (c2 : W.cell? ⟨b, off + k * 5 + 1, none⟩ = some (.int .i64 pk)) :
  Calls Try.prog 40 #[.int .i64 i, .int .i64 k, .pointer (some ⟨sb, 0, none⟩)] W fun e w' => e = .returned (.int .i64 (Lib.compareInt pk pi)) ∧ ∃ q, w' = W.drewN q := by
 have hcon := fun W' => AnyG.cmp_Compare_int Try.cmpInt pk pi W'
 change ∀ W', Calls Try.prog 41 _ _ _ at hcon
 generalize Lib.compareInt pk pi = r at hcon ⊢
 go_enter Try.func40, Try.ntmps40
 go_wp2
 go_quiet (first | (go_at_call 41; refine Calls.quiet_of_same (hcon _)))
 go_wp2
 go_ret
 exact ⟨rfl, _, rfl⟩
theorem Zmo {w w' : World} {b o : Nat} (h : w'.heap[b]? = w.heap[b]?) : w'.cell? ⟨b, o, none⟩ = w.cell? ⟨b, o, none⟩ := by unfold World.cell?; simp only [h]
theorem Zm0 (R : List (Int × Int)) (hR : 0 < R.length) (w : World) (cap sb b off g size : Nat) (hs : w.cell? ⟨sb, 4, none⟩ = some (.slice (some ⟨b, off, none⟩) R.length cap)) (hsb : sb < w.heap.size) (hl : LiesR w.heap.size w (some ⟨b, off, none⟩) R) (hg : sb ≠ g) (hb : b ≠ g) :
  CmpLays1 Try.prog 40 #[.pointer (some ⟨sb, 0, none⟩)] (encO R) (cmpO R) g 0 size w := by
 intro m os dk _ x y
 have hgr := ZcK (show SW (encO R) w g 0 dk (sortWorld (encO R) w g 0 m dk os) from ⟨m, os, rfl⟩)
 generalize sortWorld (encO R) w g 0 m dk os = V at hgr ⊢
 obtain ⟨i, hi, hil⟩ := ZiR hR x
 obtain ⟨k, hk, hkl⟩ := ZiR hR y
 rcases hl with rfl | ⟨b', off', e, hbl, hc⟩
 ·simp at hR
 simp only [ZO, Addr.mk.injEq] at e
 obtain ⟨rfl, rfl, _⟩ := e
 obtain ⟨_, _, _, _, c1, _⟩ := hc i _ (q2_ hil)
 obtain ⟨_, _, _, _, c2, _⟩ := hc k _ (q2_ hkl)
 have hV : ∀ j o, j < w.heap.size → j ≠ g → V.cell? ⟨j, o, none⟩ = w.cell? ⟨j, o, none⟩ := fun j o h1 h2 => Zmo (hgr.block j h1 (by simpa using h2))
 have := ZfM R.length cap b off sb i k (prO R x) (prO R y) V ((hV _ _ hsb hg).trans hs) hil hkl
  ((hV _ _ hbl hb).trans (c1.trans (by unfold prO; rw [hi, Int.toNat_natCast, q2_ hil]; rfl)))
  ((hV _ _ hbl hb).trans (c2.trans (by unfold prO; rw [hk, Int.toNat_natCast, q2_ hkl]; rfl)))
 have e1 : #[encO R x, encO R y] ++ #[Value.pointer (some ⟨sb, 0, none⟩)] = #[.int .i64 i, .int .i64 k, .pointer (some ⟨sb, 0, none⟩)] := by unfold encO; rw [hi, hk]; rfl
 rw [e1]
 exact this.mono fun e w' ⟨h1, q, h2⟩ => ⟨h1, q, #[], by rw [h2, grow_empty]⟩
set_option maxRecDepth 100000 in
set_option maxHeartbeats 2000000 in
theorem ZdI (v f : Value) (w : World) : Calls Try.prog 57 #[v, .int .i64 0, .int .i64 0, f] w fun e w' => e = .returned (.tuple #[]) ∧ w' = w := by
 go_enter Try.func57, Try.ntmps57
 go_wp2
 refine wp_loop_rounds 1 ?_
 rw [rounds_succ]
 go_wp2
 go_end0
 exact ⟨rfl, rfl⟩
set_option maxRecDepth 100000 in
set_option maxHeartbeats 2000000 in
theorem Zih (Q : World → Prop) (v f : Value) (n : Nat) (hn : n < 20) (w : World) (hi : Calls Try.prog 57 #[v, .int .i64 0, .int .i64 n, f] w fun e w' => e = .returned (.tuple #[]) ∧ Q w') :
  Calls Try.prog 50 #[v, .int .i64 n, f] w fun e w' => e = .returned (.tuple #[]) ∧ Q w' := by
 have h1 : ¬ ((20 : Int) ≤ n) := by omega
 have h2 : ¬ ((20 : Int) < n) := by omega
 go_enter Try.func50, Try.ntmps50
 go_wp2
 refine wp_loop_rounds 1 ?_
 rw [rounds_succ]
 go_wp2_with (go_at_call 57; refine hi.mono ?_; rintro e w1 ⟨rfl, hq⟩)
 refine wp_loop_rounds 1 ?_
 rw [rounds_succ]
 go_wp2
 go_end0
 exact ⟨rfl, hq⟩
set_option maxRecDepth 100000 in
set_option maxHeartbeats 2000000 in
theorem ZcI (Q : World → Prop) (a : Option Addr) (cap : Nat) (f : Value) (n : Nat) (hn : n < 20) (w : World) (hi : Calls Try.prog 57 #[.slice a n cap, .int .i64 0, .int .i64 n, f] w fun e w' => e = .returned (.tuple #[]) ∧ Q w') :
  Calls Try.prog 39 #[.slice a n cap, f] w fun e w' => e = .returned (.tuple #[]) ∧ Q w' := by
 have h50 := Zih Q (.slice a n cap) f n hn w hi
 go_enter Try.func39, Try.ntmps39
 go_wp2_with (go_at_call 50; refine h50.mono ?_; rintro e w1 ⟨rfl, hq⟩)
 go_end0
 exact ⟨rfl, hq⟩
def Hid (p : Prop) : Prop := p
theorem info3 : (Try.prog.info? 3).map (fun i => (i.zero, i.size, i.bytes)) = some (some (.int .i64 0), 1, 8) := by kernel_rfl
def hit (R : List (Int × Int)) (sc : Int) (i : Nat) : Bool := match R[i]? with | some x => bits .and .i64 x.2 sc != 0 | none => false
def plc (R : List (Int × Int)) (sc : Int) (k : Nat) : List Int := ((List.range k).filter (hit R sc)).map Int.ofNat
def ordO (R : List (Int × Int)) (sc : Int) : List Int := (insertionSort (ltP (prO R)) (plc R sc R.length).toArray 0 (plc R sc R.length).length).toList
theorem Zia (R : List (Int × Int)) (sc : Int) (k : Nat) : plc R sc (k + 1) = plc R sc k ++ (if hit R sc k = true then [(k : Int)] else []) := by
 unfold plc
 rw [List.range_succ, List.filter_append, List.map_append]
 congr 1
 by_cases h : hit R sc k = true <;> simp [h]
theorem plc_len (R : List (Int × Int)) (sc : Int) (k : Nat) : (plc R sc k).length ≤ k := by
 unfold plc
 rw [Z39]
 exact Z8b (List.length_filter_le _ _) (by simp)
theorem ZdS {R : List (Int × Int)} {sc : Int} {k : Nat} {x : Int} (h : x ∈ plc R sc k) : 0 ≤ x ∧ x < k := by
 unfold plc at h
 obtain ⟨i, hi, rfl⟩ := Z1B.1 h
 have := Z4g.1 (Z2o.1 hi).1
 simp only [Int.ofNat_eq_natCast]
 omega
theorem plc_rising (R : List (Int × Int)) (sc : Int) (k : Nat) : (plc R sc k).Pairwise (· < ·) := by
 unfold plc
 rw [Zcy]
 refine List.Pairwise.imp ?_ (List.Pairwise.filter _ List.pairwise_lt_range)
 intro a b h
 simp only [Int.ofNat_eq_natCast]
 omega
theorem ZmA (R : List (Int × Int)) (sc : Int) (hlen : R.length < 20) (W : World) (base sb cap : Nat) (ra : Option Addr) (v : Value) (hs : W.cell? ⟨sb, 4, none⟩ = some (.slice ra R.length cap)) (hsb : sb < base) (hbase : base ≤ W.heap.size) (hl : LiesR base W ra R)
  (ho : W.ownsRow base 3 1 v (plc R sc R.length).length ((plc R sc R.length).map (Value.int .i64))) :
  Calls Try.prog 39 #[v, .func (.func 40) #[] #[.pointer (some ⟨sb, 0, none⟩)]] W fun e w' => e = .returned (.tuple #[]) ∧ w'.ownsRow base 3 1 v (ordO R sc).length ((ordO R sc).map (Value.int .i64)) ∧ RowKit.Below base W w' := by
 obtain ⟨hp, _, hsz⟩ := sort_spec (pr := prO R) (plc_rising R sc R.length)
 have hll : (ordO R sc).length = (plc R sc R.length).length := hp.length_eq
 have hpl := plc_len R sc R.length
 rcases ho.2 with ⟨rfl, hz⟩ | ⟨g, cp, cur, rfl, hb, hg, h1, h2, h3, h4⟩
 ·have hnil : plc R sc R.length = [] := Za9 hz
  have hon : ordO R sc = [] := Za9 (by rw [hll, hz])
  refine (ZcI (fun w' => w' = W) none 0 _ 0 (by omega) W (ZdI _ _ W)).mono ?_
  rintro e w' ⟨rfl, rfl⟩
  rw [hon]
  exact ⟨rfl, World.ownsRow_nil _ _ _ _, RowKit.Below.refl _ _⟩
 ·by_cases hn : plc R sc R.length = []
  ·have hon : ordO R sc = [] := Za9 (by rw [hll, hn]; rfl)
   rw [hn] at ho ⊢
   rw [hon]
   refine (ZcI (fun w' => w' = W) _ cp _ 0 (by omega) W (ZdI _ _ W)).mono ?_
   rintro e w' ⟨rfl, rfl⟩
   exact ⟨rfl, ho, RowKit.Below.refl _ _⟩
  ·have hR : 0 < R.length := by
    rcases Z64 R.length with h | h
    ·rw [h] at hn; exact absurd rfl hn
    ·exact h
   have henc : ∀ x ∈ plc R sc R.length, encO R x = .int .i64 x := fun x hx => by
    have := ZdS hx
    unfold encO
    rw [Ze7 this.1 this.2]
   obtain ⟨hH, hlt⟩ := Zfn henc ho
   rcases hl with h | ⟨b, off, rfl, hbb, hc⟩
   ·rw [h] at hR; simp at hR
   have hC := Zm0 R hR W cap sb b off g (plc R sc R.length).toArray.size hs (by omega) (.inr ⟨b, off, rfl, by omega, hc⟩) (by omega) (by omega)
   have hE : OneCell (encO R) := fun x => by unfold encO; rfl
   have := Any.insertionSortCmpFunc_s Try.insA (encO R) (cmpO R) 40 #[.pointer (some ⟨sb, 0, none⟩)] g 0 cp 0 (plc R sc R.length).length (plc R sc R.length).toArray (plc R sc R.length).toArray W W
    (enters_of Try.func40 (by kernel_rfl) rfl) hC ⟨hE, hH, hlt hn⟩ rfl (SW.start hH) (Nat.zero_le _) (by simp) (by simp; omega)
   change Calls Try.prog 57 _ _ _ at this
   simp only [List.size_toArray] at this
   refine (ZcI _ _ cp _ _ (by omega) W this).mono ?_
   rintro e w' ⟨rfl, hsw⟩
   rw [Zk3] at hsw
   have hgr := ZcK hsw
   have hlen' : (plc R sc R.length).length = ((plc R sc R.length).map (Value.int .i64)).length := by simp
   have hown := Zkt (l := (plc R sc R.length).map (Value.int .i64)) (by rw [← hlen']; exact ho) (by rw [← hlen']; exact List.length_pos_iff.2 hn) (by rw [hsz]; simp) hsw
   rw [← hlen'] at hown
   refine ⟨rfl, ?_, ?_⟩
   ·rw [hll]
    have e1 : (insertionSort (ltP (prO R)) (plc R sc R.length).toArray 0 (plc R sc R.length).length).toList.map (encO R) = (ordO R sc).map (Value.int .i64) := Z78 fun x hx => henc x (hp.mem_iff.1 hx)
    rw [← e1]
    exact hown
   ·exact ⟨hgr.os, hgr.tape, hgr.output, hgr.size, fun j hj => hgr.block j (by omega) (by simp; omega)⟩
set_option maxRecDepth 100000 in
set_option maxHeartbeats 4000000 in
theorem order_walk (R : List (Int × Int)) (a0 a1 a2 a3 sc : Int) (ra : Option Addr) (rcap : Nat) (ok : Bool) (w : World) (hlen : ok = true → R.length < 20) (hl : LiesR w.heap.size w ra R)
  (hR : ∀ W, RowKit.Below w.heap.size w W → Calls Try.prog 16 #[.agg #[.int .i64 a0, .int .i64 a1, .int .i64 a2, .int .i64 a3, .slice ra R.length rcap]] W fun e W' => e = .returned (.bool ok) ∧ RowKit.Below W.heap.size W W') :
  Calls Try.prog 23 #[.agg #[.int .i64 a0, .int .i64 a1, .int .i64 a2, .int .i64 a3, .slice ra R.length rcap], .int .i64 sc] w fun e w' => ∃ v, e = .returned v ∧ w'.ownsRow w.heap.size 3 1 v (if ok then ordO R sc else []).length ((if ok then ordO R sc else []).map (Value.int .i64)) ∧ RowKit.Below w.heap.size w w' := by
 have hb0 : RowKit.Below w.heap.size w (w.alloc (.cells #[.int .i64 a0, .int .i64 a1, .int .i64 a2, .int .i64 a3, .slice ra R.length rcap] 24)) := (RowKit.Below.refl _ w).alloc (Z1y _) _
 have hR0 := hR _ hb0
 obtain ⟨i0, hi, hz0, hz1, hz2⟩ := info_parts info3
 obtain ⟨N, hN⟩ : ∃ N, R.length = N := ⟨_, rfl⟩
 rw [hN] at hR0 hlen ⊢
 cases ok with
 | false =>
  go_enter Try.func23, Try.ntmps23
  go_wp2_with (go_at_call 16; refine hR0.mono ?_; rintro e W ⟨rfl, hbW⟩)
  go_ret
  refine ⟨_, rfl, World.ownsRow_nil _ _ _ _, ?_⟩
  refine hb0.trans ?_
  exact RowKit.Below.mono (by rw [hN]; exact hbW) (by simp)
 | true =>
  have hlen := hlen rfl
  go_enter Try.func23, Try.ntmps23
  go_wp2_with (
   go_at_call 16
   refine hR0.mono ?_
   rintro e W ⟨rfl, hbW⟩
   have hs : W.cell? ⟨w.heap.size, 4, none⟩ = some (.slice ra N rcap) := (hbW.cell (p := ⟨w.heap.size, 4, none⟩) (by simp)).trans (by simp [hN]))
  have hbB : RowKit.Below w.heap.size w W := by
   refine hb0.trans ?_
   exact RowKit.Below.mono (by rw [hN]; exact hbW) (by simp)
  have hb1 : Hid (RowKit.Below w.heap.size w W) := hbB
  have hlW : LiesR W.heap.size W ra R := by
   have hb : RowKit.Below w.heap.size w W := hb1
   rcases hl with h | ⟨b, off, h1, h2, h3⟩
   ·exact .inl h
   ·refine .inr ⟨b, off, h1, Z4T h2 hb.size, fun i x hx => ?_⟩
    obtain ⟨z0, z2, s4, q0, q1, q2, q3, q4⟩ := h3 i x hx
    exact ⟨z0, z2, s4, (hb.cell (p := ⟨b, _, none⟩) h2).trans q0, (hb.cell (p := ⟨b, _, none⟩) h2).trans q1, (hb.cell (p := ⟨b, _, none⟩) h2).trans q2, (hb.cell (p := ⟨b, _, none⟩) h2).trans q3, (hb.cell (p := ⟨b, _, none⟩) h2).trans q4⟩
  have hsW : Hid (w.heap.size < W.heap.size) := Z4T (by simp) hbW.size
  have hs' : Hid (W.cell? ⟨w.heap.size, 4, none⟩ = some (.slice ra N rcap)) := hs
  clear hl hR hR0 hb0 hbW hs hbB
  go_wp2
  go_loopw [5, 14] (fun p5 p14 wr => ∃ k : Nat, k ≤ N ∧ p14 = .int .i64 k ∧ wr.ownsRow W.heap.size 3 1 p5 (plc R sc k).length ((plc R sc k).map (Value.int .i64)) ∧ RowKit.Below W.heap.size W wr)
   (fun _ p14 _ => N - (intOf p14).toNat)
  case atStart => exact ⟨0, Nat.zero_le _, rfl, World.ownsRow_nil _ _ _ _, RowKit.Below.refl _ _⟩
  case round =>
   obtain ⟨k, hk, rfl, hown, hbr⟩ := hrel
   by_cases hlt : k < N
   ·have hkR : k < R.length := by omega
    have hx : R[k]? = some R[k] := q2_ hkR
    rcases hlW with rfl | ⟨b, off, rfl, hbW, hcs⟩
    ·simp at hkR
    obtain ⟨z0, z2, s4, d0, d1, d2, d3, d4⟩ := hcs k _ hx
    have c0 : wr.cell? ⟨b, off + k * 5, none⟩ = some (.int .i64 z0) := (hbr.cell (p := ⟨b, off + k * 5, none⟩) hbW).trans d0
    have c1 : wr.cell? ⟨b, off + k * 5 + 1, none⟩ = some (.int .i64 R[k].1) := (hbr.cell (p := ⟨b, off + k * 5 + 1, none⟩) hbW).trans d1
    have c2 : wr.cell? ⟨b, off + k * 5 + 2, none⟩ = some (.int .i64 z2) := (hbr.cell (p := ⟨b, off + k * 5 + 2, none⟩) hbW).trans d2
    have c3 : wr.cell? ⟨b, off + k * 5 + 3, none⟩ = some (.int .i64 R[k].2) := (hbr.cell (p := ⟨b, off + k * 5 + 3, none⟩) hbW).trans d3
    have c4 : wr.cell? ⟨b, off + k * 5 + 4, none⟩ = some (.string s4) := (hbr.cell (p := ⟨b, off + k * 5 + 4, none⟩) hbW).trans d4
    clear hcs d0 d1 d2 d3 d4
    have hpl := plc_len R sc k
    have hps := Zia R sc k
    have hh : hit R sc k = (bits .and .i64 R[k].2 sc != 0) := by unfold hit; rw [hx]
    generalize R[k] = x at *
    by_cases hc : (bits .and .i64 x.2 sc != 0) = true
    ·rw [hh, if_pos hc] at hps
     have hps' : Hid (plc R sc (k + 1) = plc R sc k ++ [(k : Int)]) := hps
     clear hps hh hx
     obtain ⟨l, hl⟩ : ∃ l, plc R sc k = l := ⟨_, rfl⟩
     rw [hl] at hown hpl
     have hown2 := (hown.alloc (.cells #[.int .i64 z0, .int .i64 x.1, .int .i64 z2, .int .i64 x.2, .string s4] 43)).alloc (.cells #[.int .i64 k] 3)
     have hb2 : RowKit.Below W.heap.size W ((wr.alloc (.cells #[.int .i64 z0, .int .i64 x.1, .int .i64 z2, .int .i64 x.2, .string s4] 43)).alloc (.cells #[.int .i64 k] 3)) := (hbr.alloc hbr.size _).alloc (by simp; have := hbr.size; omega) _
     have hsz2 : W.heap.size ≤ ((wr.alloc (.cells #[.int .i64 z0, .int .i64 x.1, .int .i64 z2, .int .i64 x.2, .string s4] 43)).alloc (.cells #[.int .i64 k] 3)).heap.size := hb2.size
     have hnew2 : ∀ (j : Nat) (u : Value), [Value.int .i64 k][j]? = some u → ((wr.alloc (.cells #[.int .i64 z0, .int .i64 x.1, .int .i64 z2, .int .i64 x.2, .string s4] 43)).alloc (.cells #[.int .i64 k] 3)).cell? ((⟨wr.heap.size + 1, 0, none⟩ : Addr).add j) = some u := by
      intro j u hj
      cases j with
      | zero =>
       simp only [Z2m, ZO] at hj
       subst hj
       simp [Addr.add]
      | succ j => simp at hj
     go_wp2_with (at_builtin; refine wpList_append_own _ rfl (.tmp 24) (.tmp 26) 25 rfl W.heap.size 3 i0 (.int .i64 0) 1 8 Try.underlying25 hi hz0 hz1 hz2 rfl (by decide) _ _ _ rfl hown2 ⟨wr.heap.size + 1, 0, none⟩ 1 1 [.int .i64 k] rfl rfl hnew2 (by simp [Value.oneCell']) (by unfold maxLen; omega) (by omega) hsz2 ?_; intro v' w1 hown' hgrow _)
     have hps : plc R sc (k + 1) = plc R sc k ++ [(k : Int)] := hps'
     refine ⟨⟨k + 1, by omega, by simp, ?_, hb2.grown hgrow hsz2 (fun k e => (hown2.lt k e).1)⟩, by simp [intOf]; omega⟩
     rw [hps, hl, Z2J, List.map_append]
     exact hown'
    ·rw [hh, if_neg hc, Z65] at hps
     have hps' : Hid (plc R sc (k + 1) = plc R sc k) := hps
     have hc' : (bits .and .i64 x.2 sc != 0) = false := by simpa using hc
     clear hps hh hx hc
     go_wp2
     have hps : plc R sc (k + 1) = plc R sc k := hps'
     exact ⟨⟨k + 1, by omega, by simp, by rw [hps]; exact hown.alloc _, hbr.alloc hbr.size _⟩, by simp [intOf]; omega⟩
   ·obtain rfl : k = N := by omega
    have hsl : w.heap.size < W.heap.size := hsW
    have hcell : W.cell? ⟨w.heap.size, 4, none⟩ = some (.slice ra k rcap) := hs'
    have hlr : LiesR W.heap.size wr ra R := by
     rcases hlW with h | ⟨b, off, h1, h2, h3⟩
     ·exact .inl h
     ·refine .inr ⟨b, off, h1, h2, fun i x hx => ?_⟩
      obtain ⟨z0, z2, s4, q0, q1, q2, q3, q4⟩ := h3 i x hx
      exact ⟨z0, z2, s4, (hbr.cell (p := ⟨b, _, none⟩) h2).trans q0, (hbr.cell (p := ⟨b, _, none⟩) h2).trans q1, (hbr.cell (p := ⟨b, _, none⟩) h2).trans q2, (hbr.cell (p := ⟨b, _, none⟩) h2).trans q3, (hbr.cell (p := ⟨b, _, none⟩) h2).trans q4⟩
    have hS := ZmA R sc (by omega) wr W.heap.size w.heap.size rcap ra u5 (by rw [hN]; exact (hbr.cell (p := ⟨w.heap.size, 4, none⟩) hsl).trans hcell) hsl hbr.size hlr (by rw [hN]; exact hown)
    have hb1' : Hid (RowKit.Below W.heap.size W wr) := hbr
    clear hlr hcell hown hlW hbr
    go_wp2_with (go_at_call 39; refine hS.mono ?_; rintro e w' ⟨rfl, hown2, hb2⟩)
    go_ret
    have hb : RowKit.Below w.heap.size w W := hb1
    have hbr : RowKit.Below W.heap.size W wr := hb1'
    refine ⟨u5, rfl, ?_, hb.trans ((hbr.trans hb2).mono hb.size)⟩
    exact ⟨hown2.1, hown2.2.imp id fun ⟨g, cp, cur, q1, q2, q3⟩ => ⟨g, cp, cur, q1, by omega, q3⟩⟩
end Go.Proofs.Ytbmmhbpalkepeaa.Ord
end
