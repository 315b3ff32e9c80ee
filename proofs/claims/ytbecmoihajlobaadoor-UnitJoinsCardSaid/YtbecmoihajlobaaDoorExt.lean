/- Functions that are given to the evaluator with their walks: DecodeRune, Split. Condition: the tables. -/
import Derived.Shelf.Spec.DecodeRune
import Derived.Test.YtbecmoihajlobaaDoorEvD
import Derived.Test.YtbecmoihajlobaaDoorWalk
import Derived.Test.YtbecmoihajlobaaDoorShelf
import Derived.Test.YtbecmoihajlobaaDoorEvA
import Derived.Test.YtbecmoihajlobaaDoorProg
import Derived.KernelRfl

section
set_option linter.unusedSimpArgs false
set_option linter.unusedVariables false
/- The tables of unicode/utf8 in the world, all along. -/
namespace Go.Abs
open Go Go.RowKit

/-- The two tables stand, and stay. -/
def Tabs (g3 g4 : Nat) : Inv := fun w S => Lib.Utf8Tabs g3 g4 w ∧ (∀ o, o < 256 → S g3 o) ∧ ∀ o, o < 32 → S g4 o

theorem Tabs.pers (g3 g4 : Nat) : Pers (Tabs g3 g4) := by
  intro w w' S S' hk h
  obtain ⟨⟨h1, h2⟩, h3, h4⟩ := h
  refine ⟨⟨fun c hc => (hk.cell _ _ (h3 c hc)).trans (h1 c hc), fun i hi => ?_⟩, fun o ho => hk.more _ _ (h3 o ho), fun o ho => hk.more _ _ (h4 o ho)⟩
  obtain ⟨a, b⟩ := h2 i hi
  exact ⟨(hk.cell _ _ (h4 _ (by omega))).trans a, (hk.cell _ _ (h4 _ (by omega))).trans b⟩

/-- Everything that is there. -/
def Old (w : World) : Stay := fun b _ => b < w.heap.size

theorem Tabs.old {g3 g4 : Nat} {w : World} (h : Lib.Utf8Tabs g3 g4 w) : Tabs g3 g4 w (Old w) := by
  refine ⟨h, fun o _ => ?_, fun o _ => ?_⟩
  · have := h.1 0 (by omega)
    unfold World.cell? at this
    cases hh : w.heap[g3]? with
    | none => rw [hh] at this; simp at this
    | some x => exact (Array.getElem?_eq_some_iff.1 hh).1
  · have := (h.2 0 (by omega)).1
    unfold World.cell? at this
    cases hh : w.heap[g4]? with
    | none => rw [hh] at this; simp at this
    | some x => exact (Array.getElem?_eq_some_iff.1 hh).1

/-- A byte. -/
def byteX : PV → Option UInt8
  | .v (.int .u8 n) => if 0 ≤ n ∧ n < 256 then some (UInt8.ofNat n.toNat) else none
  | _ => none

def bytesX : List PV → Option (List UInt8)
  | [] => some []
  | x :: r => match byteX x, bytesX r with
    | some a, some b => some (a :: b)
    | _, _ => none

theorem bytesX_spec : ∀ {xs : List PV} {l : List UInt8}, bytesX xs = some l → xs = l.map fun b => .v (.int .u8 b.toNat)
  | [], l, h => by simp [bytesX] at h; subst h; rfl
  | x :: r, l, h => by
    simp only [bytesX] at h
    split at h
    · rename_i b bs hb hbs
      simp only [Option.some.injEq] at h
      subst h
      rw [bytesX_spec hbs]
      unfold byteX at hb
      split at hb
      · rename_i n
        split at hb
        · simp only [Option.some.injEq] at hb
          subst hb
          have : (UInt8.ofNat n.toNat).toNat = n.toNat := by simp; omega
          simp only [List.map_cons, this]
          congr 3
          omega
        · simp at hb
      · simp at hb
    · simp at h

theorem bytesX_map : ∀ (l : List UInt8), bytesX (l.map fun b => .v (.int .u8 b.toNat)) = some l
  | [] => rfl
  | b :: l => by
    have hb : b.toNat < 256 := b.toNat_lt
    simp only [List.map_cons, bytesX, byteX, bytesX_map l]
    rw [if_pos (by omega)]
    simp

/-- The bytes of a slice, in the world. -/
theorem bytes_cells {w : World} {S : Stay} {o : Own} {l : List UInt8} {v : Value} (h : PRel w S (.lst o (l.map fun b => .v (.int .u8 b.toNat))) v) :
    ∃ a cap, v = .slice a l.length cap ∧ l.length ≤ cap ∧ (l ≠ [] → ∃ b off, a = some ⟨b, off, none⟩ ∧ ∀ (j : Nat) (x : UInt8), l[j]? = some x → w.cell? ⟨b, off + j, none⟩ = some (.int .u8 x.toNat) ∧ S b (off + j)) := by
  obtain ⟨a, cap, rfl, h1, h2, h3⟩ := lst_cells (n := 1) h (by
    unfold szOk
    simp [List.all_eq_true, pcells])
  refine ⟨a, cap, by simp, by simpa using h1, fun hne => ?_⟩
  obtain ⟨b, off, rfl, h4⟩ := h3 (by simpa using hne)
  refine ⟨b, off, rfl, fun j x hx => ?_⟩
  obtain ⟨u, q1, q2, _, q4⟩ := h4 j (.v (.int .u8 x.toNat)) 0 (.v (.int .u8 x.toNat)) (by rw [List.getElem?_map, hx]; rfl) rfl
  have : u = .int .u8 x.toNat := by cases q4 with | v _ _ => rfl
  subst this
  simp only [Nat.mul_one, Nat.add_zero] at q1 q2
  exact ⟨q1, q2⟩

/-- What comes of a function that turns nothing that was there. -/
theorem post_below {w w' : World} {S : Stay} {β : Nat → Nat} {args : List AV} {B : List Row} {vals : Array Value} {x : AV} {v : Value} (he : Entry w S β args B vals) (hb : Below w.heap.size w w')
    {S' : Stay} (hS : ∀ b o, S' b o → S b o ∨ (w.heap.size ≤ b ∧ b < w'.heap.size)) (hS2 : ∀ b o, S b o → S' b o) (hx : ARel w' S' β B.length x v) (hu : isUn x = false) : CallPost w S β args B vals (x, B) (.returned v) w' := by
  have hlt : ∀ i, i < B.length → β i < w.heap.size := fun i hi => he.mem.lt hi
  have hblk : ∀ i, i < B.length → w'.heap[β i]? = w.heap[β i]? := fun i hi => hb.block _ (hlt i hi)
  have hk : Keeps w S w' S' := ⟨hS2, fun b o hs => cell_of_heap (hb.block b (he.mem.stay b o hs))⟩
  have here : ∀ l y u, HereA [x] #[v] B β w' l y u → isUn y = true → ∃ id j, l = .box id j ∧ HereA args vals B β w (.box id j) y u := by
    intro l y u hl hy
    cases l with
    | slot i =>
      obtain ⟨q1, q2⟩ := hl
      cases i with
      | zero => simp only [List.getElem?_cons_zero, Option.some.injEq] at q1; rw [← q1, hu] at hy; simp at hy
      | succ i => simp at q1
    | box id j =>
      obtain ⟨row, q1, q2, q3⟩ := hl
      have hid := (List.getElem?_eq_some_iff.1 q1).1
      exact ⟨id, j, rfl, row, q1, q2, by rw [cell_of_heap (hblk id hid)] at q3; exact q3⟩
  have ublk : ∀ y u, UnOk w S y u → UnOk w' S' y u := by
    intro y u hok
    refine hok.world fun b hbb => ?_
    obtain ⟨b', h1, h2⟩ := hok.blk
    rw [hbb] at h1
    cases h1
    refine ⟨hb.block b h2, fun o ho => ?_⟩
    rcases hS b o ho with h3 | ⟨h3, _⟩
    · exact h3
    · omega
  refine ⟨S', β, ⟨rfl, ?_, ⟨?_, ?_, he.mem.inj, ?_, ?_⟩, ⟨?_, ?_⟩⟩, ?_⟩
  · intro i y u hy hu'
    cases i with
    | zero =>
      simp only [List.getElem?_cons_zero, Option.some.injEq] at hy
      subst hy
      have : v = u := by simpa using hu'
      subst this
      exact hx
    | succ i => simp at hy
  · intro id r hr
    obtain ⟨cs, ty, q1, q2⟩ := he.mem.row id r hr
    exact ⟨cs, ty, (hblk id (List.getElem?_eq_some_iff.1 hr).1).trans q1, q2⟩
  · intro id r j y hr hy
    obtain ⟨u, q1, q2, q3⟩ := he.mem.cell id r j y hr hy
    exact ⟨u, (cell_of_heap (hblk id (List.getElem?_eq_some_iff.1 hr).1)).trans q1, q2.keeps hk (fun _ _ => rfl) (Nat.le_refl _), q3⟩
  · intro i hi o ho
    rcases hS _ o ho with h3 | ⟨h3, _⟩
    · exact he.mem.apart i hi o h3
    · have := hlt i hi; omega
  · intro b o ho
    rcases hS b o ho with h3 | ⟨_, h3⟩
    · exact Nat.lt_of_lt_of_le (he.mem.stay b o h3) hb.size
    · exact h3
  · intro l y u hl hy
    obtain ⟨id, j, rfl, q⟩ := here l y u hl hy
    obtain ⟨q1, q2⟩ := he.uns.ok _ y u q hy
    exact ⟨ublk y u q1, q2⟩
  · intro l l' y y' u u' hl hl' hy hy' e
    obtain ⟨id, j, rfl, q⟩ := here l y u hl hy
    obtain ⟨id', j', rfl, q'⟩ := here l' y' u' hl' hy'
    exact he.uns.inj _ _ _ _ _ _ q q' hy hy' e
  · refine ⟨hk, hb.size, hb.os, hb.tape, hb.output, fun h => ⟨h, fun _ _ => rfl⟩, fun i hi => .inl ⟨i, hi, rfl, id⟩, ?_, ?_, fun b h1 _ _ => hb.block b h1⟩
    · rintro b ⟨l, y, u, hl, hy, hbb⟩
      obtain ⟨id, j, rfl, q⟩ := here l y u hl hy
      exact .inl ⟨_, y, u, q, hy, hbb⟩
    · intro b o ho
      rcases hS b o ho with h3 | ⟨h3, _⟩
      · exact .inl h3
      · exact .inr (.inl h3)

/-- The outermost call: nothing in boxes. -/
theorem entry_old {w : World} {β : Nat → Nat} {args : List AV} {vals : Array Value} (hs : vals.size = args.length) (hr : ∀ (i : Nat) (x : AV) (v : Value), args[i]? = some x → vals[i]? = some v → ARel w (Old w) β 0 x v ∧ isUn x = false) :
    Entry w (Old w) β args [] vals := by
  refine ⟨hs, fun i x v hx hv => (hr i x v hx hv).1, ⟨?_, ?_, ?_, ?_, fun b o h => h⟩, ⟨?_, ?_⟩⟩
  · intro id r h; simp at h
  · intro id r j x h; simp at h
  · intro i j h; simp at h
  · intro i h; simp at h
  · intro l x v hl hu
    cases l with
    | slot i => rw [(hr i x v hl.1 hl.2).2] at hu; simp at hu
    | box id j => obtain ⟨row, h, _⟩ := hl; simp at h
  · intro l l' x x' v v' hl _ hu
    cases l with
    | slot i => rw [(hr i x v hl.1 hl.2).2] at hu; simp at hu
    | box id j => obtain ⟨row, h, _⟩ := hl; simp at h

/-- What the outermost call comes to. -/
theorem calls_old {P : Program} {I : Inv} {G : GF} (hF : FSpec P I G) {f : FuncId} {args : List AV} {vals : Array Value} {r : Res} {w : World} (hI : I w (Old w)) (hE : G f args [] = some r) (hs : vals.size = args.length)
    (hr : ∀ (i : Nat) (x : AV) (v : Value), args[i]? = some x → vals[i]? = some v → ARel w (Old w) (fun _ => 0) 0 x v ∧ isUn x = false) :
    Calls P f vals w fun e w' => ∃ v S' β', e = .returned v ∧ Below w.heap.size w w' ∧ ARel w' S' β' r.2.length r.1 v := by
  obtain ⟨_, hc⟩ := hF f args [] r hE w (Old w) (fun _ => 0) vals hI (entry_old hs hr)
  refine hc.mono fun e w' hp => ?_
  cases e with
  | returned v =>
    obtain ⟨S', β', he, hst⟩ := hp
    refine ⟨v, S', β', rfl, ⟨hst.os, hst.tape, hst.output, hst.size, fun k hk => hst.block k hk (fun i hi => by simp at hi) ?_⟩, he.rel 0 r.1 v rfl rfl⟩
    rintro ⟨l, x, u, hl, hu, _⟩
    cases l with
    | slot i => rw [(hr i x u hl.1 hl.2).2] at hu; simp at hu
    | box id j => obtain ⟨row, h, _⟩ := hl; simp at h
  | panicked c => exact hp.elim
  | outgrown => exact hp.elim

end Go.Abs
end

section
set_option linter.unusedSimpArgs false
set_option linter.unusedVariables false
/- A result with a block of its own. -/
namespace Go.Abs
open Go Go.RowKit

/-- A result with a block of its own. -/
theorem post_fresh {w w' : World} {S : Stay} {β : Nat → Nat} {args : List AV} {B : List Row} {vals : Array Value} {x : AV} {v : Value} (he : Entry w S β args B vals) (hb : Below w.heap.size w w')
    {S' : Stay} (hS : ∀ b o, S' b o → S b o ∨ (w.heap.size ≤ b ∧ b < w'.heap.size)) (hS2 : ∀ b o, S b o → S' b o) (hx : ARel w' S' β B.length x v) (hu : isUn x = true → UnOk w' S' x v ∧ ∃ g, blkOf v = some g ∧ w.heap.size ≤ g) : CallPost w S β args B vals (x, B) (.returned v) w' := by
  have hlt : ∀ i, i < B.length → β i < w.heap.size := fun i hi => he.mem.lt hi
  have hblk : ∀ i, i < B.length → w'.heap[β i]? = w.heap[β i]? := fun i hi => hb.block _ (hlt i hi)
  have hk : Keeps w S w' S' := ⟨hS2, fun b o hs => cell_of_heap (hb.block b (he.mem.stay b o hs))⟩
  have here : ∀ l y u, HereA [x] #[v] B β w' l y u → isUn y = true → (l = .slot 0 ∧ y = x ∧ u = v) ∨ ∃ id j, l = .box id j ∧ HereA args vals B β w (.box id j) y u := by
    intro l y u hl hy
    cases l with
    | slot i =>
      obtain ⟨q1, q2⟩ := hl
      cases i with
      | zero =>
        simp only [List.getElem?_cons_zero, Option.some.injEq] at q1
        have q2' : v = u := by simpa using q2
        exact .inl ⟨rfl, q1.symm, q2'.symm⟩
      | succ i => simp at q1
    | box id j =>
      obtain ⟨row, q1, q2, q3⟩ := hl
      have hid := (List.getElem?_eq_some_iff.1 q1).1
      exact .inr ⟨id, j, rfl, row, q1, q2, by rw [cell_of_heap (hblk id hid)] at q3; exact q3⟩
  have ublk : ∀ y u, UnOk w S y u → UnOk w' S' y u := by
    intro y u hok
    refine hok.world fun b hbb => ?_
    obtain ⟨b', h1, h2⟩ := hok.blk
    rw [hbb] at h1
    cases h1
    refine ⟨hb.block b h2, fun o ho => ?_⟩
    rcases hS b o ho with h3 | ⟨h3, _⟩
    · exact h3
    · omega
  refine ⟨S', β, ⟨rfl, ?_, ⟨?_, ?_, he.mem.inj, ?_, ?_⟩, ⟨?_, ?_⟩⟩, ?_⟩
  · intro i y u hy hu'
    cases i with
    | zero =>
      simp only [List.getElem?_cons_zero, Option.some.injEq] at hy
      subst hy
      have : v = u := by simpa using hu'
      subst this
      exact hx
    | succ i => simp at hy
  · intro id r hr
    obtain ⟨cs, ty, q1, q2⟩ := he.mem.row id r hr
    exact ⟨cs, ty, (hblk id (List.getElem?_eq_some_iff.1 hr).1).trans q1, q2⟩
  · intro id r j y hr hy
    obtain ⟨u, q1, q2, q3⟩ := he.mem.cell id r j y hr hy
    exact ⟨u, (cell_of_heap (hblk id (List.getElem?_eq_some_iff.1 hr).1)).trans q1, q2.keeps hk (fun _ _ => rfl) (Nat.le_refl _), q3⟩
  · intro i hi o ho
    rcases hS _ o ho with h3 | ⟨h3, _⟩
    · exact he.mem.apart i hi o h3
    · have := hlt i hi; omega
  · intro b o ho
    rcases hS b o ho with h3 | ⟨_, h3⟩
    · exact Nat.lt_of_lt_of_le (he.mem.stay b o h3) hb.size
    · exact h3
  · intro l y u hl hy
    rcases here l y u hl hy with ⟨rfl, rfl, rfl⟩ | ⟨id, j, rfl, q⟩
    · obtain ⟨q1, g, q2, q3⟩ := hu hy
      refine ⟨q1, fun i hi e => ?_⟩
      rw [q2] at e
      cases e
      have := hlt i hi
      omega
    · obtain ⟨q1, q2⟩ := he.uns.ok _ y u q hy
      exact ⟨ublk y u q1, q2⟩
  · intro l l' y y' u u' hl hl' hy hy' e
    have off : ∀ (id j : Nat) (y u : _), HereA args vals B β w (.box id j) y u → isUn y = true → isUn x = true → blkOf u ≠ blkOf v := by
      intro id j y u q hy hx' e
      obtain ⟨q1, _⟩ := he.uns.ok _ y u q hy
      obtain ⟨b, q2, q3⟩ := q1.blk
      obtain ⟨_, g, q4, q5⟩ := hu hx'
      rw [q2, q4] at e
      cases e
      omega
    rcases here l y u hl hy with ⟨rfl, rfl, rfl⟩ | ⟨id, j, rfl, q⟩
    · rcases here l' y' u' hl' hy' with ⟨rfl, rfl, rfl⟩ | ⟨id', j', rfl, q'⟩
      · rfl
      · exact absurd e.symm (off _ _ _ _ q' hy' hy)
    · rcases here l' y' u' hl' hy' with ⟨rfl, rfl, rfl⟩ | ⟨id', j', rfl, q'⟩
      · exact absurd e (off _ _ _ _ q hy hy')
      · exact he.uns.inj _ _ _ _ _ _ q q' hy hy' e
  · refine ⟨hk, hb.size, hb.os, hb.tape, hb.output, fun h => ⟨h, fun _ _ => rfl⟩, fun i hi => .inl ⟨i, hi, rfl, id⟩, ?_, ?_, fun b h1 _ _ => hb.block b h1⟩
    · rintro b ⟨l, y, u, hl, hy, hbb⟩
      rcases here l y u hl hy with ⟨rfl, rfl, rfl⟩ | ⟨id, j, rfl, q⟩
      · obtain ⟨_, g, q4, q5⟩ := hu hy
        rw [q4] at hbb
        cases hbb
        exact .inr q5
      · exact .inl ⟨_, y, u, q, hy, hbb⟩
    · intro b o ho
      rcases hS b o ho with h3 | ⟨h3, _⟩
      · exact .inl h3
      · exact .inr (.inl h3)

end Go.Abs
end

section
set_option linter.unusedSimpArgs false
set_option linter.unusedVariables false
/- What is given of the library: DecodeRune. -/
namespace Go.Proofs.YtbecmoihajlobaaDoor
open Go Go.Abs Go.RowKit

/-- DecodeRune at bytes. -/
def xDecode : List AV → List Row → Option Res
  | [.p (.lst _ xs)], B => match xs with
    | [] => none
    | _ => (bytesX xs).map fun l => (.p (.tup [.v (.int .i32 (Lib.decodeGo ⟨l.toArray⟩).1), .v (.int .i64 (Lib.decodeGo ⟨l.toArray⟩).2)]), B)
  | _, _ => none

theorem get_bang {l : List UInt8} {j : Nat} {x : UInt8} (h : l[j]? = some x) : (⟨l.toArray⟩ : ByteArray).get! j = x := by
  show l.toArray[j]! = x
  have hj := (List.getElem?_eq_some_iff.1 h)
  obtain ⟨h1, h2⟩ := hj
  rw [getElem!_pos l.toArray j (by simpa using h1)]
  simpa using h2

theorem size_mk (l : List UInt8) : (⟨l.toArray⟩ : ByteArray).size = l.length := by
  show l.toArray.size = _
  simp

theorem tup2_rel {w : World} {S : Stay} {β : Nat → Nat} {n : Nat} (a b : Value) (ha : scal a = true) (hb : scal b = true) : ARel w S β n (.p (.tup [.v a, .v b])) (.tuple #[a, b]) := by
  refine .p _ _ (.tup _ _ rfl (by simp [notUn]) ?_)
  intro i c v hc hv
  match i, hc, hv with
  | 0, hc, hv => simp at hc hv; subst hc hv; exact .v _ ha
  | 1, hc, hv => simp at hc hv; subst hc hv; exact .v _ hb
  | i + 2, hc, hv => simp at hc

theorem plain21 : Plain Tryd.prog 21 := ⟨Tryd.f21, Tryd.func21, by kernel_rfl, by kernel_rfl⟩

theorem decode_spec {args : List AV} {B : List Row} {r : Res} (h : xDecode args B = some r) (w : World) (S : Stay) (β : Nat → Nat) (vals : Array Value) (hI : Tabs 0 1 w S) (he : Entry w S β args B vals) :
    Plain Tryd.prog 21 ∧ Calls Tryd.prog 21 vals w (CallPost w S β args B vals r) := by
  refine ⟨plain21, ?_⟩
  unfold xDecode at h
  split at h
  · rename_i a1 b1 o xs
    split at h
    · simp at h
    · rename_i hne
      obtain ⟨l, hl, rfl⟩ := Option.map_eq_some_iff.1 h
      have hxs := bytesX_spec hl
      subst hxs
      obtain ⟨v, rfl⟩ : ∃ v, vals = #[v] := by
        have := he.size
        have h1 : vals.size = 1 := by simpa using this
        exact Array.size_eq_one_iff.1 h1
      have hr := he.rel 0 _ v rfl rfl
      have hp : PRel w S (.lst o (l.map fun b => .v (.int .u8 b.toNat))) v := by cases hr with | p _ _ h => exact h
      obtain ⟨a, cap, rfl, hcap, hc⟩ := bytes_cells hp
      have hln : l ≠ [] := by rintro rfl; exact hne rfl
      obtain ⟨b, off, rfl, hcell⟩ := hc hln
      have := Any7.utf8_DecodeRune Tryd.lays32 ⟨l.toArray⟩ b off cap w hI.1 (by
        intro j hj
        rw [size_mk] at hj
        have hx : l[j]? = some l[j] := by simp [hj]
        rw [get_bang hx]
        exact (hcell j _ hx).1)
      rw [size_mk] at this
      refine this.mono ?_
      rintro e w' ⟨rfl, hb⟩
      exact post_below (S' := S) he hb (fun _ _ h => .inl h) (fun _ _ h => h) (tup2_rel _ _ rfl rfl) rfl
  · simp at h
end Go.Proofs.YtbecmoihajlobaaDoor
end

section
set_option linter.unusedSimpArgs false
set_option linter.unusedVariables false
namespace Go.Proofs.YtbecmoihajlobaaDoor.N1
open Go Go.Abs
def keepT : FuncId → Nat → Option (List Nat) := fun f r =>
  if f = 10 then (if r = 2 then some [] else if r = 5 then some [0, 1] else if r = 6 then some [6, 7] else if r = 3 then some [0, 1] else none) else
  none
def ownT : FuncId → List Nat := fun f =>
  []
def rawT : FuncId → Bool := fun f => false
def HH : Hints := ⟨keepT, ownT, rawT⟩
def XX : FuncId → Option (List AV → List Row → Option Res) := fun f => if f = 21 then some xDecode else none
noncomputable abbrev PP : Program := Tryd.prog
noncomputable abbrev EE : GF := E PP XX HH
noncomputable abbrev LL : LF := L PP XX HH
end Go.Proofs.YtbecmoihajlobaaDoor.N1
end

section
set_option linter.unusedSimpArgs false
set_option linter.unusedVariables false
namespace Go.Proofs.YtbecmoihajlobaaDoor.N1
open Go Go.Abs
set_option linter.unusedVariables false
set_option maxRecDepth 100000
/-! "colander/unit.Next" -/
noncomputable def f10_c : Code := bodyOf Tryd.f10
def f10_ret (r0 r1 : AV) (B : List Row) : Option Res :=
 ob (ob (some r0) fun v => ob (ob (some r1) fun v => ob (some []) fun vs => some (v :: vs)) fun vs => some (v :: vs)) fun vs => some ((nrmA (match vs with | [v] => v | vs => mkTup (vs.map shr))), B)
noncomputable def f10_k0 (m0 : Nat) : Kont := kret PP HH 10 Tryd.f10.results
noncomputable def f10_k1 (m0 : Nat) : Kont := kseq HH 10 m0 (l2 (l2 f10_c)) (exec PP HH 10 m0 EE LL (l2 (l2 f10_c)) (f10_k0 m0)) (f10_k0 m0)
noncomputable def f10_k2 (m0 : Nat) : Kont := kseq HH 10 m0 (l2 (l2 (l2 (l2 f10_c)))) (exec PP HH 10 m0 EE LL (l2 (l2 (l2 (l2 f10_c)))) (f10_k0 m0)) (f10_k0 m0)
noncomputable def f10_r2 (m0 : Nat) (B : List Row) : Option Res := exec PP HH 10 m0 EE LL (l1 (l2 (l1 (l2 f10_c)))) (f10_k1 m0) [] B
noncomputable def f10_r3 (m0 : Nat) (x0 x1 : AV) (B : List Row) : Option Res := exec PP HH 10 m0 EE LL (l2 (l2 f10_c)) (f10_k0 m0) [(0, x0), (1, x1)] B
noncomputable def f10_r5 (m0 : Nat) (x0 x1 : AV) (B : List Row) : Option Res := exec PP HH 10 m0 EE LL (l1 (l2 (l1 (l2 (l2 (l2 f10_c)))))) (f10_k2 m0) [(0, x0), (1, x1)] B
noncomputable def f10_r6 (m0 : Nat) (x6 x7 : AV) (B : List Row) : Option Res := exec PP HH 10 m0 EE LL (l2 (l2 (l2 (l2 f10_c)))) (f10_k0 m0) [(6, x6), (7, x7)] B
theorem f10_r2_eq (m0 : Nat) (B : List Row) : f10_r2 m0  B =
 mk (f10_ret (iv 0) (iv 0) B) := by kernel_rfl
theorem f10_r3_eq (m0 : Nat) (x0 x1 : AV) (B : List Row) : f10_r3 m0 x0 x1 B =
 mk (ob (xsl 1 (shr x0) (some (shr x1)) none none) fun a6 =>
 callS false EE 21 [a6] B fun a7 B8 =>
 ob (xext 0 (shr a7)) fun a9 =>
 ob (xext 1 (shr a7)) fun a10 =>
 mk (ob (xbin PP .eql 21 (shr (shr (shr a9))) (kv .i32 65533)) fun a11 =>
 asB (shr a11) fun t12 => br t12 (ob (xbin PP .eql 3 (shr (shr (shr a10))) (iv 1)) fun a13 =>
 asB (shr a13) fun t14 => br t14 (f10_r5 m0 x0 x1 (gcB m0 [x0, x1] B8))
 (f10_r6 m0 (shr (shr a9)) (shr (shr a10)) (gcB m0 [(shr (shr a9)), (shr (shr a10))] B8)))
 (f10_r6 m0 (shr (shr a9)) (shr (shr a10)) (gcB m0 [(shr (shr a9)), (shr (shr a10))] B8)))) := by kernel_rfl
theorem f10_r5_eq (m0 : Nat) (x0 x1 : AV) (B : List Row) : f10_r5 m0 x0 x1 B =
 mk (ob (xidx 1 (shr x0) (shr x1)) fun a15 =>
 ob (ldN false 1 a15 B) fun a16 =>
 ob (xcnv PP 5 3 a16) fun a17 =>
 ob (xbin PP .add 3 (iv 1114112) a17) fun a18 =>
 f10_ret (shr a18) (iv 1) B) := by kernel_rfl
theorem f10_r6_eq (m0 : Nat) (x6 x7 : AV) (B : List Row) : f10_r6 m0 x6 x7 B =
 mk (ob (xcnv PP 21 3 (shr x6)) fun a19 =>
 f10_ret (shr a19) (shr (shr x7)) B) := by kernel_rfl
theorem f10_eq (x0 x1 : AV) (B : List Row) : EE 10 [x0, x1] B =
 (let m0 := B.length
 mk (mk (ob (xbin PP .lss 3 (shr x1) (iv 0)) fun a1 =>
 asB (shr a1) fun t2 => br t2 (f10_r2 m0  (gcB m0 [] B))
 (ob (xlen PP 22 (shr x0)) fun a3 =>
 ob (xbin PP .geq 3 (shr x1) a3) fun a4 =>
 asB (shr a4) fun t5 => br t5 (f10_r2 m0  (gcB m0 [] B))
 (f10_r3 m0 x0 x1 (gcB m0 [x0, x1] B)))))) := (E_eq PP XX HH _ _ _).trans (by kernel_rfl)
end Go.Proofs.YtbecmoihajlobaaDoor.N1
end

section
set_option linter.unusedSimpArgs false
set_option linter.unusedVariables false
/- The unit at a place, as the program tells it. -/
namespace Go.Proofs.YtbecmoihajlobaaDoor
open Go Go.Abs Go.RowKit

/-- Bytes, as data. -/
def bl (l : List UInt8) : List PV := l.map fun b => .v (.int .u8 b.toNat)

theorem bl_len (l : List UInt8) : (bl l).length = l.length := by simp [bl]
theorem bl_get {l : List UInt8} {i : Nat} {x : UInt8} (h : l[i]? = some x) : (bl l)[i]? = some (.v (.int .u8 x.toNat)) := by simp [bl, h]
theorem bl_drop (l : List UInt8) (i : Nat) : (bl l).drop i = bl (l.drop i) := by simp [bl]

theorem xsl_bl {l : List UInt8} {o : Go.Abs.Own} {i : Nat} {k : IntKind} (h : i ≤ l.length) (ho : o ≠ .nl := by simp) : xsl 1 (.p (.lst o (bl l))) (some (.p (.v (.int k i)))) none none = some (.p (.lst .sh (bl (l.drop i)))) := by
  rw [xsl_from (xs := bl l) (szOk_one (fun _ => rfl) l) (by omega) (by rw [bl_len]; exact h) ho, bl_drop]

/-- The unit that begins at a place that is there, and its size. -/
def unitAt (l : List UInt8) (i : Nat) : Int × Nat :=
  let d := Lib.decodeGo ⟨(l.drop i).toArray⟩
  if d.1 = 65533 ∧ d.2 = 1 then (1114112 + ((l.getD i 0).toNat : Int), 1) else ((d.1 : Int), d.2)

theorem valid_le {r : Nat} (h : Utf8.valid r = true) : r ≤ 1114111 := by
  unfold Utf8.valid at h
  simp at h
  omega

theorem ite_le {c : Prop} [Decidable c] {a b : Nat × Nat} {P : Nat × Nat → Prop} (h1 : c → P a) (h2 : ¬ c → P b) : P (if c then a else b) := by
  split
  · exact h1 ‹_›
  · exact h2 ‹_›

theorem decode_bounds (s : ByteArray) : (Lib.decodeGo s).1 ≤ 1114111 ∧ (s.size ≠ 0 → 1 ≤ (Lib.decodeGo s).2) ∧ (Lib.decodeGo s).2 ≤ 4 := by
  unfold Lib.decodeGo
  split
  · exact ⟨by simp, fun h => absurd ‹_› h, by simp⟩
  · suffices h : (Utf8.decode s 0).1 ≤ 1114111 ∧ 1 ≤ (Utf8.decode s 0).2 ∧ (Utf8.decode s 0).2 ≤ 4 from ⟨h.1, fun _ => h.2.1, h.2.2⟩
    have hb : (s.get! 0).toNat < 256 := UInt8.toNat_lt _
    unfold Utf8.decode
    simp only
    refine ite_le (P := fun r => r.1 ≤ 1114111 ∧ 1 ≤ r.2 ∧ r.2 ≤ 4) (fun _ => ⟨by simp; omega, by simp, by simp⟩) fun _ => ?_
    refine ite_le (P := fun r => r.1 ≤ 1114111 ∧ 1 ≤ r.2 ∧ r.2 ≤ 4) (fun _ => ite_le (P := fun r => r.1 ≤ 1114111 ∧ 1 ≤ r.2 ∧ r.2 ≤ 4) (fun _ => ⟨by simp; omega, by simp, by simp⟩) fun _ => ⟨by simp [Utf8.runeError], by simp, by simp⟩) fun _ => ?_
    refine ite_le (P := fun r => r.1 ≤ 1114111 ∧ 1 ≤ r.2 ∧ r.2 ≤ 4) (fun _ => ite_le (P := fun r => r.1 ≤ 1114111 ∧ 1 ≤ r.2 ∧ r.2 ≤ 4) (fun h => ⟨by simp; omega, by simp, by simp⟩) fun _ => ⟨by simp [Utf8.runeError], by simp, by simp⟩) fun _ => ?_
    refine ite_le (P := fun r => r.1 ≤ 1114111 ∧ 1 ≤ r.2 ∧ r.2 ≤ 4) (fun _ => ite_le (P := fun r => r.1 ≤ 1114111 ∧ 1 ≤ r.2 ∧ r.2 ≤ 4) (fun h => ⟨valid_le (by simp only [Bool.and_eq_true, decide_eq_true_eq] at h; exact h.2), by simp, by simp⟩) fun _ => ⟨by simp [Utf8.runeError], by simp, by simp⟩) fun _ => ?_
    exact ⟨by simp [Utf8.runeError], by simp, by simp⟩

namespace N1
theorem next_out (l : List UInt8) (i : Int) (h : ¬ (0 ≤ i ∧ i < l.length)) : EE 10 [.p (.lst .sh (bl l)), .p (.v (.int .i64 i))] [] = some (.p (.tup [.v (.int .i64 0), .v (.int .i64 0)]), []) := by
  rw [f10_eq]
  simp only [mk_eq, shr_v, shr_sh, iv, x_lss, ob_sm, asB_b, gcB_nil, x_len Tryd.underlying22, x_geq, bl_len]
  by_cases h0 : i < 0
  · simp only [h0, decide_true, br_t, f10_r2_eq, mk_eq]
    rfl
  · have h1 : (l.length : Int) ≤ i := by omega
    simp only [h0, h1, decide_true, decide_false, br_t, br_f, f10_r2_eq, mk_eq]
    rfl

theorem next_in (l : List UInt8) (i : Nat) (h : i < l.length) : EE 10 [.p (.lst .sh (bl l)), .p (.v (.int .i64 i))] [] = some (.p (.tup [.v (.int .i64 (unitAt l i).1), .v (.int .i64 (unitAt l i).2)]), []) := by
  rw [f10_eq]
  have h0 : ¬ (i : Int) < 0 := by omega
  have h1 : ¬ (l.length : Int) ≤ i := by omega
  simp only [mk_eq, shr_v, shr_sh, iv, x_lss, ob_sm, asB_b, gcB_nil, x_len Tryd.underlying22, x_geq, bl_len, h0, h1, decide_false, br_f, f10_r3_eq]
  rw [xsl_bl (by omega), ob_sm]
  have hd : EE 21 [.p (.lst .sh (bl (l.drop i)))] [] = some (.p (.tup [.v (.int .i32 (Lib.decodeGo ⟨(l.drop i).toArray⟩).1), .v (.int .i64 (Lib.decodeGo ⟨(l.drop i).toArray⟩).2)]), []) := by
    rw [show EE = E PP XX HH from rfl, E_ext (show XX 21 = some xDecode from rfl)]
    have hne : l.drop i ≠ [] := by
      intro e
      have := congrArg List.length e
      simp at this
      omega
    obtain ⟨x, r, hx⟩ := List.exists_cons_of_ne_nil hne
    unfold xDecode
    rw [hx]
    have := bytesX_map (x :: r)
    simp only [bl, List.map_cons] at this ⊢
    rw [this]
    rfl
  rw [show callS false EE 21 [.p (.lst .sh (bl (l.drop i)))] [] = _ from callS_f [.lst .sh (bl (l.drop i))] hd]
  generalize hD : Lib.decodeGo ⟨(l.drop i).toArray⟩ = D
  have hb := decode_bounds ⟨(l.drop i).toArray⟩
  rw [hD] at hb
  have hget : (bl l)[i]? = some (.v (.int .u8 l[i].toNat)) := bl_get (by simp [h])
  have hgd : l.getD i 0 = l[i] := by simp [h]
  have hlt : l[i].toNat < 256 := l[i].toNat_lt
  simp only [shr_tup, List.map_cons, List.map_nil, shrP_v, x_ext0, x_ext1, ob_sm, shr_v, kv, x_eql, asB_b, gcB_nil, unitAt, hD]
  by_cases h2 : D.1 = 65533
  · by_cases h3 : D.2 = 1
    · have e1 : ((D.1 : Int) == 65533) = true := by rw [h2]; rfl
      have e2 : ((D.2 : Int) == 1) = true := by rw [h3]; rfl
      rw [e1, e2, br_t, br_t, if_pos ⟨h2, h3⟩, f10_r5_eq]
      simp only [mk_eq, shr_v, shr_sh]
      rw [xidx_one (by omega) (by simpa using hget) rfl]
      simp only [ob_sm, ldN_one, iv]
      rw [x_cnv Tryd.underlying5 Tryd.underlying3, wrap_i64 (by omega) (by omega)]
      simp only [ob_sm, x_add]
      rw [wrap_i64 (by omega) (by omega), hgd]
      rfl
    · have e1 : ((D.1 : Int) == 65533) = true := by rw [h2]; rfl
      have e2 : ((D.2 : Int) == 1) = false := by simpa using (show ¬ (D.2 : Int) = 1 by omega)
      rw [e1, e2, br_t, br_f, if_neg (fun h => h3 h.2), f10_r6_eq]
      simp only [mk_eq, shr_v]
      rw [x_cnv Tryd.underlying21 Tryd.underlying3, wrap_i64 (by omega) (by omega)]
      rfl
  · have e1 : ((D.1 : Int) == 65533) = false := by simpa using (show ¬ (D.1 : Int) = 65533 by omega)
    rw [e1, br_f, if_neg (fun h => h2 h.1), f10_r6_eq]
    simp only [mk_eq, shr_v]
    rw [x_cnv Tryd.underlying21 Tryd.underlying3, wrap_i64 (by omega) (by omega)]
    rfl
end N1
end Go.Proofs.YtbecmoihajlobaaDoor
end

section
set_option linter.unusedSimpArgs false
set_option linter.unusedVariables false
/- Split, given: what it comes to at bytes. -/
namespace Go.Proofs.YtbecmoihajlobaaDoor
open Go Go.Abs Go.RowKit

/-- The units of bytes. -/
def units (l : List UInt8) : List Int := Tryd.from (fun i => (unitAt l i).1) (fun i => (unitAt l i).2) l.length l.length 0

/-- Whole numbers, as data. -/
def il (l : List Int) : List PV := l.map fun u => .v (.int .i64 u)

theorem mixed : Tryd.prog.follows .mixedOrders = true := by kernel_rfl

namespace N1
theorem xspec : XSpec Tryd.prog (Tabs 0 1) XX := by
  intro f m hm args B r h w S β vals hI he
  unfold XX at hm
  split at hm
  · rename_i hf
    subst hf
    simp only [Option.some.injEq] at hm
    subst hm
    exact decode_spec h w S β vals hI he
  · simp at hm
theorem progOk : Go.Abs.progOk PP XX HH = true := by kernel_rfl
theorem fspec : FSpec PP (Tabs 0 1) EE := E_sound (Tabs.pers 0 1) mixed xspec progOk
end N1

theorem v_inv {w : World} {S : Stay} {a x : Value} (h : PRel w S (.v a) x) : x = a := by cases h with | v _ _ => rfl

theorem tup2_inv {w : World} {S : Stay} {β : Nat → Nat} {n : Nat} {a b v : Value} (h : ARel w S β n (.p (.tup [.v a, .v b])) v) : v = .tuple #[a, b] := by
  cases h with
  | p _ _ h =>
    cases h with
    | tup _ arr h1 h2 h3 =>
      have e0 := h3 0 (.v a) (arr[0]'(by rw [h1]; simp)) rfl (by simp)
      have e1 := h3 1 (.v b) (arr[1]'(by rw [h1]; simp)) rfl (by simp)
      congr 1
      apply Array.ext
      · rw [h1]; rfl
      · intro i hi hi'
        match i, hi, hi' with
        | 0, hi, hi' => exact v_inv e0
        | 1, hi, hi' => exact v_inv e1
        | i + 2, _, hi' => simp at hi'; omega

theorem tabs_below {w W : World} (h : Lib.Utf8Tabs 0 1 w) (hb : Below w.heap.size w W) : Lib.Utf8Tabs 0 1 W := by
  have ho := Tabs.old h
  have hk : Keeps w (Old w) W (Old W) := ⟨fun b o h => Nat.lt_of_lt_of_le h hb.size, fun b o h => cell_of_heap (hb.block b h)⟩
  exact (Tabs.pers 0 1 _ _ _ _ hk ho).1

/-- Next, in any world to come. -/
theorem next_calls {w : World} {S : Stay} {l : List UInt8} {o : Abs.Own} {v : Value} (hs : ∀ b o, S b o → b < w.heap.size) (hT : Lib.Utf8Tabs 0 1 w) (hv : PRel w S (.lst o (bl l)) v) (W : World) (hb : Below w.heap.size w W) (i : Nat) (hi : i < l.length) :
    Calls Tryd.prog 10 #[v, .int .i64 i] W fun e W' => e = .returned (.tuple #[.int .i64 (unitAt l i).1, .int .i64 (unitAt l i).2]) ∧ Below W.heap.size W W' := by
  have hk : Keeps w S W (Old W) := ⟨fun b o h => Nat.lt_of_lt_of_le (hs b o h) hb.size, fun b o h => cell_of_heap (hb.block b (hs b o h))⟩
  have hv' : PRel W (Old W) (.lst .sh (bl l)) v := (hv.keeps hk).nrm
  refine (calls_old (args := [.p (.lst .sh (bl l)), .p (.v (.int .i64 i))]) N1.fspec (Tabs.old (tabs_below hT hb)) (N1.next_in l i hi) rfl ?_).mono ?_
  · intro j x u hx hu
    match j, hx, hu with
    | 0, hx, hu => simp at hx hu; subst hx hu; exact ⟨.p _ _ hv', rfl⟩
    | 1, hx, hu => simp at hx hu; subst hx hu; exact ⟨.p _ _ (.v _ rfl), rfl⟩
    | j + 2, hx, hu => simp at hx
  · rintro e W' ⟨u, S', β', rfl, hb', hr⟩
    rw [tup2_inv hr]
    exact ⟨rfl, hb'⟩

theorem unit_size {l : List UInt8} {i : Nat} (h : i < l.length) : 1 ≤ (unitAt l i).2 ∧ (unitAt l i).2 ≤ 4 := by
  unfold unitAt
  simp only
  split
  · exact ⟨by simp, by simp⟩
  · have hb := decode_bounds ⟨(l.drop i).toArray⟩
    refine ⟨hb.2.1 ?_, hb.2.2⟩
    rw [size_mk, List.length_drop]
    omega

/-- Whose a list is that was appended to. -/
def accO : List Int → Abs.Own
  | [] => .nl
  | _ :: _ => .un

/-- Split at bytes. -/
def xSplit : List AV → List Row → Option Res
  | [.p (.lst _ xs)], B => match bytesX xs with
    | some l => if l.length ≤ 1099511627776 then some (.p (.lst (accO (units l)) (il (units l))), B) else none
    | none => none
  | _, _ => none

theorem plain13 : Plain Tryd.prog 13 := ⟨Tryd.f13, Tryd.func13, by kernel_rfl, by kernel_rfl⟩

theorem split_spec {args : List AV} {B : List Row} {r : Res} (h : xSplit args B = some r) (w : World) (S : Stay) (β : Nat → Nat) (vals : Array Value) (hI : Tabs 0 1 w S) (he : Entry w S β args B vals) :
    Plain Tryd.prog 13 ∧ Calls Tryd.prog 13 vals w (CallPost w S β args B vals r) := by
  refine ⟨plain13, ?_⟩
  unfold xSplit at h
  split at h
  · rename_i a1 b1 o xs
    split at h
    · rename_i l hl
      split at h
      · rename_i hlen
        simp only [Option.some.injEq] at h
        subst h
        have hxs := bytesX_spec hl
        subst hxs
        obtain ⟨v, rfl⟩ : ∃ v, vals = #[v] := by
          have := he.size
          have h1 : vals.size = 1 := by simpa using this
          exact Array.size_eq_one_iff.1 h1
        have hr := he.rel 0 _ v rfl rfl
        have hp : PRel w S (.lst o (bl l)) v := by cases hr with | p _ _ h => exact h
        obtain ⟨a, cap, rfl, hcap, _⟩ := bytes_cells hp
        have hN : ∀ i, i < l.length → 1 ≤ (unitAt l i).2 ∧ (unitAt l i).2 ≤ 4 := fun i hi => unit_size hi
        have hc := callsIn_wide.1 (Tryd.Split_in Fence.wide 4 trivial trivial trivial trivial rfl (Nat.le_refl _) a l.length cap (fun i => (unitAt l i).1) (fun i => (unitAt l i).2) hN hlen w
          (fun m W i hb hi => callsIn_wide.2 (next_calls he.mem.stay hI.1 hp W hb i hi)))
        refine hc.mono ?_
        rintro e w' ⟨v', rfl, hown, hnil, hb⟩
        change w'.ownsRow w.heap.size 3 1 v' (units l).length ((units l).map (Value.int .i64)) at hown
        refine post_fresh (S' := fun b o => S b o ∨ (w.heap.size ≤ b ∧ b < w'.heap.size ∧ o < (units l).length)) he hb (fun _ _ h => h.imp id fun h => ⟨h.1, h.2.1⟩) (fun _ _ h => .inl h) (.p _ _ ?_) ?_
        · have hil : (il (units l)).length = (units l).length := by simp [il]
          rcases hown.2 with ⟨rfl, h0⟩ | ⟨g, cap', cur, rfl, hg, hheap, hle, _, hsz, htake⟩
          · have : units l = [] := List.length_eq_zero_iff.1 h0
            rw [this]
            exact .lst .nl [] none 0 0 0 0 (fun _ _ => undef) (Nat.le_refl _) (fun _ => ⟨rfl, rfl⟩) (by simp) (by simp) (fun _ => rfl) (by simp) (by simp) (by simp)
          · have hne : units l ≠ [] := fun e => by have := hnil.2 e; cases this
            have hacc : accO (units l) = .un := by
              cases hu : units l with
              | nil => exact absurd hu hne
              | cons x r => rfl
            rw [hacc]
            have := lst_fresh (w := w') (S := fun b o => S b o ∨ (w.heap.size ≤ b ∧ b < w'.heap.size ∧ o < (units l).length)) (xs := il (units l)) (b := g) (off := 0) (sz := 1) (cap := cap') (o := .un) hheap
              (fun k hk => .inr ⟨hg, (Array.getElem?_eq_some_iff.1 hheap).1, by rw [hil] at hk; omega⟩) (by omega) (fun e he => by
                obtain ⟨u, _, rfl⟩ := List.mem_map.1 he
                rfl) (by rw [hil, hsz]; omega) (by
                intro i e j c he hc
                unfold il at he
                rw [List.getElem?_map] at he
                obtain ⟨u, hu, rfl⟩ := Option.map_eq_some_iff.1 he
                cases j with
                | succ j => simp [pcells] at hc
                | zero =>
                  simp only [pcells, List.getElem?_cons_zero, Option.some.injEq] at hc
                  subst hc
                  refine ⟨rfl, fun q hq => ?_⟩
                  have hi := (List.getElem?_eq_some_iff.1 hu).1
                  have e1 : ((units l).map (Value.int .i64))[i]? = some (.int .i64 u) := by rw [List.getElem?_map, hu]; rfl
                  rw [← htake, List.getElem?_take, if_pos (by omega)] at e1
                  simp only [Nat.mul_one, Nat.add_zero, Nat.zero_add] at hq
                  rw [Array.getElem?_toList] at e1
                  rw [e1] at hq
                  cases hq
                  exact .v _ rfl) (by rw [hil]; exact hle) (by simp) (by simp) (by intro _ e; exact hne (List.map_eq_nil_iff.1 e))
            rw [hil] at this
            exact this
        · intro hu
          rcases hown.2 with ⟨rfl, h0⟩ | ⟨g, cap', cur, rfl, hg, hheap, hle, _, hsz, htake⟩
          · have : units l = [] := List.length_eq_zero_iff.1 h0
            rw [this] at hu
            simp [accO, isUn] at hu
          · have hne : units l ≠ [] := fun e => by have := hnil.2 e; cases this
            have hacc : accO (units l) = .un := by
              cases hu : units l with
              | nil => exact absurd hu hne
              | cons x r => rfl
            have hpos : 0 < (units l).length := by
              cases hu : units l with
              | nil => exact absurd hu hne
              | cons x r => simp
            rw [hacc]
            refine ⟨⟨il (units l), g, 0, _, cap', cur, _, 1, rfl, rfl, hheap, by omega, by omega, hle, hpos, ?_, ?_⟩, g, rfl, hg⟩
            · rintro o ho (h1 | h1)
              · have := he.mem.stay _ _ h1
                omega
              · omega
            · intro e he
              obtain ⟨u, _, rfl⟩ := List.mem_map.1 he
              rfl
      · simp at h
    · simp at h
  · simp at h
end Go.Proofs.YtbecmoihajlobaaDoor
end
