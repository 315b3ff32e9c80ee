/- The evaluator: memory, conversions, maps, appends and calls. No condition. -/
import Derived.Test.YtbmmhbpalkepeaaEvA
import Derived.Great.BuildSlice
import Derived.Laws.IdiomStrings
import Derived.Laws.AppendOwn
import Derived.MapKept

set_option linter.unusedSimpArgs false
set_option linter.unusedVariables false
set_option linter.defProp false
section
namespace Go.Abs
open Go
structure Set1 (w w' : World) (b : Nat) (arr : Array Value) : Prop where
 heap : ∃ ty, w'.heap[b]? = some (.cells arr ty (0, 0))
 other : ∀ k, k ≠ b → w'.heap[k]? = w.heap[k]?
 size : w'.heap.size = w.heap.size
 os : w'.os = w.os
 tape : w'.tape = w.tape
 output : w'.output = w.output
theorem Z8e {w : World} {b : Nat} {cs : Array Value} {ty : TypeId} (h : w.heap[b]? = some (.cells cs ty (0, 0))) (arr : Array Value) : Set1 w (w.setRow b arr) b arr :=
 ⟨⟨ty, setRow_heap w b cs arr ty (0, 0) h⟩, fun k hk => setRow_other w b k arr hk, by simp, rfl, rfl, rfl⟩
theorem Z7g {w : World} {b : Nat} {cs : Array Value} {ty : TypeId} (h : w.heap[b]? = some (.cells cs ty (0, 0))) : Set1 w w b cs := ⟨⟨ty, h⟩, fun _ _ => rfl, rfl, rfl, rfl, rfl⟩
theorem Z31 {B : List Row} {id i : Nat} {row r : Row} (h : (B.set id row)[i]? = some r) : (i = id ∧ r = row ∧ id < B.length) ∨ (i ≠ id ∧ B[i]? = some r) := by
 rw [Z3o] at h
 split at h
 ·rename_i e
  split at h
  ·simp only [ZO] at h; exact .inl ⟨e.symm, h.symm, ‹_›⟩
  ·simp at h
 ·rename_i e
  exact .inr ⟨fun e' => e e'.symm, h⟩
section
variable {nt m0 : Nat} {w w' : World} {S : Stay} {β : Nat → Nat} {sl : Sl} {B : List Row} {a : Act} {id : Nat} {row : Row} {arr : Array Value}
theorem Good.setBox {j0 : Nat} {x0 : AV} {v0 : Value} (h : Good nt w S β sl B a) (hid : id < B.length) (hset : Set1 w w' (β id) arr) (hs : arr.size = row.length)
  (hr : ∀ (j : Nat) (x : AV) (v : Value), row[j]? = some x → arr[j]? = some v → ARel w S β B.length x v ∧ Z1k x = true ∧
   (isUn x = true → (∃ r0, B[id]? = some r0 ∧ r0[j]? = some x ∧ w.cell? ⟨β id, j, none⟩ = some v) ∨ (j = j0 ∧ x = x0 ∧ v = v0)))
  (h0 : isUn x0 = true → UnOk w S x0 v0 ∧ (∀ i, i < B.length → Z1g v0 ≠ some (β i)) ∧ ∀ l y u, Here nt sl a.tmps B β w l y u → isUn y = true → Z1g u ≠ Z1g v0) :
  Good nt w' S β sl (B.set id row) a ∧ (∀ b, UB (Here nt sl a.tmps (B.set id row) β w') b → UB (Here nt sl a.tmps B β w) b ∨ (isUn x0 = true ∧ Z1g v0 = some b)) := by
 have hnS : ∀ o, ¬ S (β id) o := h.mem.apart id hid
 have hcellS : ∀ b o, S b o → w'.cell? ⟨b, o, none⟩ = w.cell? ⟨b, o, none⟩ := by
  intro b o hb
  refine cell_of_heap (hset.other b ?_)
  rintro rfl
  exact hnS o hb
 have hk : Keeps w S w' S := ⟨fun _ _ h => h, hcellS⟩
 have hne : ∀ i, i < B.length → i ≠ id → β i ≠ β id := fun i hi hne e => hne (h.mem.inj i id hi hid e)
 have hlen : (B.set id row).length = B.length := by simp
 obtain ⟨ty, hty⟩ := hset.heap
 have hcell : ∀ j, w'.cell? ⟨β id, j, none⟩ = arr[j]? := fun j => Z2v hty
 have hoc : ∀ i, i < B.length → i ≠ id → ∀ j, w'.cell? ⟨β i, j, none⟩ = w.cell? ⟨β i, j, none⟩ := fun i hi hn j => cell_of_heap (hset.other _ (hne i hi hn))
 have back : ∀ l x v, Here nt sl a.tmps (B.set id row) β w' l x v → isUn x = true → Here nt sl a.tmps B β w l x v ∨ (l = .box id j0 ∧ x = x0 ∧ v = v0) := by
  intro l x v hl hu
  cases l with
  | slot t => exact .inl hl
  | box i j =>
   obtain ⟨r, q1, q2, q3⟩ := hl
   rcases Z31 q1 with ⟨rfl, rfl, _⟩ | ⟨hn, q⟩
   ·rw [hcell] at q3
    rcases (hr j x v q2 q3).2.2 hu with ⟨r0, k1, k2, k3⟩ | ⟨rfl, rfl, rfl⟩
    ·exact .inl ⟨r0, k1, k2, k3⟩
    ·exact .inr ⟨rfl, rfl, rfl⟩
   ·rw [hoc i (q1_.1 q).1 hn] at q3
    exact .inl ⟨r, q, q2, q3⟩
 have ok' : ∀ x v, UnOk w S x v → (∀ i, i < B.length → Z1g v ≠ some (β i)) → UnOk w' S x v := by
  intro x v hok hb
  refine hok.world fun b hbb => ⟨hset.other b ?_, fun _ h => h⟩
  rintro rfl
  exact hb id hid hbb
 refine ⟨⟨h.size, h.defers, ?_, h.high, ?_, ?_⟩, ?_⟩
 ·intro t ht
  exact (h.slots t ht).keeps hk (fun _ _ => rfl) (by rw [hlen]; exact Z1y _)
 ·refine ⟨?_, ?_, ?_, ?_, ?_, ?_⟩
  ·intro i r hi hm
   rcases Z31 hi with ⟨rfl, rfl, _⟩ | ⟨hn, q⟩
   ·exact ⟨arr, ty, hty, hs⟩
   ·obtain ⟨cs, ty', q1, q2⟩ := h.mem.row i r q hm
    exact ⟨cs, ty', (hset.other _ (hne i (q1_.1 q).1 hn)).trans q1, q2⟩
  ·intro i r j x hi hm hx
   rcases Z31 hi with ⟨rfl, rfl, _⟩ | ⟨hn, q⟩
   ·have hj : j < arr.size := by rw [hs]; exact (q1_.1 hx).1
    obtain ⟨q1, q2, _⟩ := hr j x arr[j] hx (by simp [hj])
    exact ⟨arr[j], by rw [hcell]; simp [hj], q1.keeps hk (fun _ _ => rfl) (by rw [hlen]; exact Z1y _), q2⟩
   ·obtain ⟨v, q1, q2, q3⟩ := h.mem.cell i r j x q hm hx
    exact ⟨v, (hoc i (q1_.1 q).1 hn j).trans q1, q2.keeps hk (fun _ _ => rfl) (by rw [hlen]; exact Z1y _), q3⟩
  ·intro i j hi hj; rw [hlen] at hi hj; exact h.mem.inj i j hi hj
  ·intro i hi; rw [hlen] at hi; exact h.mem.apart i hi
  ·intro b o hb; rw [hset.size]; exact h.mem.stay b o hb
  ·intro i r es hi hm
   rcases Z31 hi with ⟨rfl, rfl, _⟩ | ⟨hn, q⟩
   ·have e := Z5u hm
    have hj : 0 < arr.size := by rw [hs, e]; simp
    obtain ⟨_, q2, _⟩ := hr 0 (.md es) arr[0] (by rw [e]; rfl) (by simp [hj])
    simp [Z1k] at q2
   ·exact (h.mem.maps i r es q hm).keeps hk (hset.other _ (hne i (q1_.1 q).1 hn))
 ·refine ⟨?_, ?_⟩
  ·intro l x v hl hu
   rw [hlen]
   rcases back l x v hl hu with hb | ⟨rfl, rfl, rfl⟩
   ·obtain ⟨q1, q2⟩ := h.uns.ok l x v hb hu
    exact ⟨ok' x v q1 q2, q2⟩
   ·obtain ⟨q1, q2, _⟩ := h0 hu
    exact ⟨ok' _ _ q1 q2, q2⟩
  ·intro l l' x x' v v' hl hl' hu hu' e
   rcases back l x v hl hu with hb | ⟨rfl, rfl, rfl⟩ <;> rcases back l' x' v' hl' hu' with hb' | ⟨rfl, rfl, rfl⟩
   ·exact h.uns.inj l l' x x' v v' hb hb' hu hu' e
   ·exact absurd e ((h0 hu').2.2 l x v hb hu)
   ·exact absurd e.symm ((h0 hu).2.2 l' x' v' hb' hu')
   ·rfl
 ·rintro b ⟨l, x, v, hl, hu, hb⟩
  rcases back l x v hl hu with hb' | ⟨rfl, rfl, rfl⟩
  ·exact .inl ⟨l, x, v, hb', hu, hb⟩
  ·exact .inr ⟨hu, hb⟩
theorem Z8f {U U' : Nat → Prop} (h : Mem w S β B) (hid : id < B.length) (hset : Set1 w w' (β id) arr) (hU : ∀ b, U' b → U b) : Step m0 w S β B.length U w' S β B.length U' := by
 refine ⟨⟨fun _ _ h => h, fun b o hb => cell_of_heap (hset.other b ?_)⟩, by rw [hset.size]; exact Z1y _, hset.os, hset.tape, hset.output, fun h => ⟨h, fun _ _ => rfl⟩, fun i hi => .inl ⟨i, hi, rfl, fun x => x⟩,
  fun b hb => .inl (hU b hb), fun _ _ hs => .inl hs, fun b _ hb _ => hset.other b (hb id hid)⟩
 rintro rfl
 exact h.apart id hid o hb
end
theorem Z7h : ∀ (cs : List AV) (row : Row) (off : Nat), (setAt row off cs).length = row.length
 | [], _, _ => rfl
 | c :: cs, row, off => by rw [setAt, Z7h cs]; simp
theorem Z4L : ∀ (cs : List AV) (row : Row) (off j : Nat), off + cs.length ≤ row.length → (setAt row off cs)[j]? = if off ≤ j ∧ j < off + cs.length then cs[j - off]? else row[j]?
 | [], row, off, j, _ => by
  simp only [setAt, Z3p, Z66]
  rw [if_neg (by omega)]
 | c :: cs, row, off, j, h => by
  simp only [Z38] at h
  rw [setAt, Z4L cs (row.set off c) (off + 1) j (by simp; omega)]
  simp only [Z38]
  by_cases e : j = off
  ·subst e
   rw [if_neg (by omega), if_pos (by omega)]
   have : j < row.length := by omega
   simp [this]
  ·by_cases h1 : off ≤ j ∧ j < off + (cs.length + 1)
   ·rw [if_pos (by omega), if_pos h1]
    obtain ⟨k, hk⟩ : ∃ k, j - off = k + 1 := ⟨j - off - 1, by omega⟩
    rw [hk, show j - (off + 1) = k by omega]
    simp
   ·rw [if_neg (by omega), if_neg h1, Z3o]
    rw [if_neg (fun e' => e e'.symm)]
theorem Z4J (cur : Array Value) (vs : List Value) (p j : Nat) (h : p + vs.length ≤ cur.size) :
  (cur.toList.take p ++ vs ++ cur.toList.drop (p + vs.length)).toArray[j]? = if p ≤ j ∧ j < p + vs.length then vs[j - p]? else cur[j]? := by
 have hl : (cur.toList.take p).length = p := by simp; omega
 simp only [List.getElem?_toArray]
 rcases Z22 j p with h1 | h1
 ·rw [if_neg (by omega), Zac, Zfr (by omega), Z3B, if_pos h1]
  simp
 ·rw [Zac, Zfp (by omega), hl]
  rcases Z22 j (p + vs.length) with h2 | h2
  ·rw [if_pos ⟨h1, h2⟩, Zfr (by omega)]
  ·rw [if_neg (by omega), Zfp (by omega), Z63]
   rw [show p + vs.length + (j - p - vs.length) = j by omega]
   simp
theorem Z9B (cur : Array Value) (vs : List Value) (p : Nat) (h : p + vs.length ≤ cur.size) : (cur.toList.take p ++ vs ++ cur.toList.drop (p + vs.length)).toArray.size = cur.size := by
 simp; omega
theorem Z9y {v : Value} (h : cellV v = true) : v.oneCell' = true := by
 cases v <;> first | rfl | (simp [cellV] at h)
section
variable {P : Program} {H : Hints} {f : FuncId} {G : GF} {nt m0 : Nat} {o : Oper} {w : World} {S : Stay} {β : Nat → Nat} {sl : Sl} {B : List Row} {a : Act}
 {K : AV → Sl → List Row → Option Res} {r : Res} {next : Act → World → Prop} {Q : Exit → Act → World → Prop}
variable (h : Good nt w S β sl B a) (hd : ∀ t, o.dst = some t → t < nt)
include h hd
theorem Zi8 {t : TypeId} {x y : Operand} {ag : Bool} {n : Nat} (ho : o.op = .store t x y) (hs : shape P t = some (ag, n)) (hk : stN n (ev sl x) (ev sl y) B (fun B => K jk (weak sl y) B) = some r) :
  o.wp P a w (Leaves nt m0 o w S β sl B a K r) Q := by
 obtain ⟨d, i, hu, hi, hsz, hag, h1⟩ := Z3E hs
 have hx := h.ev x
 have hy := h.ev y
 unfold stN at hk
 split at hk
 ·rename_i id off heq
  obtain ⟨row, hrow, hk⟩ := ZH hk
  rw [heq] at hx
  obtain ⟨u, hue⟩ : ∃ u, a.eval x = u := ⟨_, rfl⟩
  rw [hue] at hx
  cases hx with
  | ptr _ _ hid =>
   dsimp only at hk
   split at hk
   ·rename_i hc
    obtain ⟨hmd, ht, hcn, hle⟩ := hc
    have hmd : mdOf row = none := by simpa using hmd
    obtain ⟨c1, c2⟩ := Z2W hy ht
    obtain ⟨cs, ty, hheap, hcs⟩ := h.mem.row id row hrow hmd
    have hcell : ∀ j, w.cell? ⟨β id, j, none⟩ = cs[j]? := fun j => Z2v hheap
    have hsize : (a.eval y).cells.size = n := by rw [c1, hcn]
    have hone : ∀ v, v ∈ (a.eval y).cells.toList → v.oneCell' = true := by
     intro v hv
     obtain ⟨j, hj⟩ := Z62.1 hv
     have hj' : (a.eval y).cells[j]? = some v := by simpa using hj
     have hlt : j < (Z1h (ev sl y)).length := by rw [← c1]; exact (Z2z.1 hj').1
     obtain ⟨q1, q2, _⟩ := c2 j _ v (q2_ hlt) hj'
     exact Z9y (q1.cellV q2)
    have hst := run_storeCells_at P (β id) off ty (a.eval y).cells.toList 0 cs w hheap (by simp [hsize, hcs]; omega) hone
    simp only [Z66] at hst
    have hfit : off + (a.eval y).cells.toList.length ≤ cs.size := by simp [hsize, hcs]; omega
    have hrun : (execOp a.eval o).run P w = .ok .skip (w.setRow (β id) (cs.toList.take off ++ (a.eval y).cells.toList ++ cs.toList.drop (off + (a.eval y).cells.toList.length)).toArray) := by
     unfold execOp
     simp only [ho, hue]
     show ((Instr.storeAt t (.pointer (some ⟨β id, off, none⟩)) (a.eval y)).bind fun _ => Sem.pure Next.skip).run P w = _
     rw [Sem.run_bind']
     unfold Instr.storeAt storeVar
     simp only [Instr.sureAddr, Sem.run_bind, Sem.run_pure, Result.andThen_ok, run_sizeOf hi, hsz, hsize]
     simp [hst]
    have hcsl : (Z1h (ev sl y)).length = (a.eval y).cells.toList.length := by simp [c1]
    have hw := h.weak y
    obtain ⟨hg, hU⟩ := Good.setBox (j0 := off) (x0 := ev sl y) (v0 := a.eval y) (row := setAt row off (Z1h (ev sl y))) hw hid (Z8e hheap _) (by rw [Z9B _ _ _ hfit, Z7h, hcs]) (by
      intro j z v hz hv
      rw [Z4L _ _ _ _ (by rw [hcsl]; omega), hcsl] at hz
      rw [Z4J _ _ _ _ hfit] at hv
      by_cases hj : off ≤ j ∧ j < off + (a.eval y).cells.toList.length
      ·rw [if_pos hj] at hz hv
       obtain ⟨q1, q2, q3⟩ := c2 (j - off) z v hz (by simpa using hv)
       refine ⟨q1, q2, fun hun => .inr ?_⟩
       obtain ⟨e1, e2, e3⟩ := q3 hun
       have : (a.eval y).cells.toList.length = 1 := by rw [← hcsl, e1]; rfl
       exact ⟨by omega, e2, e3⟩
      ·rw [if_neg hj] at hz hv
       obtain ⟨v', q1, q2, q3⟩ := h.mem.cell id row j z hrow hmd hz
       rw [hcell, hv] at q1
       cases q1
       exact ⟨q2, q3, fun _ => .inl ⟨row, hrow, hz, by rw [hcell, hv]⟩⟩) (by
      intro hun
      obtain ⟨t', rfl, htn, here⟩ := Z3v h hun
      obtain ⟨k1, k2⟩ := h.uns.ok _ _ _ here hun
      exact ⟨k1, k2, Z6d h hun⟩)
    refine Z8g hrun ⟨jk, weak sl y, _, S, β, hk, hg.put hd (ARel.junk _) rfl, ?_⟩
    have hlen : (B.set id (setAt row off (Z1h (ev sl y)))).length = B.length := by simp
    rw [hlen]
    refine Z8f h.mem hid (Z8e hheap _) fun b hb => ?_
    have hb := UB.put h.size hd (x := jk) rfl b hb
    rcases hU b hb with hb | ⟨q1, q2⟩
    ·exact UB.reslot (fun t _ => Z3r sl y t) b hb
    ·obtain ⟨t', rfl, htn, here⟩ := Z3v h q1
     exact ⟨_, _, _, here, q1, q2⟩
   ·simp at hk
 ·simp at hk
theorem Zfi {t : TypeId} {x : Operand} {d : TypeDesc} (ho : o.op = .load t x) (hu : P.underlying t = some d) (ha : aggT d = false) (hk : ldOwn (ev sl x) B (fun v B => K v sl B) = some r) :
  o.wp P a w (Leaves nt m0 o w S β sl B a K r) Q := by
 have hx := h.ev x
 unfold ldOwn at hk
 split at hk
 ·rename_i id off heq
  obtain ⟨row, hrow, hk⟩ := ZH hk
  have hmd : mdOf row = none := by
   cases hd : mdOf row with
   | none => rfl
   | some es => simp [hd] at hk
  rw [if_neg (by simp [hmd])] at hk
  obtain ⟨c, hc, hk⟩ := ZH hk
  rw [heq] at hx
  obtain ⟨u, hue⟩ : ∃ u, a.eval x = u := ⟨_, rfl⟩
  rw [hue] at hx
  cases hx with
  | ptr _ _ hid =>
   obtain ⟨v, hcv, hrel, hcellA⟩ := h.mem.cell id row off c hrow hmd hc
   obtain ⟨cs, ty, hheap, hcs⟩ := h.mem.row id row hrow hmd
   have hcell : ∀ j, w.cell? ⟨β id, j, none⟩ = cs[j]? := fun j => Z2v hheap
   have hrun : (execOp a.eval o).run P w = .ok (.value v) w := by
    unfold execOp
    simp only [ho, hue]
    show ((Instr.loadAt t (.pointer (some ⟨β id, off, none⟩))).bind fun x => Sem.pure (Next.value x)).run P w = _
    rw [Sem.run_bind']
    unfold Instr.loadAt
    simp [Instr.sureAddr, Z3N hu ha hcv]
   have hoff : off < row.length := (q1_.1 hc).1
   obtain ⟨hg, hU⟩ := Good.setBox (j0 := off) (x0 := jk) (v0 := undef) (row := row.set off (shr c)) h hid (Z7g hheap) (by simp [hcs]) (by
     intro j z u hz hu'
     rw [Z3o] at hz
     split at hz
     ·rename_i e
      subst e
      simp only [ZO] at hz
      subst hz
      rw [hcell, hu'] at hcv
      cases hcv
      exact ⟨hrel.shr, Z4Q hcellA, fun hun => absurd (Z1w c) (by simp [hun])⟩
     ·obtain ⟨v', q1, q2, q3⟩ := h.mem.cell id row j z hrow hmd hz
      rw [hcell, hu'] at q1
      cases q1
      exact ⟨q2, q3, fun _ => .inl ⟨row, hrow, hz, by rw [hcell, hu']⟩⟩) (by intro hun; simp [isUn, jk] at hun)
   have hlen : (B.set id (row.set off (shr c))).length = B.length := by simp
   have here : Here nt sl a.tmps B β w (.box id off) c v := ⟨row, hrow, hc, hcv⟩
   have hgone : ∀ l y q, Here nt sl a.tmps (B.set id (row.set off (shr c))) β w l y q → isUn y = true → Here nt sl a.tmps B β w l y q ∧ l ≠ .box id off := by
    intro l y q hl hy
    cases l with
    | slot t => exact ⟨hl, by simp⟩
    | box i j =>
     obtain ⟨r', q1, q2, q3⟩ := hl
     rcases Z31 q1 with ⟨rfl, rfl, _⟩ | ⟨hn, q⟩
     ·rw [Z3o] at q2
      split at q2
      ·rename_i e
       simp only [ZO] at q2
       rw [← q2, Z1w] at hy
       simp at hy
      ·rename_i e
       exact ⟨⟨row, hrow, q2, q3⟩, by simp; exact fun e' => e e'.symm⟩
     ·exact ⟨⟨r', q, q2, q3⟩, by simp; exact fun e' => absurd e' hn⟩
   have hrel' : ARel w S β (B.set id (row.set off (shr c))).length c v := by rw [hlen]; exact hrel
   cases hdd : o.dst with
   | none =>
    refine Z1e hrun ⟨c, sl, _, S, β, hk, by rw [hdd]; exact hg, ?_⟩
    rw [hlen, hdd]
    refine Z8f h.mem hid (Z7g hheap) fun b hb => ?_
    rcases hU b hb with hb | ⟨q1, _⟩
    ·exact hb
    ·simp [isUn, jk] at q1
   | some dd =>
    have hdn := hd dd hdd
    refine Z1e hrun ⟨c, sl, _, S, β, hk, ?_, ?_⟩
    ·rw [hdd]
     refine hg.putUn hdn hrel' (fun hun => ?_) (fun l y q hl hy hun e => ?_)
     ·rw [hlen]; exact h.uns.ok _ _ _ here hun
     ·obtain ⟨k1, k2⟩ := hgone l y q hl hy
      exact k2 (h.uns.inj l _ y c q v k1 here hy hun e)
    ·rw [hlen, hdd]
     refine Z8f h.mem hid (Z7g hheap) fun b hb => ?_
     rcases UB.putUn h.size hdn b hb with hb | ⟨q1, q2⟩
     ·rcases hU b hb with hb | ⟨q1, _⟩
      ·exact hb
      ·simp [isUn, jk] at q1
     ·exact ⟨_, _, _, here, q1, q2⟩
 ·simp at hk
end
end Go.Abs
end
section
namespace Go.Abs
open Go
theorem ZbX : ∀ (vs : List Value) (k off : Nat) (arr : Array Value) (j : Nat), off + k + vs.length ≤ arr.size →
  ((vs.zipIdx k).foldl (fun cs (q : Value × Nat) => cs.setIfInBounds (off + q.2) q.1) arr)[j]? = (if off + k ≤ j ∧ j < off + k + vs.length then vs[j - (off + k)]? else arr[j]?) ∧
  ((vs.zipIdx k).foldl (fun cs (q : Value × Nat) => cs.setIfInBounds (off + q.2) q.1) arr).size = arr.size
 | [], k, off, arr, j, _ => by
  simp only [List.zipIdx_nil, Zmb, Z3p, Z66]
  rw [if_neg (by omega)]
  exact ⟨rfl, trivial⟩
 | v :: vs, k, off, arr, j, h => by
  simp only [Z38] at h
  simp only [List.zipIdx_cons, Zfo]
  obtain ⟨h1, h2⟩ := ZbX vs (k + 1) off (arr.setIfInBounds (off + k) v) j (by simp; omega)
  refine ⟨?_, by rw [h2]; simp⟩
  rw [h1]
  simp only [Z38]
  by_cases e : j = off + k
  ·subst e
   rw [if_neg (by omega), if_pos (by omega)]
   have : off + k < arr.size := by omega
   simp [this]
  ·by_cases h3 : off + k ≤ j ∧ j < off + k + (vs.length + 1)
   ·rw [if_pos (by omega), if_pos h3]
    obtain ⟨q, hq⟩ : ∃ q, j - (off + k) = q + 1 := ⟨j - (off + k) - 1, by omega⟩
    rw [hq, show j - (off + (k + 1)) = q by omega]
    simp
   ·rw [if_neg (by omega), if_neg h3, Zif]
    rw [if_neg (fun e' => e e'.symm)]
def wrote (cells : Array Value) (off : Nat) (v : Value) : Array Value := v.cells.zipIdx.foldl (fun cs (c, j) => cs.setIfInBounds (off + j) c) cells
theorem Z4a {cells : Array Value} {off : Nat} {v : Value} (j : Nat) (h : off + v.cells.size ≤ cells.size) :
  (wrote cells off v)[j]? = (if off ≤ j ∧ j < off + v.cells.size then v.cells[j - off]? else cells[j]?) ∧ (wrote cells off v).size = cells.size := by
 have := ZbX v.cells.toList 0 off cells j (by simpa using h)
 unfold wrote
 rw [← Array.foldl_toList]
 simpa using this
section
variable {P : Program} {H : Hints} {f : FuncId} {G : GF} {nt m0 : Nat} {o : Oper} {w : World} {S : Stay} {β : Nat → Nat} {sl : Sl} {B : List Row} {a : Act}
 {K : AV → Sl → List Row → Option Res} {r : Res} {next : Act → World → Prop} {Q : Exit → Act → World → Prop}
def Z5D (w : World) (S : Stay) (β : Nat → Nat) (n : Nat) (cs : List AV) (arr : Array Value) : Prop :=
 arr.size = cs.length ∧ (∀ c, c ∈ cs → Z1k c = true ∧ isUn c = false) ∧ ∀ (i : Nat) (c : AV) (v : Value), cs[i]? = some c → arr[i]? = some v → ARel w S β n c v
theorem ZbW {n : Nat} {place : Nat → Option (Nat × Nat)} : ∀ (parts : List (Nat × AV)) (vs : List (Nat × Value)) (cells cs : List AV) (arr : Array Value), Z5D w S β n cells arr →
  parts.length = vs.length → (∀ (i : Nat) (p : Nat × AV) (q : Nat × Value), parts[i]? = some p → vs[i]? = some q → p.1 = q.1 ∧ ARel w S β n p.2 q.2) → Z5N place cells parts = some cs →
  ∃ arr', Instr.fill place arr vs = some arr' ∧ Z5D w S β n cs arr'
 | [], [], cells, cs, arr, hc, _, _, hf => by
  simp only [Z5N, ZO] at hf
  subst hf
  exact ⟨arr, rfl, hc⟩
 | (i, x) :: rest, (i', v) :: vrest, cells, cs, arr, hc, hl, hr, hf => by
  obtain ⟨e, hxv⟩ := hr 0 _ _ rfl rfl
  simp only at e hxv
  subst e
  simp only [Z5N] at hf
  split at hf
  ·simp at hf
  ·rename_i off size hp
   split at hf
   ·rename_i hcond
    obtain ⟨ht, hlen, hle⟩ := hcond
    obtain ⟨c1, c2⟩ := Z2W hxv ht
    obtain ⟨h1, h2, h3⟩ := hc
    simp only [Z39] at hlen
    have hsize : v.cells.size = size := by rw [c1, hlen]
    have hfit : off + v.cells.size ≤ arr.size := by rw [hsize, h1]; exact hle
    have hfitA : off + ((Z1h x).map shr).length ≤ cells.length := by simp [hlen]; exact hle
    have hnew : Z5D w S β n (setAt cells off ((Z1h x).map shr)) (wrote arr off v) := by
     refine ⟨by rw [(Z4a 0 hfit).2, Z7h, h1], ?_, ?_⟩
     ·intro c hc
      obtain ⟨j, hj⟩ := Z62.1 hc
      rw [Z4L _ _ _ _ hfitA] at hj
      split at hj
      ·rw [q6_] at hj
       obtain ⟨d, hd, rfl⟩ := q4_.1 hj
       have hlt : j - off < v.cells.size := by rw [c1]; exact (q1_.1 hd).1
       obtain ⟨_, q2, _⟩ := c2 (j - off) d _ hd (Z77 hlt)
       exact ⟨Z4Q q2, Z1w _⟩
      ·exact h2 c (q7_ hj)
     ·intro j c u hj hu
      rw [Z4L _ _ _ _ hfitA] at hj
      rw [(Z4a j hfit).1] at hu
      have el : ((Z1h x).map shr).length = v.cells.size := by simp [c1]
      rw [el] at hj
      split at hj
      ·rename_i hj'
       rw [if_pos hj'] at hu
       rw [q6_] at hj
       obtain ⟨d, hd, rfl⟩ := q4_.1 hj
       exact (c2 (j - off) d u hd hu).1.shr
      ·rename_i hj'
       rw [if_neg hj'] at hu
       exact h3 j c u hj hu
    obtain ⟨arr', q1, q2⟩ := ZbW rest vrest _ cs _ hnew (by simpa using hl) (fun i p q hp hq => hr (i + 1) p q (by simpa using hp) (by simpa using hq)) hf
    refine ⟨arr', ?_, q2⟩
    simp only [Instr.fill, hp]
    rw [if_neg]
    ·exact q1
    ·simp only [ne_eq, Z4U, decide_eq_true_eq, not_or, Nat.not_lt, gt_iff_lt]
     exact ⟨fun h => h hsize, hfit⟩
   ·simp at hf
 | [], _ :: _, _, _, _, _, hl, _, _ => by simp at hl
 | _ :: _, [], _, _, _, _, hl, _, _ => by simp at hl
theorem ZfD {n : Nat} {z : AV} {zv : Value} (h : Z2f zv = some z) (ht : Z1J z = false) : Z5D w S β n (Z1h z) zv.cells := by
 obtain ⟨c1, c2⟩ := Z2W (Z2i (w := w) (S := S) (β := β) (n := n) h) ht
 refine ⟨c1, ?_, fun j c v hc hv => (c2 j c v hc hv).1⟩
 intro c hc
 obtain ⟨j, hj⟩ := Z62.1 hc
 have hlt : j < zv.cells.size := by rw [c1]; exact (q1_.1 hj).1
 obtain ⟨q1, q2, q3⟩ := c2 j c _ hj (Z77 hlt)
 refine ⟨q2, ?_⟩
 cases hu : isUn c with
 | false => rfl
 | true =>
  obtain ⟨_, e, _⟩ := q3 hu
  rw [e, Z2e h] at hu
  simp at hu
theorem Z7Q {zv : Value} {z : AV} (h : Z2f zv = some z) : Z1J z = false := by
 unfold Z2f at h
 split at h
 ·obtain ⟨l, _, rfl⟩ := q4_.1 h; rfl
 ·obtain ⟨p, hp, rfl⟩ := q4_.1 h
  unfold Z46 at hp
  split at hp
  ·simp only [ZO] at hp; subst hp; rfl
  ·split at hp
   ·simp only [ZO] at hp; subst hp; rfl
   ·simp at hp
def evp (sl : Sl) (parts : Array (Nat × Operand)) : List (Nat × AV) := parts.toList.map fun q => (q.1, ev sl q.2)
theorem ZdA (h : Good nt w S β sl B a) (parts : Array (Nat × Operand)) :
  (evp sl parts).length = (parts.map fun (i, x) => (i, a.eval x)).toList.length ∧
  ∀ (i : Nat) (p : Nat × AV) (q : Nat × Value), (evp sl parts)[i]? = some p → (parts.map fun (i, x) => (i, a.eval x)).toList[i]? = some q → p.1 = q.1 ∧ ARel w S β B.length p.2 q.2 := by
 unfold evp
 refine ⟨by simp, ?_⟩
 intro i p q hp hq
 rw [q6_] at hp
 rw [Array.toList_map, q6_] at hq
 obtain ⟨x, hx, rfl⟩ := q4_.1 hp
 obtain ⟨y, hy, rfl⟩ := q4_.1 hq
 rw [hx] at hy
 cases hy
 exact ⟨rfl, h.ev _⟩
variable (h : Good nt w S β sl B a) (hd : ∀ t, o.dst = some t → t < nt)
include h hd
theorem Zi2 {t : TypeId} {parts : Array (Nat × Operand)} (ho : o.op = .build t parts) {v : AV} (hv : Z2u P t (evp sl parts) = some v) (hk : K v sl B = some r) :
  o.wp P a w (Leaves nt m0 o w S β sl B a K r) Q := by
 unfold Z2u at hv
 obtain ⟨z, hz, hv⟩ := ZH hv
 unfold zeroOf at hz
 split at hz
 ·rename_i it hit
  obtain ⟨zv, hzv, hzr⟩ := ZH hz
  have hzc := ZfD (w := w) (S := S) (β := β) (n := B.length) hzr (Z7Q hzr)
  obtain ⟨e1, e2⟩ := ZdA h parts
  have key : ∀ cs place, Z5N place (Z1h z) (evp sl parts) = some cs → (∀ arr', Instr.fill place zv.cells (parts.map fun (i, x) => (i, a.eval x)).toList = some arr' → P.built t (parts.map fun (i, x) => (i, a.eval x)).toList = some arr') → v = Z3A cs →
    o.wp P a w (Leaves nt m0 o w S β sl B a K r) Q := by
   intro cs place hf hb hvv
   subst hvv
   obtain ⟨arr', q1, q2⟩ := ZbW _ _ _ cs _ hzc e1 e2 hf
   refine Z1o h hd (s := Instr.build t (parts.map fun (i, x) => (i, a.eval x))) (by unfold execOp; simp only [ho]; rfl) (v := .agg arr') (run_build w t _ arr' (hb arr' q1)) (Z6Z q2.1 q2.2.1 q2.2.2) (Z5S _) hk
  split at hv
  ·rename_i fields hu
   obtain ⟨places, hpl, hv⟩ := ZH hv
   obtain ⟨cs, hcs, hv⟩ := ZH hv
   simp only [ZO] at hv
   unfold fieldsOf at hpl
   simp only [hu] at hpl
   refine key cs _ hcs (fun arr' ha => ?_) hv.symm
   unfold Program.built
   simp only [hit, hu, hzv, hpl]
   simpa using ha
  ·rename_i n e hu
   obtain ⟨ie, hie, hv⟩ := ZH hv
   obtain ⟨cs, hcs, hv⟩ := ZH hv
   simp only [ZO] at hv
   refine key cs _ hcs (fun arr' ha => ?_) hv.symm
   unfold Program.built
   simp only [hit, hu, hzv, hie]
   exact ha
  ·simp at hv
 ·simp at hz
end
end Go.Abs
end
section
namespace Go.Abs
open Go
theorem Z41 {i j n sz : Nat} (hi : i < n) (hj : j < sz) : i * sz + j < n * sz := by
 have : (i + 1) * sz ≤ n * sz := Zfv sz hi
 rw [Z4V, Nat.one_mul] at this
 omega
theorem ZjZ {i i0 j sz : Nat} (hne : i ≠ i0) (hj : j < sz) : ¬ (i0 * sz ≤ i * sz + j ∧ i * sz + j < i0 * sz + sz) := by
 intro ⟨h1, h2⟩
 rcases Nat.lt_or_gt_of_ne hne with h | h
 ·have := Z41 (n := i0) h hj; omega
 ·have : (i0 + 1) * sz ≤ i * sz := Zfv sz h
  rw [Z4V, Nat.one_mul] at this
  omega
theorem Z43 {w : World} {S : Stay} {xs : List PV} {b off sz cap : Nat} {arr : Array Value} {ty : TypeId} {fr : Nat × Nat} {o : Own} (hh : w.heap[b]? = some (.cells arr ty fr)) (hs : ∀ k, k < xs.length * sz → S b (off + k)) (h0 : 0 < sz)
  (hsz : ∀ e, e ∈ xs → (Z16 e).length = sz) (hle : off + xs.length * sz ≤ arr.size)
  (hcell : ∀ (i : Nat) (e : PV) (j : Nat) (c : PV), xs[i]? = some e → (Z16 e)[j]? = some c → Z1Q c = true ∧ ∀ v, arr[off + (i * sz + j)]? = some v → PRel w S c v)
  (hcap : xs.length ≤ cap) (ho : o ≠ .nl) (hex : o = .ex → cap = xs.length) (hun : o = .un → xs ≠ []) :
  PRel w S (.lst o xs) (.slice (some ⟨b, off, none⟩) xs.length cap) := by
 have hget : ∀ (i : Nat) (e : PV) (j : Nat) (c : PV), xs[i]? = some e → (Z16 e)[j]? = some c → i * sz + j < xs.length * sz := by
  intro i e j c he hc
  have h1 := (q1_.1 he).1
  have h2 := (q1_.1 hc).1
  rw [hsz e (q7_ he)] at h2
  exact Z41 h1 h2
 refine .lst o xs _ cap b off sz (fun i j => arr.getD (off + (i * sz + j)) undef) hcap (fun e => absurd e ho) hex hun (fun e => by simp at e) (fun _ => ⟨rfl, h0, hsz⟩) ?_ ?_
 ·intro i e j c he hc
  have hlt := hget i e j c he hc
  refine ⟨?_, hs _ hlt, (hcell i e j c he hc).1⟩
  rw [Z2v hh]
  have : off + (i * sz + j) < arr.size := by omega
  simp [this]
 ·intro i e j c he hc
  have hlt := hget i e j c he hc
  have : off + (i * sz + j) < arr.size := by omega
  exact (hcell i e j c he hc).2 _ (by simp [this])
theorem Z5Y {w : World} {S : Stay} {y : PV} {v : Value} (h : PRel w S y v) (ht : Z1J (.p y) = false) (hn : Z1Y y = true) :
  v.cells.size = (Z16 y).length ∧ ∀ (j : Nat) (c : PV) (u : Value), (Z16 y)[j]? = some c → v.cells[j]? = some u → PRel w S c u ∧ Z1Q c = true := by
 have one : Z2M y = true → Z16 y = [y] → v.cells.size = (Z16 y).length ∧ ∀ (j : Nat) (c : PV) (u : Value), (Z16 y)[j]? = some c → v.cells[j]? = some u → PRel w S c u ∧ Z1Q c = true := by
  intro hc he
  rw [he, cells_one (h.cellV hc)]
  refine ⟨rfl, ?_⟩
  intro j c u hj hu
  cases j with
  | zero => simp at hj hu; subst hj; subst hu; exact ⟨h, by simp [Z1Q, hc, hn]⟩
  | succ j => simp at hj
 cases y with
 | v y => exact one rfl rfl
 | lst o xs => exact one rfl rfl
 | agg cs =>
  cases h with
  | agg _ arr h1 h2 h3 =>
   refine ⟨by simpa [Z16, Value.cells] using h1, ?_⟩
   intro j c u hc hu
   exact ⟨h3 j c u hc hu, h2 c (q7_ hc)⟩
 | tup vs => simp [Z1J] at ht
 | junk => simp [Z1J] at ht
theorem Z6V (y : PV) : Z1J (.p (nrm y)) = Z1J (.p y) := by cases y <;> rfl
theorem Zas {sz : Nat} : ∀ (vs : List (Nat × Value)) (arr : Array Value), distinct (vs.map (·.1)) = true → (∀ q, q ∈ vs → q.2.cells.size = sz ∧ q.1 * sz + sz ≤ arr.size) →
  ∃ arr', Instr.fill (fun i => some (i * sz, sz)) arr vs = some arr' ∧ arr'.size = arr.size ∧
   ∀ i j, j < sz → arr'[i * sz + j]? = match vs.find? (fun q => q.1 == i) with | some q => q.2.cells[j]? | none => arr[i * sz + j]?
 | [], arr, _, _ => ⟨arr, rfl, rfl, fun _ _ _ => rfl⟩
 | (i0, v) :: vs, arr, hd, hall => by
  obtain ⟨hs, hfit⟩ := hall (i0, v) (by simp)
  simp only at hs hfit
  have hf : i0 * sz + v.cells.size ≤ arr.size := by rw [hs]; exact hfit
  simp only [Z2p, distinct, q5_, Z79, Zcs, decide_eq_false_iff_not] at hd
  have hsize := (Z4a 0 hf).2
  obtain ⟨arr', h1, h2, h3⟩ := Zas vs (wrote arr (i0 * sz) v) hd.2 (fun q hq => by rw [hsize]; exact hall q (by simp [hq]))
  refine ⟨arr', ?_, by rw [h2, hsize], ?_⟩
  ·simp only [Instr.fill]
   rw [if_neg]
   ·exact h1
   ·simp only [ne_eq, Z4U, decide_eq_true_eq, not_or, Nat.not_lt, gt_iff_lt]
    exact ⟨fun h => h hs, hf⟩
  ·intro i j hj
   rw [h3 i j hj]
   by_cases e : i0 = i
   ·subst e
    have hnone : vs.find? (fun q => q.1 == i0) = none := by
     rw [List.find?_eq_none]
     intro q hq hqe
     simp only [beq_iff_eq] at hqe
     exact hd.1 (Z1B.2 ⟨q, hq, hqe⟩)
    simp only [hnone, List.find?_cons, beq_self_eq_true]
    rw [(Z4a _ hf).1, if_pos (by omega)]
    congr 1
    omega
   ·simp only [List.find?_cons, beq_eq_false_iff_ne.2 e]
    have hw : (wrote arr (i0 * sz) v)[i * sz + j]? = arr[i * sz + j]? := by
     rw [(Z4a _ hf).1, if_neg]
     rw [hs]
     exact ZjZ (fun h => e h.symm) hj
    rw [hw]
theorem Z3z {z : PV} {ps : List (Nat × PV)} : ∀ (n i k : Nat), k < n → (Z1H z ps i n)[k]? = some (match ps.find? (fun q => q.1 == i + k) with | some q => q.2 | none => z)
 | 0, _, _, h => by omega
 | n + 1, i, k, h => by
  cases k with
  | zero => simp only [Z1H, Z2m, Z66]; congr 1
  | succ k =>
   simp only [Z1H, Zab]
   rw [Z3z n (i + 1) k (by omega), show i + 1 + k = i + (k + 1) by omega]
theorem Z6X {z : PV} {ps : List (Nat × PV)} : ∀ (n i : Nat), (Z1H z ps i n).length = n
 | 0, _ => rfl
 | n + 1, i => by simp [Z1H, Z6X n]
theorem Z9A {w : World} {S : Stay} {β : Nat → Nat} {n : Nat} : ∀ (parts : List (Nat × AV)) (vs : List (Nat × Value)) (ps : List (Nat × PV)), parts.length = vs.length →
  (∀ (i : Nat) (p : Nat × AV) (q : Nat × Value), parts[i]? = some p → vs[i]? = some q → p.1 = q.1 ∧ ARel w S β n p.2 q.2) → Z76 parts = some ps →
  ps.map (·.1) = vs.map (·.1) ∧ (∀ (i : Nat), (match ps.find? (fun q => q.1 == i), vs.find? (fun q => q.1 == i) with
   | some p, some q => p.1 = i ∧ Z1J (.p p.2) = false ∧ Z1Y p.2 = true ∧ PRel w S p.2 q.2
   | none, none => True
   | _, _ => False)) ∧ ∀ q, q ∈ vs → ∃ p, p ∈ ps ∧ p.1 = q.1 ∧ Z1J (.p p.2) = false ∧ Z1Y p.2 = true ∧ PRel w S p.2 q.2
 | [], [], ps, _, _, hp => by
  simp only [Z76, ZO] at hp
  subst hp
  exact ⟨rfl, fun i => trivial, by simp⟩
 | (i0, x) :: parts, (i0', v) :: vs, ps, hl, hr, hp => by
  obtain ⟨e, hxv⟩ := hr 0 _ _ rfl rfl
  simp only at e hxv
  subst e
  simp only [Z76] at hp
  split at hp
  ·rename_i y l heq
   split at hp
   ·simp at hp
   ·rename_i ht
    simp only [ZO] at hp
    subst hp
    have ht : Z1J (.p y) = false := by simpa using ht
    have hy : PRel w S (nrm y) v := by cases hxv with | p _ _ h => exact h.nrm
    obtain ⟨h1, h2, h3⟩ := Z9A parts vs l (by simpa using hl) (fun i p q hp hq => hr (i + 1) p q (by simpa using hp) (by simpa using hq)) heq
    refine ⟨by simp [h1], ?_, ?_⟩
    ·intro i
     by_cases e : i0 = i
     ·subst e
      simp only [List.find?_cons, beq_self_eq_true]
      exact ⟨trivial, by rw [Z6V]; exact ht, Z45 y, hy⟩
     ·simp only [List.find?_cons, beq_eq_false_iff_ne.2 e]
      exact h2 i
    ·intro q hq
     rcases Z1K.1 hq with rfl | hq
     ·exact ⟨_, List.mem_cons_self .., rfl, by rw [Z6V]; exact ht, Z45 y, hy⟩
     ·obtain ⟨p, hp, r⟩ := h3 q hq
      exact ⟨p, List.mem_cons_of_mem _ hp, r⟩
  ·simp at hp
 | [], _ :: _, _, hl, _, _ => by simp at hl
 | _ :: _, [], _, hl, _, _ => by simp at hl
section
variable {P : Program} {H : Hints} {f : FuncId} {G : GF} {nt m0 : Nat} {o : Oper} {w : World} {S : Stay} {β : Nat → Nat} {sl : Sl} {B : List Row} {a : Act}
 {K : AV → Sl → List Row → Option Res} {r : Res} {next : Act → World → Prop} {Q : Exit → Act → World → Prop}
theorem Z9H (w : World) (t e : TypeId) (ie : TypeInfo) (hu : P.underlying t = some (.slice e)) (hie : P.info? e = some ie) :
  (Instr.buildSlice t 0 #[]).run P w = .ok (.slice (some ⟨w.heap.size, 0, none⟩) 0 0) (w.alloc (.cells #[] e)) := by
 simp [Instr.buildSlice, run_underlying hu, Go.sizeOf, typeInfo, hie, newRow, Instr.fill, Array.range_zero']
variable (h : Good nt w S β sl B a) (hd : ∀ t, o.dst = some t → t < nt)
include h hd
theorem Zm8 {t : TypeId} {len : Nat} {parts : Array (Nat × Operand)} (ho : o.op = .buildSlice t len parts) {v : AV} (hv : xlit P t len (evp sl parts) = some v) {u : Bool} (hk : K (if u then unOf v else v) sl B = some r) :
  o.wp P a w (Leaves nt m0 o w S β sl B a K r) Q := by
 unfold xlit at hv
 split at hv
 ·rename_i e hu
  obtain ⟨ie, hie, hv1⟩ := ZH hv
  obtain ⟨zA, hz, hv2⟩ := ZH hv1
  obtain ⟨z, hzA, hv3⟩ := ZH hv2
  obtain ⟨ps, hps, hv4⟩ := ZH hv3
  clear hv hv1 hv2 hv3
  have hv := hv4
  clear hv4
  simp only at hv
  unfold zeroOf at hz
  rw [hie] at hz
  obtain ⟨zv, hzv, hzr⟩ := ZH hz
  have hzA' : zA = .p z := by cases zA <;> simp_all [asP]
  subst hzA'
  split at hv
  ·rename_i hc
   simp only [ZO] at hv
   subst hv
   simp only [q5_, decide_eq_true_eq, Z2w] at hc
   obtain ⟨⟨⟨⟨⟨hdis, hlt⟩, hszOk⟩, h0⟩, hlen⟩, hsmall⟩ := hc
   obtain ⟨e1, e2⟩ := ZdA h parts
   obtain ⟨m1, m2, m3⟩ := Z9A _ _ _ e1 e2 hps
   have hszs : ∀ x, x ∈ Z1H (nrm z) ps 0 len → (Z16 x).length = ie.size := by
    intro x hx
    have := Z2w.1 hszOk x hx
    simpa using this
   have hL : (Z1H (nrm z) ps 0 len).length = len := Z6X _ _
   by_cases hlen0 : len = 0
   ·subst hlen0
    have hps0 : ps = [] := by
     cases ps with
     | nil => rfl
     | cons q _ => exact absurd (hlt q (by simp)) (by omega)
    subst hps0
    have hvs : (parts.map fun (i, x) => (i, a.eval x)) = #[] := by
     apply Zft.1
     have : ((parts.map fun (i, x) => (i, a.eval x)).toList.map (·.1)) = [] := m1.symm
     simpa using this
    have hrun : (execOp a.eval o).run P w = .ok (.value (.slice (some ⟨w.heap.size, 0, none⟩) 0 0)) (w.alloc (.cells #[] e)) := by
     unfold execOp
     simp only [ho]
     show ((Instr.buildSlice t 0 (parts.map fun (i, x) => (i, a.eval x))).bind fun x => Sem.pure (Next.value x)).run P w = _
     rw [hvs, Sem.run_bind', Z9H w t e ie hu hie]
     rfl
    refine Z1e hrun (Z3y h hd h (fun t _ => .inl rfl) (Z2L w #[] e) 0 (x := .p (.lst .ex [])) ?_ (by simp [isUn]) (by cases u <;> exact hk))
    exact .p _ _ (Z43 (off := 0) (sz := ie.size) (arr := #[]) (ty := e) (fr := (0, 0)) (Fresh.new (Z2L w #[] e)) (by simp) h0 (by simp) (by simp) (by simp) (by simp) (by simp) (by simp) (by simp))
   ·have hmul : len * ie.size ≤ 2 ^ 24 := by
     have : len * ie.size ≤ 4096 * 256 := Nat.mul_le_mul hlen hsmall
     omega
    have hpos : ¬ len * ie.size = 0 := by
     have := Nat.mul_pos (Nat.pos_of_ne_zero hlen0) h0
     omega
    have hvsz : ∀ q, q ∈ (parts.map fun (i, x) => (i, a.eval x)).toList → q.2.cells.size = ie.size ∧ q.1 * ie.size + ie.size ≤ ((Array.range (len * ie.size)).map (zv.cells[· % zv.cells.size]!)).size := by
     intro q hq
     obtain ⟨p, hp, pe, pt, pn, pr⟩ := m3 q hq
     have hplt := hlt p hp
     have := Z41 (j := ie.size - 1) hplt (show ie.size - 1 < ie.size by omega)
     refine ⟨?_, by simp; rw [← pe]; omega⟩
     have hfind : ∃ p', ps.find? (fun x => x.1 == p.1) = some p' := by
      cases hf : ps.find? (fun x => x.1 == p.1) with
      | some p' => exact ⟨p', rfl⟩
      | none => exact absurd (List.find?_eq_none.1 hf p hp) (by simp)
     obtain ⟨p', hp'⟩ := hfind
     have hpp : p' = p := by
      have hm := List.mem_of_find?_eq_some hp'
      have he := List.find?_some hp'
      simp only [beq_iff_eq] at he
      have : ∀ (l : List (Nat × PV)), distinct (l.map (·.1)) = true → p ∈ l → p' ∈ l → p' = p := by
       intro l
       induction l with
       | nil => simp
       | cons y l ih =>
        intro hd hm1 hm2
        simp only [Z2p, distinct, q5_, Z79, Zcs, decide_eq_false_iff_not] at hd
        rcases Z1K.1 hm1 with rfl | h1 <;> rcases Z1K.1 hm2 with rfl | h2
        ·rfl
        ·exact absurd (Z1B.2 ⟨p', h2, he⟩) hd.1
        ·exact absurd (Z1B.2 ⟨p, h1, he.symm⟩) hd.1
        ·exact ih hd.2 h1 h2
      exact this ps hdis hp hm
     have hg := Z3z (z := nrm z) (ps := ps) len 0 p.1 hplt
     rw [Z67, hp', hpp] at hg
     have := hszs _ (q7_ hg)
     rw [(Z5Y pr pt pn).1, this]
    obtain ⟨arr, f1, f2, f3⟩ := Zas _ ((Array.range (len * ie.size)).map (zv.cells[· % zv.cells.size]!)) (by rw [← m1]; exact hdis) hvsz
    have hrun : (execOp a.eval o).run P w = .ok (.value (.slice (some ⟨w.heap.size, 0, none⟩) len len)) (w.alloc (.cells arr e)) := by
     unfold execOp
     simp only [ho]
     show ((Instr.buildSlice t len (parts.map fun (i, x) => (i, a.eval x))).bind fun x => Sem.pure (Next.value x)).run P w = _
     rw [Sem.run_bind', run_buildSlice w t e len _ arr ie zv hu hie hzv (by omega) hpos f1]
     rfl
    have hf := Z2L w arr e
    have hke : Keeps w S (w.alloc (.cells arr e)) (S.more w.heap.size (len * ie.size)) := hf.keeps h.mem.stay _
    have hsz' : arr.size = len * ie.size := by rw [f2]; simp
    have hne : Z1H (nrm z) ps 0 len ≠ [] := by intro e; rw [e] at hL; simp at hL; omega
    have key : ∀ ow : Own, ow ≠ .nl → PRel (w.alloc (.cells arr e)) (S.more w.heap.size (len * ie.size)) (.lst ow (Z1H (nrm z) ps 0 len)) (.slice (some ⟨w.heap.size, 0, none⟩) (Z1H (nrm z) ps 0 len).length len) := by
     intro ow how
     refine Z43 (off := 0) (sz := ie.size) hf.new ?_ h0 hszs (by rw [hL, hsz']; omega) ?_ (by rw [hL]; exact Z1y _) how (fun _ => hL.symm) (fun _ => hne)
     ·intro k hk
      rw [hL] at hk
      exact .inr ⟨rfl, by omega⟩
     ·intro i x j c hx hc
      have hi : i < len := by have := (q1_.1 hx).1; omega
      have hj : j < ie.size := by
       have := (q1_.1 hc).1
       rw [hszs x (q7_ hx)] at this
       exact this
      rw [Z3z _ _ _ hi, Z67] at hx
      have hm2 := m2 i
      rw [Z67, f3 i j hj]
      split at hm2
      ·rename_i p q hp hq
       rw [hp] at hx
       simp only [ZO] at hx
       subst hx
       rw [hq]
       obtain ⟨_, pt, pn, pr⟩ := hm2
       obtain ⟨r1, r2⟩ := Z5Y pr pt pn
       have hlt' : j < q.2.cells.size := by rw [r1]; exact (q1_.1 hc).1
       obtain ⟨r3, r4⟩ := r2 j c _ hc (Z77 hlt')
       refine ⟨r4, fun v hv => ?_⟩
       simp only at hv
       exact ((r2 j c v hc hv).1).keeps hke
      ·rename_i hp hq
       rw [hp] at hx
       simp only [ZO] at hx
       subst hx
       rw [hq]
       have hzp : PRel w S z zv := by
        have := Z2i (w := w) (S := S) (β := β) (n := B.length) hzr
        cases this with | p _ _ hp => exact hp
       obtain ⟨r1, r2⟩ := Z5Y hzp.nrm (by rw [Z6V]; exact Z7Q hzr) (Z45 z)
       have hmem : nrm z ∈ Z1H (nrm z) ps 0 len := by
        have := Z3z (z := nrm z) (ps := ps) len 0 i hi
        rw [Z67, hp] at this
        exact q7_ this
       have hzs : zv.cells.size = ie.size := by rw [r1]; exact hszs _ hmem
       have hlt' : j < zv.cells.size := by omega
       obtain ⟨r3, r4⟩ := r2 j c _ hc (Z77 hlt')
       refine ⟨r4, fun v hv => ?_⟩
       have hij := Z41 hi hj
       have hmod : (i * ie.size + j) % zv.cells.size = j := by rw [hzs, Nat.mul_comm, Nat.mul_add_mod, Nat.mod_eq_of_lt hj]
       simp only [Zcw] at hv
       obtain ⟨k, hk', rfl⟩ := q4_.1 hv
       have hk2 := Z2z.1 hk'
       obtain ⟨q1, q2⟩ := hk2
       simp at q1 q2
       subst q2
       rw [hmod, getElem!_pos zv.cells j hlt']
       exact r3.keeps hke
      ·exact hm2.elim
    rw [hL] at key
    have hval : (if u then unOf (.p (.lst .ex (Z1H (nrm z) ps 0 len))) else .p (.lst .ex (Z1H (nrm z) ps 0 len))) = .p (.lst (if u then .un else .ex) (Z1H (nrm z) ps 0 len)) := by
     cases u with
     | false => rfl
     | true =>
      obtain ⟨y, ys, hy⟩ := List.exists_cons_of_ne_nil hne
      rw [hy]; rfl
    rw [hval] at hk
    refine Z1e hrun (Z3y h hd h (fun t _ => .inl rfl) hf (len * ie.size) (.p _ _ (key _ (by cases u <;> simp))) (fun hun => ?_) hk)
    have hu : u = true := by cases u with
     | true => rfl
     | false => simp [isUn] at hun
    subst hu
    refine ⟨⟨Z1H (nrm z) ps 0 len, w.heap.size, 0, len, len, arr, e, ie.size, rfl, rfl, hf.new, h0, by rw [hsz']; omega, Z1y _, by omega, ?_, hszs⟩, rfl⟩
    intro k hk hs
    rcases hs with hs | ⟨_, hs⟩
    ·exact Nat.lt_irrefl _ (h.mem.stay _ _ hs)
    ·omega
  ·simp at hv
 ·simp at hv
end
end Go.Abs
end
section
namespace Go.Abs
open Go
theorem Zf7 {P : Program} {d : TypeId} (h : Z3T P d = true) : P.underlying d = some .string := by
 unfold Z3T at h
 split at h
 ·assumption
 ·simp at h
theorem Z6U {P : Program} {s : TypeId} (h : Z2B P s .u8 = true) : ∃ e, P.underlying s = some (.slice e) ∧ P.underlying e = some (.int .u8) := by
 unfold Z2B at h
 split at h
 ·rename_i e hh
  refine ⟨e, hh, ?_⟩
  split at h
  ·rename_i k hk'
   have : k = .u8 := by cases k <;> simp_all (config := { decide := true })
   rw [hk', this]
  ·simp at h
 ·simp at h
theorem Z5H {s : ByteArray} {i : Nat} {c : PV} (h : (Z2q s)[i]? = some c) : ∃ b : UInt8, s.data[i]? = some b ∧ c = .v (.int .u8 b.toNat) := by
 unfold Z2q at h
 rw [q6_] at h
 obtain ⟨b, hb, rfl⟩ := q4_.1 h
 exact ⟨b, by simpa using hb, rfl⟩
theorem Z7i (s : ByteArray) : s.data.size = s.size := rfl
theorem Z2r (s : ByteArray) : (Z2q s).length = s.size := by
 unfold Z2q
 rw [Z39, Array.length_toList]
 rfl
theorem Z4t {s : ByteArray} {e : PV} (h : e ∈ Z2q s) : (Z16 e).length = 1 := by
 obtain ⟨i, hi⟩ := Z62.1 h
 obtain ⟨b, _, rfl⟩ := Z5H hi
 rfl
theorem Zbe {s : ByteArray} {cap i : Nat} {b : UInt8} (h : s.data[i]? = some b) : (bytesRow s cap)[i]? = some (.int .u8 b.toNat) := by
 have hi : i < s.data.size := (Z2z.1 h).1
 unfold bytesRow
 rw [Z7a, if_pos (by simpa using hi), Zcw, h]
 rfl
theorem ZcP (s : ByteArray) (cap : Nat) : s.size ≤ (bytesRow s cap).size := by
 unfold bytesRow
 rw [Zae, Array.size_map, Z7i]
 omega
section
variable {P : Program} {H : Hints} {f : FuncId} {G : GF} {nt m0 : Nat} {o : Oper} {w : World} {S : Stay} {β : Nat → Nat} {sl : Sl} {B : List Row} {a : Act}
 {K : AV → Sl → List Row → Option Res} {r : Res} {next : Act → World → Prop} {Q : Exit → Act → World → Prop}
theorem Z81 {s d : TypeId} {x : Operand} (ho : o.op = .convert s d x) : execOp a.eval o = (convert s d (a.eval x)).bind fun v => Sem.pure (Next.value v) := by
 unfold execOp
 simp only [ho]
 rfl
variable (h : Good nt w S β sl B a) (hd : ∀ t, o.dst = some t → t < nt)
include h hd
theorem Zm6 {s d : TypeId} {x : Operand} (ho : o.op = .convert s d x) (hs : Z3T P s = true) (hd' : Z2B P d .u8 = true) {v : AV} (hv : xbyt (ev sl x) = some v) (hk : K v sl B = some r) :
  o.wp P a w (Leaves nt m0 o w S β sl B a K r) Q := by
 have he := h.ev x
 obtain ⟨e, hud, hue⟩ := Z6U hd'
 have hus := Zf7 hs
 unfold xbyt at hv
 split at hv
 ·rename_i b heq
  simp only [ZO] at hv
  subst hv
  rw [heq] at he
  have hval := Z1z he
  have hrun : (execOp a.eval o).run P w = .ok (.value (.slice (some ⟨w.heap.size, 0, none⟩) b.size (grownCap w b.size 0 e)))
   (w.drew.alloc (.cells (bytesRow b (grownCap w b.size 0 e)) e ((bytesRow b (grownCap w b.size 0 e)).size, (bytesRow b (grownCap w b.size 0 e)).size + 1))) := by
   rw [Z81 ho, hval, Sem.run_bind', run_bytes_of_string w s d e b hus hud hue]
   rfl
  have hf : Fresh w (w.drew.alloc (.cells (bytesRow b (grownCap w b.size 0 e)) e ((bytesRow b (grownCap w b.size 0 e)).size, (bytesRow b (grownCap w b.size 0 e)).size + 1)))
    (bytesRow b (grownCap w b.size 0 e)) e ((bytesRow b (grownCap w b.size 0 e)).size, (bytesRow b (grownCap w b.size 0 e)).size + 1) := ⟨rfl, rfl, rfl, rfl⟩
  refine Z1e hrun (Z3y h hd h (fun t _ => .inl rfl) hf b.size (x := .p (.lst .sh (Z2q b))) ?_ (by simp [isUn]) hk)
  have hp := Z43 (w := w.drew.alloc (.cells (bytesRow b (grownCap w b.size 0 e)) e ((bytesRow b (grownCap w b.size 0 e)).size, (bytesRow b (grownCap w b.size 0 e)).size + 1)))
   (S := S.more w.heap.size b.size) (xs := Z2q b) (b := w.heap.size) (off := 0) (sz := 1) (cap := grownCap w b.size 0 e) (o := .sh) hf.new
   (fun k hk => .inr ⟨rfl, by rw [Z2r] at hk; omega⟩) (by omega) (fun e he => Z4t he)
   (by rw [Z2r]; have := ZcP b (grownCap w b.size 0 e); omega)
   (by
    intro i x j c hx hc
    obtain ⟨u, hu, rfl⟩ := Z5H hx
    cases j with
    | succ j => simp [Z16] at hc
    | zero =>
     simp only [Z16, Z2m, ZO] at hc
     subst hc
     refine ⟨rfl, fun v hv => ?_⟩
     simp only [Nat.mul_one, Z66, Z67] at hv
     rw [Zbe hu] at hv
     cases hv
     exact .v _ rfl)
   (by rw [Z2r]; exact grownCap_ge w b.size 0 e) (by simp) (by simp) (by simp)
  rw [Z2r] at hp
  exact .p _ _ hp
 ·simp at hv
theorem Zh6 {s d : TypeId} {x : Operand} (ho : o.op = .convert s d x) {v : AV} (hv : xcnv P s d (ev sl x) = some v) (hk : K v sl B = some r) :
  o.wp P a w (Leaves nt m0 o w S β sl B a K r) Q := by
 unfold xcnv at hv
 split at hv
 ·rename_i hc
  simp only [q5_] at hc
  exact Zma h hd ho hc.1 hc.2 hv hk
 ·split at hv
  ·rename_i hc
   simp only [q5_] at hc
   exact Zm6 h hd ho hc.1 hc.2 hv hk
  ·obtain ⟨u, hu, hv1⟩ := ZH hv
   obtain ⟨c, hc, hcv⟩ := ZH hv1
   have e1 := Z49 hu (h.ev x)
   refine Z5w h hd (convert s d (a.eval x)) (Z81 ho) (v := c) ?_ (Z2i hcv) (Z2e hcv) hk
   rw [e1]
   exact hc
omit h hd in
theorem ZcM (h : Good nt w S β sl B a) : ∀ (l : List Operand) (vs : List Value), Z3Q.vals (l.map (ev sl)) = some vs → l.map a.eval = vs
 | [], vs, hv => by
  simp only [List.map_nil, Z3Q.vals, ZO] at hv
  subst hv; rfl
 | x :: l, vs, hv => by
  simp only [Z2p, Z3Q.vals] at hv
  obtain ⟨u, hu, hv1⟩ := ZH hv
  obtain ⟨us, hus, rfl⟩ := q4_.1 hv1
  rw [Z2p, ZcM h l us hus, Z49 hu (h.ev x)]
theorem ZaL {c : Call} {mx : Bool} (ho : o.op = .call c) (hc : c.callee = .builtin (if mx then .max else .min)) {v : AV} (hv : Z3Q P mx (evs sl c.args) = some v) (hk : K v sl B = some r) :
  o.wp P a w (Leaves nt m0 o w S β sl B a K r) Q := by
 unfold Z3Q at hv
 obtain ⟨l, hl, hv1⟩ := ZH hv
 obtain ⟨u, hu, hcv⟩ := ZH hv1
 have hvals := ZcM h _ _ hl
 have hmap : c.args.map a.eval = l.toArray := by
  apply Zft.1
  simpa using hvals
 cases mx with
 | true =>
  refine Z5w h hd (Builtin.max_ c.argTypes o.type (c.args.map a.eval)) ?_ (v := u) ?_ (Z2i hcv) (Z2e hcv) hk
  ·unfold execOp
   simp only [ho]
   show ((resolve a.eval c o.type).bind fun d => invoke d.target d.args) = _
   unfold resolve
   simp only [hc, if_true]
   rfl
  ·rw [hmap]; exact hu
 | false =>
  refine Z5w h hd (Builtin.min_ c.argTypes o.type (c.args.map a.eval)) ?_ (v := u) ?_ (Z2i hcv) (Z2e hcv) hk
  ·unfold execOp
   simp only [ho]
   show ((resolve a.eval c o.type).bind fun d => invoke d.target d.args) = _
   unfold resolve
   simp only [hc]
   rfl
  ·rw [hmap]; exact hu
end
end Go.Abs
end
section
namespace Go.Abs
open Go
def idxE : List (Int × PV) → Int → Option Nat
 | [], _ => none
 | q :: r, n => if q.1 = n then some 0 else (idxE r n).map (· + 1)
theorem Z2S : ∀ {es : List (Int × PV)} {n : Int} {i : Nat}, idxE es n = some i → ∃ q, es[i]? = some q ∧ q.1 = n ∧ getE es n = some q.2 ∧ (∀ y, putE es n y = es.set i (n, y)) ∧ delE es n = es.eraseIdx i
 | [], _, _, h => by simp [idxE] at h
 | q :: r, n, i, h => by
  unfold idxE at h
  by_cases e : q.1 = n
  ·rw [if_pos e] at h
   simp only [ZO] at h
   subst h
   exact ⟨q, rfl, e, by simp [getE, e], fun y => by simp [putE, e], by simp [delE, e]⟩
  ·rw [if_neg e] at h
   obtain ⟨j, hj, rfl⟩ := q4_.1 h
   obtain ⟨p, h1, h2, h3, h4, h5⟩ := Z2S hj
   exact ⟨p, by simpa using h1, h2, by simp [getE, e, h3], fun y => by simp [putE, e, h4], by simp [delE, e, h5]⟩
theorem Z4H : ∀ {es : List (Int × PV)} {n : Int}, idxE es n = none → getE es n = none ∧ (∀ y, putE es n y = es ++ [(n, y)]) ∧ delE es n = es ∧ ∀ q, q ∈ es → q.1 ≠ n
 | [], _, _ => ⟨rfl, fun _ => rfl, rfl, by simp⟩
 | q :: r, n, h => by
  unfold idxE at h
  by_cases e : q.1 = n
  ·rw [if_pos e] at h; simp at h
  ·rw [if_neg e] at h
   obtain ⟨h1, h2, h3, h4⟩ := Z4H (es := r) (by cases hr : idxE r n with | none => rfl | some _ => rw [hr] at h; simp at h)
   refine ⟨by simp [getE, e, h1], fun y => by simp [putE, e, h2], by simp [delE, e, h3], ?_⟩
   intro p hp
   rcases Z1K.1 hp with rfl | hp
   ·exact e
   ·exact h4 p hp
theorem Z7K : ∀ (l : List MapEntry) (es : List (Int × PV)) (n : Int) (j : Nat), l.length = es.length → (∀ (i : Nat) (e : MapEntry) (x : Int × PV), l[i]? = some e → es[i]? = some x → e.key = .int .i64 x.1) →
  Instr.findNow (.int .i64) (.int .i64 n) l j = some ((idxE es n).bind fun i => (l[i]?).map fun e => (j + i, e.val))
 | [], [], n, j, _, _ => rfl
 | e :: l, q :: es, n, j, hl, hk => by
  have h0 := hk 0 e q rfl rfl
  unfold Instr.findNow
  have ih := Z7K l es n (j + 1) (by simpa using hl) (fun i e x he hx => hk (i + 1) e x (by simpa using he) (by simpa using hx))
  by_cases hq : q.1 = n
  ·simp [Instr.sameNow, h0, hq, idxE]
  ·have hne : (n == q.1) = false := by simpa using fun e => hq e.symm
   simp only [Instr.sameNow, h0, if_true, hne, ih, idxE, if_neg hq]
   cases idxE es n with
   | none => rfl
   | some i => simp [Nat.add_assoc, Nat.add_comm 1 i]
 | [], _ :: _, _, _, h, _ => by simp at h
 | _ :: _, [], _, _, h, _ => by simp at h
section
variable {P : Program} {w : World} {t k e : TypeId} {b : Nat} {ents : Array MapEntry} {clock : Nat} {es : List (Int × PV)} {n : Int}
 (ht : P.underlying t = some (.map k e)) (hk : P.underlying k = some (.int .i64)) (hb : w.heap[b]? = some (.map ents clock)) (hl : ents.size = es.length)
 (hkey : ∀ (i : Nat) (e : MapEntry) (x : Int × PV), ents[i]? = some e → es[i]? = some x → e.key = .int .i64 x.1)
include ht hk hb hl hkey
omit ht hb in
theorem Z3S : (Instr.findKey k (.int .i64 n) ents.toList).run P w = .ok ((idxE es n).bind fun i => (ents[i]?).map fun e => (i, e.val)) w := by
 have := Z7K ents.toList es n 0 (by simpa using hl) (fun i e x he hx => hkey i e x (by simpa using he) hx)
 simp only [Z67, Zfs] at this
 exact MapKept.run_findKey hk this
theorem Zfb (c : Bool) {z : Value} (hz : (zeroValue e).run P w = .ok z w) : (Instr.lookup t (.map (some b)) (.int .i64 n) c).run P w =
  .ok (match (idxE es n).bind fun i => ents[i]? with | some x => if c = true then .tuple #[x.val, .bool true] else x.val | none => if c = true then .tuple #[z, .bool false] else z) w := by
 have hf := Z3S (P := P) (w := w) (n := n) hk hl hkey
 have hc : ∀ em, (Instr.checkKey em 10000 k (.int .i64 n)).run P w = .ok () w := fun em => MapKept.run_checkKey hk (by simp [MapKept.IsKey]) em 9999
 cases hi : (idxE es n).bind fun i => ents[i]? with
 | none =>
  have hn : ((idxE es n).bind fun i => (ents[i]?).map fun e => (i, e.val)) = none := by
   cases h : idxE es n with
   | none => rfl
   | some i => rw [h] at hi; simp only [q3_] at hi ⊢; rw [hi]; rfl
  rw [hn] at hf
  simp [Instr.lookup, run_underlying ht, MapKept.run_getObj_map hb, hc, hf, hz, Result.andThen]
 | some x =>
  obtain ⟨i, h1, h2⟩ := Zcn.1 hi
  have hn : ((idxE es n).bind fun i => (ents[i]?).map fun e => (i, e.val)) = some (i, x.val) := by rw [h1]; simp [h2]
  rw [hn] at hf
  simp [Instr.lookup, run_underlying ht, MapKept.run_getObj_map hb, hc, hf, Result.andThen]
theorem Zcd (c : Bool) {i : Nat} (hi : idxE es n = some i) {x : MapEntry} (hx : ents[i]? = some x) : (Instr.lookup t (.map (some b)) (.int .i64 n) c).run P w =
  .ok (if c = true then .tuple #[x.val, .bool true] else x.val) w := by
 have hf := Z3S (P := P) (w := w) (n := n) hk hl hkey
 have hc : ∀ em, (Instr.checkKey em 10000 k (.int .i64 n)).run P w = .ok () w := fun em => MapKept.run_checkKey hk (by simp [MapKept.IsKey]) em 9999
 rw [hi] at hf
 simp only [q3_, hx, Z2x] at hf
 simp [Instr.lookup, run_underlying ht, MapKept.run_getObj_map hb, hc, hf, Result.andThen]
theorem Z9K (v : Value) : (Instr.mapUpdate t (.map (some b)) (.int .i64 n) v).run P w =
  .ok () { w with heap := w.heap.setIfInBounds b (match idxE es n with | some i => .map (ents.modify i fun e => { e with key := .int .i64 n, val := v }) clock | none => .map (ents.push ⟨.int .i64 n, v, clock⟩) (clock + 1)) } := by
 have hf := Z3S (P := P) (w := w) (n := n) hk hl hkey
 have hc : ∀ em, (Instr.checkKey em 10000 k (.int .i64 n)).run P w = .ok () w := fun em => MapKept.run_checkKey hk (by simp [MapKept.IsKey]) em 9999
 cases hi : idxE es n with
 | none =>
  rw [hi] at hf
  simp only [Option.bind_none] at hf
  simp [Instr.mapUpdate, run_underlying ht, MapKept.run_getObj_map hb, hc, hf, MapKept.run_setObj_map _ hb, Result.andThen]
 | some i =>
  obtain ⟨q, h1, h2, _⟩ := Z2S hi
  have hlt : i < ents.size := by rw [hl]; exact (q1_.1 h1).1
  have hk1 := hkey i ents[i] q (by simp [hlt]) h1
  rw [h2] at hk1
  rw [hi] at hf
  have hst : (Instr.keyThatStays (.int .i64 n) (.int .i64 n)).run P w = .ok (.int .i64 n) w := MapKept.run_keyThatStays (d := .int .i64) (by simp [MapKept.IsKey])
  simp only [q3_, Z77 hlt, Z2x] at hf
  simp [Instr.mapUpdate, run_underlying ht, MapKept.run_getObj_map hb, hc, hf, hlt, hk1, hst, MapKept.run_setObj_map _ hb, Result.andThen]
theorem Ze9 (k2 T : TypeId) : (Builtin.delete_ #[t, k2] T #[.map (some b), .int .i64 n]).run P w =
  .ok (.tuple #[]) { w with heap := w.heap.setIfInBounds b (match idxE es n with | some i => .map (ents.eraseIdxIfInBounds i) clock | none => .map ents clock) } := by
 have hf := Z3S (P := P) (w := w) (n := n) hk hl hkey
 have hc : ∀ em, (Instr.checkKey em 10000 k (.int .i64 n)).run P w = .ok () w := fun em => MapKept.run_checkKey hk (by simp [MapKept.IsKey]) em 9999
 cases hi : idxE es n with
 | none =>
  rw [hi] at hf
  simp only [Option.bind_none] at hf
  simp [Builtin.delete_, run_underlying ht, MapKept.run_getObj_map hb, hc, hf, MapKept.run_setObj_map _ hb, Result.andThen]
 | some i =>
  obtain ⟨q, h1, h2, _⟩ := Z2S hi
  have hlt : i < ents.size := by rw [hl]; exact (q1_.1 h1).1
  rw [hi] at hf
  simp only [q3_, Z77 hlt, Z2x] at hf
  simp [Builtin.delete_, run_underlying ht, MapKept.run_getObj_map hb, hc, hf, MapKept.run_setObj_map _ hb, Result.andThen]
end
end Go.Abs
end
section
namespace Go.Abs
open Go
structure Put1 (w w' : World) (b : Nat) : Prop where
 other : ∀ c, c ≠ b → w'.heap[c]? = w.heap[c]?
 size : w'.heap.size = w.heap.size
 os : w'.os = w.os
 tape : w'.tape = w.tape
 output : w'.output = w.output
theorem Z89 {w : World} {b : Nat} (o : Obj) : Put1 w { w with heap := w.heap.setIfInBounds b o } b :=
 ⟨fun c hc => by simp [Ne.symm hc], by simp, rfl, rfl, rfl⟩
section
variable {nt m0 : Nat} {w w' : World} {S : Stay} {β : Nat → Nat} {sl : Sl} {B : List Row} {a : Act} {id : Nat} {es : List (Int × PV)}
theorem Good.setMap (h : Good nt w S β sl B a) (hid : id < B.length) (hp : Put1 w w' (β id)) (hm : Z2E w' S (β id) es) :
  Good nt w' S β sl (B.set id [.md es]) a ∧ (∀ b, UB (Here nt sl a.tmps (B.set id [.md es]) β w') b → UB (Here nt sl a.tmps B β w) b) := by
 have hnS : ∀ o, ¬ S (β id) o := h.mem.apart id hid
 have hcellS : ∀ b o, S b o → w'.cell? ⟨b, o, none⟩ = w.cell? ⟨b, o, none⟩ := by
  intro b o hb
  refine cell_of_heap (hp.other b ?_)
  rintro rfl
  exact hnS o hb
 have hk : Keeps w S w' S := ⟨fun _ _ h => h, hcellS⟩
 have hne : ∀ i, i < B.length → i ≠ id → β i ≠ β id := fun i hi hne e => hne (h.mem.inj i id hi hid e)
 have hlen : (B.set id [AV.md es]).length = B.length := by simp
 have hoc : ∀ i, i < B.length → i ≠ id → ∀ j, w'.cell? ⟨β i, j, none⟩ = w.cell? ⟨β i, j, none⟩ := fun i hi hn j => cell_of_heap (hp.other _ (hne i hi hn))
 have back : ∀ l x v, Here nt sl a.tmps (B.set id [.md es]) β w' l x v → isUn x = true → Here nt sl a.tmps B β w l x v := by
  intro l x v hl hu
  cases l with
  | slot t => exact hl
  | box i j =>
   obtain ⟨r, q1, q2, q3⟩ := hl
   rcases Z31 q1 with ⟨rfl, rfl, _⟩ | ⟨hn, q⟩
   ·cases j with
    | zero => simp only [Z2m, ZO] at q2; subst q2; simp [isUn] at hu
    | succ j => simp at q2
   ·rw [hoc i (q1_.1 q).1 hn] at q3
    exact ⟨r, q, q2, q3⟩
 have ok' : ∀ x v, UnOk w S x v → (∀ i, i < B.length → Z1g v ≠ some (β i)) → UnOk w' S x v := by
  intro x v hok hb
  refine hok.world fun b hbb => ⟨hp.other b ?_, fun _ h => h⟩
  rintro rfl
  exact hb id hid hbb
 have nomd : mdOf [AV.md es] = some es := rfl
 refine ⟨⟨h.size, h.defers, ?_, h.high, ?_, ?_⟩, ?_⟩
 ·intro t ht
  exact (h.slots t ht).keeps hk (fun _ _ => rfl) (by rw [hlen]; exact Z1y _)
 ·refine ⟨?_, ?_, ?_, ?_, ?_, ?_⟩
  ·intro i r hi hmd
   rcases Z31 hi with ⟨rfl, rfl, _⟩ | ⟨hn, q⟩
   ·rw [nomd] at hmd; simp at hmd
   ·obtain ⟨cs, ty', q1, q2⟩ := h.mem.row i r q hmd
    exact ⟨cs, ty', (hp.other _ (hne i (q1_.1 q).1 hn)).trans q1, q2⟩
  ·intro i r j x hi hmd hx
   rcases Z31 hi with ⟨rfl, rfl, _⟩ | ⟨hn, q⟩
   ·rw [nomd] at hmd; simp at hmd
   ·obtain ⟨v, q1, q2, q3⟩ := h.mem.cell i r j x q hmd hx
    exact ⟨v, (hoc i (q1_.1 q).1 hn j).trans q1, q2.keeps hk (fun _ _ => rfl) (by rw [hlen]; exact Z1y _), q3⟩
  ·intro i j hi hj; rw [hlen] at hi hj; exact h.mem.inj i j hi hj
  ·intro i hi; rw [hlen] at hi; exact h.mem.apart i hi
  ·intro b o hb; rw [hp.size]; exact h.mem.stay b o hb
  ·intro i r es' hi hmd
   rcases Z31 hi with ⟨rfl, rfl, _⟩ | ⟨hn, q⟩
   ·rw [nomd] at hmd
    cases hmd
    exact hm
   ·exact (h.mem.maps i r es' q hmd).keeps hk (hp.other _ (hne i (q1_.1 q).1 hn))
 ·refine ⟨?_, ?_⟩
  ·intro l x v hl hu
   rw [hlen]
   obtain ⟨q1, q2⟩ := h.uns.ok l x v (back l x v hl hu) hu
   exact ⟨ok' x v q1 q2, q2⟩
  ·intro l l' x x' v v' hl hl' hu hu' e
   exact h.uns.inj l l' x x' v v' (back l x v hl hu) (back l' x' v' hl' hu') hu hu' e
 ·rintro b ⟨l, x, v, hl, hu, hb⟩
  exact ⟨l, x, v, back l x v hl hu, hu, hb⟩
theorem Zii {U U' : Nat → Prop} (h : Mem w S β B) (hid : id < B.length) (hp : Put1 w w' (β id)) (hU : ∀ b, U' b → U b) : Step m0 w S β B.length U w' S β B.length U' := by
 refine ⟨⟨fun _ _ h => h, fun b o hb => cell_of_heap (hp.other b ?_)⟩, by rw [hp.size]; exact Z1y _, hp.os, hp.tape, hp.output, fun h => ⟨h, fun _ _ => rfl⟩, fun i hi => .inl ⟨i, hi, rfl, fun x => x⟩,
  fun b hb => .inl (hU b hb), fun _ _ hs => .inl hs, fun b _ hb _ => hp.other b (hb id hid)⟩
 rintro rfl
 exact h.apart id hid o hb
theorem Good.newMap (h : Good nt w S β sl B a) : Good nt (w.alloc (.map #[] 0)) S (newβ β B.length w.heap.size) sl (B ++ [[.md []]]) a ∧
  (∀ b, UB (Here nt sl a.tmps (B ++ [[.md []]]) (newβ β B.length w.heap.size) (w.alloc (.map #[] 0))) b → UB (Here nt sl a.tmps B β w) b) := by
 have old : ∀ b, b < w.heap.size → (w.alloc (.map #[] 0)).heap[b]? = w.heap[b]? := by
  intro b hb
  show (w.heap.push _)[b]? = _
  rw [Zad, if_neg (by omega)]
 have new : (w.alloc (.map #[] 0)).heap[w.heap.size]? = some (.map #[] 0) := by
  show (w.heap.push _)[w.heap.size]? = _
  simp
 have hk : Keeps w S (w.alloc (.map #[] 0)) S := ⟨fun _ _ h => h, fun b o hb => cell_of_heap (old b (h.mem.stay b o hb))⟩
 have hn : B.length ≤ (B ++ [[AV.md []]]).length := by simp
 have hβ : ∀ i, i < B.length → newβ β B.length w.heap.size i = β i := fun i hi => Z2l hi
 have hget : ∀ {id : Nat} {r : Row}, (B ++ [[AV.md []]])[id]? = some r → (B[id]? = some r ∧ id < B.length) ∨ (id = B.length ∧ r = [.md []]) := by
  intro id r hr
  rw [Z3M] at hr
  split at hr
  ·exact .inl ⟨hr, ‹_›⟩
  ·rename_i hlt
   right
   have : id - B.length = 0 := by
    rcases Z64 (id - B.length) with e | e
    ·exact e
    ·rw [Z3L (by simp; omega)] at hr; simp at hr
   rw [this] at hr
   simp at hr
   exact ⟨by omega, hr.symm⟩
 have back : ∀ l x v, Here nt sl a.tmps (B ++ [[.md []]]) (newβ β B.length w.heap.size) (w.alloc (.map #[] 0)) l x v → isUn x = true → Here nt sl a.tmps B β w l x v := by
  intro l x v hl hu
  cases l with
  | slot t => exact hl
  | box id j =>
   obtain ⟨r, q1, q2, q3⟩ := hl
   rcases hget q1 with ⟨q, hlt⟩ | ⟨rfl, rfl⟩
   ·rw [hβ id hlt, cell_of_heap (old _ (h.mem.lt hlt))] at q3
    exact ⟨r, q, q2, q3⟩
   ·cases j with
    | zero => simp only [Z2m, ZO] at q2; subst q2; simp [isUn] at hu
    | succ j => simp at q2
 have ok' : ∀ x v, UnOk w S x v → UnOk (w.alloc (.map #[] 0)) S x v := by
  intro x v hok
  refine hok.world fun b hb => ?_
  obtain ⟨b', hb', hlt⟩ := hok.blk
  rw [hb] at hb'
  cases hb'
  exact ⟨old b hlt, fun _ h => h⟩
 refine ⟨⟨h.size, h.defers, ?_, h.high, ?_, ?_⟩, ?_⟩
 ·intro t ht
  exact (h.slots t ht).keeps hk hβ hn
 ·refine ⟨?_, ?_, ?_, ?_, ?_, ?_⟩
  ·intro id r hr' hm
   rcases hget hr' with ⟨q, hlt⟩ | ⟨rfl, rfl⟩
   ·obtain ⟨cs, ty, q1, q2⟩ := h.mem.row id r q hm
    exact ⟨cs, ty, by rw [hβ id hlt, old _ (h.mem.lt hlt)]; exact q1, q2⟩
   ·simp [mdOf] at hm
  ·intro id r j x hr' hm hx
   rcases hget hr' with ⟨q, hlt⟩ | ⟨rfl, rfl⟩
   ·obtain ⟨v, q1, q2, q3⟩ := h.mem.cell id r j x q hm hx
    exact ⟨v, by rw [hβ id hlt, cell_of_heap (old _ (h.mem.lt hlt))]; exact q1, q2.keeps hk hβ hn, q3⟩
   ·simp [mdOf] at hm
  ·intro i j hi hj e
   simp only [Z2J, Z38, Z3p] at hi hj
   rcases Z22 i B.length with hi' | hi' <;> rcases Z22 j B.length with hj' | hj'
   ·rw [hβ i hi', hβ j hj'] at e; exact h.mem.inj i j hi' hj' e
   ·have : j = B.length := by omega
    subst this
    rw [hβ i hi', Z1l] at e
    have := h.mem.lt hi'
    omega
   ·have : i = B.length := by omega
    subst this
    rw [hβ j hj', Z1l] at e
    have := h.mem.lt hj'
    omega
   ·omega
  ·intro i hi o ho
   simp only [Z2J, Z38, Z3p] at hi
   rcases Z22 i B.length with hi' | hi'
   ·rw [hβ i hi'] at ho; exact h.mem.apart i hi' o ho
   ·have : i = B.length := by omega
    subst this
    rw [Z1l] at ho
    have := h.mem.stay _ _ ho
    omega
  ·intro b o hb
   have := h.mem.stay b o hb
   show b < (w.heap.push _).size
   simp
   omega
  ·intro id r es hr' hm
   rcases hget hr' with ⟨q, hlt⟩ | ⟨rfl, rfl⟩
   ·have := (h.mem.maps id r es q hm).keeps hk (old _ (h.mem.lt hlt))
    rw [hβ id hlt]
    exact this
   ·simp only [mdOf, ZO] at hm
    subst hm
    rw [Z1l]
    exact ⟨#[], 0, new, rfl, fun i e x he => by simp at he, fun i e he => by simp at he, fun i j e e' he => by simp at he, by simp⟩
 ·refine ⟨?_, ?_⟩
  ·intro l x v hl hu
   obtain ⟨q1, q2⟩ := h.uns.ok l x v (back l x v hl hu) hu
   refine ⟨ok' x v q1, fun i hi e => ?_⟩
   rcases Z22 i B.length with hlt | hge
   ·rw [hβ i hlt] at e; exact q2 i hlt e
   ·have : i = B.length := by simp at hi; omega
    subst this
    rw [Z1l] at e
    obtain ⟨b', hb', hlt⟩ := q1.blk
    rw [e] at hb'
    simp only [ZO] at hb'
    omega
  ·intro l l' x x' v v' hl hl' hu hu' e
   exact h.uns.inj l l' x x' v v' (back l x v hl hu) (back l' x' v' hl' hu') hu hu' e
 ·rintro b ⟨l, x, v, hl, hu, hb⟩
  exact ⟨l, x, v, back l x v hl hu, hu, hb⟩
end
end Go.Abs
end
section
namespace Go.Abs
open Go
theorem Z44 {P : Program} {t e : TypeId} (h : mapE P t = some e) : ∃ k, P.underlying t = some (.map k e) ∧ P.underlying k = some (.int .i64) := by
 unfold mapE at h
 split at h
 ·rename_i k e' hu
  split at h
  ·rename_i hk
   simp only [ZO] at h
   subst h
   exact ⟨k, hu, hk⟩
  ·simp at h
 ·simp at h
theorem Zfe {x : AV} {B : List Row} {q : Nat × List (Int × PV)} (h : Z30 x B = some q) : x = .mp q.1 ∧ B[q.1]? = some [.md q.2] := by
 unfold Z30 at h
 split at h
 ·rename_i id
  obtain ⟨row, hr, h⟩ := ZH h
  obtain ⟨es, he, h⟩ := ZH h
  simp only [ZO] at h
  subst h
  exact ⟨rfl, by rw [hr, Z5u he]⟩
 ·simp at h
theorem Z5E {β : Type} {x : AV} {k : Int → Option β} {r : β} (h : asK x k = some r) : ∃ n, x = .p (.v (.int .i64 n)) ∧ k n = some r := by
 unfold asK at h
 split at h
 ·exact ⟨_, rfl, h⟩
 ·simp at h
theorem Z2E.put {w' : World} {S : Stay} {b : Nat} {es : List (Int × PV)} {ents : Array MapEntry} {clock : Nat} {n : Int} {y : PV} {v : Value} (hl : ents.size = es.length)
  (h3 : ∀ (i : Nat) (e : MapEntry) (x : Int × PV), ents[i]? = some e → es[i]? = some x → e.key = .int .i64 x.1 ∧ PRel w' S x.2 e.val ∧ Z1Y x.2 = true)
  (h4 : ∀ (i : Nat) (e : MapEntry), ents[i]? = some e → e.born < clock) (h5 : ∀ (i j : Nat) (e e' : MapEntry), ents[i]? = some e → ents[j]? = some e' → e.born = e'.born → i = j) (h6 : (es.map (·.1)).Nodup)
  (hy : PRel w' S y v) (hn : Z1Y y = true)
  (hb : w'.heap[b]? = some (match idxE es n with | some i => .map (ents.modify i fun e => { e with key := .int .i64 n, val := v }) clock | none => .map (ents.push ⟨.int .i64 n, v, clock⟩) (clock + 1))) : Z2E w' S b (putE es n y) := by
 cases hi : idxE es n with
 | none =>
  rw [hi] at hb
  obtain ⟨_, p2, _, p4⟩ := Z4H hi
  rw [p2]
  refine ⟨_, _, hb, by simp [hl], ?_, ?_, ?_, ?_⟩
  ·intro i e x he hx
   rw [Zad] at he
   rw [Z3M] at hx
   split at he
   ·rename_i hs
    simp only [ZO] at he
    subst he
    rw [if_neg (by omega), hs, hl] at hx
    simp at hx
    subst hx
    exact ⟨rfl, hy, hn⟩
   ·have hlt := (Z2z.1 he).1
    rw [if_pos (by omega)] at hx
    exact h3 i e x he hx
  ·intro i e he
   rw [Zad] at he
   split at he
   ·simp only [ZO] at he
    subst he
    exact Nat.lt_succ_self _
   ·exact Nat.lt_succ_of_lt (h4 i e he)
  ·intro i j e e' he he' hb'
   rw [Zad] at he he'
   split at he <;> split at he'
   ·omega
   ·simp only [ZO] at he
    subst he
    have := h4 j e' he'
    simp only at hb'
    omega
   ·simp only [ZO] at he'
    subst he'
    have := h4 i e he
    simp only at hb'
    omega
   ·exact h5 i j e e' he he' hb'
  ·rw [List.map_append, Zcr]
   refine ⟨h6, by simp, ?_⟩
   intro a ha c hc
   obtain ⟨q, hq, rfl⟩ := Z1B.1 ha
   simp at hc
   rw [hc]
   exact p4 q hq
 | some i =>
  rw [hi] at hb
  obtain ⟨q, p1, p2, _, p4, _⟩ := Z2S hi
  have hlt := (q1_.1 p1).1
  rw [p4]
  have hget : ∀ (j : Nat) (e : MapEntry), (ents.modify i fun e => { e with key := .int .i64 n, val := v })[j]? = some e → (j = i ∧ ∃ e0, ents[i]? = some e0 ∧ e = { e0 with key := .int .i64 n, val := v }) ∨ (j ≠ i ∧ ents[j]? = some e) := by
   intro j e he
   rw [Zcp] at he
   split at he
   ·rename_i e1
    subst e1
    obtain ⟨e0, h0, rfl⟩ := q4_.1 he
    exact .inl ⟨rfl, e0, h0, rfl⟩
   ·rename_i e1
    exact .inr ⟨fun e2 => e1 e2.symm, he⟩
  refine ⟨_, _, hb, by simp [hl], ?_, ?_, ?_, ?_⟩
  ·intro j e x he hx
   rw [Z3o] at hx
   rcases hget j e he with ⟨rfl, e0, h0, rfl⟩ | ⟨hj, h0⟩
   ·rw [if_pos rfl, if_pos hlt] at hx
    simp only [ZO] at hx
    subst hx
    exact ⟨rfl, hy, hn⟩
   ·rw [if_neg (fun e => hj e.symm)] at hx
    exact h3 j e x h0 hx
  ·intro j e he
   rcases hget j e he with ⟨rfl, e0, h0, rfl⟩ | ⟨hj, h0⟩
   ·exact h4 j e0 h0
   ·exact h4 j e h0
  ·intro j k e e' he he' hb'
   rcases hget j e he with ⟨rfl, e0, h0, rfl⟩ | ⟨hj, h0⟩ <;> rcases hget k e' he' with ⟨rfl, e0', h0', rfl⟩ | ⟨hk, h0'⟩
   ·rfl
   ·exact h5 _ _ e0 e' h0 h0' hb'
   ·exact h5 _ _ e e0' h0 h0' hb'
   ·exact h5 _ _ e e' h0 h0' hb'
  ·have : (es.set i (n, y)).map (·.1) = es.map (·.1) := by
    apply Z7b
    intro j
    rw [q6_, q6_, Z3o]
    split
    ·rename_i e1
     subst e1
     rw [p1, Z2x, Z2x, p2]
    ·rfl
   rw [this]
   exact h6
theorem Z2E.del {w' : World} {S : Stay} {b : Nat} {es : List (Int × PV)} {ents : Array MapEntry} {clock : Nat} {n : Int} (hl : ents.size = es.length)
  (h3 : ∀ (i : Nat) (e : MapEntry) (x : Int × PV), ents[i]? = some e → es[i]? = some x → e.key = .int .i64 x.1 ∧ PRel w' S x.2 e.val ∧ Z1Y x.2 = true)
  (h4 : ∀ (i : Nat) (e : MapEntry), ents[i]? = some e → e.born < clock) (h5 : ∀ (i j : Nat) (e e' : MapEntry), ents[i]? = some e → ents[j]? = some e' → e.born = e'.born → i = j) (h6 : (es.map (·.1)).Nodup)
  (hb : w'.heap[b]? = some (match idxE es n with | some i => .map (ents.eraseIdxIfInBounds i) clock | none => .map ents clock)) : Z2E w' S b (delE es n) := by
 cases hi : idxE es n with
 | none =>
  rw [hi] at hb
  obtain ⟨_, _, p3, _⟩ := Z4H hi
  rw [p3]
  exact ⟨_, _, hb, hl, h3, h4, h5, h6⟩
 | some i =>
  rw [hi] at hb
  obtain ⟨q, p1, _, _, _, p5⟩ := Z2S hi
  have hlt := (q1_.1 p1).1
  have hlt' : i < ents.size := by omega
  rw [p5]
  simp only [Array.eraseIdxIfInBounds, dif_pos hlt'] at hb
  have hget : ∀ (j : Nat), (ents.eraseIdx i hlt')[j]? = ents[if j < i then j else j + 1]? := by
   intro j
   rw [Array.getElem?_eraseIdx]
   split <;> rfl
  have hget' : ∀ (j : Nat), (es.eraseIdx i)[j]? = es[if j < i then j else j + 1]? := by
   intro j
   rw [List.getElem?_eraseIdx]
   split <;> rfl
  refine ⟨_, _, hb, ?_, ?_, ?_, ?_, ?_⟩
  ·rw [Array.size_eraseIdx, List.length_eraseIdx, if_pos hlt, hl]
  ·intro j e x he hx
   rw [hget] at he
   rw [hget'] at hx
   exact h3 _ e x he hx
  ·intro j e he
   rw [hget] at he
   exact h4 _ e he
  ·intro j k e e' he he' hb'
   rw [hget] at he he'
   have := h5 _ _ e e' he he' hb'
   split at this <;> split at this <;> omega
  ·exact h6.sublist ((List.eraseIdx_sublist es i).map _)
section
variable {P : Program} {H : Hints} {f : FuncId} {G : GF} {nt m0 : Nat} {o : Oper} {w : World} {S : Stay} {β : Nat → Nat} {sl : Sl} {B : List Row} {a : Act}
 {K : AV → Sl → List Row → Option Res} {r : Res} {next : Act → World → Prop} {Q : Exit → Act → World → Prop}
variable (h : Good nt w S β sl B a) (hd : ∀ t, o.dst = some t → t < nt)
include h hd
omit hd in
theorem Z5t {x : Operand} {q : Nat × List (Int × PV)} (hx : Z30 (ev sl x) B = some q) : a.eval x = .map (some (β q.1)) ∧ q.1 < B.length ∧ Z2E w S (β q.1) q.2 := by
 obtain ⟨e1, e2⟩ := Zfe hx
 have he := h.ev x
 rw [e1] at he
 obtain ⟨u, hu⟩ : ∃ u, a.eval x = u := ⟨_, rfl⟩
 rw [hu] at he ⊢
 cases he with
 | mp _ hid => exact ⟨rfl, hid, h.mem.maps q.1 _ _ e2 rfl⟩
omit hd in
theorem Z7B {x : Operand} {n : Int} (hx : ev sl x = .p (.v (.int .i64 n))) : a.eval x = .int .i64 n := by
 have he := h.ev x
 rw [hx] at he
 exact Z1z he
theorem Zfj {t : TypeId} (ho : o.op = .makeMap t none) (hk : xmake P t B (fun v B => K v sl B) = some r) : o.wp P a w (Leaves nt m0 o w S β sl B a K r) Q := by
 unfold xmake at hk
 obtain ⟨e, _, hk⟩ := ZH hk
 have hrun : (execOp a.eval o).run P w = .ok (.value (.map (some w.heap.size))) (w.alloc (.map #[] 0)) := by
  unfold execOp
  simp only [ho]
  show ((Instr.makeMap t none).bind fun x => Sem.pure (Next.value x)).run P w = _
  rw [Sem.run_bind']
  unfold Instr.makeMap
  simp
 obtain ⟨hg, hU⟩ := h.newMap
 have old : ∀ b, b < w.heap.size → (w.alloc (.map #[] 0)).heap[b]? = w.heap[b]? := by
  intro b hb
  show (w.heap.push _)[b]? = _
  rw [Zad, if_neg (by omega)]
 have hv : ARel (w.alloc (.map #[] 0)) S (newβ β B.length w.heap.size) (B ++ [[AV.md []]]).length (.mp B.length) (.map (some w.heap.size)) := by
  have := ARel.mp (w := w.alloc (.map #[] 0)) (S := S) (β := newβ β B.length w.heap.size) (n := (B ++ [[AV.md []]]).length) B.length (by simp)
  rwa [Z1l] at this
 refine Z1e hrun ⟨.mp B.length, sl, _, S, newβ β B.length w.heap.size, hk, hg.put hd hv rfl, ?_⟩
 refine ⟨⟨fun _ _ h => h, fun b o hb => cell_of_heap (old b (h.mem.stay b o hb))⟩, ?_, rfl, rfl, rfl, ?_, ?_, ?_, fun b o' hs => .inl hs, fun b hb _ _ => old b hb⟩
 ·show w.heap.size ≤ (w.heap.push _).size
  simp
 ·intro hm
  exact ⟨by simp; omega, fun i hi => Z2l (by omega)⟩
 ·intro i hi
  simp only [Z2J, Z38, Z3p] at hi
  rcases Z22 i B.length with hi' | hi'
  ·exact .inl ⟨i, hi', Z2l hi', id⟩
  ·have : i = B.length := by omega
   subst this
   rw [Z1l]
   exact .inr (Z1y _)
 ·intro b hb
  exact .inl (hU b (UB.put h.size hd rfl b hb))
theorem Zh9 {t : TypeId} {x i : Operand} {c : Bool} (ho : o.op = .lookup t x i c) {v : AV} (hv : Z34 P t c (ev sl x) (ev sl i) B = some v) (hk : K v sl B = some r) : o.wp P a w (Leaves nt m0 o w S β sl B a K r) Q := by
 unfold Z34 at hv
 obtain ⟨e, he, hv⟩ := ZH hv
 obtain ⟨q, hq, hv⟩ := ZH hv
 obtain ⟨n, hn, hv⟩ := Z5E hv
 obtain ⟨k, hu, hku⟩ := Z44 he
 obtain ⟨m1, m2, ents, clock, m3, m4, m5, m6, m7, m8⟩ := Z5t h hq
 have hkv := Z7B h hn
 have hrun : ∀ u, (Instr.lookup t (.map (some (β q.1))) (.int .i64 n) c).run P w = .ok u w → (execOp a.eval o).run P w = .ok (.value u) w := by
  intro u hu'
  unfold execOp
  simp only [ho, m1, hkv]
  show ((Instr.lookup t (.map (some (β q.1))) (.int .i64 n) c).bind fun x => Sem.pure (Next.value x)).run P w = _
  rw [Sem.run_bind', hu']
  rfl
 have tup : ∀ (y : PV) (u : Value) (b : Bool), PRel w S y u → Z1Y y = true → PRel w S (.tup [y, .v (.bool b)]) (.tuple #[u, .bool b]) := by
  intro y u b hy hn
  refine .tup _ _ rfl ?_ ?_
  ·intro z hz
   simp only [Z1K, List.not_mem_nil, or_false] at hz
   rcases hz with rfl | rfl
   ·exact hn
   ·rfl
  ·intro j z u' hz hu'
   match j with
   | 0 => simp at hz hu'; subst hz hu'; exact hy
   | 1 => simp at hz hu'; subst hz hu'; exact .v _ rfl
   | j + 2 => simp at hz
 have un : ∀ y : PV, Z1Y y = true → isUn (.p y) = false := by
  intro y hy
  cases hh : isUn (.p y) with
  | false => rfl
  | true =>
   obtain ⟨xs, e1⟩ := Z5s hh
   simp only [AV.p.injEq] at e1
   subst e1
   simp [Z1Y] at hy
 split at hv
 ·rename_i y hy
  simp only [ZO] at hv
  subst hv
  cases hi : idxE q.2 n with
  | none => rw [(Z4H hi).1] at hy; simp at hy
  | some j =>
   obtain ⟨p, p1, _, p3, _, _⟩ := Z2S hi
   rw [p3] at hy
   simp only [ZO] at hy
   subst hy
   have hlt : j < ents.size := by rw [m4]; exact (q1_.1 p1).1
   obtain ⟨_, k2, k3⟩ := m5 j ents[j] p (by simp [hlt]) p1
   have hz : ∃ z, (zeroValue e).run P w = .ok z w ∨ True := ⟨undef, .inr trivial⟩
   have run := Zcd (P := P) hu hku m3 m4 (fun i e x he hx => (m5 i e x he hx).1) c hi (by simp [hlt] : ents[j]? = some ents[j])
   refine Z1e (hrun _ run) (Z1r h hd (v := if c = true then .tuple #[ents[j].val, .bool true] else ents[j].val) ?_ ?_ hk)
   ·cases c with
    | true => exact .p _ _ (tup _ _ _ k2 k3)
    | false => exact .p _ _ k2
   ·cases c with
    | true => rfl
    | false => exact un _ k3
 ·rename_i hy
  obtain ⟨zv, hzv, hv⟩ := ZH hv
  obtain ⟨z0, hz0, hv⟩ := ZH hv
  obtain ⟨z, hz, hv⟩ := ZH hv
  simp only [ZO] at hv
  subst hv
  have hi : idxE q.2 n = none := by
   cases hi : idxE q.2 n with
   | none => rfl
   | some j => rw [(Z2S hi).choose_spec.2.2.1] at hy; simp at hy
  obtain ⟨inf, hin, hzz⟩ := Zcn.1 hzv
  have hrz : (zeroValue e).run P w = .ok zv w := by simp [zeroValue, typeInfo, hin, hzz]
  have hrel : ARel w S β B.length z0 zv := Z2i hz0
  have e0 : z0 = .p z := by
   unfold Z2X at hz
   split at hz
   ·simp only [ZO] at hz; rw [hz]
   ·simp at hz
  subst e0
  have hzr : PRel w S z zv := by cases hrel with | p _ _ h => exact h
  have hzn : Z1Y z = true := by
   have := Z2e hz0
   cases z with
   | lst o xs => cases o <;> first | rfl | simp [isUn] at this
   | _ => rfl
  have run := Zfb (P := P) (n := n) hu hku m3 m4 (fun i e x he hx => (m5 i e x he hx).1) c hrz
  rw [hi] at run
  refine Z1e (hrun _ run) (Z1r h hd ?_ ?_ hk)
  ·cases c with
   | true => exact .p _ _ (tup _ _ _ hzr hzn)
   | false => exact .p _ _ hzr
  ·cases c with
   | true => rfl
   | false => exact un _ hzn
theorem Z5T {q : Nat × List (Int × PV)} {es : List (Int × PV)} {w' : World} {v : Value} {sl' : Sl} (h' : Good nt w S β sl' B a) (hsl : ∀ t, t < nt → get sl' t = get sl t ∨ isUn (get sl' t) = false)
  (hid : q.1 < B.length) (hp : Put1 w w' (β q.1)) (hm : Z2E w' S (β q.1) es) (hk : K jk sl' (B.set q.1 [.md es]) = some r) : Leaves nt m0 o w S β sl B a K r (a.put o.dst v) w' := by
 obtain ⟨hg, hU⟩ := h'.setMap hid hp hm
 have hlen : (B.set q.1 [AV.md es]).length = B.length := by simp
 refine ⟨jk, sl', _, S, β, hk, hg.put hd (ARel.junk _) rfl, ?_⟩
 rw [hlen]
 refine Zii h.mem hid hp fun b hb => ?_
 exact UB.reslot hsl b (hU b (UB.put h.size hd (x := jk) rfl b hb))
theorem Zcg {t : TypeId} {x i y : Operand} (ho : o.op = .mapUpdate t x i y) (hk : xupd P t (ev sl x) (ev sl i) (ev sl y) B (fun B => K jk (weak sl y) B) = some r) : o.wp P a w (Leaves nt m0 o w S β sl B a K r) Q := by
 unfold xupd at hk
 obtain ⟨e, he, hk⟩ := ZH hk
 obtain ⟨q, hq, hk⟩ := ZH hk
 obtain ⟨n, hn, hk⟩ := Z5E hk
 obtain ⟨z, hz, hk⟩ := ZH hk
 split at hk
 ·simp at hk
 ·rename_i htup
  obtain ⟨k, hu, hku⟩ := Z44 he
  obtain ⟨m1, m2, ents, clock, m3, m4, m5, m6, m7, m8⟩ := Z5t h hq
  have hkv := Z7B h hn
  have e0 : ev sl y = .p z := by
   unfold Z2X at hz
   split at hz
   ·rename_i x' hx'
    simp only [ZO] at hz
    rw [hx', hz]
   ·simp at hz
  have hy := h.ev y
  rw [e0] at hy
  have hyr : PRel w S z (a.eval y) := by cases hy with | p _ _ h => exact h
  have run := Z9K (P := P) (w := w) (n := n) hu hku m3 m4 (fun i e x he hx => (m5 i e x he hx).1) (a.eval y)
  have hrun : (execOp a.eval o).run P w = .ok .skip { w with heap := w.heap.setIfInBounds (β q.1) (match idxE q.2 n with | some i => .map (ents.modify i fun e => { e with key := .int .i64 n, val := a.eval y }) clock | none => .map (ents.push ⟨.int .i64 n, a.eval y, clock⟩) (clock + 1)) } := by
   unfold execOp
   simp only [ho, m1, hkv]
   show ((Instr.mapUpdate t (.map (some (β q.1))) (.int .i64 n) (a.eval y)).bind fun _ => Sem.pure Next.skip).run P w = _
   rw [Sem.run_bind', run]
   rfl
  have hp := Z89 (w := w) (b := β q.1) (match idxE q.2 n with | some i => .map (ents.modify i fun e => { e with key := .int .i64 n, val := a.eval y }) clock | none => .map (ents.push ⟨.int .i64 n, a.eval y, clock⟩) (clock + 1))
  have hk' : Keeps w S { w with heap := w.heap.setIfInBounds (β q.1) (match idxE q.2 n with | some i => .map (ents.modify i fun e => { e with key := .int .i64 n, val := a.eval y }) clock | none => .map (ents.push ⟨.int .i64 n, a.eval y, clock⟩) (clock + 1)) } S :=
   ⟨fun _ _ h => h, fun b o hb => cell_of_heap (hp.other b (by rintro rfl; exact h.mem.apart q.1 m2 o hb))⟩
  refine Z8g hrun (Z5T h hd (h.weak y) (fun t _ => Z3r sl y t) m2 hp ?_ hk)
  refine Z2E.put m4 (fun i e x he hx => ⟨(m5 i e x he hx).1, (m5 i e x he hx).2.1.keeps hk', (m5 i e x he hx).2.2⟩) m6 m7 m8 (hyr.nrm.keeps hk') (Z45 z) ?_
  have hlt : β q.1 < w.heap.size := h.mem.lt m2
  simp [hlt]
theorem Zh8 {t : TypeId} {x i y : Operand} (ho : o.op = .insert t x i y) (hk : xupd P t (ev sl x) (ev sl i) (ev sl y) B (fun B => K jk (weak sl y) B) = some r) : o.wp P a w (Leaves nt m0 o w S β sl B a K r) Q := by
 unfold xupd at hk
 obtain ⟨e, he, hk⟩ := ZH hk
 obtain ⟨q, hq, hk⟩ := ZH hk
 obtain ⟨n, hn, hk⟩ := Z5E hk
 obtain ⟨z, hz, hk⟩ := ZH hk
 split at hk
 ·simp at hk
 ·rename_i htup
  obtain ⟨k, hu, hku⟩ := Z44 he
  obtain ⟨m1, m2, ents, clock, m3, m4, m5, m6, m7, m8⟩ := Z5t h hq
  have hkv := Z7B h hn
  have e0 : ev sl y = .p z := by
   unfold Z2X at hz
   split at hz
   ·rename_i x' hx'
    simp only [ZO] at hz
    rw [hx', hz]
   ·simp at hz
  have hy := h.ev y
  rw [e0] at hy
  have hyr : PRel w S z (a.eval y) := by cases hy with | p _ _ h => exact h
  have run := Z9K (P := P) (w := w) (n := n) hu hku m3 m4 (fun i e x he hx => (m5 i e x he hx).1) (a.eval y)
  have hrun : (execOp a.eval o).run P w = .ok .skip { w with heap := w.heap.setIfInBounds (β q.1) (match idxE q.2 n with | some i => .map (ents.modify i fun e => { e with key := .int .i64 n, val := a.eval y }) clock | none => .map (ents.push ⟨.int .i64 n, a.eval y, clock⟩) (clock + 1)) } := by
   unfold execOp
   simp only [ho, m1, hkv]
   show ((Instr.mapUpdate t (.map (some (β q.1))) (.int .i64 n) (a.eval y)).bind fun _ => Sem.pure Next.skip).run P w = _
   rw [Sem.run_bind', run]
   rfl
  have hp := Z89 (w := w) (b := β q.1) (match idxE q.2 n with | some i => .map (ents.modify i fun e => { e with key := .int .i64 n, val := a.eval y }) clock | none => .map (ents.push ⟨.int .i64 n, a.eval y, clock⟩) (clock + 1))
  have hk' : Keeps w S { w with heap := w.heap.setIfInBounds (β q.1) (match idxE q.2 n with | some i => .map (ents.modify i fun e => { e with key := .int .i64 n, val := a.eval y }) clock | none => .map (ents.push ⟨.int .i64 n, a.eval y, clock⟩) (clock + 1)) } S :=
   ⟨fun _ _ h => h, fun b o hb => cell_of_heap (hp.other b (by rintro rfl; exact h.mem.apart q.1 m2 o hb))⟩
  refine Z8g hrun (Z5T h hd (h.weak y) (fun t _ => Z3r sl y t) m2 hp ?_ hk)
  refine Z2E.put m4 (fun i e x he hx => ⟨(m5 i e x he hx).1, (m5 i e x he hx).2.1.keeps hk', (m5 i e x he hx).2.2⟩) m6 m7 m8 (hyr.nrm.keeps hk') (Z45 z) ?_
  have hlt : β q.1 < w.heap.size := h.mem.lt m2
  simp [hlt]
theorem Zh7 {c : Call} {x i : Operand} {t t2 : TypeId} (ho : o.op = .call c) (hc : c.callee = .builtin .delete) (ha : c.args.toList = [x, i]) (ht : c.argTypes.toList = [t, t2])
  (hk : xdel P t (ev sl x) (ev sl i) B (fun B => K jk sl B) = some r) : o.wp P a w (Leaves nt m0 o w S β sl B a K r) Q := by
 unfold xdel at hk
 obtain ⟨e, he, hk⟩ := ZH hk
 obtain ⟨q, hq, hk⟩ := ZH hk
 obtain ⟨n, hn, hk⟩ := Z5E hk
 obtain ⟨k, hu, hku⟩ := Z44 he
 obtain ⟨m1, m2, ents, clock, m3, m4, m5, m6, m7, m8⟩ := Z5t h hq
 have hkv := Z7B h hn
 have run := Ze9 (P := P) (w := w) (n := n) hu hku m3 m4 (fun i e x he hx => (m5 i e x he hx).1) t2 o.type
 have ea : c.args = #[x, i] := by cases hh : c.args; simp_all
 have et : c.argTypes = #[t, t2] := by cases hh : c.argTypes; simp_all
 have hrun : (execOp a.eval o).run P w = .ok (.value (.tuple #[])) { w with heap := w.heap.setIfInBounds (β q.1) (match idxE q.2 n with | some i => .map (ents.eraseIdxIfInBounds i) clock | none => .map ents clock) } := by
  unfold execOp
  simp only [ho]
  show ((resolve a.eval c o.type).bind fun d => invoke d.target d.args).run P w = _
  unfold resolve
  simp only [hc, ea, et]
  show ((Builtin.delete_ #[t, t2] o.type (Array.map a.eval #[x, i])).bind fun x => Sem.pure (Next.value x)).run P w = _
  have e : Array.map a.eval #[x, i] = #[.map (some (β q.1)), .int .i64 n] := by simp [m1, hkv]
  rw [e, Sem.run_bind' P (Builtin.delete_ #[t, t2] o.type _) (fun x => Sem.pure (Next.value x)) w, run]
  rfl
 have hp := Z89 (w := w) (b := β q.1) (match idxE q.2 n with | some i => .map (ents.eraseIdxIfInBounds i) clock | none => .map ents clock)
 have hk' : Keeps w S { w with heap := w.heap.setIfInBounds (β q.1) (match idxE q.2 n with | some i => .map (ents.eraseIdxIfInBounds i) clock | none => .map ents clock) } S :=
  ⟨fun _ _ h => h, fun b o hb => cell_of_heap (hp.other b (by rintro rfl; exact h.mem.apart q.1 m2 o hb))⟩
 refine Z1e hrun (Z5T h hd h (fun t _ => .inl rfl) m2 hp ?_ hk)
 refine Z2E.del m4 (fun i e x he hx => ⟨(m5 i e x he hx).1, (m5 i e x he hx).2.1.keeps hk', (m5 i e x he hx).2.2⟩) m6 m7 m8 ?_
 have hlt : β q.1 < w.heap.size := h.mem.lt m2
 simp [hlt]
theorem Zkg {c : Call} {x : Operand} {t e : TypeId} (ho : o.op = .call c) (hc : c.callee = .builtin .len) (ha : c.args.toList = [x]) (ht : c.argTypes.toList = [t]) (he : mapE P t = some e)
  {v : AV} (hv : Z6e (ev sl x) B = some v) (hk : K v sl B = some r) : o.wp P a w (Leaves nt m0 o w S β sl B a K r) Q := by
 unfold Z6e at hv
 obtain ⟨q, hq, hv⟩ := ZH hv
 simp only [ZO] at hv
 subst hv
 obtain ⟨k, hu, hku⟩ := Z44 he
 obtain ⟨m1, m2, ents, clock, m3, m4, m5, m6, m7, m8⟩ := Z5t h hq
 have hrun : (execOp a.eval o).run P w = .ok (.value (.int .i64 q.2.length)) w := by
  unfold execOp
  simp only [ho]
  show ((resolve a.eval c o.type).bind fun d => invoke d.target d.args).run P w = _
  unfold resolve
  simp only [hc, Z32 ha, Z32 ht]
  show ((Builtin.len_ #[t] o.type (Array.map a.eval #[x])).bind fun x => Sem.pure (Next.value x)).run P w = _
  have e : Array.map a.eval #[x] = #[.map (some (β q.1))] := by simp [m1]
  have run : (Builtin.len_ #[t] o.type #[.map (some (β q.1))]).run P w = .ok (.int .i64 q.2.length) w := by
   simp [Builtin.len_, run_underlying hu, MapKept.run_getObj_map m3, Result.andThen, goInt, m4]
  rw [e, Sem.run_bind' P (Builtin.len_ #[t] o.type _) (fun x => Sem.pure (Next.value x)) w, run]
  rfl
 exact Z1e hrun (Z1r h hd (.p _ _ (.v _ rfl)) rfl hk)
end
end Go.Abs
end
section
namespace Go.Abs
open Go
structure Src (P : Program) (w : World) (S : Stay) (n : Nat) (ys : List PV) (q : Value) (arr : Array Value) : Prop where
 len : ∀ w1 : World, (Builtin.lenOf q).run P w1 = .ok ys.length w1
 first : ∀ w1 : World, w1.heap = w.heap → (Builtin.firstCells n ys.length q).run P w1 = .ok arr w1
 size : arr.size = ys.length * n
 one : ∀ v, v ∈ arr.toList → v.oneCell' = true
 rel : ∀ (i : Nat) (e : PV) (j : Nat) (c : PV), ys[i]? = some e → (Z16 e)[j]? = some c → Z1Q c = true ∧ ∀ v, arr[i * n + j]? = some v → PRel w S c v
theorem Z2U {n : Nat} {xs : List PV} (h : szOk n xs = true) : ∀ e, e ∈ xs → (Z16 e).length = n := by
 intro e he
 have := Z2w.1 h e he
 simpa using this
section
variable {P : Program} {w : World} {S : Stay}
theorem Z6Y {n : Nat} {o : Own} {xs : List PV} {u : Value} (hx : PRel w S (.lst o xs) u) (hs : szOk n xs = true) :
  ∃ a cap, u = .slice a xs.length cap ∧ xs.length ≤ cap ∧ (a = none → cap = 0) ∧ (xs ≠ [] → ∃ b off, a = some ⟨b, off, none⟩ ∧
   ∀ (i : Nat) (e : PV) (j : Nat) (c : PV), xs[i]? = some e → (Z16 e)[j]? = some c → ∃ v, w.cell? ⟨b, off + (i * n + j), none⟩ = some v ∧ S b (off + (i * n + j)) ∧ Z1Q c = true ∧ PRel w S c v) := by
 cases hx with
 | lst _ _ a cap b off sz g h1 h2 h3 h4 h5 h6 h7 h8 =>
  refine ⟨a, cap, rfl, h1, h5, fun hne => ?_⟩
  obtain ⟨rfl, h0, hall⟩ := h6 hne
  refine ⟨b, off, rfl, ?_⟩
  intro i e j c he hc
  have hm := q7_ he
  have hn : sz = n := by rw [← hall e hm, Z2U hs e hm]
  subst hn
  obtain ⟨q1, q2, q3⟩ := h7 i e j c he hc
  exact ⟨_, q1, q2, q3, h8 i e j c he hc⟩
theorem Zhm {k len n : Nat} (h : k < len * n) : ∃ i j, i < len ∧ j < n ∧ k = i * n + j := by
 have hn : 0 < n := by
  rcases Z64 n with e | e
  ·subst e; simp at h
  ·exact e
 refine ⟨k / n, k % n, ?_, Nat.mod_lt _ hn, ?_⟩
 ·exact Nat.div_lt_of_lt_mul (by rw [Nat.mul_comm]; exact h)
 ·rw [Nat.mul_comm, Nat.div_add_mod]
theorem ZdX {n : Nat} {o : Own} {xs : List PV} {u : Value} (hx : PRel w S (.lst o xs) u) (hs : szOk n xs = true) : ∃ arr, Src P w S n xs u arr := by
 obtain ⟨a, cap, rfl, hcap, hnil, hcells⟩ := Z6Y hx hs
 by_cases hne : xs = []
 ·subst hne
  refine ⟨#[], ⟨fun w1 => rfl, fun w1 _ => ?_, by simp, by simp, by simp⟩⟩
  cases a with
  | none => exact run_firstCells_none w1 _ _ _ _
  | some a => exact run_firstCells_some w1 n 0 a 0 cap [] (by simp) (by simp)
 ·obtain ⟨b, off, rfl, hc⟩ := hcells hne
  have hall : ∀ k, k < xs.length * n → ∃ v, w.cell? ⟨b, off + k, none⟩ = some v ∧ v.oneCell' = true := by
   intro k hk
   obtain ⟨i, j, hi, hj, rfl⟩ := Zhm hk
   have he : xs[i]? = some xs[i] := by simp [hi]
   have hlen := Z2U hs xs[i] (Zcz hi)
   have hj' : j < (Z16 xs[i]).length := by omega
   obtain ⟨v, q1, _, q3, q4⟩ := hc i xs[i] j (Z16 xs[i])[j] he (by simp [hj'])
   simp only [Z1Q, q5_] at q3
   exact ⟨v, q1, Z9y (q4.cellV q3.1)⟩
  refine ⟨((List.range (xs.length * n)).map fun k => Z5I w b (off + k)).toArray, ⟨fun w1 => rfl, fun w1 hw1 => ?_, by simp, ?_, ?_⟩⟩
  ·show (loadCells ⟨b, off, none⟩ (xs.length * n)).run P w1 = _
   have hcell : ∀ o, w1.cell? ⟨b, o, none⟩ = w.cell? ⟨b, o, none⟩ := fun o => cell_of_heap (by rw [hw1])
   rw [ZaN (w := w1) (fun j hj => by rw [hcell]; obtain ⟨v, hv, _⟩ := hall j hj; exact ⟨v, hv⟩)]
   congr 3
   funext k
   simp [Z5I, hcell]
  ·intro v hv
   simp only [Z1B, Z4g] at hv
   obtain ⟨k, hk, rfl⟩ := hv
   obtain ⟨v, hv, h1⟩ := hall k hk
   rw [Z3n hv]
   exact h1
  ·intro i e j c he hc'
   obtain ⟨v, q1, _, q3, q4⟩ := hc i e j c he hc'
   refine ⟨q3, fun u hu => ?_⟩
   obtain ⟨_, rfl⟩ := range_map_get hu
   rw [Z3n q1]
   exact q4
theorem Zkr {n : Nat} {s : ByteArray} (hs : szOk n (Z2q s) = true) : ∃ arr, Src P w S n (Z2q s) (.string s) arr := by
 have hx : ∀ (g : UInt8 → Value), (s.extract 0 s.size).data.map g = s.data.map g := by
  intro g
  congr 1
  rw [ByteArray.data_extract, ← Z7i, Array.extract_size]
 refine ⟨s.data.map fun b => .int .u8 b.toNat, ⟨fun w1 => ?_, fun w1 _ => ?_, ?_, ?_, ?_⟩⟩
 ·rw [Z2r]; rfl
 ·rw [Z2r]
  show Result.ok _ _ = _
  rw [hx]
 ·rw [Array.size_map, Z7i, Z2r]
  rcases Z64 s.size with e | e
  ·rw [e, Nat.zero_mul]
  ·have hl : 0 < (Z2q s).length := by rw [Z2r]; exact e
   have hm : (Z2q s)[0] ∈ Z2q s := Zcz hl
   have h1 := Z2U hs _ hm
   rw [Z4t hm] at h1
   rw [← h1, Nat.mul_one]
 ·intro v hv
  rw [Array.toList_map] at hv
  obtain ⟨b, _, rfl⟩ := Z1B.1 hv
  rfl
 ·intro i x j c hx hc
  have h1 := Z2U hs _ (q7_ hx)
  rw [Z4t (q7_ hx)] at h1
  obtain ⟨u, hu, rfl⟩ := Z5H hx
  cases j with
  | succ j => simp [Z16] at hc
  | zero =>
   simp only [Z16, Z2m, ZO] at hc
   subst hc
   refine ⟨rfl, fun v hv => ?_⟩
   rw [← h1, Nat.mul_one, Z66, Zcw, hu] at hv
   cases hv
   exact .v _ rfl
theorem Zkq {n : Nat} {β : Nat → Nat} {k : Nat} {y : AV} {q : Value} {ys : List PV} (hy : ARel w S β k y q) (he : Zb2 y = some ys) (hs : szOk n ys = true) : ∃ arr, Src P w S n ys q arr := by
 unfold Zb2 at he
 split at he
 ·simp only [ZO] at he
  subst he
  cases hy with | p _ _ hp => exact ZdX hp hs
 ·simp only [ZO] at he
  subst he
  rw [Z1z hy]
  exact Zkr hs
 ·simp at he
theorem Zc9 {t' : TypeId} (h : Z4A P t' = false) : (∃ e, P.underlying t' = some (.slice e)) ∨ P.underlying t' = some .string := by
 unfold Z4A at h
 split at h
 ·rename_i e hu
  exact .inl ⟨e, hu⟩
 ·rename_i hu
  exact .inr hu
 ·simp at h
theorem ZcE (w : World) {t t' ty e : TypeId} {i : TypeInfo} (ht : P.underlying t = some (.slice e)) (hi : P.info? e = some i) (ht' : Z4A P t' = false) {a : Option Addr} {sLen sCap : Nat} {q : Value}
  (hl : ∀ w1 : World, (Builtin.lenOf q).run P w1 = .ok 0 w1) (hf : (Builtin.firstCells i.size 0 q).run P w = .ok #[] w) (hle : sLen ≤ sCap) :
  (Builtin.append_ #[t, t'] ty #[.slice a sLen sCap, q]).run P w = .ok (.slice a sLen sCap) w := by
 rcases Zc9 ht' with ⟨e', hd⟩ | hd
 all_goals (cases a <;> simp [Builtin.append_, run_underlying ht, run_underlying hd, Go.sizeOf, typeInfo, hi, hl, hf, hle, storeCells])
theorem ZcF (w : World) {t t' ty e : TypeId} {i : TypeInfo} (ht : P.underlying t = some (.slice e)) (hi : P.info? e = some i) (ht' : Z4A P t' = false) {b off sLen sCap m : Nat} {q : Value} {news : Array Value}
  (hl : ∀ w1 : World, (Builtin.lenOf q).run P w1 = .ok m w1) (hf : (Builtin.firstCells i.size m q).run P w = .ok news w) (hle : sLen + m ≤ sCap) {cur : Array Value} {ty' : TypeId}
  (hg : w.heap[b]? = some (.cells cur ty' (0, 0))) (h1 : ∀ v, v ∈ news.toList → v.oneCell' = true) (hfit : off + sLen * i.size + news.toList.length ≤ cur.size) :
  (Builtin.append_ #[t, t'] ty #[.slice (some ⟨b, off, none⟩) sLen sCap, q]).run P w = .ok (.slice (some ⟨b, off, none⟩) (sLen + m) sCap)
   (w.setRow b (cur.toList.take (off + sLen * i.size) ++ news.toList ++ cur.toList.drop (off + sLen * i.size + news.toList.length)).toArray) := by
 have hst := run_storeCells_at P b (off + sLen * i.size) ty' news.toList 0 cur w hg (by simpa using hfit) h1
 simp only [Z66] at hst
 rcases Zc9 ht' with ⟨e', hd⟩ | hd
 all_goals simp [Builtin.append_, run_underlying ht, run_underlying hd, Go.sizeOf, typeInfo, hi, hl, hf, hle, Z2F, hst]
theorem ZcD (w : World) {t t' ty e : TypeId} {i : TypeInfo} {z : Value} (ht : P.underlying t = some (.slice e)) (hi : P.info? e = some i) (hz : i.zero = some z) (ht' : Z4A P t' = false) {a : Option Addr} {sLen sCap m : Nat} {q : Value}
  {olds news : Array Value} (hl : ∀ w1 : World, (Builtin.lenOf q).run P w1 = .ok m w1) (hfo : (Builtin.firstCells i.size sLen (.slice a sLen sCap)).run P w.drew = .ok olds w.drew)
  (hf : (Builtin.firstCells i.size m q).run P w.drew = .ok news w.drew) (hg : sCap < sLen + m) (h63 : ((sLen + m : Nat) : Int) ≤ 9223372036854775807)
  (hfit : Builtin.nextslicecap (sLen + m) sCap * i.bytes ≤ 281474976710656) :
  (Builtin.append_ #[t, t'] ty #[.slice a sLen sCap, q]).run P w =
   .ok (.slice (some ⟨w.heap.size, 0, none⟩) (sLen + m) (grownCap w (sLen + m) sCap e))
    (w.drew.alloc (.cells (olds ++ news ++ Builtin.zeroCells z.cells (grownCap w (sLen + m) sCap e - (sLen + m))) e)) := by
 have hn : ¬ (sLen + m ≤ sCap) := by omega
 have h63' : ¬ (9223372036854775807 < ((sLen : Int) + (m : Int))) := by omega
 have h48' : ¬ (281474976710656 < Builtin.nextslicecap (sLen + m) sCap * i.bytes) := by omega
 rcases Zc9 ht' with ⟨e', hd⟩ | hd
 all_goals simp [Builtin.append_, run_underlying ht, run_underlying hd, Go.sizeOf, typeInfo, zeroValue, hi, hz, hl, hn, h63', h48', Question.forced, hf, hfo, newRow, grownCap, Array.append_assoc]
end
end Go.Abs
end
section
namespace Go.Abs
open Go
theorem Zf5 {nt : Nat} {w w' : World} {β : Nat → Nat} {sl : Sl} {B : List Row} {tm : Array Value} (hb : ∀ i, i < B.length → w'.heap[β i]? = w.heap[β i]?) {l : Loc} {x : AV} {v : Value}
  (hl : Here nt sl tm B β w' l x v) : Here nt sl tm B β w l x v := by
 cases l with
 | slot t => exact hl
 | box id j =>
  obtain ⟨row, q1, q2, q3⟩ := hl
  exact ⟨row, q1, q2, (cell_of_heap (hb id (q1_.1 q1).1)) ▸ q3⟩
section
variable {P : Program} {H : Hints} {f : FuncId} {G : GF} {nt m0 : Nat} {o : Oper} {w : World} {S : Stay} {β : Nat → Nat} {sl : Sl} {B : List Row} {a : Act}
 {K : AV → Sl → List Row → Option Res} {r : Res} {next : Act → World → Prop} {Q : Exit → Act → World → Prop}
structure Only (w w' : World) (b : Nat) : Prop where
 other : ∀ k, k ≠ b → w'.heap[k]? = w.heap[k]?
 size : w'.heap.size = w.heap.size
 os : w'.os = w.os
 tape : w'.tape = w.tape
 output : w'.output = w.output
theorem Set1.only {w w' : World} {b : Nat} {arr : Array Value} (h : Set1 w w' b arr) : Only w w' b := ⟨h.other, h.size, h.os, h.tape, h.output⟩
theorem Z7R {b lo k : Nat} {x : Operand} {v' : Value} {x' : AV} {w' : World} (h : Good nt w S β sl B a) (hd : ∀ t, o.dst = some t → t < nt)
  (hu : isUn (ev sl x) = true) (hb : Z1g (a.eval x) = some b) (hset : Only w w' b) (hlo : ∀ o, lo ≤ o → ¬ S b o) (hsame : ∀ o, o < lo → w'.cell? ⟨b, o, none⟩ = w.cell? ⟨b, o, none⟩)
  (hx : ARel w' (S.more b k) β B.length x' v') (hun : isUn x' = true → UnOk w' (S.more b k) x' v' ∧ Z1g v' = some b) (hk : K x' (weak sl x) B = some r) :
  Leaves nt m0 o w S β sl B a K r (a.put o.dst v') w' := by
 obtain ⟨t, rfl, htn, here⟩ := Z3v h hu
 obtain ⟨hok, hapart⟩ := h.uns.ok _ _ _ here hu
 have hnb : ∀ i, i < B.length → b ≠ β i := fun i hi e => hapart i hi (by rw [hb, e])
 have hbox : ∀ i, i < B.length → w'.heap[β i]? = w.heap[β i]? := fun i hi => hset.other _ (fun e => hnb i hi e.symm)
 have hlt : b < w.heap.size := by
  obtain ⟨b', h1, h2⟩ := hok.blk
  rw [hb] at h1
  cases h1
  exact h2
 have hkeep : Keeps w S w' (S.more b k) := by
  refine ⟨fun _ _ h => .inl h, fun b1 o1 hs => ?_⟩
  by_cases e : b1 = b
  ·subst e
   refine hsame o1 ?_
   rcases Z22 o1 lo with h1 | h1
   ·exact h1
   ·exact absurd hs (hlo o1 h1)
  ·exact cell_of_heap (hset.other b1 e)
 have hal := Z6d h hu
 have hg : Good nt w' (S.more b k) β (weak sl (.tmp t)) B a := by
  refine (h.weak (.tmp t)).world hkeep ?_ ?_ ?_
  ·intro i hi
   refine ⟨hbox i hi, fun o ho => ?_⟩
   rcases ho with ho | ⟨e, _⟩
   ·exact h.mem.apart i hi o ho
   ·exact hnb i hi e.symm
  ·intro b1 o1 hs
   rw [hset.size]
   rcases hs with hs | ⟨e, _⟩
   ·exact h.mem.stay b1 o1 hs
   ·rw [e]; exact hlt
  ·intro l y u hl hy
   have hne := hal l y u hl hy
   refine ((h.weak (.tmp t)).uns.ok l y u hl hy).1.world fun b1 hb1 => ?_
   have e : b1 ≠ b := by rintro rfl; exact hne (hb1.trans hb.symm)
   refine ⟨hset.other b1 e, fun o ho => ?_⟩
   rcases ho with ho | ⟨e', _⟩
   ·exact ho
   ·exact absurd e' e
 have hUB : ∀ b1, UB (Here nt (weak sl (.tmp t)) a.tmps B β w') b1 → UB (Here nt sl a.tmps B β w) b1 :=
  fun b1 h1 => UB.reslot (fun q _ => Z3r sl (.tmp t) q) b1 (UB.world h.mem hbox h1)
 have hUb : UB (Here nt sl a.tmps B β w) b := ⟨_, _, _, here, hu, hb⟩
 refine ⟨x', weak sl (.tmp t), B, S.more b k, β, hk, ?_, ?_⟩
 ·cases hdd : o.dst with
  | none => exact hg
  | some d =>
   refine hg.putUn (hd d hdd) hx (fun hx' => ?_) (fun l y u hl hy hx' e => ?_)
   ·obtain ⟨q1, q2⟩ := hun hx'
    refine ⟨q1, fun i hi e => ?_⟩
    rw [q2] at e
    simp only [ZO] at e
    exact hnb i hi e
   ·rw [(hun hx').2] at e
    exact hal l y u (Zf5 hbox hl) hy (e.trans hb.symm)
 ·refine ⟨hkeep, by rw [hset.size]; exact Z1y _, hset.os, hset.tape, hset.output, fun hm => ⟨hm, fun _ _ => rfl⟩, fun i hi => .inl ⟨i, hi, rfl, id⟩, ?_, ?_, ?_⟩
  ·intro b1 hb1
   cases hdd : o.dst with
   | none => rw [hdd] at hb1; exact .inl (hUB b1 hb1)
   | some d =>
    rw [hdd] at hb1
    rcases UB.putUn h.size (hd d hdd) b1 hb1 with hb1 | ⟨q1, q2⟩
    ·exact .inl (hUB b1 hb1)
    ·rw [(hun q1).2] at q2
     cases q2
     exact .inl hUb
  ·intro b1 o1 hs
   rcases hs with hs | ⟨e, _⟩
   ·exact .inl hs
   ·rw [e]; exact .inr (.inr hUb)
  ·intro b1 _ _ h3
   exact hset.other b1 (fun e => h3 (e ▸ hUb))
theorem Zdy {xs ys : List PV} {i : Nat} {e : PV} (h : (xs ++ ys)[i]? = some e) : (i < xs.length ∧ xs[i]? = some e) ∨ (xs.length ≤ i ∧ ys[i - xs.length]? = some e) := by
 rw [Z3M] at h
 split at h
 ·exact .inl ⟨‹_›, h⟩
 ·exact .inr ⟨by omega, h⟩
theorem Zhr {n : Nat} {xs ys : List PV} {u q : Value} {olds news rest : Array Value} (so : Src P w S n xs u olds) (sn : Src P w S n ys q news) :
  ∀ (i : Nat) (e : PV) (j : Nat) (c : PV), (xs ++ ys)[i]? = some e → (Z16 e).length = n → (Z16 e)[j]? = some c → Z1Q c = true ∧ ∀ v, (olds ++ news ++ rest)[i * n + j]? = some v → PRel w S c v := by
 intro i e j c he hn hc
 have hj : j < n := by rw [← hn]; exact (q1_.1 hc).1
 rcases Zdy he with ⟨hi, he⟩ | ⟨hi, he⟩
 ·obtain ⟨q1, q2⟩ := so.rel i e j c he hc
  refine ⟨q1, fun v hv => q2 v ?_⟩
  have hlt : i * n + j < olds.size := by rw [so.size]; exact Z41 hi hj
  rw [Z7a, if_pos (by simp; omega), Z7a, if_pos hlt] at hv
  exact hv
 ·obtain ⟨q1, q2⟩ := sn.rel _ e j c he hc
  refine ⟨q1, fun v hv => q2 v ?_⟩
  have hi' : i - xs.length < ys.length := (q1_.1 he).1
  have hlt : (i - xs.length) * n + j < news.size := by rw [sn.size]; exact Z41 hi' hj
  have hmul : i * n = xs.length * n + (i - xs.length) * n := by rw [← Z4V]; congr 1; omega
  have hge : ¬ i * n + j < olds.size := by rw [so.size, hmul]; omega
  rw [Z7a, if_pos (by rw [Zae, so.size, hmul]; omega), Z7a, if_neg hge] at hv
  rw [← hv]
  congr 1
  rw [so.size, hmul]
  omega
variable (h : Good nt w S β sl B a) (hd : ∀ t, o.dst = some t → t < nt)
include h hd
theorem Zh4 {c : Call} {x y : Operand} {t t' : TypeId} (ho : o.op = .call c) (hc : c.callee = .builtin .append) (ha : c.args.toList = [x, y]) (ht : c.argTypes.toList = [t, t'])
  (hint : Z4A P t' = false) {v : AV} (hv : xapp (Z3R P t) (ev sl x) (ev sl y) = some v) (hk : K v (weak sl x) B = some r) : o.wp P a w (Leaves nt m0 o w S β sl B a K r) Q := by
 have hex : ∀ v1 w1, (Builtin.append_ #[t, t'] o.type #[a.eval x, a.eval y]).run P w = .ok v1 w1 → (execOp a.eval o).run P w = .ok (.value v1) w1 := by
  intro v1 w1 hn
  unfold execOp
  simp only [ho]
  show ((resolve a.eval c o.type).bind fun d => invoke d.target d.args).run P w = _
  unfold resolve
  simp only [hc, Z33 ha, Z33 ht]
  show ((Builtin.append_ #[t, t'] o.type (Array.map a.eval #[x, y])).bind fun x => Sem.pure (Next.value x)).run P w = _
  have e : Array.map a.eval #[x, y] = #[a.eval x, a.eval y] := by simp
  rw [e, Sem.run_bind', hn]
  rfl
 have hx := h.ev x
 have hy := h.ev y
 unfold xapp at hv
 split at hv
 ·rename_i ow xs heq
  obtain ⟨ys, hel, hv1⟩ := ZH hv
  clear hv
  split at hv1
  ·rename_i hcond
   simp only [ZO] at hv1
   simp only [q5_, decide_eq_true_eq, Z4U] at hcond
   obtain ⟨⟨⟨⟨happ, hsx⟩, hsy⟩, h0⟩, hlim⟩ := hcond
   obtain ⟨e, ti, hue, hie, hsz, hb0, hb128, z, hz, hzs⟩ := Z5J (P := P) rfl h0
   generalize hn : Z3R P t = n at *
   obtain ⟨u, hueq⟩ : ∃ u, a.eval x = u := ⟨_, rfl⟩
   obtain ⟨q, hqeq⟩ : ∃ q, a.eval y = q := ⟨_, rfl⟩
   have hxe := hx
   rw [heq, hueq] at hx
   rw [hqeq] at hy
   have hpx : PRel w S (.lst ow xs) u := by cases hx with | p _ _ hp => exact hp
   obtain ⟨ad, cap, rfl, hcap, hnil, hcells⟩ := Z6Y hpx hsx
   obtain ⟨olds, so⟩ := ZdX (P := P) hpx hsx
   obtain ⟨news, sn⟩ := Zkq (P := P) hy hel hsy
   rw [hueq, hqeq] at hex
   by_cases hys : ys = []
   ·subst hys
    have hnews : news = #[] := by
     have := sn.size
     simp at this
     exact this
    subst hnews
    have hrun := hex _ _ (ZcE w (ty := o.type) hue hie hint (a := ad) (sLen := xs.length) (sCap := cap) (q := q) (fun w1 => sn.len w1) (by rw [hsz]; exact sn.first w rfl) hcap)
    refine Z1e hrun ?_
    rw [← hueq]
    have hvx : v = ev sl x := by rw [← hv1, heq]; simp [apo]
    exact Z9t h hd x (hvx ▸ hk)
   ·have hown : apo ow ys = .un := by
     cases ys with
     | nil => exact absurd rfl hys
     | cons _ _ => rfl
    rw [hown] at hv1
    subst hv1
    have hm : 0 < ys.length := by
     cases ys with
     | nil => exact absurd rfl hys
     | cons _ _ => simp
    have hokA : Z1d ow = true := by
     rcases happ with h1 | h1
     ·exact h1
     ·cases ys with
      | nil => exact absurd rfl hys
      | cons _ _ => simp at h1
    have hxys : ∀ e, e ∈ xs ++ ys → (Z16 e).length = n := by
     intro e he
     rcases Z4f.1 he with he | he
     ·exact Z2U hsx e he
     ·exact Z2U hsy e he
    have hL : (xs ++ ys).length = xs.length + ys.length := by simp
    have hne : xs ++ ys ≠ [] := by intro e; exact hys (List.append_eq_nil_iff.1 e).2
    by_cases hroom : xs.length + ys.length ≤ cap
    ·
     have hun : ow = .un := by
      cases hpx with
      | lst _ _ _ _ _ _ _ _ p1 p2 p3 p4 p5 p6 p7 p8 =>
       cases ow with
       | un => rfl
       | sh => simp [Z1d] at hokA
       | ex => have := p3 rfl; omega
       | nl => have := (p2 rfl).2; omega
     subst hun
     have hu : isUn (ev sl x) = true := by rw [heq]; rfl
     obtain ⟨t1, rfl, htn, here⟩ := Z3v h hu
     obtain ⟨hok, hapart⟩ := h.uns.ok _ _ _ here hu
     obtain ⟨xs', b, off, len, cap', cs, ty, sz, e1, e2, e3, e4, e5, e6, e7, e8, e9⟩ := hok
     rw [heq] at e1
     cases e1
     rw [hueq] at e2
     cases e2
     have hxne : ∃ e, e ∈ xs := by
      cases xs with
      | nil => simp at e7
      | cons y _ => exact ⟨y, by simp⟩
     obtain ⟨e0, he0⟩ := hxne
     have hszn : sz = n := by rw [← e9 e0 he0, Z2U hsx e0 he0]
     subst hszn
     have hnl : news.toList.length = ys.length * sz := by simpa using sn.size
     have hmul : (xs.length + ys.length) * sz ≤ cap * sz := Zfv sz hroom
     rw [Z4V] at hmul
     have hfit : off + xs.length * sz + news.toList.length ≤ cs.size := by rw [hnl]; omega
     have hrun := hex _ _ (ZcF w (ty := o.type) hue hie hint (b := b) (off := off) (sLen := xs.length) (sCap := cap) (q := q) (news := news) (fun w1 => sn.len w1) (by rw [hsz]; exact sn.first w rfl) hroom e3 sn.one
      (by rw [hsz]; exact hfit))
     rw [hsz] at hrun
     have hset := Z8e e3 (cs.toList.take (off + xs.length * sz) ++ news.toList ++ cs.toList.drop (off + xs.length * sz + news.toList.length)).toArray
     obtain ⟨ty', hty⟩ := hset.heap
     have hsize := Z9B cs news.toList (off + xs.length * sz) hfit
     have hcell : ∀ k, (w.setRow b (cs.toList.take (off + xs.length * sz) ++ news.toList ++ cs.toList.drop (off + xs.length * sz + news.toList.length)).toArray).cell? ⟨b, k, none⟩ =
       if off + xs.length * sz ≤ k ∧ k < off + xs.length * sz + news.toList.length then news.toList[k - (off + xs.length * sz)]? else cs[k]? := by
      intro k
      rw [Z2v hty, Z4J _ _ _ _ hfit]
     have hsame : ∀ k, k < off + xs.length * sz → (w.setRow b (cs.toList.take (off + xs.length * sz) ++ news.toList ++ cs.toList.drop (off + xs.length * sz + news.toList.length)).toArray).cell? ⟨b, k, none⟩ = w.cell? ⟨b, k, none⟩ := by
      intro k hk
      rw [hcell, if_neg (by omega), Z2v e3]
     have hkeep : Keeps w S (w.setRow b (cs.toList.take (off + xs.length * sz) ++ news.toList ++ cs.toList.drop (off + xs.length * sz + news.toList.length)).toArray) (S.more b (off + (xs ++ ys).length * sz)) := by
      refine ⟨fun _ _ h => .inl h, fun b1 o1 hs => ?_⟩
      by_cases e : b1 = b
      ·subst e
       refine hsame o1 ?_
       rcases Z22 o1 (off + xs.length * sz) with h1 | h1
       ·exact h1
       ·exact absurd hs (e8 o1 h1)
      ·exact cell_of_heap (hset.other b1 e)
     obtain ⟨b2, off2, hb2, hc2⟩ := hcells (by intro e; rw [e] at he0; simp at he0)
     simp only [ZO, Addr.mk.injEq] at hb2
     obtain ⟨rfl, rfl, _⟩ := hb2
     refine Z1e hrun (Z7R (x := .tmp t1) (lo := off + xs.length * sz) (k := off + (xs ++ ys).length * sz) h hd hu (by rw [hueq]; rfl) hset.only e8 hsame (x' := .p (.lst .un (xs ++ ys))) ?_ ?_ hk)
     ·have hp := Z43 (w := w.setRow b (cs.toList.take (off + xs.length * sz) ++ news.toList ++ cs.toList.drop (off + xs.length * sz + news.toList.length)).toArray) (S := S.more b (off + (xs ++ ys).length * sz))
       (xs := xs ++ ys) (b := b) (off := off) (sz := sz) (cap := cap) (o := .un) hty (fun k hk => .inr ⟨rfl, by omega⟩) h0 hxys (by rw [hsize, hL, Z4V]; omega) ?_ (by rw [hL]; exact hroom) (by simp) (by simp) (fun _ => hne)
      ·rw [hL] at hp ⊢
       exact .p _ _ hp
      ·intro i e' j c he hcc
       have hen := hxys e' (q7_ he)
       have hj : j < sz := by rw [← hen]; exact (q1_.1 hcc).1
       rcases Zdy he with ⟨hi, he⟩ | ⟨hi, he⟩
       ·obtain ⟨v1, r1, r2, r3, r4⟩ := hc2 i e' j c he hcc
        refine ⟨r3, fun v hv => ?_⟩
        have := Z41 hi hj
        rw [Z4J _ _ _ _ hfit, if_neg (by omega)] at hv
        rw [Z2v e3, hv] at r1
        cases r1
        exact r4.keeps hkeep
       ·obtain ⟨r1, r2⟩ := sn.rel _ e' j c he hcc
        refine ⟨r1, fun v hv => (r2 v ?_).keeps hkeep⟩
        have hi' : i - xs.length < ys.length := (q1_.1 he).1
        have hlt := Z41 hi' hj
        have hmul2 : i * sz = xs.length * sz + (i - xs.length) * sz := by rw [← Z4V]; congr 1; omega
        rw [Z4J _ _ _ _ hfit, if_pos (by omega), Zfs] at hv
        rw [← hv]
        congr 1
        omega
     ·intro _
      refine ⟨⟨xs ++ ys, b, off, _, cap, _, ty', sz, rfl, rfl, hty, e4, by rw [hsize]; exact e5, hroom, by omega, ?_, hxys⟩, rfl⟩
      intro k hk hs
      rcases hs with hs | ⟨_, hs⟩
      ·refine e8 k ?_ hs
       rw [Z4V] at hk
       omega
      ·rw [hL] at hs; omega
    ·
     have hg : cap < xs.length + ys.length := by omega
     have hlim' : xs.length + ys.length ≤ 1353245080339 := hlim
     have hbytes : (xs.length + ys.length) * ti.bytes ≤ 140737488355328 := by
      have := Nat.mul_le_mul hlim' hb128
      omega
     have hrun := hex _ _ (ZcD w (ty := o.type) hue hie hz hint (a := ad) (sLen := xs.length) (sCap := cap) (q := q) (olds := olds) (news := news) (fun w1 => sn.len w1)
      (by rw [hsz]; exact so.first w.drew rfl) (by rw [hsz]; exact sn.first w.drew rfl) hg (by omega) (growslice_fits hg hbytes))
     have hgc := grownCap_ge w (xs.length + ys.length) cap e
     generalize grownCap w (xs.length + ys.length) cap e = gc at *
     have hf : Fresh w (w.drew.alloc (.cells (olds ++ news ++ Builtin.zeroCells z.cells (gc - (xs.length + ys.length))) e)) (olds ++ news ++ Builtin.zeroCells z.cells (gc - (xs.length + ys.length))) e := ⟨rfl, rfl, rfl, rfl⟩
     have hke := hf.keeps h.mem.stay ((xs ++ ys).length * n)
     have hasz : (olds ++ news ++ Builtin.zeroCells z.cells (gc - (xs.length + ys.length))).size = gc * n := by
      rw [Zae, Zae, so.size, sn.size, size_zeroCells, hzs, ← Z4V, ← Z4V]
      congr 1
      omega
     have hle : (xs.length + ys.length) * n ≤ gc * n := Zfv n hgc
     refine Z1e hrun (Z3y h hd (h.weak x) (fun t _ => Z3r sl x t) hf ((xs ++ ys).length * n) (x := .p (.lst .un (xs ++ ys))) ?_ ?_ hk)
     ·have hp := Z43 (w := w.drew.alloc (.cells (olds ++ news ++ Builtin.zeroCells z.cells (gc - (xs.length + ys.length))) e)) (S := S.more w.heap.size ((xs ++ ys).length * n))
       (xs := xs ++ ys) (b := w.heap.size) (off := 0) (sz := n) (cap := gc) (o := .un) hf.new (fun k hk => .inr ⟨rfl, by omega⟩) h0 hxys (by rw [hasz, hL]; omega) ?_ (by rw [hL]; exact hgc) (by simp) (by simp) (fun _ => hne)
      ·rw [hL] at hp ⊢
       exact .p _ _ hp
      ·intro i e' j c he hcc
       obtain ⟨r1, r2⟩ := Zhr (rest := Builtin.zeroCells z.cells (gc - (xs.length + ys.length))) so sn i e' j c he (hxys e' (q7_ he)) hcc
       rw [Z67]
       exact ⟨r1, fun v hv => (r2 v hv).keeps hke⟩
     ·intro _
      refine ⟨⟨xs ++ ys, w.heap.size, 0, _, gc, _, e, n, rfl, rfl, hf.new, h0, by rw [hasz]; omega, hgc, by omega, ?_, hxys⟩, rfl⟩
      intro k hk hs
      rcases hs with hs | ⟨_, hs⟩
      ·exact Nat.lt_irrefl _ (h.mem.stay _ _ hs)
      ·rw [hL] at hs; omega
  ·simp at hv1
 ·simp at hv
end
end Go.Abs
end
section
namespace Go.Abs
open Go
theorem Z70 {h : Array Obj} {b k : Nat} {f : Obj → Obj} (hk : k ≠ b) : (h.modify b f)[k]? = h[k]? := by
 rw [Zcp]
 rw [if_neg (fun e => hk e.symm)]
theorem ZcV (w : World) (a : Addr) (n : Nat) : Only w (w.freeze a n) a.block := by
 unfold World.freeze
 split
 ·exact ⟨fun _ _ => rfl, rfl, rfl, rfl, rfl⟩
 ·exact ⟨fun k hk => Z70 hk, by simp, rfl, rfl, rfl⟩
theorem Z7M (w : World) (a : Addr) (n : Nat) (b o : Nat) : (w.freeze a n).cell? ⟨b, o, none⟩ = w.cell? ⟨b, o, none⟩ := by
 unfold World.freeze
 split
 ·rfl
 ·by_cases e : b = a.block
  ·subst e
   unfold World.cell?
   simp only [Zcp, if_true]
   cases hb : w.heap[a.block]? with
   | none => rfl
   | some x => cases x <;> rfl
  ·exact cell_of_heap (Z70 e)
section
variable {P : Program} {H : Hints} {f : FuncId} {G : GF} {nt m0 : Nat} {o : Oper} {w : World} {S : Stay} {β : Nat → Nat} {sl : Sl} {B : List Row} {a : Act}
 {K : AV → Sl → List Row → Option Res} {r : Res} {next : Act → World → Prop} {Q : Exit → Act → World → Prop}
theorem Zkk {x : Operand} {v : AV} {K : AV → Sl → List Row → Option Res} (_h : Good nt w S β sl B a) (hop : ∀ (K' : AV → Sl → List Row → Option Res), K' v sl B = some r → o.wp P a w (Leaves nt m0 o w S β sl B a K' r) Q)
  (_hd : ∀ t, o.dst = some t → t < nt) (hk : K v (weak sl x) B = some r) : o.wp P a w (Leaves nt m0 o w S β sl B a K r) Q := by
 have h1 := hop (fun y sl2 B2 => K y (weak sl2 x) B2) hk
 refine Oper.wp_mono ?_ h1
 rintro a' w' ⟨y, sl2, B2, S', β', q1, q2, q3⟩
 have hg : ∀ t, t < nt → get (put (weak sl2 x) o.dst y) t = get (put sl2 o.dst y) t ∨ (ARel w' S' β' B2.length (get (put (weak sl2 x) o.dst y) t) (a'.tmps.getD t undef) ∧ isUn (get (put (weak sl2 x) o.dst y) t) = false) := by
  intro t ht
  have hsl := q2.slots t ht
  have key : ∀ (d : Option Tmp), get (put (weak sl2 x) d y) t = get (put sl2 d y) t ∨ get (put (weak sl2 x) d y) t = shr (get (put sl2 d y) t) := by
   intro d
   have hw : get (weak sl2 x) t = get sl2 t ∨ get (weak sl2 x) t = shr (get sl2 t) := by
    cases x with
    | tmp u =>
     show get ((u, shr (get sl2 u)) :: sl2) t = _ ∨ get ((u, shr (get sl2 u)) :: sl2) t = _
     rw [Z10]
     by_cases e : u = t
     ·subst e; rw [if_pos rfl]; exact .inr rfl
     ·rw [if_neg e]; exact .inl rfl
    | _ => exact .inl rfl
   cases d with
   | none => exact hw
   | some d =>
    show get ((d, y) :: weak sl2 x) t = get ((d, y) :: sl2) t ∨ get ((d, y) :: weak sl2 x) t = shr (get ((d, y) :: sl2) t)
    rw [Z10, Z10]
    by_cases e : d = t
    ·rw [if_pos e, if_pos e]; exact .inl rfl
    ·rw [if_neg e, if_neg e]; exact hw
  rcases key o.dst with e | e
  ·exact .inl e
  ·exact .inr ⟨by rw [e]; exact hsl.shr, by rw [e]; exact Z1w _⟩
 have hh : ∀ t, nt ≤ t → get (put (weak sl2 x) o.dst y) t = jk := by
  intro t ht
  have h2 := q2.high t ht
  have hw : get (weak sl2 x) t = get sl2 t ∨ get (weak sl2 x) t = shr (get sl2 t) := by
   cases x with
   | tmp u =>
    show get ((u, shr (get sl2 u)) :: sl2) t = _ ∨ get ((u, shr (get sl2 u)) :: sl2) t = _
    rw [Z10]
    by_cases e : u = t
    ·subst e; rw [if_pos rfl]; exact .inr rfl
    ·rw [if_neg e]; exact .inl rfl
   | _ => exact .inl rfl
  cases hdd : o.dst with
  | none =>
   rw [hdd] at h2
   change get sl2 t = jk at h2
   show get (weak sl2 x) t = jk
   rcases hw with e | e
   ·rw [e, h2]
   ·rw [e, h2]; rfl
  | some d =>
   rw [hdd] at h2
   change get ((d, y) :: sl2) t = jk at h2
   show get ((d, y) :: weak sl2 x) t = jk
   rw [Z10] at h2 ⊢
   by_cases e : d = t
   ·rw [if_pos e] at h2 ⊢; exact h2
   ·rw [if_neg e] at h2 ⊢
    rcases hw with e' | e'
    ·rw [e', h2]
    ·rw [e', h2]; rfl
 refine ⟨y, weak sl2 x, B2, S', β', q1, q2.reslot hg hh, ?_⟩
 exact { q3 with uns := fun c hc => q3.uns c (UB.reslot (fun t ht => (hg t ht).imp id fun h => h.2) c hc) }
theorem Zkj {s : TypeId} {x : Operand} (h : Good nt w S β sl B a) (hd : ∀ t, o.dst = some t → t < nt) (ho : o.op = .convert s s x) {v : AV} (hv : ZfB P s (ev sl x) = some v) (hk : K v (weak sl x) B = some r) :
  o.wp P a w (Leaves nt m0 o w S β sl B a K r) Q := by
 unfold ZfB at hv
 split at hv
 ·rename_i xs heq
  split at hv
  ·rename_i hs
   simp only [ZO] at hv
   subst hv
   obtain ⟨e, hu, he⟩ := Z6U hs
   have hun : isUn (ev sl x) = true := by rw [heq]; rfl
   obtain ⟨t, rfl, htn, here⟩ := Z3v h hun
   obtain ⟨hok, _⟩ := h.uns.ok _ _ _ here hun
   have hx := h.ev (.tmp t)
   obtain ⟨xs', b, off, len, cap, cs, ty, sz, e1, e2, e3, e4, e5, e6, e7, e8, e9⟩ := hok
   rw [heq] at e1 hx
   cases e1
   have hrun : (execOp a.eval o).run P w = .ok (.value (a.eval (.tmp t))) (w.freeze ⟨b, cs.size, none⟩ 1) := by
    rw [Z81 ho, Sem.run_bind']
    have hsh : w.shape? b = some (ty, cs.size) := by unfold World.shape?; rw [e3]
    have : (convert s s (a.eval (.tmp t))).run P w = .ok (a.eval (.tmp t)) (w.freeze ⟨b, cs.size, none⟩ 1) := by
     rw [e2]
     simp [convert, run_underlying hu, run_underlying he, markStringish, hsh]
    rw [this]
    rfl
   have honly := ZcV w ⟨b, cs.size, none⟩ 1
   refine Z1e hrun (Z7R (b := b) (lo := off + len * sz) (k := 0) h hd hun (by rw [e2]; rfl) honly e8 (fun o _ => Z7M _ _ _ _ _) (x' := .p (.lst .sh xs)) ?_ (by simp [isUn]) hk)
   have hkeep : Keeps w S (w.freeze ⟨b, cs.size, none⟩ 1) (S.more b 0) := ⟨fun _ _ h => .inl h, fun _ _ _ => Z7M _ _ _ _ _⟩
   cases hx with
   | p _ _ hp => exact .p _ _ (hp.keeps hkeep).nrm
  ·simp at hv
 ·exact Zkk h (fun K' hk' => Zh6 h hd ho hv hk') hd hk
end
end Go.Abs
end
section
namespace Go.Abs
open Go
theorem Z2b (g : Nat → Nat) : ∀ l, ZT g l = l.map (Z11 g)
 | [] => by simp [ZT]
 | x :: r => by simp [ZT, Z2b g r]
theorem Z1x {i : Nat} : ∀ {l : List AV}, i ∈ ZI l ↔ ∃ x, x ∈ l ∧ i ∈ ptrs x
 | [] => by simp [ZI]
 | x :: r => by simp [ZI, Z1x (l := r)]
theorem Z4K (f : AV → AV) (hf : ∀ x, ptrs (f x) = ptrs x) : ∀ l, ZI (l.map f) = ZI l
 | [] => by simp
 | x :: r => by simp [ZI, hf, Z4K f hf r]
theorem Zhj (x : AV) : ptrs (nrmA x) = ptrs x := by
 cases x with
 | p x => simp [nrmA, ptrs]
 | agg cs =>
  simp only [nrmA, ptrs]
  exact Z4K _ (fun x => by cases x <;> simp [ptrs]) _
 | tup vs =>
  simp only [nrmA, ptrs]
  exact Z4K _ (fun x => by cases x <;> simp [ptrs]) _
 | _ => rfl
theorem ZdU (g : Nat → Nat) (x : PV) : Z11 g (.p x) = .p x := by simp [Z11]
theorem Z3x (g : Nat → Nat) (x : AV) : isUn (Z11 g x) = isUn x := by cases x <;> simp [Z11, isUn]
theorem Z69 {g : Nat → Nat} {x : AV} (h : isUn x = true) : Z11 g x = x := by
 obtain ⟨xs, rfl⟩ := Z5s h
 simp [Z11]
theorem Z8d {g : Nat → Nat} {x : AV} (h : ∀ xs, x ≠ .p (.lst .un xs)) : ∀ xs, Z11 g x ≠ .p (.lst .un xs) := by
 intro xs e
 cases x with
 | p y => rw [ZdU] at e; exact h xs e
 | _ => simp [Z11] at e
theorem Z2N (g : Nat → Nat) (r : Row) : mdOf (ZT g r) = mdOf r := by
 cases r with
 | nil => rfl
 | cons x r =>
  cases r with
  | nil => cases x <;> simp [ZT, Z11, mdOf]
  | cons y r => cases x <;> cases y <;> simp [ZT, Z11, mdOf]
theorem Z4c (g : Nat → Nat) (x : AV) : Z1k (Z11 g x) = Z1k x := by cases x <;> simp [Z11, Z1k]
theorem Z3t {w : World} {S : Stay} {β β' : Nat → Nat} {n n' : Nat} {g : Nat → Nat} {x : AV} {v : Value} (h : ARel w S β n x v) (hg : ∀ i, i ∈ ptrs x → g i < n' ∧ β' (g i) = β i) : ARel w S β' n' (Z11 g x) v := by
 induction h with
 | p x v h => rw [ZdU]; exact .p x v h
 | ptr id off h =>
  obtain ⟨h1, h2⟩ := hg id (by simp [ptrs])
  simp only [Z11]
  rw [← h2]
  exact .ptr _ _ h1
 | mp id h =>
  obtain ⟨h1, h2⟩ := hg id (by simp [ptrs])
  simp only [Z11]
  rw [← h2]
  exact .mp _ h1
 | cptr cs b off g' h => simp only [Z11]; exact .cptr cs b off g' h
 | clo f first cap a1 a2 h1 h2 _ _ h5 ih1 ih2 =>
  simp only [Z11, Z2b]
  have hm1 : ∀ c, c ∈ first → ∀ i, i ∈ ptrs c → g i < n' ∧ β' (g i) = β i := fun c hc i hi => hg i (by simp only [ptrs, Z4f]; exact .inl (Z1x.2 ⟨c, hc, hi⟩))
  have hm2 : ∀ c, c ∈ cap → ∀ i, i ∈ ptrs c → g i < n' ∧ β' (g i) = β i := fun c hc i hi => hg i (by simp only [ptrs, Z4f]; exact .inr (Z1x.2 ⟨c, hc, hi⟩))
  refine .clo f _ _ a1 a2 (by simpa using h1) (by simpa using h2) ?_ ?_ ?_
  ·intro i c v hc hv
   rw [q6_] at hc
   obtain ⟨d, hd, rfl⟩ := q4_.1 hc
   exact ih1 i d v hd hv (hm1 d (q7_ hd))
  ·intro i c v hc hv
   rw [q6_] at hc
   obtain ⟨d, hd, rfl⟩ := q4_.1 hc
   exact ih2 i d v hd hv (hm2 d (q7_ hd))
  ·intro c hc
   rw [← List.map_append] at hc
   obtain ⟨d, hd, rfl⟩ := Z1B.1 hc
   exact Z8d (h5 d hd)
 | agg cs arr h1 h2 _ ih =>
  simp only [Z11, Z2b]
  refine .agg _ arr (by simpa using h1) ?_ ?_
  ·intro c hc
   obtain ⟨d, hd, rfl⟩ := Z1B.1 hc
   exact ⟨by rw [Z4c]; exact (h2 d hd).1, Z8d (h2 d hd).2⟩
  ·intro i c v hc hv
   rw [q6_] at hc
   obtain ⟨d, hd, rfl⟩ := q4_.1 hc
   exact ih i d v hd hv (fun k hk => hg k (by simp only [ptrs]; exact Z1x.2 ⟨d, q7_ hd, hk⟩))
 | tup vs arr h1 h2 _ ih =>
  simp only [Z11, Z2b]
  refine .tup _ arr (by simpa using h1) ?_ ?_
  ·intro c hc
   obtain ⟨d, hd, rfl⟩ := Z1B.1 hc
   exact Z8d (h2 d hd)
  ·intro i c v hc hv
   rw [q6_] at hc
   obtain ⟨d, hd, rfl⟩ := q4_.1 hc
   exact ih i d v hd hv (fun k hk => hg k (by simp only [ptrs]; exact Z1x.2 ⟨d, q7_ hd, hk⟩))
theorem Z8c {w : World} {S : Stay} {β : Nat → Nat} {n : Nat} {x : AV} {v : Value} (h : ARel w S β n x v) : ∀ i, i ∈ ptrs x → i < n := by
 have lift : ∀ (l : List AV) (arr : Array Value), arr.size = l.length → (∀ (i : Nat) (c : AV) (v : Value), l[i]? = some c → arr[i]? = some v → ∀ k, k ∈ ptrs c → k < n) → ∀ i, i ∈ ZI l → i < n := by
  intro l arr hl h i hi
  obtain ⟨c, hc, hi⟩ := Z1x.1 hi
  obtain ⟨k, hk⟩ := Z62.1 hc
  have hlt : k < arr.size := by rw [hl]; exact (q1_.1 hk).1
  exact h k c _ hk (Z77 hlt) i hi
 induction h with
 | p x v h => intro i hi; simp [ptrs] at hi
 | ptr id off h => intro i hi; simp only [ptrs, Z2O] at hi; subst hi; exact h
 | mp id h => intro i hi; simp only [ptrs, Z2O] at hi; subst hi; exact h
 | cptr => intro i hi; simp [ptrs] at hi
 | clo f first cap a1 a2 h1 h2 _ _ h5 ih1 ih2 =>
  intro i hi
  simp only [ptrs, Z4f] at hi
  rcases hi with hi | hi
  ·exact lift first a1 h1 ih1 i hi
  ·exact lift cap a2 h2 ih2 i hi
 | agg cs arr h1 h2 _ ih => intro i hi; simp only [ptrs] at hi; exact lift cs arr h1 ih i hi
 | tup vs arr h1 h2 _ ih => intro i hi; simp only [ptrs] at hi; exact lift vs arr h1 ih i hi
theorem Z7U {g g' : Nat → Nat} : ∀ (x : AV), (∀ i, i ∈ ptrs x → g i = g' i) → Z11 g x = Z11 g' x := by
 intro x
 induction x using AV.rec (motive_2 := fun l => (∀ i, i ∈ ZI l → g i = g' i) → ZT g l = ZT g' l) with
 | p x => intro _; simp [Z11]
 | ptr id off => intro h; simp [Z11, h id (by simp [ptrs])]
 | mp id => intro h; simp [Z11, h id (by simp [ptrs])]
 | md es => intro _; simp [Z11]
 | cptr cs => intro _; simp [Z11]
 | clo f a b iha ihb =>
  intro h
  simp only [ptrs, Z4f] at h
  simp only [Z11, iha fun i hi => h i (.inl hi), ihb fun i hi => h i (.inr hi)]
 | agg cs ih => intro h; simp only [ptrs] at h; simp only [Z11, ih h]
 | tup vs ih => intro h; simp only [ptrs] at h; simp only [Z11, ih h]
 | nil => simp [ZT]
 | cons x r ihx ihr =>
  rename_i h
  simp only [ZI, Z4f] at h
  simp only [ZT, ihx fun i hi => h i (.inl hi), ihr fun i hi => h i (.inr hi)]
theorem ZcC {g g' : Nat → Nat} {l : List AV} (h : ∀ i, i ∈ ZI l → g i = g' i) : ZT g l = ZT g' l := by
 rw [Z2b, Z2b]
 apply Z78
 intro x hx
 exact Z7U x fun i hi => h i (Z1x.2 ⟨x, hx, hi⟩)
theorem Z4W (B : List Row) : ∀ (n : Nat) (todo seen : List Nat), seen.Nodup → (ZY B n todo seen).Nodup
 | 0, _, _, h => by simpa [ZY] using h
 | n + 1, [], _, h => by simpa [ZY] using h
 | n + 1, i :: todo, seen, h => by
  simp only [ZY]
  split
  ·exact Z4W B n _ _ h
  ·rename_i hc
   refine Z4W B n _ _ ?_
   rw [Zcr]
   refine ⟨h, by simp, ?_⟩
   intro a ha b hb
   simp only [Z2O] at hb
   subst hb
   rintro rfl
   exact hc (by simpa using ha)
theorem Z83 {rs : List Nat} {i : Nat} (h : i ∈ rs) : rs.idxOf i < rs.length ∧ rs.getD (rs.idxOf i) 0 = i := by
 have h1 := List.idxOf_lt_length_iff.2 h
 refine ⟨h1, ?_⟩
 rw [q9_, q2_ h1]
 simp
theorem Z2H {rs : List Nat} {k : Nat} (h : k < rs.length) : rs.getD k 0 ∈ rs := by
 rw [q9_, q2_ h]
 simp
theorem getD_some {rs : List Nat} {k i : Nat} (h : rs[k]? = some i) : rs.getD k 0 = i := by
 rw [q9_, h]
 rfl
theorem Zc4 {rs : List Nat} (h : rs.Nodup) {j k : Nat} (hj : j < rs.length) (hk : k < rs.length) (e : rs.getD j 0 = rs.getD k 0) : j = k := by
 refine (List.getElem?_inj hj h).1 ?_
 rw [q9_, q2_ hj, q9_, q2_ hk] at e
 simp only [Zcv] at e
 rw [q2_ hj, q2_ hk, e]
theorem Z3F : ∀ (rs : List Nat) (rows B : List Row), (Z18 B rs rows).length = B.length
 | [], _, _ => by simp [Z18]
 | _ :: _, [], _ => by simp [Z18]
 | i :: rs, r :: rows, B => by rw [Z18, Z3F rs rows]; simp
theorem Z9L {id : Nat} : ∀ (rs : List Nat) (rows B : List Row), id ∉ rs → (Z18 B rs rows)[id]? = B[id]?
 | [], _, _, _ => by simp [Z18]
 | _ :: _, [], _, _ => by simp [Z18]
 | i :: rs, r :: rows, B, h => by
  simp only [Z1K, not_or] at h
  rw [Z18, Z9L rs rows _ h.2, Z3o]
  rw [if_neg (fun e => h.1 e.symm)]
theorem ZmB {id k : Nat} {row : Row} : ∀ (rs : List Nat) (rows B : List Row), rs.Nodup → id < B.length → rs.length = rows.length → rs[k]? = some id → rows[k]? = some row → (Z18 B rs rows)[id]? = some row := by
 induction k with
 | zero =>
  intro rs rows B hn hid hl hk hr
  cases rs with
  | nil => simp at hk
  | cons i rs =>
   cases rows with
   | nil => simp at hr
   | cons r rows =>
    simp at hk hr
    subst hk hr
    rw [Z18, Z9L rs rows _ (Z7c.1 hn).1]
    simp [hid]
 | succ k ih =>
  intro rs rows B hn hid hl hk hr
  cases rs with
  | nil => simp at hk
  | cons i rs =>
   cases rows with
   | nil => simp at hr
   | cons r rows =>
    rw [Z18]
    exact ih rs rows _ (Z7c.1 hn).2 (by simpa using hid) (by simpa using hl) (by simpa using hk) (by simpa using hr)
end Go.Abs
end
section
namespace Go.Abs
open Go
def Z2d (args : List AV) (vals : Array Value) (B : List Row) (β : Nat → Nat) (w : World) : Loc → AV → Value → Prop
 | .slot i, x, v => args[i]? = some x ∧ vals[i]? = some v
 | .box id j, x, v => ∃ row, B[id]? = some row ∧ row[j]? = some x ∧ w.cell? ⟨β id, j, none⟩ = some v
structure Entry (w : World) (S : Stay) (β : Nat → Nat) (args : List AV) (B : List Row) (vals : Array Value) : Prop where
 size : vals.size = args.length
 rel : ∀ (i : Nat) (x : AV) (v : Value), args[i]? = some x → vals[i]? = some v → ARel w S β B.length x v
 mem : Mem w S β B
 uns : Uns w S β B.length (Z2d args vals B β w)
theorem Z3C {g : Nat → Nat} {row : Row} {j : Nat} {x : AV} (h : (ZT g row)[j]? = some x) : ∃ x0, row[j]? = some x0 ∧ x = Z11 g x0 := by
 rw [Z2b, q6_] at h
 obtain ⟨x0, h0, rfl⟩ := q4_.1 h
 exact ⟨x0, h0, rfl⟩
section
variable {nt m0 M : Nat} {o : Oper} {w w' : World} {S S' : Stay} {β β' β1 : Nat → Nat} {sl sl' : Sl} {B r2 B1 : List Row} {a : Act} {K : AV → Sl → List Row → Option Res} {r : Res}
 {rs : List Nat} {L0 : Loc → AV → Value → Prop} {r1 : AV} {v : Value} {back : Nat → Nat}
theorem Z9u (h : Good nt w S β sl B a) (h' : Good nt w S β sl' B a) (hd : ∀ t, o.dst = some t → t < nt) (_hrs : rs.Nodup) (hrl : ∀ i, i ∈ rs → i < B.length)
  (hcor : ∀ l0 x v, L0 l0 x v → isUn x = true → ∃ l, Here nt sl a.tmps B β w l x v ∧ (∀ t, l = .slot t → isUn (get sl' t) = false) ∧ ∀ id j, l = .box id j → id ∈ rs)
  (hsl : ∀ t, t < nt → get sl' t = get sl t ∨ isUn (get sl' t) = false) (e : Entry w' S' β' [r1] r2 #[v])
  (st : Step rs.length w S (fun k => β (rs.getD k 0)) rs.length (UB L0) w' S' β' r2.length (UB (Z2d [r1] #[v] r2 β' w')))
  (hm : rs.length ≤ M) (hM : M ≤ r2.length) (hlen : B1.length = B.length + (M - rs.length))
  (hback : ∀ k, back k = if k < rs.length then rs.getD k 0 else B.length + (k - rs.length))
  (hβ : ∀ id, β1 id = if id < B.length then β id else β' (rs.length + (id - B.length)))
  (hcls : ∀ id row, B1[id]? = some row → (id < B.length ∧ id ∉ rs ∧ B[id]? = some row) ∨ (∃ k row0, k < M ∧ r2[k]? = some row0 ∧ row = ZT back row0 ∧ id = back k))
  (hp1 : ∀ i, i ∈ ptrs r1 → i < M) (hp2 : ∀ k row, k < M → r2[k]? = some row → ∀ i, i ∈ ZI row → i < M)
  (hk : K (Z11 back r1) sl' B1 = some r) : Leaves nt m0 o w S β sl B a K r (a.put o.dst v) w' := by
 obtain ⟨_, hlow⟩ := st.low (Z1y _)
 have hn : B.length ≤ B1.length := by omega
 have hβo : ∀ i, i < B.length → β1 i = β i := fun i hi => by rw [hβ, if_pos hi]
 have bk : ∀ k, k < M → back k < B1.length ∧ β1 (back k) = β' k := by
  intro k hk
  by_cases h1 : k < rs.length
  ·have hmem := hrl _ (Z2H h1)
   rw [hback, if_pos h1]
   refine ⟨by omega, ?_⟩
   rw [hβo _ hmem, hlow k h1]
  ·rw [hback, if_neg h1]
   refine ⟨by omega, ?_⟩
   rw [hβ, if_neg (by omega)]
   congr 1
   omega
 have hfresh : ∀ k, rs.length ≤ k → k < r2.length → w.heap.size ≤ β' k := by
  intro k h1 h2
  rcases st.boxes k h2 with ⟨j, hj, e1, _⟩ | h3
  ·have := e.mem.inj k j h2 (by omega) (by rw [e1, hlow j hj])
   omega
  ·exact h3
 have hU0 : ∀ b, UB L0 b → UB (Here nt sl a.tmps B β w) b := by
  rintro b ⟨l0, x, u, q1, q2, q3⟩
  obtain ⟨l, q4, _⟩ := hcor l0 x u q1 q2
  exact ⟨l, x, u, q4, q2, q3⟩
 have hU0box : ∀ id, id < B.length → ¬ UB L0 (β id) := by
  intro id hid hu
  obtain ⟨l, x, u, q1, q2, q3⟩ := hU0 _ hu
  exact (h.uns.ok l x u q1 q2).2 id hid q3
 have hout : ∀ id, id < B.length → id ∉ rs → w'.heap[β id]? = w.heap[β id]? := by
  intro id hid hni
  refine st.block _ (h.mem.lt hid) ?_ (hU0box id hid)
  intro i hi e'
  have := h.mem.inj id _ hid (hrl _ (Z2H hi)) e'
  exact hni (this ▸ Z2H hi)
 have cl : ∀ l x u, Here nt sl' a.tmps B1 β1 w' l x u → isUn x = true →
   (Here nt sl' a.tmps B β w l x u ∧ (∀ b, Z1g u = some b → ¬ UB L0 b)) ∨ (∃ k j, l = .box (back k) j ∧ k < M ∧ Z2d [r1] #[v] r2 β' w' (.box k j) x u) := by
  intro l x u hl hu
  cases l with
  | slot t =>
   left
   refine ⟨hl, ?_⟩
   rintro b hb ⟨l0, x0, u0, q1, q2, q3⟩
   obtain ⟨l1, q4, q5, _⟩ := hcor l0 x0 u0 q1 q2
   obtain ⟨ht, rfl, rfl⟩ := hl
   rcases hsl t ht with e1 | e1
   ·have here : Here nt sl a.tmps B β w (.slot t) (get sl' t) (a.tmps.getD t undef) := ⟨ht, e1, rfl⟩
    have := h.uns.inj _ _ _ _ _ _ q4 here q2 hu (q3.trans hb.symm)
    rw [q5 t this] at hu
    simp at hu
   ·rw [e1] at hu; simp at hu
  | box id j =>
   obtain ⟨row, q1, q2, q3⟩ := hl
   rcases hcls id row q1 with ⟨hid, hni, hb⟩ | ⟨k, row0, hkM, hr0, rfl, rfl⟩
   ·left
    rw [hβo id hid, cell_of_heap (hout id hid hni)] at q3
    have here : Here nt sl a.tmps B β w (.box id j) x u := ⟨row, hb, q2, q3⟩
    refine ⟨here, ?_⟩
    rintro b hb ⟨l0, x0, u0, p1, p2, p3⟩
    obtain ⟨l1, p4, _, p6⟩ := hcor l0 x0 u0 p1 p2
    have := h.uns.inj _ _ _ _ _ _ p4 here p2 hu (p3.trans hb.symm)
    exact hni (p6 id j this)
   ·right
    obtain ⟨x0, hx0, rfl⟩ := Z3C q2
    rw [Z3x] at hu
    rw [Z69 hu]
    rw [(bk k hkM).2] at q3
    exact ⟨k, j, rfl, hkM, row0, hr0, hx0, q3⟩
 have hUlt : ∀ x u, UnOk w S x u → ∀ b, Z1g u = some b → b < w.heap.size := by
  intro x u hok b hb
  obtain ⟨b', h1, h2⟩ := hok.blk
  rw [hb] at h1
  cases h1
  exact h2
 have okA : ∀ x u, UnOk w S x u → (∀ i, i < B.length → Z1g u ≠ some (β i)) → (∀ b, Z1g u = some b → ¬ UB L0 b) → UnOk w' S' x u ∧ ∀ i, i < B1.length → Z1g u ≠ some (β1 i) := by
  intro x u hok hnb hnu
  refine ⟨hok.world fun b hb => ?_, ?_⟩
  ·have hlt := hUlt x u hok b hb
   refine ⟨st.block b hlt ?_ (hnu b hb), fun o ho => ?_⟩
   ·intro i hi e'
    exact hnb _ (hrl _ (Z2H hi)) (by rw [hb, e'])
   ·rcases st.grown b o ho with h1 | h1 | h1
    ·exact h1
    ·omega
    ·exact absurd h1 (hnu b hb)
  ·intro i hi e'
   by_cases h1 : i < B.length
   ·rw [hβo i h1] at e'; exact hnb i h1 e'
   ·rw [hβ, if_neg h1] at e'
    have := hUlt x u hok _ e'
    have := hfresh (rs.length + (i - B.length)) (by omega) (by omega)
    omega
 have okB : ∀ l x u, Z2d [r1] #[v] r2 β' w' l x u → isUn x = true → UnOk w' S' x u ∧ ∀ i, i < B1.length → Z1g u ≠ some (β1 i) := by
  intro l x u hl hu
  obtain ⟨q1, q2⟩ := e.uns.ok l x u hl hu
  refine ⟨q1, fun i hi e' => ?_⟩
  by_cases h1 : i < B.length
  ·rw [hβo i h1] at e'
   rcases st.uns (β i) ⟨l, x, u, hl, hu, e'⟩ with h2 | h2
   ·exact hU0box i h1 h2
   ·have := h.mem.lt h1; omega
  ·rw [hβ, if_neg h1] at e'
   exact q2 (rs.length + (i - B.length)) (by omega) e'
 have hg : Good nt w' S' β1 sl' B1 a := by
  refine ⟨h.size, h.defers, ?_, h'.high, ?_, ?_⟩
  ·intro t ht
   exact (h'.slots t ht).keeps st.keeps hβo hn
  ·refine ⟨?_, ?_, ?_, ?_, e.mem.stay, ?_⟩
   ·intro id row hrow hm
    rcases hcls id row hrow with ⟨hid, hni, hb⟩ | ⟨k, row0, hkM, hr0, rfl, rfl⟩
    ·obtain ⟨cs, ty, q1, q2⟩ := h.mem.row id row hb hm
     exact ⟨cs, ty, by rw [hβo id hid, hout id hid hni]; exact q1, q2⟩
    ·obtain ⟨cs, ty, q1, q2⟩ := e.mem.row k row0 hr0 (by rw [Z2N] at hm; exact hm)
     exact ⟨cs, ty, by rw [(bk k hkM).2]; exact q1, by rw [Z2b]; simpa using q2⟩
   ·intro id row j x hrow hm hx
    rcases hcls id row hrow with ⟨hid, hni, hb⟩ | ⟨k, row0, hkM, hr0, rfl, rfl⟩
    ·obtain ⟨u, q1, q2, q3⟩ := h.mem.cell id row j x hb hm hx
     exact ⟨u, by rw [hβo id hid, cell_of_heap (hout id hid hni)]; exact q1, q2.keeps st.keeps hβo hn, q3⟩
    ·obtain ⟨x0, hx0, rfl⟩ := Z3C hx
     obtain ⟨u, q1, q2, q3⟩ := e.mem.cell k row0 j x0 hr0 (by rw [Z2N] at hm; exact hm) hx0
     refine ⟨u, by rw [(bk k hkM).2]; exact q1, Z3t q2 fun i hi => ?_, by rw [Z4c]; exact q3⟩
     exact bk i (hp2 k row0 hkM hr0 i (Z1x.2 ⟨x0, q7_ hx0, hi⟩))
   ·intro i j hi hj e'
    by_cases h1 : i < B.length <;> by_cases h2 : j < B.length
    ·rw [hβo i h1, hβo j h2] at e'; exact h.mem.inj i j h1 h2 e'
    ·rw [hβo i h1, hβ j, if_neg h2] at e'
     have := h.mem.lt h1
     have := hfresh (rs.length + (j - B.length)) (by omega) (by omega)
     omega
    ·rw [hβo j h2, hβ i, if_neg h1] at e'
     have := h.mem.lt h2
     have := hfresh (rs.length + (i - B.length)) (by omega) (by omega)
     omega
    ·rw [hβ i, if_neg h1, hβ j, if_neg h2] at e'
     have := e.mem.inj _ _ (by omega) (by omega) e'
     omega
   ·intro i hi o ho
    by_cases h1 : i < B.length
    ·rw [hβo i h1] at ho
     by_cases h2 : i ∈ rs
     ·obtain ⟨q1, q2⟩ := Z83 h2
      have := e.mem.apart (rs.idxOf i) (by omega) o
      rw [hlow _ q1] at this
      simp only [q2] at this
      exact this ho
     ·rcases st.grown _ o ho with h3 | h3 | h3
      ·exact h.mem.apart i h1 o h3
      ·have := h.mem.lt h1; omega
      ·exact hU0box i h1 h3
    ·rw [hβ, if_neg h1] at ho
     exact e.mem.apart _ (by omega) o ho
   ·intro id row es hrow hm
    rcases hcls id row hrow with ⟨hid, hni, hb⟩ | ⟨k, row0, hkM, hr0, rfl, rfl⟩
    ·have := (h.mem.maps id row es hb hm).keeps st.keeps (hout id hid hni)
     rw [hβo id hid]
     exact this
    ·rw [Z2N] at hm
     rw [(bk k hkM).2]
     exact e.mem.maps k row0 es hr0 hm
  ·refine ⟨?_, ?_⟩
   ·intro l x u hl hu
    rcases cl l x u hl hu with ⟨q1, q2⟩ | ⟨k, j, rfl, hkM, q⟩
    ·obtain ⟨p1, p2⟩ := h'.uns.ok l x u q1 hu
     exact okA x u p1 p2 q2
    ·exact okB _ x u q hu
   ·intro l l' x x' u u' hl hl' hu hu' e'
    have ab : ∀ l1 x1 u1, Here nt sl' a.tmps B β w l1 x1 u1 → isUn x1 = true → (∀ b, Z1g u1 = some b → ¬ UB L0 b) → ∀ k j x2 u2, Z2d [r1] #[v] r2 β' w' (.box k j) x2 u2 → isUn x2 = true → Z1g u1 ≠ Z1g u2 := by
     intro l1 x1 u1 a1 a2 a3 k j x2 u2 b1 b2 e3
     obtain ⟨p1, _⟩ := h'.uns.ok l1 x1 u1 a1 a2
     obtain ⟨b, hb, hlt⟩ := p1.blk
     rcases st.uns b ⟨_, x2, u2, b1, b2, by rw [← e3]; exact hb⟩ with h3 | h3
     ·exact a3 b hb h3
     ·omega
    rcases cl l x u hl hu with ⟨q1, q2⟩ | ⟨k, j, rfl, hkM, q⟩ <;> rcases cl l' x' u' hl' hu' with ⟨q1', q2'⟩ | ⟨k', j', rfl, hkM', q'⟩
    ·exact h'.uns.inj l l' x x' u u' q1 q1' hu hu' e'
    ·exact absurd e' (ab l x u q1 hu q2 k' j' x' u' q' hu')
    ·exact absurd e'.symm (ab l' x' u' q1' hu' q2' k j x u q hu)
    ·have := e.uns.inj _ _ x x' u u' q q' hu hu' e'
     simp only [Loc.box.injEq] at this
     rw [this.1, this.2]
 have hx : ARel w' S' β1 B1.length (Z11 back r1) v := Z3t (e.rel 0 r1 v rfl rfl) fun i hi => bk i (hp1 i hi)
 have hslot : isUn (Z11 back r1) = true → Z2d [r1] #[v] r2 β' w' (.slot 0) (Z11 back r1) v := by
  intro hu
  rw [Z3x] at hu
  rw [Z69 hu]
  exact ⟨rfl, rfl⟩
 have hUB : ∀ b, UB (Here nt sl' a.tmps B1 β1 w') b → UB (Here nt sl a.tmps B β w) b ∨ w.heap.size ≤ b := by
  rintro b ⟨l, x, u, hl, hu, hb⟩
  rcases cl l x u hl hu with ⟨q1, _⟩ | ⟨k, j, rfl, hkM, q⟩
  ·exact .inl (UB.reslot hsl b ⟨l, x, u, q1, hu, hb⟩)
  ·rcases st.uns b ⟨_, x, u, q, hu, hb⟩ with h3 | h3
   ·exact .inl (hU0 b h3)
   ·exact .inr h3
 refine ⟨Z11 back r1, sl', B1, S', β1, hk, ?_, ?_⟩
 ·cases hdd : o.dst with
  | none => exact hg
  | some d =>
   refine hg.putUn (hd d hdd) hx (fun hu => okB _ _ _ (hslot hu) hu) (fun l y u hl hy hu e' => ?_)
   rcases cl l y u hl hy with ⟨q1, q2⟩ | ⟨k, j, rfl, hkM, q⟩
   ·obtain ⟨p1, _⟩ := h'.uns.ok l y u q1 hy
    obtain ⟨b, hb, hlt⟩ := p1.blk
    rcases st.uns b ⟨_, _, v, hslot hu, hu, by rw [← e']; exact hb⟩ with h3 | h3
    ·exact q2 b hb h3
    ·omega
   ·have := e.uns.inj _ _ _ _ _ _ q (hslot hu) hy hu e'
    simp at this
 ·refine ⟨st.keeps, st.size, st.os, st.tape, st.output, fun h1 => ⟨by omega, fun i hi => hβo i (by omega)⟩, ?_, ?_, ?_, ?_⟩
  ·intro i hi
   by_cases h1 : i < B.length
   ·exact .inl ⟨i, h1, hβo i h1, id⟩
   ·right
    rw [hβ, if_neg h1]
    exact hfresh _ (by omega) (by omega)
  ·intro b hb
   cases hdd : o.dst with
   | none => rw [hdd] at hb; exact hUB b hb
   | some d =>
    rw [hdd] at hb
    rcases UB.putUn h.size (hd d hdd) b hb with hb | ⟨q1, q2⟩
    ·exact hUB b hb
    ·rcases st.uns b ⟨_, _, v, hslot q1, q1, q2⟩ with h3 | h3
     ·exact .inl (hU0 b h3)
     ·exact .inr h3
  ·intro b o' hs
   rcases st.grown b o' hs with h1 | h1 | h1
   ·exact .inl h1
   ·exact .inr (.inl h1)
   ·exact .inr (.inr (hU0 b h1))
  ·intro b hb1 hb2 hb3
   refine st.block b hb1 ?_ (fun hu => hb3 (hU0 b hu))
   intro i hi
   exact hb2 _ (hrl _ (Z2H hi))
end
end Go.Abs
end
section
namespace Go.Abs
open Go
def Plain (P : Program) (f : FuncId) : Prop := ∃ fn, P.funcs[f]? = some fn ∧ (fn.name == "runtime.NumGoroutine") = false ∧ fn.body.isNone = false
def Z2D (w : World) (S : Stay) (β : Nat → Nat) (args : List AV) (B : List Row) (vals : Array Value) (r : Res) : Ending → World → Prop
 | .returned v, w' => ∃ S' β', Entry w' S' β' [r.1] r.2 #[v] ∧ Step B.length w S β B.length (UB (Z2d args vals B β w)) w' S' β' r.2.length (UB (Z2d [r.1] #[v] r.2 β' w'))
 | _, _ => False
abbrev Inv := World → Stay → Prop
def Pers (I : Inv) : Prop := ∀ (w w' : World) (S S' : Stay), Keeps w S w' S' → I w S → I w' S'
def Z2n (P : Program) (I : Inv) (G : GF) : Prop := ∀ f args B r, G f args B = some r → ∀ w S β vals, I w S → Entry w S β args B vals → Plain P f ∧ Calls P f vals w (Z2D w S β args B vals r)
theorem ZcG {P : Program} {g : FuncId} (h : Plain P g) (vals : Array Value) (w : World) : (callFunc g vals).run P w = .ok (.enter g vals) w := by
 obtain ⟨fn, h1, h2, h3⟩ := h
 have h2' : ¬ fn.name = "runtime.NumGoroutine" := by simpa using h2
 have h3' : ¬ fn.body = none := by intro e; rw [e] at h3; simp at h3
 unfold callFunc
 simp [program, h1, h2', h3', Sem.run, bind, Sem.bind, pure]
def handed (raw : Bool) (args : List AV) : List AV := match raw with | true => args | false => args.map nrmA
theorem Ze6 {raw : Bool} {G : GF} {g : FuncId} {args : List AV} {B : List Row} {k : AV → List Row → Option Res} {r : Res} (h : callS raw G g args B k = some r) :
  ∃ rs : List Nat, rs.Nodup ∧ (∀ i, i ∈ ZI args → i ∈ rs) ∧ (∀ i, i ∈ rs → i < B.length ∧ ∀ j, j ∈ ZI (B.getD i []) → j ∈ rs) ∧
   ∃ r', G g (ZT (fun id => rs.idxOf id) (handed raw args)) (rs.map fun i => ZT (fun id => rs.idxOf id) (B.getD i [])) = some r' ∧
    ((below rs.length (ptrs r'.1) = true ∧ (r'.2.take rs.length).all (fun row => below rs.length (ZI row)) = true ∧
      k (Z11 (fun id => rs.getD id 0) r'.1) (Z18 B rs ((r'.2.take rs.length).map (ZT fun id => rs.getD id 0))) = some r) ∨
     k (Z11 (fun id => if id < rs.length then rs.getD id 0 else B.length + (id - rs.length)) r'.1)
      (Z18 B rs ((r'.2.take rs.length).map (ZT fun id => if id < rs.length then rs.getD id 0 else B.length + (id - rs.length))) ++
       (r'.2.drop rs.length).map (ZT fun id => if id < rs.length then rs.getD id 0 else B.length + (id - rs.length))) = some r) := by
 unfold callS at h
 simp only at h
 split at h
 ·simp at h
 ·rename_i hc
  simp only [Z79, Bool.not_eq_false, q5_, Z2w, decide_eq_true_eq, Zcs] at hc
  obtain ⟨hc1, hc2⟩ := hc
  obtain ⟨r', hr', hk⟩ := ZH h
  refine ⟨_, Z4W B 64 _ [] List.nodup_nil, hc1, hc2, r', hr', ?_⟩
  split at hk
  ·rename_i hb
   simp only [q5_] at hb
   exact .inl ⟨hb.1, hb.2, hk⟩
  ·exact .inr hk
theorem Z5G {m : Nat} {l : List Nat} (h : below m l = true) : ∀ i, i ∈ l → i < m := by
 unfold below at h
 simpa using h
section
variable {P : Program} {H : Hints} {f : FuncId} {G : GF} {nt m0 : Nat} {o : Oper} {w : World} {S : Stay} {β : Nat → Nat} {sl sl' : Sl} {B : List Row} {a : Act}
 {K : AV → Sl → List Row → Option Res} {r : Res} {next : Act → World → Prop} {Q : Exit → Act → World → Prop}
theorem Zhx (h : Good nt w S β sl B a) {raw : Bool} {args : List AV} {vals : Array Value} (hs : vals.size = args.length)
  (hrel : ∀ (i : Nat) (x : AV) (v : Value), args[i]? = some x → vals[i]? = some v → ARel w S β B.length x v)
  (hun : raw = true → ∀ (i : Nat) (x : AV) (v : Value), args[i]? = some x → vals[i]? = some v → isUn x = true → ∃ t, Here nt sl a.tmps B β w (.slot t) x v ∧ isUn (get sl' t) = false)
  (hinj : raw = true → ∀ (i j : Nat) (x y : AV) (u v : Value), args[i]? = some x → vals[i]? = some u → args[j]? = some y → vals[j]? = some v → isUn x = true → isUn y = true → Z1g u = Z1g v → i = j)
  {rs : List Nat} (hrs : rs.Nodup) (h1 : ∀ i, i ∈ ZI args → i ∈ rs) (h2 : ∀ i, i ∈ rs → i < B.length ∧ ∀ j, j ∈ ZI (B.getD i []) → j ∈ rs) :
  Entry w S (fun k => β (rs.getD k 0)) (ZT (fun id => rs.idxOf id) (handed raw args)) (rs.map fun i => ZT (fun id => rs.idxOf id) (B.getD i [])) vals ∧
   ∀ l0 x v, Z2d (ZT (fun id => rs.idxOf id) (handed raw args)) vals (rs.map fun i => ZT (fun id => rs.idxOf id) (B.getD i [])) (fun k => β (rs.getD k 0)) w l0 x v →
    isUn x = true → ∃ l, Here nt sl a.tmps B β w l x v ∧ (∀ t, l = .slot t → isUn (get sl' t) = false) ∧ ∀ id j, l = .box id j → id ∈ rs := by
 have hg : ∀ i, i ∈ rs → rs.idxOf i < (rs.map fun i => ZT (fun id => rs.idxOf id) (B.getD i [])).length ∧ (fun k => β (rs.getD k 0)) (rs.idxOf i) = β i := by
  intro i hi
  obtain ⟨q1, q2⟩ := Z83 hi
  refine ⟨by simpa using q1, ?_⟩
  simp only [q2]
 have hrow : ∀ {k : Nat} {row : Row}, (rs.map fun i => ZT (fun id => rs.idxOf id) (B.getD i []))[k]? = some row → ∃ i row0, rs[k]? = some i ∧ rs.getD k 0 = i ∧ i ∈ rs ∧ B[i]? = some row0 ∧ row = ZT (fun id => rs.idxOf id) row0 ∧ ∀ j, j ∈ ZI row0 → j ∈ rs := by
  intro k row hk
  rw [q6_] at hk
  obtain ⟨i, hi, rfl⟩ := q4_.1 hk
  have hm := q7_ hi
  obtain ⟨q1, q2⟩ := h2 i hm
  have hB : B[i]? = some B[i] := by simp [q1]
  have hBD : B.getD i [] = B[i] := by rw [q9_, hB]; rfl
  rw [hBD] at q2
  exact ⟨i, B[i], hi, getD_some hi, hm, hB, by rw [hBD], q2⟩
 have hargs : ∀ {i : Nat} {x : AV}, (ZT (fun id => rs.idxOf id) (handed raw args))[i]? = some x →
   ∃ x0, args[i]? = some x0 ∧ ((raw = true ∧ x = Z11 (fun id => rs.idxOf id) x0) ∨ (raw = false ∧ x = Z11 (fun id => rs.idxOf id) (nrmA x0))) := by
  intro i x hx
  obtain ⟨x0, hx0, rfl⟩ := Z3C hx
  cases raw with
  | true => exact ⟨x0, hx0, .inl ⟨rfl, rfl⟩⟩
  | false =>
   simp only [handed, q6_] at hx0
   obtain ⟨y, hy, rfl⟩ := q4_.1 hx0
   exact ⟨y, hy, .inr ⟨rfl, rfl⟩⟩
 have hcor : ∀ l0 x v, Z2d (ZT (fun id => rs.idxOf id) (handed raw args)) vals (rs.map fun i => ZT (fun id => rs.idxOf id) (B.getD i [])) (fun k => β (rs.getD k 0)) w l0 x v →
    isUn x = true → (∃ i t, l0 = .slot i ∧ raw = true ∧ args[i]? = some x ∧ vals[i]? = some v ∧ Here nt sl a.tmps B β w (.slot t) x v ∧ isUn (get sl' t) = false) ∨
     (∃ k i j, l0 = .box k j ∧ rs[k]? = some i ∧ i ∈ rs ∧ Here nt sl a.tmps B β w (.box i j) x v) := by
  intro l0 x v hl hu
  cases l0 with
  | slot i =>
   left
   obtain ⟨q1, q2⟩ := hl
   obtain ⟨x0, hx0, ⟨hr, rfl⟩ | ⟨hr, rfl⟩⟩ := hargs q1
   ·rw [Z3x] at hu
    rw [Z69 hu]
    obtain ⟨t, p1, p2⟩ := hun hr i x0 v hx0 q2 hu
    exact ⟨i, t, rfl, hr, hx0, q2, p1, p2⟩
   ·rw [Z3x, Z6W] at hu
    simp at hu
  | box k j =>
   right
   obtain ⟨row, q1, q2, q3⟩ := hl
   obtain ⟨i, row0, p1, p2, p3, p4, rfl, _⟩ := hrow q1
   obtain ⟨x0, hx0, rfl⟩ := Z3C q2
   rw [Z3x] at hu
   rw [Z69 hu]
   simp only [p2] at q3
   exact ⟨k, i, j, rfl, p1, p3, row0, p4, hx0, q3⟩
 refine ⟨⟨?_, ?_, ?_, ?_⟩, ?_⟩
 ·rw [Z2b, Z39]
  cases raw with
  | true => exact hs
  | false => simpa [handed] using hs
 ·intro i x v hx hv
  obtain ⟨x0, hx0, ⟨_, rfl⟩ | ⟨_, rfl⟩⟩ := hargs hx
  ·refine Z3t (hrel i x0 v hx0 hv) fun k hk => hg k (h1 k (Z1x.2 ⟨x0, q7_ hx0, hk⟩))
  ·refine Z3t (hrel i x0 v hx0 hv).nrmA fun k hk => hg k (h1 k (Z1x.2 ⟨x0, q7_ hx0, by rw [Zhj] at hk; exact hk⟩))
 ·refine ⟨?_, ?_, ?_, ?_, h.mem.stay, ?_⟩
  ·intro k row hk hmd
   obtain ⟨i, row0, p1, p2, p3, p4, rfl, _⟩ := hrow hk
   obtain ⟨cs, ty, q1, q2⟩ := h.mem.row i row0 p4 (by rw [Z2N] at hmd; exact hmd)
   exact ⟨cs, ty, by simp only [p2]; exact q1, by rw [Z2b]; simpa using q2⟩
  ·intro k row j x hk hmd hx
   obtain ⟨i, row0, p1, p2, p3, p4, rfl, p5⟩ := hrow hk
   obtain ⟨x0, hx0, rfl⟩ := Z3C hx
   obtain ⟨u, q1, q2, q3⟩ := h.mem.cell i row0 j x0 p4 (by rw [Z2N] at hmd; exact hmd) hx0
   refine ⟨u, by simp only [p2]; exact q1, Z3t q2 fun k hk => hg k (p5 k (Z1x.2 ⟨x0, q7_ hx0, hk⟩)), by rw [Z4c]; exact q3⟩
  ·intro i j hi hj e'
   simp only [Z39] at hi hj
   have := h.mem.inj _ _ (h2 _ (Z2H hi)).1 (h2 _ (Z2H hj)).1 e'
   exact Zc4 hrs hi hj this
  ·intro i hi
   simp only [Z39] at hi
   exact h.mem.apart _ (h2 _ (Z2H hi)).1
  ·intro k row es hk hmd
   obtain ⟨i, row0, p1, p2, p3, p4, rfl, _⟩ := hrow hk
   rw [Z2N] at hmd
   simp only [p2]
   exact h.mem.maps i row0 es p4 hmd
 ·refine ⟨?_, ?_⟩
  ·intro l0 x v hl hu
   have key : ∃ l, Here nt sl a.tmps B β w l x v := by
    rcases hcor l0 x v hl hu with ⟨_, t, _, _, _, _, q, _⟩ | ⟨_, i, j, _, _, _, q⟩
    ·exact ⟨_, q⟩
    ·exact ⟨_, q⟩
   obtain ⟨l, q⟩ := key
   obtain ⟨q1, q2⟩ := h.uns.ok l x v q hu
   refine ⟨q1, fun i hi => ?_⟩
   simp only [Z39] at hi
   exact q2 _ (h2 _ (Z2H hi)).1
  ·intro l l' x x' u u' hl hl' hu hu' e'
   rcases hcor l x u hl hu with ⟨i, t, rfl, hr, p1, p2, p3, _⟩ | ⟨k, i, j, rfl, p1, p2, p3⟩ <;> rcases hcor l' x' u' hl' hu' with ⟨i', t', rfl, _, p1', p2', p3', _⟩ | ⟨k', i', j', rfl, p1', p2', p3'⟩
   ·rw [hinj hr i i' x x' u u' p1 p2 p1' p2' hu hu' e']
   ·have := h.uns.inj _ _ _ _ _ _ p3 p3' hu hu' e'
    simp at this
   ·have := h.uns.inj _ _ _ _ _ _ p3 p3' hu hu' e'
    simp at this
   ·have := h.uns.inj _ _ _ _ _ _ p3 p3' hu hu' e'
    simp only [Loc.box.injEq] at this
    obtain ⟨rfl, rfl⟩ := this
    have hk := (q1_.1 p1).1
    have hk' := (q1_.1 p1').1
    rw [Zc4 hrs hk hk' (by rw [getD_some p1, getD_some p1'])]
 ·intro l0 x v hl hu
  rcases hcor l0 x v hl hu with ⟨_, t, _, _, _, _, q, q'⟩ | ⟨_, i, j, _, _, q', q⟩
  ·refine ⟨_, q, fun t' e' => ?_, fun id j e' => by simp at e'⟩
   cases e'
   exact q'
  ·refine ⟨_, q, fun t e' => by simp at e', fun id j' e' => ?_⟩
   cases e'
   exact q'
theorem Zho {rs : List Nat} {B : List Row} {r2 : List Row} {back : Nat → Nat} {C : List Row} {M : Nat} (hrs : rs.Nodup) (_hrl : ∀ i, i ∈ rs → i < B.length) (hm : rs.length ≤ r2.length) (hM : rs.length ≤ M)
  (hback : ∀ k, back k = if k < rs.length then rs.getD k 0 else B.length + (k - rs.length)) (hC : ∀ q row, C[q]? = some row → rs.length + q < M ∧ ∃ row0, r2[rs.length + q]? = some row0 ∧ row = ZT back row0) :
  ∀ id row, (Z18 B rs ((r2.take rs.length).map (ZT back)) ++ C)[id]? = some row → (id < B.length ∧ id ∉ rs ∧ B[id]? = some row) ∨ (∃ k row0, k < M ∧ r2[k]? = some row0 ∧ row = ZT back row0 ∧ id = back k) := by
 intro id row hrow
 rw [Z3M, Z3F] at hrow
 split at hrow
 ·rename_i hid
  by_cases hin : id ∈ rs
  ·right
   obtain ⟨q1, q2⟩ := Z83 hin
   have hk : rs[rs.idxOf id]? = some id := by
    rw [q9_, q2_ q1] at q2
    rw [q2_ q1]
    simp
   have hlt : rs.idxOf id < r2.length := by omega
   have hr : ((r2.take rs.length).map (ZT back))[rs.idxOf id]? = some (ZT back r2[rs.idxOf id]) := by
    rw [q6_, Z3B, if_pos q1, q2_ hlt]
    rfl
   rw [ZmB rs _ B hrs hid (by simp; omega) hk hr] at hrow
   simp only [ZO] at hrow
   exact ⟨_, _, by omega, q2_ hlt, hrow.symm, by rw [hback, if_pos q1, q2]⟩
  ·left
   rw [Z9L rs _ B hin] at hrow
   exact ⟨hid, hin, hrow⟩
 ·rename_i hid
  right
  obtain ⟨q1, row0, q2, q3⟩ := hC _ row hrow
  refine ⟨_, row0, q1, q2, q3, ?_⟩
  rw [hback, if_neg (by omega)]
  omega
variable (h : Good nt w S β sl B a) (hd : ∀ t, o.dst = some t → t < nt)
include h hd
theorem Z88 {I : Inv} (hI : I w S) (hF : Z2n P I G) {raw : Bool} {g : FuncId} {args : List AV} {vals : Array Value} (hexec : (execOp a.eval o).run P w = (callFunc g vals).run P w) (hs : vals.size = args.length)
  (hrel : ∀ (i : Nat) (x : AV) (v : Value), args[i]? = some x → vals[i]? = some v → ARel w S β B.length x v)
  (hun : raw = true → ∀ (i : Nat) (x : AV) (v : Value), args[i]? = some x → vals[i]? = some v → isUn x = true → ∃ t, Here nt sl a.tmps B β w (.slot t) x v ∧ isUn (get sl' t) = false)
  (hinj : raw = true → ∀ (i j : Nat) (x y : AV) (u v : Value), args[i]? = some x → vals[i]? = some u → args[j]? = some y → vals[j]? = some v → isUn x = true → isUn y = true → Z1g u = Z1g v → i = j)
  (h' : Good nt w S β sl' B a) (hsl : ∀ t, t < nt → get sl' t = get sl t ∨ isUn (get sl' t) = false)
  (hk : callS raw G g args B (fun v B => K v sl' B) = some r) : o.wp P a w (Leaves nt m0 o w S β sl B a K r) Q := by
 obtain ⟨rs, hrs, h1, h2, r', hr', hk⟩ := Ze6 hk
 obtain ⟨he, hcor⟩ := Zhx (sl' := sl') h hs hrel hun hinj hrs h1 h2
 obtain ⟨hpl, hcalls⟩ := hF _ _ _ _ hr' w S _ vals hI he
 unfold Oper.wp
 rw [hexec, ZcG hpl]
 show Calls P g vals w _
 refine hcalls.mono ?_
 intro e w' hpost
 cases e with
 | panicked chain => exact hpost.elim
 | outgrown => exact hpost.elim
 | returned v =>
  obtain ⟨S', β', e, st⟩ := hpost
  simp only [Z39] at st
  obtain ⟨hm, hlow⟩ := st.low (Z1y _)
  show Leaves nt m0 o w S β sl B a K r (a.put o.dst v) w'
  have hrl : ∀ i, i ∈ rs → i < B.length := fun i hi => (h2 i hi).1
  have hp : ∀ k row, k < r'.2.length → r'.2[k]? = some row → ∀ i, i ∈ ZI row → i < r'.2.length := by
   intro k row _ hrow i hi
   obtain ⟨x, hx, hi⟩ := Z1x.1 hi
   obtain ⟨j, hj⟩ := Z62.1 hx
   cases hmd : mdOf row with
   | none =>
    obtain ⟨u, _, q, _⟩ := e.mem.cell k row j x hrow hmd hj
    exact Z8c q i hi
   | some es =>
    rw [Z5u hmd] at hx
    simp only [Z2O] at hx
    subst hx
    simp [ptrs] at hi
  rcases hk with ⟨hb1, hb2, hk⟩ | hk
  ·have hb1 := Z5G hb1
   have hb2 : ∀ k row, k < rs.length → r'.2[k]? = some row → ∀ i, i ∈ ZI row → i < rs.length := by
    intro k row hk hrow
    refine Z5G (Z2w.1 hb2 row ?_)
    refine q7_ (i := k) ?_
    rw [Z3B, if_pos hk]
    exact hrow
   have hB : (r'.2.take rs.length).map (ZT fun id => rs.getD id 0) = (r'.2.take rs.length).map (ZT fun k => if k < rs.length then rs.getD k 0 else B.length + (k - rs.length)) := by
    apply Z78
    intro row hrow
    refine ZcC fun i hi => ?_
    obtain ⟨k, hk⟩ := Z62.1 hrow
    rw [Z3B] at hk
    split at hk
    ·rw [if_pos (hb2 k row ‹_› hk i hi)]
    ·simp at hk
   have hR : Z11 (fun id => rs.getD id 0) r'.1 = Z11 (fun k => if k < rs.length then rs.getD k 0 else B.length + (k - rs.length)) r'.1 := Z7U _ fun i hi => by rw [if_pos (hb1 i hi)]
   rw [hB, hR] at hk
   refine Z9u (M := rs.length) (back := fun k => if k < rs.length then rs.getD k 0 else B.length + (k - rs.length)) (β1 := fun id => if id < B.length then β id else β' (rs.length + (id - B.length)))
    h h' hd hrs hrl hcor hsl e st (Z1y _) hm (by rw [Z3F]; omega) (fun _ => rfl) (fun _ => rfl) ?_ hb1 hb2 hk
   have := Zho (C := []) (M := rs.length) (r2 := r'.2) (back := fun k => if k < rs.length then rs.getD k 0 else B.length + (k - rs.length)) hrs hrl hm (Z1y _) (fun _ => rfl) (by simp)
   simpa using this
  ·refine Z9u (M := r'.2.length) (back := fun k => if k < rs.length then rs.getD k 0 else B.length + (k - rs.length)) (β1 := fun id => if id < B.length then β id else β' (rs.length + (id - B.length)))
    h h' hd hrs hrl hcor hsl e st hm (Z1y _) (by rw [Z2J, Z3F]; simp) (fun _ => rfl) (fun _ => rfl) ?_ (Z8c (e.rel 0 _ v rfl rfl)) hp hk
   refine Zho hrs hrl hm hm (fun _ => rfl) ?_
   intro q row hq
   rw [q6_, Z63] at hq
   obtain ⟨row0, h0, rfl⟩ := q4_.1 hq
   exact ⟨(q1_.1 h0).1, row0, h0, rfl⟩
end
end Go.Abs
end
section
namespace Go.Abs
open Go
theorem Z1u {t : Nat} : ∀ {l : List Operand}, t ∈ tmpsOf l ↔ Operand.tmp t ∈ l
 | [] => by simp [tmpsOf]
 | .tmp u :: r => by simp [tmpsOf, Z1u (l := r)]
 | .const _ :: r => by simp [tmpsOf, Z1u (l := r)]
 | .global _ :: r => by simp [tmpsOf, Z1u (l := r)]
 | .func _ :: r => by simp [tmpsOf, Z1u (l := r)]
theorem Z6h {t : Nat} : ∀ {l : List Operand} {i j : Nat}, distinct (tmpsOf l) = true → l[i]? = some (.tmp t) → l[j]? = some (.tmp t) → i = j
 | [], i, j, _, h, _ => by simp at h
 | x :: r, i, j, hd, hi, hj => by
  have step : distinct (tmpsOf r) = true ∧ (x = .tmp t → .tmp t ∉ r) := by
   cases x with
   | tmp u =>
    simp only [tmpsOf, distinct, q5_, Z79, Zcs, decide_eq_false_iff_not] at hd
    refine ⟨hd.2, fun e hm => ?_⟩
    cases e
    exact hd.1 (Z1u.2 hm)
   | const c => exact ⟨hd, fun e => by cases e⟩
   | global c => exact ⟨hd, fun e => by cases e⟩
   | func c => exact ⟨hd, fun e => by cases e⟩
  cases i with
  | zero =>
   cases j with
   | zero => rfl
   | succ j =>
    simp only [Z2m, ZO] at hi
    simp only [Zab] at hj
    exact absurd (q7_ hj) (step.2 hi)
  | succ i =>
   cases j with
   | zero =>
    simp only [Z2m, ZO] at hj
    simp only [Zab] at hi
    exact absurd (q7_ hi) (step.2 hj)
   | succ j =>
    simp only [Zab] at hi hj
    rw [Z6h step.1 hi hj]
section
variable {P : Program} {H : Hints} {f : FuncId} {G : GF} {nt m0 : Nat} {o : Oper} {w : World} {S : Stay} {β : Nat → Nat} {sl sl' : Sl} {B : List Row} {a : Act}
 {K : AV → Sl → List Row → Option Res} {r : Res} {next : Act → World → Prop} {Q : Exit → Act → World → Prop}
theorem ZaP {t : Nat} : ∀ (l : List Operand) (sl : Sl), Operand.tmp t ∈ l → isUn (get (weakL sl l) t) = false
 | [], _, h => by simp at h
 | x :: r, sl, h => by
  show isUn (get (weakL (weak sl x) r) t) = false
  rcases Z1K.1 h with e | h
  ·rcases ZaO r (weak sl x) t with e1 | e1
   ·rw [e1, ← e]
    show isUn (get ((t, shr (get sl t)) :: sl) t) = false
    rw [Z10, if_pos rfl]
    exact Z1w _
   ·exact e1
  ·exact ZaP r _ h
variable (h : Good nt w S β sl B a) (hd : ∀ t, o.dst = some t → t < nt)
include h hd
omit hd in
theorem ZdB (xs : Array Operand) : (xs.map a.eval).size = (evs sl xs).length ∧ ∀ (i : Nat) (x : AV) (v : Value), (evs sl xs)[i]? = some x → (xs.map a.eval)[i]? = some v →
  ARel w S β B.length x v ∧ ∃ y, xs.toList[i]? = some y ∧ x = ev sl y ∧ v = a.eval y := by
 unfold evs
 refine ⟨by simp, ?_⟩
 intro i x v hx hv
 rw [q6_] at hx
 obtain ⟨y, hy, rfl⟩ := q4_.1 hx
 rw [Zcw] at hv
 obtain ⟨y', hy', rfl⟩ := q4_.1 hv
 have : xs.toList[i]? = some y' := by simpa using hy'
 rw [hy] at this
 cases this
 exact ⟨h.ev y, y, hy, rfl, rfl⟩
theorem ZdQ {I : Inv} (hI : I w S) (hF : Z2n P I G) {c : Call} {g : FuncId} (ho : o.op = .call c) (hc : c.callee = .value (.func g)) (hdis : (H.raw g && !distinct (tmpsOf c.args.toList)) = false)
  (hk : callS (H.raw g) G g (evs sl c.args) B (fun v B => K v (if H.raw g then weakL sl c.args.toList else sl) B) = some r) : o.wp P a w (Leaves nt m0 o w S β sl B a K r) Q := by
 obtain ⟨e1, e2⟩ := ZdB h c.args
 have hexec : (execOp a.eval o).run P w = (callFunc g (c.args.map a.eval)).run P w := by
  unfold execOp
  simp only [ho]
  show ((resolve a.eval c o.type).bind fun d => invoke d.target d.args).run P w = _
  unfold resolve
  simp only [hc]
  show (invoke (.fn (.func g) #[]) (#[] ++ c.args.map a.eval)).run P w = _
  unfold invoke
  simp
 cases hr : H.raw g with
 | false =>
  rw [hr] at hk
  exact Z88 (sl' := sl) h hd hI hF hexec e1 (fun i x v hx hv => (e2 i x v hx hv).1) (fun e => by simp at e) (fun e => by simp at e) h (fun _ _ => .inl rfl) hk
 | true =>
  rw [hr] at hk hdis
  simp only [Z8a, Bool.not_eq_false'] at hdis
  refine Z88 (sl' := weakL sl c.args.toList) h hd hI hF hexec e1 (fun i x v hx hv => (e2 i x v hx hv).1) (fun _ i x v hx hv hu => ?_) (fun _ i j x y u v hx hu' hy hv hux huy hb => ?_) (h.weakL _) (fun t _ => ZaO _ sl t) hk
  ·obtain ⟨_, y, hy, rfl, rfl⟩ := e2 i x v hx hv
   obtain ⟨t, rfl, htn, here⟩ := Z3v h hu
   exact ⟨t, here, ZaP _ _ (q7_ hy)⟩
  ·obtain ⟨_, p, hp, rfl, rfl⟩ := e2 i x u hx hu'
   obtain ⟨_, q, hq, rfl, rfl⟩ := e2 j y v hy hv
   obtain ⟨t, rfl, _, here⟩ := Z3v h hux
   obtain ⟨t', rfl, _, here'⟩ := Z3v h huy
   have := h.uns.inj _ _ _ _ _ _ here here' hux huy hb
   simp only [Loc.slot.injEq] at this
   subst this
   exact Z6h hdis hp hq
theorem Zi3 {I : Inv} (hI : I w S) (hF : Z2n P I G) {c : Call} {g : FuncId} {near : Bool} (ho : o.op = .call c) (hc : c.callee = .value (.func g)) (hdis : (H.raw g && !distinct (tmpsOf c.args.toList)) = false)
  (hk : callQ near (H.raw g) G g (evs sl c.args) B (fun v B => K v (if H.raw g then weakL sl c.args.toList else sl) B) = some r) : o.wp P a w (Leaves nt m0 o w S β sl B a K r) Q := by
 cases near with
 | false => exact ZdQ h hd hI hF ho hc hdis hk
 | true =>
  have Z3H : ∀ {b : Bool} {x : Option Res}, grd b x = some r → x = some r := by
   intro b x hx
   unfold grd hi at hx
   cases b
   ·simp at hx
   ·simpa using hx
  have hk' := Z3H (x := callS (H.raw g) G g (evs sl c.args) B fun v B' => grd (Nat.beq B'.length B.length) (K v (if H.raw g then weakL sl c.args.toList else sl) B')) hk
  refine Oper.wp_mono ?_ (ZdQ (m0 := m0) (K := fun v sl' B' => grd (Nat.beq B'.length B.length) (K v sl' B')) h hd hI hF ho hc hdis hk')
  rintro a' w' ⟨x, sl', B', S', β', h1, h2⟩
  exact ⟨x, sl', B', S', β', Z3H h1, h2⟩
theorem Zi4 {I : Inv} (hI : I w S) (hF : Z2n P I G) {c : Call} {x : Operand} (ho : o.op = .call c) (hc : c.callee = .value x) (hk : callV H G (ev sl x) (evs sl c.args) B (fun v B => K v sl B) = some r) :
  o.wp P a w (Leaves nt m0 o w S β sl B a K r) Q := by
 obtain ⟨e1, e2⟩ := ZdB h c.args
 have hx := h.ev x
 unfold callV at hk
 split at hk
 ·rename_i g first cap heq
  split at hk
  ·simp at hk
  ·rw [heq] at hx
   obtain ⟨u, hue⟩ : ∃ u, a.eval x = u := ⟨_, rfl⟩
   rw [hue] at hx
   cases hx with
   | clo _ _ _ a1 a2 h1 h2 h3 h4 h5 =>
    have hexec : (execOp a.eval o).run P w = (callFunc g ((a1 ++ c.args.map a.eval) ++ a2)).run P w := by
     unfold execOp
     simp only [ho]
     show ((resolve a.eval c o.type).bind fun d => invoke d.target d.args).run P w = _
     unfold resolve
     simp only [hc, hue]
     rfl
    refine Z88 (sl' := sl) h hd hI hF hexec (by simp [h1, h2]; simpa using e1) ?_ (fun e => by simp at e) (fun e => by simp at e) h (fun _ _ => .inl rfl) hk
    intro i y v hy hv
    rw [Z3M] at hy
    rw [Z7a] at hv
    have hsz : (a1 ++ Array.map a.eval c.args).size = (first ++ evs sl c.args).length := by rw [Zae, Z2J, h1, e1]
    split at hy
    ·rename_i hlt
     rw [hsz, if_pos hlt] at hv
     rw [Z3M] at hy
     rw [Z7a, h1] at hv
     split at hy
     ·rename_i hlt'
      rw [if_pos hlt'] at hv
      exact h3 i y v hy hv
     ·rename_i hlt'
      rw [if_neg hlt'] at hv
      exact (e2 _ y v hy hv).1
    ·rename_i hlt
     rw [hsz, if_neg hlt] at hv
     exact h4 _ y v hy hv
 ·simp at hk
theorem Zfy {I : Inv} (hI : I w S) (hF : Z2n P I G) (hk : stepOp P H f G o sl B K = some r) : o.wp P a w (Leaves nt m0 o w S β sl B a K r) Q := by
 unfold stepOp at hk
 split at hk
 ·exact ZdR h hd (.inl ‹_›) hk
 ·exact ZdR h hd (.inr ‹_›) hk
 ·exact Zki h hd ‹_› hk
 ·exact Zi1 h hd ‹_› hk
 ·exact Zm5 h hd ‹_› hk
 ·obtain ⟨v, hv, hk⟩ := ZH hk
  exact Zi2 h hd ‹_› hv hk
 ·obtain ⟨v, hv, hk⟩ := ZH hk
  exact Zm8 h hd ‹_› hv (u := Z3f H f o.dst) hk
 ·split at hk
  ·obtain ⟨s, hs, hk⟩ := ZH hk
   obtain ⟨d, i, hu, hi, hsz, hag, h1⟩ := Z3E (b := s.1) (n := s.2) hs
   split at hk
   ·simp at hk
   ·rename_i hs1
    exact Zfi h hd ‹_› hu (by rw [← hag]; simpa using hs1) hk
  ·obtain ⟨s, hs, hk⟩ := ZH hk
   obtain ⟨v, hv, hk⟩ := ZH hk
   exact Zkf h hd ‹_› (ag := s.1) (k := s.2) hs hv hk
 ·obtain ⟨s, hs, hk⟩ := ZH hk
  exact Zi8 h hd ‹_› (ag := s.1) (n := s.2) hs hk
 ·obtain ⟨v, hv, hk⟩ := ZH hk
  exact Zha h hd ‹_› hv hk
 ·split at hk
  ·split at hk
   ·obtain ⟨v, hv, hk⟩ := ZH hk
    exact Zm9 h hd ‹_› hv hk
   ·obtain ⟨v, hv, hk⟩ := ZH hk
    exact Zh5 h hd ‹_› hv hk
  ·obtain ⟨v, hv, hk⟩ := ZH hk
   exact Zh5 h hd ‹_› hv hk
 ·obtain ⟨v, hv, hk⟩ := ZH hk
  exact Zmz h hd ‹_› hv hk
 ·rename_i s d x ho
  split at hk
  ·rename_i hsd
   have := Nat.eq_of_beq_eq_true hsd
   subst this
   obtain ⟨v, hv, hk⟩ := ZH hk
   exact Zkj h hd ho hv hk
  ·obtain ⟨v, hv, hk⟩ := ZH hk
   exact Zh6 h hd ho hv hk
 ·exact Zke h hd ‹_› hk
 ·split at hk
  ·split at hk
   ·simp at hk
   ·obtain ⟨v, hv, hk⟩ := ZH hk
    rename_i hmx
    exact Zhb h hd ‹_› ‹_› (Bool.eq_false_iff.2 ‹_›) hv hk
  ·split at hk
   ·simp at hk
   ·rename_i hmh
    obtain ⟨v, hv, hk⟩ := ZH hk
    refine Zi7 h hd ‹_› hv (fun e => ?_) hk
    rw [e, Z8a, Z79, Bool.not_eq_false] at hmh
    exact hmh
 ·obtain ⟨off, hoff, hk⟩ := ZH hk
  obtain ⟨v, hv, hk⟩ := ZH hk
  exact Zi5 h hd ‹_› hoff hv hk
 ·split at hk
  ·obtain ⟨fl, hfl, hk⟩ := ZH hk
   obtain ⟨s, hs, hk⟩ := ZH hk
   obtain ⟨v, hv, hk⟩ := ZH hk
   exact Zkh h hd ‹_› ‹_› hfl (ag := s.1) (n := s.2) hs hv hk
  ·simp at hk
 ·split at hk
  ·split at hk
   ·obtain ⟨v, hv, hk⟩ := ZH hk
    exact Zkd h hd ‹_› ‹_› hv ‹_› hk
   ·simp at hk
  ·obtain ⟨v, hv, hk⟩ := ZH hk
   exact Zi6 h hd ‹_› hv hk
 ·obtain ⟨v, hv, hk⟩ := ZH hk
  exact Zmy h hd ‹_› hv hk
 ·exact Zfj h hd ‹_› hk
 ·obtain ⟨v, hv, hk⟩ := ZH hk
  exact Zh9 h hd ‹_› hv hk
 ·exact Zcg h hd ‹_› hk
 ·exact Zh8 h hd ‹_› hk
 ·obtain ⟨v, hv, hk⟩ := ZH hk
  exact Zfh h hd ‹_› hv hk
 ·rename_i c ho
  split at hk
  ·split at hk
   ·split at hk
    ·obtain ⟨v, hv, hk⟩ := ZH hk
     exact Zkg h hd ho ‹_› ‹_› ‹_› ‹_› hv hk
    ·obtain ⟨v, hv, hk⟩ := ZH hk
     exact Zm7 h hd ho ‹_› ‹_› ‹_› hv hk
   ·simp at hk
  ·split at hk
   ·exact Zh7 h hd ho ‹_› ‹_› ‹_› hk
   ·simp at hk
  ·split at hk
   ·split at hk
    ·simp at hk
    ·obtain ⟨v, hv, hk⟩ := ZH hk
     exact Zh4 h hd ho ‹_› ‹_› ‹_› (Bool.eq_false_iff.2 ‹_›) hv hk
   ·simp at hk
  ·obtain ⟨v, hv, hk⟩ := ZH hk
   exact ZaL h hd (mx := true) ho ‹_› hv hk
  ·obtain ⟨v, hv, hk⟩ := ZH hk
   exact ZaL h hd (mx := false) ho ‹_› hv hk
  ·split at hk
   ·simp at hk
   ·rename_i hdis
    exact Zi3 h hd hI hF ho ‹_› (by simpa using hdis) hk
  ·exact Zi4 h hd hI hF ho ‹_› hk
  ·simp at hk
 ·simp at hk
end
end Go.Abs
end
