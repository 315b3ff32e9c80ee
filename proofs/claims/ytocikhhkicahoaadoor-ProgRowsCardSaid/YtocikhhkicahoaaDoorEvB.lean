/- The evaluator: memory, conversions, maps, appends and calls. No condition. -/
import Derived.Test.YtocikhhkicahoaaDoorEvA
import Derived.Great.BuildSlice
import Derived.Laws.IdiomStrings
import Derived.Laws.AppendOwn

set_option linter.unusedSimpArgs false
set_option linter.unusedVariables false
set_option linter.defProp false
section
namespace Go.Abs
open Go
structure Set1 (w w':World) (b:Nat) (arr:Array Value):Prop where
 heap:∃ ty,w'.heap[b]? = some (.cells arr ty (0,0))
 other:∀ k,k ≠ b → w'.heap[k]? = w.heap[k]?
 size:w'.heap.size = w.heap.size
 os:w'.os = w.os
 tape:w'.tape = w.tape
 output:w'.output = w.output
theorem Zja {w:World} {b:Nat} {cs:Array Value} {ty:TypeId} (h:w.heap[b]? = some (.cells cs ty (0,0))) (arr:Array Value):Set1 w (w.setRow b arr) b arr :=
 ⟨⟨ty,setRow_heap w b cs arr ty (0,0) h⟩,fun k hk => setRow_other w b k arr hk,by simp,rfl,rfl,rfl⟩
theorem Zbe {w:World} {b:Nat} {cs:Array Value} {ty:TypeId} (h:w.heap[b]? = some (.cells cs ty (0,0))):Set1 w w b cs:=⟨⟨ty,h⟩,fun _ _ => rfl,rfl,rfl,rfl,rfl⟩
theorem Zgk {B:List Row} {id i:Nat} {row r:Row} (h:(B.set id row)[i]? = some r):(i = id ∧ r = row ∧ id < B.length) ∨ (i ≠ id ∧ B[i]? = some r):=by
 rw [Z8u] at h
 split at h
 ·rename_i e
  split at h
  ·simp only [q1_] at h; exact .inl ⟨e.symm,h.symm,‹_›⟩
  ·simp at h
 ·rename_i e
  exact .inr ⟨fun e' => e e'.symm,h⟩
section
variable {nt m0:Nat} {w w':World} {S:Stay} {β:Nat → Nat} {sl:Sl} {B:List Row} {a:Act} {id:Nat} {row:Row} {arr:Array Value}
theorem Good.setBox {j0:Nat} {x0:AV} {v0:Value} (h:Good nt w S β sl B a) (hid:id < B.length) (hset:Set1 w w' (β id) arr) (hs:arr.size = row.length)
  (hr:∀ (j:Nat) (x:AV) (v:Value),row[j]? = some x → arr[j]? = some v → ARel w S β B.length x v ∧ Z3g x = true ∧
   (isUn x = true → (∃ r0,B[id]? = some r0 ∧ r0[j]? = some x ∧ w.cell? ⟨β id,j,none⟩ = some v) ∨ (j = j0 ∧ x = x0 ∧ v = v0)))
  (h0:isUn x0 = true → UnOk w S x0 v0 ∧ (∀ i,i < B.length → Z3U v0 ≠ some (β i)) ∧ ∀ l y u,Here nt sl a.tmps B β w l y u → isUn y = true → ¬ ZcR u v0) :
  Good nt w' S β sl (B.set id row) a ∧ (∀ b,UB (Here nt sl a.tmps (B.set id row) β w') b → UB (Here nt sl a.tmps B β w) b ∨ (isUn x0 = true ∧ Z3U v0 = some b)):=by
 have hnS:∀ o,¬ S (β id) o:=h.mem.apart id hid
 have hcellS:∀ b o,S b o → w'.cell? ⟨b,o,none⟩ = w.cell? ⟨b,o,none⟩:=by
  intro b o hb
  refine cell_of_heap (hset.other b ?_)
  rintro rfl
  exact hnS o hb
 have hk:Keeps w S w' S:=⟨fun _ _ h => h,hcellS⟩
 have hne:∀ i,i < B.length → i ≠ id → β i ≠ β id:=fun i hi hne e => hne (h.mem.inj i id hi hid e)
 have hlen:(B.set id row).length = B.length:=by simp
 obtain ⟨ty,hty⟩:=hset.heap
 have hcell:∀ j,w'.cell? ⟨β id,j,none⟩ = arr[j]?:=fun j => Z6s hty
 have hoc:∀ i,i < B.length → i ≠ id → ∀ j,w'.cell? ⟨β i,j,none⟩ = w.cell? ⟨β i,j,none⟩:=fun i hi hn j => cell_of_heap (hset.other _ (hne i hi hn))
 have back:∀ l x v,Here nt sl a.tmps (B.set id row) β w' l x v → isUn x = true → Here nt sl a.tmps B β w l x v ∨ (l = .box id j0 ∧ x = x0 ∧ v = v0):=by
  intro l x v hl hu
  cases l with
  | slot t => exact .inl hl
  | box i j =>
   obtain ⟨r,q1,q2,q3⟩:=hl
   rcases Zgk q1 with ⟨rfl,rfl,_⟩ | ⟨hn,q⟩
   ·rw [hcell] at q3
    rcases (hr j x v q2 q3).2.2 hu with ⟨r0,k1,k2,k3⟩ | ⟨rfl,rfl,rfl⟩
    ·exact .inl ⟨r0,k1,k2,k3⟩
    ·exact .inr ⟨rfl,rfl,rfl⟩
   ·rw [hoc i (q2_.1 q).1 hn] at q3
    exact .inl ⟨r,q,q2,q3⟩
 have ok':∀ x v,UnOk w S x v → (∀ i,i < B.length → Z3U v ≠ some (β i)) → UnOk w' S x v:=by
  intro x v hok hb
  refine hok.world hk fun b hbb => ⟨hset.other b ?_,fun _ h => h⟩
  rintro rfl
  exact hb id hid hbb
 refine ⟨⟨h.size,h.defers,?_,h.high,?_,?_⟩,?_⟩
 ·intro t ht
  exact (h.slots t ht).keeps hk (fun _ _ => rfl) (by rw [hlen]; exact Z2x _)
 ·refine ⟨?_,?_,?_,?_,?_,?_⟩
  ·intro i r hi hm
   rcases Zgk hi with ⟨rfl,rfl,_⟩ | ⟨hn,q⟩
   ·exact ⟨arr,ty,hty,hs⟩
   ·obtain ⟨cs,ty',q1,q2⟩:=h.mem.row i r q hm
    exact ⟨cs,ty',(hset.other _ (hne i (q2_.1 q).1 hn)).trans q1,q2⟩
  ·intro i r j x hi hm hx
   rcases Zgk hi with ⟨rfl,rfl,_⟩ | ⟨hn,q⟩
   ·have hj:j < arr.size:=by rw [hs]; exact (q2_.1 hx).1
    obtain ⟨q1,q2,_⟩:=hr j x arr[j] hx (by simp [hj])
    exact ⟨arr[j],by rw [hcell]; simp [hj],q1.keeps hk (fun _ _ => rfl) (by rw [hlen]; exact Z2x _),q2⟩
   ·obtain ⟨v,q1,q2,q3⟩:=h.mem.cell i r j x q hm hx
    exact ⟨v,(hoc i (q2_.1 q).1 hn j).trans q1,q2.keeps hk (fun _ _ => rfl) (by rw [hlen]; exact Z2x _),q3⟩
  ·intro i j hi hj; rw [hlen] at hi hj; exact h.mem.inj i j hi hj
  ·intro i hi; rw [hlen] at hi; exact h.mem.apart i hi
  ·intro b o hb; rw [hset.size]; exact h.mem.stay b o hb
  ·intro i r es hi hm
   rcases Zgk hi with ⟨rfl,rfl,_⟩ | ⟨hn,q⟩
   ·have e:=ZeN hm
    have hj:0 < arr.size:=by rw [hs,e]; simp
    obtain ⟨_,q2,_⟩:=hr 0 (.md es) arr[0] (by rw [e]; rfl) (by simp [hj])
    simp [Z3g] at q2
   ·exact (h.mem.maps i r es q hm).keeps hk (hset.other _ (hne i (q2_.1 q).1 hn))
 ·refine ⟨?_,?_⟩
  ·intro l x v hl hu
   rw [hlen]
   rcases back l x v hl hu with hb | ⟨rfl,rfl,rfl⟩
   ·obtain ⟨q1,q2⟩:=h.uns.ok l x v hb hu
    exact ⟨ok' x v q1 q2,q2⟩
   ·obtain ⟨q1,q2,_⟩:=h0 hu
    exact ⟨ok' _ _ q1 q2,q2⟩
  ·intro l l' x x' v v' hl hl' hu hu' e
   rcases back l x v hl hu with hb | ⟨rfl,rfl,rfl⟩ <;> rcases back l' x' v' hl' hu' with hb' | ⟨rfl,rfl,rfl⟩
   ·exact h.uns.inj l l' x x' v v' hb hb' hu hu' e
   ·exact absurd e ((h0 hu').2.2 l x v hb hu)
   ·exact absurd e.symm ((h0 hu).2.2 l' x' v' hb' hu')
   ·rfl
 ·rintro b ⟨l,x,v,hl,hu,hb⟩
  rcases back l x v hl hu with hb' | ⟨rfl,rfl,rfl⟩
  ·exact .inl ⟨l,x,v,hb',hu,hb⟩
  ·exact .inr ⟨hu,hb⟩
theorem Zm8 {U U':Nat → Prop} (h:Mem w S β B) (hid:id < B.length) (hset:Set1 w w' (β id) arr) (hU:∀ b,U' b → U b):Step m0 w S β B.length U w' S β B.length U':=by
 refine ⟨⟨fun _ _ h => h,fun b o hb => cell_of_heap (hset.other b ?_)⟩,by rw [hset.size]; exact Z2x _,hset.os,hset.tape,hset.output,fun h => ⟨h,fun _ _ => rfl⟩,fun i hi => .inl ⟨i,hi,rfl,fun x => x⟩,
  fun b hb => .inl (hU b hb),fun _ _ hs => .inl hs,fun b _ hb _ => hset.other b (hb id hid)⟩
 rintro rfl
 exact h.apart id hid o hb
end
theorem ZnC:∀ (cs:List AV) (row:Row) (off:Nat),(setAt row off cs).length = row.length
 | [],_,_ => rfl
 | c :: cs,row,off => by rw [setAt,ZnC cs]; simp
theorem ZjM:∀ (cs:List AV) (row:Row) (off j:Nat),off + cs.length ≤ row.length → (setAt row off cs)[j]? = if off ≤ j ∧ j < off + cs.length then cs[j - off]? else row[j]?
 | [],row,off,j,_ => by
  simp only [setAt,q8_,ZbF]
  rw [if_neg (by omega)]
 | c :: cs,row,off,j,h => by
  simp only [q5_] at h
  rw [setAt,ZjM cs (row.set off c) (off + 1) j (by simp; omega)]
  simp only [q5_]
  by_cases e:j = off
  ·subst e
   rw [if_neg (by omega),if_pos (by omega)]
   have:j < row.length:=by omega
   simp [this]
  ·by_cases h1:off ≤ j ∧ j < off + (cs.length + 1)
   ·rw [if_pos (by omega),if_pos h1]
    obtain ⟨k,hk⟩:∃ k,j - off = k + 1:=⟨j - off - 1,by omega⟩
    rw [hk,show j - (off + 1) = k by omega]
    simp
   ·rw [if_neg (by omega),if_neg h1,Z8u]
    rw [if_neg (fun e' => e e'.symm)]
theorem ZcH (cur:Array Value) (vs:List Value) (p j:Nat) (h:p + vs.length ≤ cur.size) :
  (cur.toList.take p ++ vs ++ cur.toList.drop (p + vs.length)).toArray[j]? = if p ≤ j ∧ j < p + vs.length then vs[j - p]? else cur[j]?:=by
 have hl:(cur.toList.take p).length = p:=by simp; omega
 simp only [Zt8]
 rcases Z9X j p with h1 | h1
 ·rw [if_neg (by omega),Zaz,ZdB (by omega),Zet,if_pos h1]
  simp
 ·rw [Zaz,ZbU (by omega),hl]
  rcases Z9X j (p + vs.length) with h2 | h2
  ·rw [if_pos ⟨h1,h2⟩,ZdB (by omega)]
  ·rw [if_neg (by omega),ZbU (by omega),Zka]
   rw [show p + vs.length + (j - p - vs.length) = j by omega]
   simp
theorem Zil (cur:Array Value) (vs:List Value) (p:Nat) (h:p + vs.length ≤ cur.size):(cur.toList.take p ++ vs ++ cur.toList.drop (p + vs.length)).toArray.size = cur.size:=by
 simp; omega
theorem Zik {v:Value} (h:cellV v = true):v.oneCell' = true:=by
 cases v <;> first | rfl | (simp [cellV] at h)
section
variable {P:Program} {H:Hints} {f:FuncId} {G:GF} {nt m0:Nat} {o:Oper} {w:World} {S:Stay} {β:Nat → Nat} {sl:Sl} {B:List Row} {a:Act}
 {K:AV → Sl → List Row → Option Res} {r:Res} {next:Act → World → Prop} {Q:Exit → Act → World → Prop}
variable (h:Good nt w S β sl B a) (hd:∀ t,o.dst = some t → t < nt)
include h hd
theorem ZDG {t:TypeId} {x y:Operand} {ag:Bool} {n:Nat} (ho:o.op = .store t x y) (hs:shape P t = some (ag,n)) (hk:stN n (ev sl x) (ev sl y) B (fun B => K jk (weak sl y) B) = some r) :
  o.wp P a w (Leaves nt m0 o w S β sl B a K r) Q:=by
 obtain ⟨d,i,hu,hi,hsz,hag,h1⟩:=Z9a hs
 have hx:=h.ev x
 have hy:=h.ev y
 unfold stN at hk
 split at hk
 ·rename_i id off heq
  obtain ⟨row,hrow,hk⟩:=ZR hk
  rw [heq] at hx
  obtain ⟨u,hue⟩:∃ u,a.eval x = u:=⟨_,rfl⟩
  rw [hue] at hx
  cases hx with
  | ptr _ _ hid =>
   dsimp only at hk
   split at hk
   ·rename_i hc
    obtain ⟨hmd,ht,hcn,hle⟩:=hc
    have hmd:mdOf row = none:=by simpa using hmd
    obtain ⟨c1,c2⟩:=Za4 hy ht
    obtain ⟨cs,ty,hheap,hcs⟩:=h.mem.row id row hrow hmd
    have hcell:∀ j,w.cell? ⟨β id,j,none⟩ = cs[j]?:=fun j => Z6s hheap
    have hsize:(a.eval y).cells.size = n:=by rw [c1,hcn]
    have hone:∀ v,v ∈ (a.eval y).cells.toList → v.oneCell' = true:=by
     intro v hv
     obtain ⟨j,hj⟩:=ZcK.1 hv
     have hj':(a.eval y).cells[j]? = some v:=by simpa using hj
     have hlt:j < (Z2k (ev sl y)).length:=by rw [← c1]; exact (Z8t.1 hj').1
     obtain ⟨q1,q2,_⟩:=c2 j _ v (q4_ hlt) hj'
     exact Zik (q1.cellV q2)
    have hst:=run_storeCells_at P (β id) off ty (a.eval y).cells.toList 0 cs w hheap (by simp [hsize,hcs]; omega) hone
    simp only [ZbF] at hst
    have hfit:off + (a.eval y).cells.toList.length ≤ cs.size:=by simp [hsize,hcs]; omega
    have hrun:(execOp a.eval o).run P w = .ok .skip (w.setRow (β id) (cs.toList.take off ++ (a.eval y).cells.toList ++ cs.toList.drop (off + (a.eval y).cells.toList.length)).toArray):=by
     unfold execOp
     simp only [ho,hue]
     show ((Instr.storeAt t (.pointer (some ⟨β id,off,none⟩)) (a.eval y)).bind fun _ => Sem.pure Next.skip).run P w = _
     rw [Sem.run_bind']
     unfold Instr.storeAt storeVar
     simp only [Instr.sureAddr,Sem.run_bind,Sem.run_pure,Result.andThen_ok,run_sizeOf hi,hsz,hsize]
     simp [hst]
    have hcsl:(Z2k (ev sl y)).length = (a.eval y).cells.toList.length:=by simp [c1]
    have hw:=h.weak y
    obtain ⟨hg,hU⟩:=Good.setBox (j0:=off) (x0:=ev sl y) (v0:=a.eval y) (row:=setAt row off (Z2k (ev sl y))) hw hid (Zja hheap _) (by rw [Zil _ _ _ hfit,ZnC,hcs]) (by
      intro j z v hz hv
      rw [ZjM _ _ _ _ (by rw [hcsl]; omega),hcsl] at hz
      rw [ZcH _ _ _ _ hfit] at hv
      by_cases hj:off ≤ j ∧ j < off + (a.eval y).cells.toList.length
      ·rw [if_pos hj] at hz hv
       obtain ⟨q1,q2,q3⟩:=c2 (j - off) z v hz (by simpa using hv)
       refine ⟨q1,q2,fun hun => .inr ?_⟩
       obtain ⟨e1,e2,e3⟩:=q3 hun
       have:(a.eval y).cells.toList.length = 1:=by rw [← hcsl,e1]; rfl
       exact ⟨by omega,e2,e3⟩
      ·rw [if_neg hj] at hz hv
       obtain ⟨v',q1,q2,q3⟩:=h.mem.cell id row j z hrow hmd hz
       rw [hcell,hv] at q1
       cases q1
       exact ⟨q2,q3,fun _ => .inl ⟨row,hrow,hz,by rw [hcell,hv]⟩⟩) (by
      intro hun
      obtain ⟨t',rfl,htn,here⟩:=Zd1 h hun
      obtain ⟨k1,k2⟩:=h.uns.ok _ _ _ here hun
      exact ⟨k1,k2,Zma h hun⟩)
    refine Zww hrun ⟨jk,weak sl y,_,S,β,hk,hg.put hd (ARel.junk _) rfl,?_⟩
    have hlen:(B.set id (setAt row off (Z2k (ev sl y)))).length = B.length:=by simp
    rw [hlen]
    refine Zm8 h.mem hid (Zja hheap _) fun b hb => ?_
    have hb:=UB.put h.size hd (x:=jk) rfl b hb
    rcases hU b hb with hb | ⟨q1,q2⟩
    ·exact UB.reslot (fun t _ => Zgn sl y t) b hb
    ·obtain ⟨t',rfl,htn,here⟩:=Zd1 h q1
     exact ⟨_,_,_,here,q1,q2⟩
   ·simp at hk
 ·simp at hk
theorem Zza {t:TypeId} {x:Operand} {d:TypeDesc} (ho:o.op = .load t x) (hu:P.underlying t = some d) (ha:aggT d = false) (hk:ldOwn (ev sl x) B (fun v B => K v sl B) = some r) :
  o.wp P a w (Leaves nt m0 o w S β sl B a K r) Q:=by
 have hx:=h.ev x
 unfold ldOwn at hk
 split at hk
 ·rename_i id off heq
  obtain ⟨row,hrow,hk⟩:=ZR hk
  have hmd:mdOf row = none:=by
   cases hd:mdOf row with
   | none => rfl
   | some es => simp [hd] at hk
  rw [if_neg (by simp [hmd])] at hk
  obtain ⟨c,hc,hk⟩:=ZR hk
  rw [heq] at hx
  obtain ⟨u,hue⟩:∃ u,a.eval x = u:=⟨_,rfl⟩
  rw [hue] at hx
  cases hx with
  | ptr _ _ hid =>
   obtain ⟨v,hcv,hrel,hcellA⟩:=h.mem.cell id row off c hrow hmd hc
   obtain ⟨cs,ty,hheap,hcs⟩:=h.mem.row id row hrow hmd
   have hcell:∀ j,w.cell? ⟨β id,j,none⟩ = cs[j]?:=fun j => Z6s hheap
   have hrun:(execOp a.eval o).run P w = .ok (.value v) w:=by
    unfold execOp
    simp only [ho,hue]
    show ((Instr.loadAt t (.pointer (some ⟨β id,off,none⟩))).bind fun x => Sem.pure (Next.value x)).run P w = _
    rw [Sem.run_bind']
    unfold Instr.loadAt
    simp [Instr.sureAddr,Z9i hu ha hcv]
   have hoff:off < row.length:=(q2_.1 hc).1
   obtain ⟨hg,hU⟩:=Good.setBox (j0:=off) (x0:=jk) (v0:=undef) (row:=row.set off (shr c)) h hid (Zbe hheap) (by simp [hcs]) (by
     intro j z u hz hu'
     rw [Z8u] at hz
     split at hz
     ·rename_i e
      subst e
      simp only [q1_] at hz
      subst hz
      rw [hcell,hu'] at hcv
      cases hcv
      exact ⟨hrel.shr,Zk8 hcellA,fun hun => absurd (Z4p c) (by simp [hun])⟩
     ·obtain ⟨v',q1,q2,q3⟩:=h.mem.cell id row j z hrow hmd hz
      rw [hcell,hu'] at q1
      cases q1
      exact ⟨q2,q3,fun _ => .inl ⟨row,hrow,hz,by rw [hcell,hu']⟩⟩) (by intro hun; simp [isUn,jk] at hun)
   have hlen:(B.set id (row.set off (shr c))).length = B.length:=by simp
   have here:Here nt sl a.tmps B β w (.box id off) c v:=⟨row,hrow,hc,hcv⟩
   have hgone:∀ l y q,Here nt sl a.tmps (B.set id (row.set off (shr c))) β w l y q → isUn y = true → Here nt sl a.tmps B β w l y q ∧ l ≠ .box id off:=by
    intro l y q hl hy
    cases l with
    | slot t => exact ⟨hl,by simp⟩
    | box i j =>
     obtain ⟨r',q1,q2,q3⟩:=hl
     rcases Zgk q1 with ⟨rfl,rfl,_⟩ | ⟨hn,q⟩
     ·rw [Z8u] at q2
      split at q2
      ·rename_i e
       simp only [q1_] at q2
       rw [← q2,Z4p] at hy
       simp at hy
      ·rename_i e
       exact ⟨⟨row,hrow,q2,q3⟩,by simp; exact fun e' => e e'.symm⟩
     ·exact ⟨⟨r',q,q2,q3⟩,by simp; exact fun e' => absurd e' hn⟩
   have hrel':ARel w S β (B.set id (row.set off (shr c))).length c v:=by rw [hlen]; exact hrel
   cases hdd:o.dst with
   | none =>
    refine Z2p hrun ⟨c,sl,_,S,β,hk,by rw [hdd]; exact hg,?_⟩
    rw [hlen,hdd]
    refine Zm8 h.mem hid (Zbe hheap) fun b hb => ?_
    rcases hU b hb with hb | ⟨q1,_⟩
    ·exact hb
    ·simp [isUn,jk] at q1
   | some dd =>
    have hdn:=hd dd hdd
    refine Z2p hrun ⟨c,sl,_,S,β,hk,?_,?_⟩
    ·rw [hdd]
     refine hg.putUn hdn hrel' (fun hun => ?_) (fun l y q hl hy hun e => ?_)
     ·rw [hlen]; exact h.uns.ok _ _ _ here hun
     ·obtain ⟨k1,k2⟩:=hgone l y q hl hy
      exact k2 (h.uns.inj l _ y c q v k1 here hy hun e)
    ·rw [hlen,hdd]
     refine Zm8 h.mem hid (Zbe hheap) fun b hb => ?_
     rcases UB.putUn h.size hdn b hb with hb | ⟨q1,q2⟩
     ·rcases hU b hb with hb | ⟨q1,_⟩
      ·exact hb
      ·simp [isUn,jk] at q1
     ·exact ⟨_,_,_,here,q1,q2⟩
 ·simp at hk
end
end Go.Abs
end
section
namespace Go.Abs
open Go
theorem ZvC:∀ (vs:List Value) (k off:Nat) (arr:Array Value) (j:Nat),off + k + vs.length ≤ arr.size →
  ((vs.zipIdx k).foldl (fun cs (q:Value × Nat) => cs.setIfInBounds (off + q.2) q.1) arr)[j]? = (if off + k ≤ j ∧ j < off + k + vs.length then vs[j - (off + k)]? else arr[j]?) ∧
  ((vs.zipIdx k).foldl (fun cs (q:Value × Nat) => cs.setIfInBounds (off + q.2) q.1) arr).size = arr.size
 | [],k,off,arr,j,_ => by
  simp only [List.zipIdx_nil,List.foldl_nil,q8_,ZbF]
  rw [if_neg (by omega)]
  exact ⟨rfl,trivial⟩
 | v :: vs,k,off,arr,j,h => by
  simp only [q5_] at h
  simp only [List.zipIdx_cons,ZdD]
  obtain ⟨h1,h2⟩:=ZvC vs (k + 1) off (arr.setIfInBounds (off + k) v) j (by simp; omega)
  refine ⟨?_,by rw [h2]; simp⟩
  rw [h1]
  simp only [q5_]
  by_cases e:j = off + k
  ·subst e
   rw [if_neg (by omega),if_pos (by omega)]
   have:off + k < arr.size:=by omega
   simp [this]
  ·by_cases h3:off + k ≤ j ∧ j < off + k + (vs.length + 1)
   ·rw [if_pos (by omega),if_pos h3]
    obtain ⟨q,hq⟩:∃ q,j - (off + k) = q + 1:=⟨j - (off + k) - 1,by omega⟩
    rw [hq,show j - (off + (k + 1)) = q by omega]
    simp
   ·rw [if_neg (by omega),if_neg h3,Zzd]
    rw [if_neg (fun e' => e e'.symm)]
def wrote (cells:Array Value) (off:Nat) (v:Value):Array Value:=v.cells.zipIdx.foldl (fun cs (c,j) => cs.setIfInBounds (off + j) c) cells
theorem Zhn {cells:Array Value} {off:Nat} {v:Value} (j:Nat) (h:off + v.cells.size ≤ cells.size) :
  (wrote cells off v)[j]? = (if off ≤ j ∧ j < off + v.cells.size then v.cells[j - off]? else cells[j]?) ∧ (wrote cells off v).size = cells.size:=by
 have:=ZvC v.cells.toList 0 off cells j (by simpa using h)
 unfold wrote
 rw [← Array.foldl_toList]
 simpa using this
section
variable {P:Program} {H:Hints} {f:FuncId} {G:GF} {nt m0:Nat} {o:Oper} {w:World} {S:Stay} {β:Nat → Nat} {sl:Sl} {B:List Row} {a:Act}
 {K:AV → Sl → List Row → Option Res} {r:Res} {next:Act → World → Prop} {Q:Exit → Act → World → Prop}
def Zli (w:World) (S:Stay) (β:Nat → Nat) (n:Nat) (cs:List AV) (arr:Array Value):Prop :=
 arr.size = cs.length ∧ (∀ c,c ∈ cs → Z3g c = true ∧ isUn c = false) ∧ ∀ (i:Nat) (c:AV) (v:Value),cs[i]? = some c → arr[i]? = some v → ARel w S β n c v
theorem Zvy {n:Nat} {place:Nat → Option (Nat × Nat)}:∀ (parts:List (Nat × AV)) (vs:List (Nat × Value)) (cells cs:List AV) (arr:Array Value),Zli w S β n cells arr →
  parts.length = vs.length → (∀ (i:Nat) (p:Nat × AV) (q:Nat × Value),parts[i]? = some p → vs[i]? = some q → p.1 = q.1 ∧ ARel w S β n p.2 q.2) → Zlr place cells parts = some cs →
  ∃ arr',Instr.fill place arr vs = some arr' ∧ Zli w S β n cs arr'
 | [],[],cells,cs,arr,hc,_,_,hf => by
  simp only [Zlr,q1_] at hf
  subst hf
  exact ⟨arr,rfl,hc⟩
 | (i,x) :: rest,(i',v) :: vrest,cells,cs,arr,hc,hl,hr,hf => by
  obtain ⟨e,hxv⟩:=hr 0 _ _ rfl rfl
  simp only at e hxv
  subst e
  simp only [Zlr] at hf
  split at hf
  ·simp at hf
  ·rename_i off size hp
   split at hf
   ·rename_i hcond
    obtain ⟨ht,hlen,hle⟩:=hcond
    obtain ⟨c1,c2⟩:=Za4 hxv ht
    obtain ⟨h1,h2,h3⟩:=hc
    simp only [ZbC] at hlen
    have hsize:v.cells.size = size:=by rw [c1,hlen]
    have hfit:off + v.cells.size ≤ arr.size:=by rw [hsize,h1]; exact hle
    have hfitA:off + ((Z2k x).map shr).length ≤ cells.length:=by simp [hlen]; exact hle
    have hnew:Zli w S β n (setAt cells off ((Z2k x).map shr)) (wrote arr off v):=by
     refine ⟨by rw [(Zhn 0 hfit).2,ZnC,h1],?_,?_⟩
     ·intro c hc
      obtain ⟨j,hj⟩:=ZcK.1 hc
      rw [ZjM _ _ _ _ hfitA] at hj
      split at hj
      ·rw [q7_] at hj
       obtain ⟨d,hd,rfl⟩:=q6_.1 hj
       have hlt:j - off < v.cells.size:=by rw [c1]; exact (q2_.1 hd).1
       obtain ⟨_,q2,_⟩:=c2 (j - off) d _ hd (Zfp hlt)
       exact ⟨Zk8 q2,Z4p _⟩
      ·exact h2 c (q9_ hj)
     ·intro j c u hj hu
      rw [ZjM _ _ _ _ hfitA] at hj
      rw [(Zhn j hfit).1] at hu
      have el:((Z2k x).map shr).length = v.cells.size:=by simp [c1]
      rw [el] at hj
      split at hj
      ·rename_i hj'
       rw [if_pos hj'] at hu
       rw [q7_] at hj
       obtain ⟨d,hd,rfl⟩:=q6_.1 hj
       exact (c2 (j - off) d u hd hu).1.shr
      ·rename_i hj'
       rw [if_neg hj'] at hu
       exact h3 j c u hj hu
    obtain ⟨arr',q1,q2⟩:=Zvy rest vrest _ cs _ hnew (by simpa using hl) (fun i p q hp hq => hr (i + 1) p q (by simpa using hp) (by simpa using hq)) hf
    refine ⟨arr',?_,q2⟩
    simp only [Instr.fill,hp]
    rw [if_neg]
    ·exact q1
    ·simp only [ne_eq,Zj7,decide_eq_true_eq,not_or,Nat.not_lt,gt_iff_lt]
     exact ⟨fun h => h hsize,hfit⟩
   ·simp at hf
 | [],_ :: _,_,_,_,_,hl,_,_ => by simp at hl
 | _ :: _,[],_,_,_,_,hl,_,_ => by simp at hl
theorem Zzl {n:Nat} {z:AV} {zv:Value} (h:Z8i zv = some z) (ht:Z5a z = false):Zli w S β n (Z2k z) zv.cells:=by
 obtain ⟨c1,c2⟩:=Za4 (Zaq (w:=w) (S:=S) (β:=β) (n:=n) h) ht
 refine ⟨c1,?_,fun j c v hc hv => (c2 j c v hc hv).1⟩
 intro c hc
 obtain ⟨j,hj⟩:=ZcK.1 hc
 have hlt:j < zv.cells.size:=by rw [c1]; exact (q2_.1 hj).1
 obtain ⟨q1,q2,q3⟩:=c2 j c _ hj (Zfp hlt)
 refine ⟨q2,?_⟩
 cases hu:isUn c with
 | false => rfl
 | true =>
  obtain ⟨_,e,_⟩:=q3 hu
  rw [e,Zan h] at hu
  simp at hu
theorem ZoA {zv:Value} {z:AV} (h:Z8i zv = some z):Z5a z = false:=by
 unfold Z8i at h
 split at h
 ·obtain ⟨l,_,rfl⟩:=q6_.1 h; rfl
 ·obtain ⟨p,hp,rfl⟩:=q6_.1 h
  unfold Zhk at hp
  split at hp
  ·simp only [q1_] at hp; subst hp; rfl
  ·split at hp
   ·simp only [q1_] at hp; subst hp; rfl
   ·simp at hp
def evp (sl:Sl) (parts:Array (Nat × Operand)):List (Nat × AV):=parts.toList.map fun q => (q.1,ev sl q.2)
theorem Zx7 (h:Good nt w S β sl B a) (parts:Array (Nat × Operand)) :
  (evp sl parts).length = (parts.map fun (i,x) => (i,a.eval x)).toList.length ∧
  ∀ (i:Nat) (p:Nat × AV) (q:Nat × Value),(evp sl parts)[i]? = some p → (parts.map fun (i,x) => (i,a.eval x)).toList[i]? = some q → p.1 = q.1 ∧ ARel w S β B.length p.2 q.2:=by
 unfold evp
 refine ⟨by simp,?_⟩
 intro i p q hp hq
 rw [q7_] at hp
 rw [Array.toList_map,q7_] at hq
 obtain ⟨x,hx,rfl⟩:=q6_.1 hp
 obtain ⟨y,hy,rfl⟩:=q6_.1 hq
 rw [hx] at hy
 cases hy
 exact ⟨rfl,h.ev _⟩
variable (h:Good nt w S β sl B a) (hd:∀ t,o.dst = some t → t < nt)
include h hd
theorem ZvS {t:TypeId} {parts:Array (Nat × Operand)} (ho:o.op = .build t parts) {v:AV} (hv:Z1I P t (evp sl parts) = some v) (hk:K v sl B = some r) :
  o.wp P a w (Z4d o w S β sl B a K r) Q:=by
 unfold Z1I at hv
 obtain ⟨z,hz,hv⟩:=ZR hv
 unfold zeroOf at hz
 split at hz
 ·rename_i it hit
  obtain ⟨zv,hzv,hzr⟩:=ZR hz
  have hzc:=Zzl (w:=w) (S:=S) (β:=β) (n:=B.length) hzr (ZoA hzr)
  obtain ⟨e1,e2⟩:=Zx7 h parts
  have key:∀ cs place,Zlr place (Z2k z) (evp sl parts) = some cs → (∀ arr',Instr.fill place zv.cells (parts.map fun (i,x) => (i,a.eval x)).toList = some arr' → P.built t (parts.map fun (i,x) => (i,a.eval x)).toList = some arr') → v = Zfj cs →
    o.wp P a w (Z4d o w S β sl B a K r) Q:=by
   intro cs place hf hb hvv
   subst hvv
   obtain ⟨arr',q1,q2⟩:=Zvy _ _ _ cs _ hzc e1 e2 hf
   refine Z3E h hd (s:=Instr.build t (parts.map fun (i,x) => (i,a.eval x))) (by unfold execOp; simp only [ho]; rfl) (v:=.agg arr') (run_build w t _ arr' (hb arr' q1)) (Znf q2.1 q2.2.1 q2.2.2) (ZlI _) hk
  split at hv
  ·rename_i fields hu
   obtain ⟨places,hpl,hv⟩:=ZR hv
   obtain ⟨cs,hcs,hv⟩:=ZR hv
   simp only [q1_] at hv
   unfold fieldsOf at hpl
   simp only [hu] at hpl
   refine key cs _ hcs (fun arr' ha => ?_) hv.symm
   unfold Program.built
   simp only [hit,hu,hzv,hpl]
   simpa using ha
  ·rename_i n e hu
   obtain ⟨ie,hie,hv⟩:=ZR hv
   obtain ⟨cs,hcs,hv⟩:=ZR hv
   simp only [q1_] at hv
   refine key cs _ hcs (fun arr' ha => ?_) hv.symm
   unfold Program.built
   simp only [hit,hu,hzv,hie]
   exact ha
  ·simp at hv
 ·simp at hz
end
end Go.Abs
end
section
namespace Go.Abs
open Go
theorem ZcC {i j n sz:Nat} (hi:i < n) (hj:j < sz):i * sz + j < n * sz:=by
 have:(i + 1) * sz ≤ n * sz:=ZlZ sz hi
 rw [Z9Y,Nat.one_mul] at this
 omega
theorem ZES {i i0 j sz:Nat} (hne:i ≠ i0) (hj:j < sz):¬ (i0 * sz ≤ i * sz + j ∧ i * sz + j < i0 * sz + sz):=by
 intro ⟨h1,h2⟩
 rcases Nat.lt_or_gt_of_ne hne with h | h
 ·have:=ZcC (n:=i0) h hj; omega
 ·have:(i0 + 1) * sz ≤ i * sz:=ZlZ sz h
  rw [Z9Y,Nat.one_mul] at this
  omega
theorem ZeM {w:World} {S:Stay} {xs:List PV} {b off sz cap:Nat} {arr:Array Value} {ty:TypeId} {fr:Nat × Nat} {o:Own} (hh:w.heap[b]? = some (.cells arr ty fr)) (hs:∀ k,k < xs.length * sz → S b (off + k)) (h0:0 < sz)
  (hsz:∀ e,e ∈ xs → (Z1r e).length = sz) (hle:off + xs.length * sz ≤ arr.size)
  (hcell:∀ (i:Nat) (e:PV) (j:Nat) (c:PV),xs[i]? = some e → (Z1r e)[j]? = some c → Z42 c = true ∧ ∀ v,arr[off + (i * sz + j)]? = some v → PRel w S c v)
  (hcap:xs.length ≤ cap) (ho:o ≠ .nl) (hex:o = .ex → cap = xs.length) (hun:o = .un → xs ≠ []) :
  PRel w S (.lst o xs) (.slice (some ⟨b,off,none⟩) xs.length cap):=by
 have hget:∀ (i:Nat) (e:PV) (j:Nat) (c:PV),xs[i]? = some e → (Z1r e)[j]? = some c → i * sz + j < xs.length * sz:=by
  intro i e j c he hc
  have h1:=(q2_.1 he).1
  have h2:=(q2_.1 hc).1
  rw [hsz e (q9_ he)] at h2
  exact ZcC h1 h2
 refine .lst o xs _ cap b off sz (fun i j => arr.getD (off + (i * sz + j)) undef) hcap (fun e => absurd e ho) hex hun (fun e => by simp at e) (fun _ => ⟨rfl,h0,hsz⟩) ?_ ?_
 ·intro i e j c he hc
  have hlt:=hget i e j c he hc
  refine ⟨?_,hs _ hlt,(hcell i e j c he hc).1⟩
  rw [Z6s hh]
  have:off + (i * sz + j) < arr.size:=by omega
  simp [this]
 ·intro i e j c he hc
  have hlt:=hget i e j c he hc
  have:off + (i * sz + j) < arr.size:=by omega
  exact (hcell i e j c he hc).2 _ (by simp [this])
theorem ZlV {w:World} {S:Stay} {y:PV} {v:Value} (h:PRel w S y v) (ht:Z5a (.p y) = false) (hn:Zfm y = true) :
  v.cells.size = (Z1r y).length ∧ ∀ (j:Nat) (c:PV) (u:Value),(Z1r y)[j]? = some c → v.cells[j]? = some u → PRel w S c u ∧ Z42 c = true:=by
 have one:Z84 y = true → Z1r y = [y] → v.cells.size = (Z1r y).length ∧ ∀ (j:Nat) (c:PV) (u:Value),(Z1r y)[j]? = some c → v.cells[j]? = some u → PRel w S c u ∧ Z42 c = true:=by
  intro hc he
  rw [he,cells_one (h.cellV hc)]
  refine ⟨rfl,?_⟩
  intro j c u hj hu
  cases j with
  | zero => simp at hj hu; subst hj; subst hu; exact ⟨h,by simp [Z42,hc,hn]⟩
  | succ j => simp at hj
 cases y with
 | v y => exact one rfl rfl
 | lst o xs => exact one rfl rfl
 | ml n xs => exact one rfl rfl
 | hd k => exact one rfl rfl
 | agg cs =>
  cases h with
  | agg _ arr h1 h2 h3 =>
   refine ⟨by simpa [Z1r,Value.cells] using h1,?_⟩
   intro j c u hc hu
   exact ⟨h3 j c u hc hu,h2 c (q9_ hc)⟩
 | tup vs => simp [Z5a] at ht
 | jnk q => simp [Z5a] at ht
theorem Znb (y:PV):Z5a (.p (nrm y)) = Z5a (.p y):=by cases y <;> rfl
theorem Zsn {sz:Nat}:∀ (vs:List (Nat × Value)) (arr:Array Value),distinct (vs.map (·.1)) = true → (∀ q,q ∈ vs → q.2.cells.size = sz ∧ q.1 * sz + sz ≤ arr.size) →
  ∃ arr',Instr.fill (fun i => some (i * sz,sz)) arr vs = some arr' ∧ arr'.size = arr.size ∧
   ∀ i j,j < sz → arr'[i * sz + j]? = match vs.find? (fun q => q.1 == i) with | some q => q.2.cells[j]? | none => arr[i * sz + j]?
 | [],arr,_,_ => ⟨arr,rfl,rfl,fun _ _ _ => rfl⟩
 | (i0,v) :: vs,arr,hd,hall => by
  obtain ⟨hs,hfit⟩:=hall (i0,v) (by simp)
  simp only at hs hfit
  have hf:i0 * sz + v.cells.size ≤ arr.size:=by rw [hs]; exact hfit
  simp only [Z99,distinct,Z4R,Zes,Zpj,decide_eq_false_iff_not] at hd
  have hsize:=(Zhn 0 hf).2
  obtain ⟨arr',h1,h2,h3⟩:=Zsn vs (wrote arr (i0 * sz) v) hd.2 (fun q hq => by rw [hsize]; exact hall q (by simp [hq]))
  refine ⟨arr',?_,by rw [h2,hsize],?_⟩
  ·simp only [Instr.fill]
   rw [if_neg]
   ·exact h1
   ·simp only [ne_eq,Zj7,decide_eq_true_eq,not_or,Nat.not_lt,gt_iff_lt]
    exact ⟨fun h => h hs,hf⟩
  ·intro i j hj
   rw [h3 i j hj]
   by_cases e:i0 = i
   ·subst e
    have hnone:vs.find? (fun q => q.1 == i0) = none:=by
     rw [List.find?_eq_none]
     intro q hq hqe
     simp only [beq_iff_eq] at hqe
     exact hd.1 (Z7a.2 ⟨q,hq,hqe⟩)
    simp only [hnone,List.find?_cons,beq_self_eq_true]
    rw [(Zhn _ hf).1,if_pos (by omega)]
    congr 1
    omega
   ·simp only [List.find?_cons,beq_eq_false_iff_ne.2 e]
    have hw:(wrote arr (i0 * sz) v)[i * sz + j]? = arr[i * sz + j]?:=by
     rw [(Zhn _ hf).1,if_neg]
     rw [hs]
     exact ZES (fun h => e h.symm) hj
    rw [hw]
theorem Zfi {z:PV} {ps:List (Nat × PV)}:∀ (n i k:Nat),k < n → (Z64 z ps i n)[k]? = some (match ps.find? (fun q => q.1 == i + k) with | some q => q.2 | none => z)
 | 0,_,_,h => by omega
 | n + 1,i,k,h => by
  cases k with
  | zero => simp only [Z64,ZcJ,ZbF]; congr 1
  | succ k =>
   simp only [Z64,Zhz]
   rw [Zfi n (i + 1) k (by omega),show i + 1 + k = i + (k + 1) by omega]
theorem Znd {z:PV} {ps:List (Nat × PV)}:∀ (n i:Nat),(Z64 z ps i n).length = n
 | 0,_ => rfl
 | n + 1,i => by simp [Z64,Znd n]
theorem Zr7 {w:World} {S:Stay} {β:Nat → Nat} {n:Nat}:∀ (parts:List (Nat × AV)) (vs:List (Nat × Value)) (ps:List (Nat × PV)),parts.length = vs.length →
  (∀ (i:Nat) (p:Nat × AV) (q:Nat × Value),parts[i]? = some p → vs[i]? = some q → p.1 = q.1 ∧ ARel w S β n p.2 q.2) → Znl parts = some ps →
  ps.map (·.1) = vs.map (·.1) ∧ (∀ (i:Nat),(match ps.find? (fun q => q.1 == i),vs.find? (fun q => q.1 == i) with
   | some p,some q => p.1 = i ∧ Z5a (.p p.2) = false ∧ Zfm p.2 = true ∧ PRel w S p.2 q.2
   | none,none => True
   | _,_ => False)) ∧ ∀ q,q ∈ vs → ∃ p,p ∈ ps ∧ p.1 = q.1 ∧ Z5a (.p p.2) = false ∧ Zfm p.2 = true ∧ PRel w S p.2 q.2
 | [],[],ps,_,_,hp => by
  simp only [Znl,q1_] at hp
  subst hp
  exact ⟨rfl,fun i => trivial,by simp⟩
 | (i0,x) :: parts,(i0',v) :: vs,ps,hl,hr,hp => by
  obtain ⟨e,hxv⟩:=hr 0 _ _ rfl rfl
  simp only at e hxv
  subst e
  simp only [Znl] at hp
  split at hp
  ·rename_i y l heq
   split at hp
   ·simp at hp
   ·rename_i ht
    simp only [q1_] at hp
    subst hp
    have ht:Z5a (.p y) = false:=by simpa using ht
    have hy:PRel w S (nrm y) v:=by cases hxv with | p _ _ h => exact h.nrm
    obtain ⟨h1,h2,h3⟩:=Zr7 parts vs l (by simpa using hl) (fun i p q hp hq => hr (i + 1) p q (by simpa using hp) (by simpa using hq)) heq
    refine ⟨by simp [h1],?_,?_⟩
    ·intro i
     by_cases e:i0 = i
     ·subst e
      simp only [List.find?_cons,beq_self_eq_true]
      exact ⟨trivial,by rw [Znb]; exact ht,Znj y,hy⟩
     ·simp only [List.find?_cons,beq_eq_false_iff_ne.2 e]
      exact h2 i
    ·intro q hq
     rcases Z5G.1 hq with rfl | hq
     ·exact ⟨_,Z9C ..,rfl,by rw [Znb]; exact ht,Znj y,hy⟩
     ·obtain ⟨p,hp,r⟩:=h3 q hq
      exact ⟨p,Zay _ hp,r⟩
  ·simp at hp
 | [],_ :: _,_,hl,_,_ => by simp at hl
 | _ :: _,[],_,hl,_,_ => by simp at hl
section
variable {P:Program} {H:Hints} {f:FuncId} {G:GF} {nt m0:Nat} {o:Oper} {w:World} {S:Stay} {β:Nat → Nat} {sl:Sl} {B:List Row} {a:Act}
 {K:AV → Sl → List Row → Option Res} {r:Res} {next:Act → World → Prop} {Q:Exit → Act → World → Prop}
theorem Zrg (w:World) (t e:TypeId) (ie:TypeInfo) (hu:P.underlying t = some (.slice e)) (hie:P.info? e = some ie) :
  (Instr.buildSlice t 0 #[]).run P w = .ok (.slice (some ⟨w.heap.size,0,none⟩) 0 0) (w.alloc (.cells #[] e)):=by
 simp [Instr.buildSlice,run_underlying hu,Go.sizeOf,typeInfo,hie,newRow,Instr.fill,Array.range_zero']
variable (h:Good nt w S β sl B a) (hd:∀ t,o.dst = some t → t < nt)
include h hd
theorem ZHN {t:TypeId} {len:Nat} {parts:Array (Nat × Operand)} (ho:o.op = .buildSlice t len parts) {v:AV} (hv:xlit P t len (evp sl parts) = some v) {u:Bool} (hk:K (if u then unOf v else v) sl B = some r) :
  o.wp P a w (Leaves nt m0 o w S β sl B a K r) Q:=by
 unfold xlit at hv
 split at hv
 ·rename_i e hu
  obtain ⟨ie,hie,hv1⟩:=ZR hv
  obtain ⟨zA,hz,hv2⟩:=ZR hv1
  obtain ⟨z,hzA,hv3⟩:=ZR hv2
  obtain ⟨ps,hps,hv4⟩:=ZR hv3
  clear hv hv1 hv2 hv3
  have hv:=hv4
  clear hv4
  simp only at hv
  unfold zeroOf at hz
  rw [hie] at hz
  obtain ⟨zv,hzv,hzr⟩:=ZR hz
  have hzA':zA = .p z:=by cases zA <;> simp_all [asP]
  subst hzA'
  split at hv
  ·rename_i hc
   simp only [q1_] at hv
   subst hv
   simp only [Z4R,decide_eq_true_eq,Z8v] at hc
   obtain ⟨⟨⟨⟨⟨hdis,hlt⟩,hszOk⟩,h0⟩,hlen⟩,hsmall⟩:=hc
   obtain ⟨e1,e2⟩:=Zx7 h parts
   obtain ⟨m1,m2,m3⟩:=Zr7 _ _ _ e1 e2 hps
   have hszs:∀ x,x ∈ Z64 (nrm z) ps 0 len → (Z1r x).length = ie.size:=by
    intro x hx
    have:=Z8v.1 hszOk x hx
    simpa using this
   have hL:(Z64 (nrm z) ps 0 len).length = len:=Znd _ _
   by_cases hlen0:len = 0
   ·subst hlen0
    have hps0:ps = []:=by
     cases ps with
     | nil => rfl
     | cons q _ => exact absurd (hlt q (by simp)) (by omega)
    subst hps0
    have hvs:(parts.map fun (i,x) => (i,a.eval x)) = #[]:=by
     apply Ztb.1
     have:((parts.map fun (i,x) => (i,a.eval x)).toList.map (·.1)) = []:=m1.symm
     simpa using this
    have hrun:(execOp a.eval o).run P w = .ok (.value (.slice (some ⟨w.heap.size,0,none⟩) 0 0)) (w.alloc (.cells #[] e)):=by
     unfold execOp
     simp only [ho]
     show ((Instr.buildSlice t 0 (parts.map fun (i,x) => (i,a.eval x))).bind fun x => Sem.pure (Next.value x)).run P w = _
     rw [hvs,Sem.run_bind',Zrg w t e ie hu hie]
     rfl
    refine Z2p hrun (ZcD h hd h (fun t _ => .inl rfl) (ZbN w #[] e) 0 (x:=.p (.lst .ex [])) ?_ (by simp [isUn]) (by cases u <;> exact hk))
    exact .p _ _ (ZeM (off:=0) (sz:=ie.size) (arr:=#[]) (ty:=e) (fr:=(0,0)) (Fresh.new (ZbN w #[] e)) (by simp) h0 (by simp) (by simp) (by simp) (by simp) (by simp) (by simp) (by simp))
   ·have hmul:len * ie.size ≤ 2 ^ 24:=by
     have:len * ie.size ≤ 4096 * 256:=Nat.mul_le_mul hlen hsmall
     omega
    have hpos:¬ len * ie.size = 0:=by
     have:=Nat.mul_pos (Nat.pos_of_ne_zero hlen0) h0
     omega
    have hvsz:∀ q,q ∈ (parts.map fun (i,x) => (i,a.eval x)).toList → q.2.cells.size = ie.size ∧ q.1 * ie.size + ie.size ≤ ((Array.range (len * ie.size)).map (zv.cells[· % zv.cells.size]!)).size:=by
     intro q hq
     obtain ⟨p,hp,pe,pt,pn,pr⟩:=m3 q hq
     have hplt:=hlt p hp
     have:=ZcC (j:=ie.size - 1) hplt (show ie.size - 1 < ie.size by omega)
     refine ⟨?_,by simp; rw [← pe]; omega⟩
     have hfind:∃ p',ps.find? (fun x => x.1 == p.1) = some p':=by
      cases hf:ps.find? (fun x => x.1 == p.1) with
      | some p' => exact ⟨p',rfl⟩
      | none => exact absurd (List.find?_eq_none.1 hf p hp) (by simp)
     obtain ⟨p',hp'⟩:=hfind
     have hpp:p' = p:=by
      have hm:=List.mem_of_find?_eq_some hp'
      have he:=List.find?_some hp'
      simp only [beq_iff_eq] at he
      have:∀ (l:List (Nat × PV)),distinct (l.map (·.1)) = true → p ∈ l → p' ∈ l → p' = p:=by
       intro l
       induction l with
       | nil => simp
       | cons y l ih =>
        intro hd hm1 hm2
        simp only [Z99,distinct,Z4R,Zes,Zpj,decide_eq_false_iff_not] at hd
        rcases Z5G.1 hm1 with rfl | h1 <;> rcases Z5G.1 hm2 with rfl | h2
        ·rfl
        ·exact absurd (Z7a.2 ⟨p',h2,he⟩) hd.1
        ·exact absurd (Z7a.2 ⟨p,h1,he.symm⟩) hd.1
        ·exact ih hd.2 h1 h2
      exact this ps hdis hp hm
     have hg:=Zfi (z:=nrm z) (ps:=ps) len 0 p.1 hplt
     rw [Zfq,hp',hpp] at hg
     have:=hszs _ (q9_ hg)
     rw [(ZlV pr pt pn).1,this]
    obtain ⟨arr,f1,f2,f3⟩:=Zsn _ ((Array.range (len * ie.size)).map (zv.cells[· % zv.cells.size]!)) (by rw [← m1]; exact hdis) hvsz
    have hrun:(execOp a.eval o).run P w = .ok (.value (.slice (some ⟨w.heap.size,0,none⟩) len len)) (w.alloc (.cells arr e)):=by
     unfold execOp
     simp only [ho]
     show ((Instr.buildSlice t len (parts.map fun (i,x) => (i,a.eval x))).bind fun x => Sem.pure (Next.value x)).run P w = _
     rw [Sem.run_bind',run_buildSlice w t e len _ arr ie zv hu hie hzv (by omega) hpos f1]
     rfl
    have hf:=ZbN w arr e
    have hke:Keeps w S (w.alloc (.cells arr e)) (S.more w.heap.size (len * ie.size)):=hf.keeps h.mem.stay _
    have hsz':arr.size = len * ie.size:=by rw [f2]; simp
    have hne:Z64 (nrm z) ps 0 len ≠ []:=by intro e; rw [e] at hL; simp at hL; omega
    have key:∀ ow:Own,ow ≠ .nl → PRel (w.alloc (.cells arr e)) (S.more w.heap.size (len * ie.size)) (.lst ow (Z64 (nrm z) ps 0 len)) (.slice (some ⟨w.heap.size,0,none⟩) (Z64 (nrm z) ps 0 len).length len):=by
     intro ow how
     refine ZeM (off:=0) (sz:=ie.size) hf.new ?_ h0 hszs (by rw [hL,hsz']; omega) ?_ (by rw [hL]; exact Z2x _) how (fun _ => hL.symm) (fun _ => hne)
     ·intro k hk
      rw [hL] at hk
      exact .inr ⟨rfl,by omega⟩
     ·intro i x j c hx hc
      have hi:i < len:=by have:=(q2_.1 hx).1; omega
      have hj:j < ie.size:=by
       have:=(q2_.1 hc).1
       rw [hszs x (q9_ hx)] at this
       exact this
      rw [Zfi _ _ _ hi,Zfq] at hx
      have hm2:=m2 i
      rw [Zfq,f3 i j hj]
      split at hm2
      ·rename_i p q hp hq
       rw [hp] at hx
       simp only [q1_] at hx
       subst hx
       rw [hq]
       obtain ⟨_,pt,pn,pr⟩:=hm2
       obtain ⟨r1,r2⟩:=ZlV pr pt pn
       have hlt':j < q.2.cells.size:=by rw [r1]; exact (q2_.1 hc).1
       obtain ⟨r3,r4⟩:=r2 j c _ hc (Zfp hlt')
       refine ⟨r4,fun v hv => ?_⟩
       simp only at hv
       exact ((r2 j c v hc hv).1).keeps hke
      ·rename_i hp hq
       rw [hp] at hx
       simp only [q1_] at hx
       subst hx
       rw [hq]
       have hzp:PRel w S z zv:=by
        have:=Zaq (w:=w) (S:=S) (β:=β) (n:=B.length) hzr
        cases this with | p _ _ hp => exact hp
       obtain ⟨r1,r2⟩:=ZlV hzp.nrm (by rw [Znb]; exact ZoA hzr) (Znj z)
       have hmem:nrm z ∈ Z64 (nrm z) ps 0 len:=by
        have:=Zfi (z:=nrm z) (ps:=ps) len 0 i hi
        rw [Zfq,hp] at this
        exact q9_ this
       have hzs:zv.cells.size = ie.size:=by rw [r1]; exact hszs _ hmem
       have hlt':j < zv.cells.size:=by omega
       obtain ⟨r3,r4⟩:=r2 j c _ hc (Zfp hlt')
       refine ⟨r4,fun v hv => ?_⟩
       have hij:=ZcC hi hj
       have hmod:(i * ie.size + j) % zv.cells.size = j:=by rw [hzs,Nat.mul_comm,Nat.mul_add_mod,Nat.mod_eq_of_lt hj]
       simp only [Zwa] at hv
       obtain ⟨k,hk',rfl⟩:=q6_.1 hv
       have hk2:=Z8t.1 hk'
       obtain ⟨q1,q2⟩:=hk2
       simp at q1 q2
       subst q2
       rw [hmod,getElem!_pos zv.cells j hlt']
       exact r3.keeps hke
      ·exact hm2.elim
    rw [hL] at key
    have hval:(if u then unOf (.p (.lst .ex (Z64 (nrm z) ps 0 len))) else .p (.lst .ex (Z64 (nrm z) ps 0 len))) = .p (.lst (if u then .un else .ex) (Z64 (nrm z) ps 0 len)):=by
     cases u with
     | false => rfl
     | true =>
      obtain ⟨y,ys,hy⟩:=List.exists_cons_of_ne_nil hne
      rw [hy]; rfl
    rw [hval] at hk
    refine Z2p hrun (ZcD h hd h (fun t _ => .inl rfl) hf (len * ie.size) (.p _ _ (key _ (by cases u <;> simp))) (fun hun => ?_) hk)
    have hu:u = true:=by cases u with
     | true => rfl
     | false => simp [isUn] at hun
    subst hu
    refine ⟨UnOk.ofUn ⟨Z64 (nrm z) ps 0 len,w.heap.size,0,len,len,arr,e,ie.size,rfl,rfl,hf.new,h0,by rw [hsz']; omega,Z2x _,by omega,?_,hszs⟩,rfl⟩
    intro k hk hs
    rcases hs with hs | ⟨_,hs⟩
    ·exact Zpn _ (h.mem.stay _ _ hs)
    ·omega
  ·simp at hv
 ·simp at hv
end
end Go.Abs
end
section
namespace Go.Abs
open Go
theorem ZyY {P:Program} {d:TypeId} (h:Zdf P d = true):P.underlying d = some .string:=by
 unfold Zdf at h
 split at h
 ·assumption
 ·simp at h
theorem Zna {P:Program} {s:TypeId} (h:Z8q P s .u8 = true):∃ e,P.underlying s = some (.slice e) ∧ P.underlying e = some (.int .u8):=by
 unfold Z8q at h
 split at h
 ·rename_i e hh
  refine ⟨e,hh,?_⟩
  split at h
  ·rename_i k hk'
   have:k = .u8:=by cases k <;> simp_all (config:={ decide:=true })
   rw [hk',this]
  ·simp at h
 ·simp at h
theorem Zll {s:ByteArray} {i:Nat} {c:PV} (h:(Z8V s)[i]? = some c):∃ b:UInt8,s.data[i]? = some b ∧ c = .v (.int .u8 b.toNat):=by
 unfold Z8V at h
 rw [q7_] at h
 obtain ⟨b,hb,rfl⟩:=q6_.1 h
 exact ⟨b,by simpa using hb,rfl⟩
theorem ZnE (s:ByteArray):s.data.size = s.size:=rfl
theorem Zae (s:ByteArray):(Z8V s).length = s.size:=by
 unfold Z8V
 rw [ZbC,Array.length_toList]
 rfl
theorem ZiJ {s:ByteArray} {e:PV} (h:e ∈ Z8V s):(Z1r e).length = 1:=by
 obtain ⟨i,hi⟩:=ZcK.1 h
 obtain ⟨b,_,rfl⟩:=Zll hi
 rfl
theorem Ztk {s:ByteArray} {cap i:Nat} {b:UInt8} (h:s.data[i]? = some b):(bytesRow s cap)[i]? = some (.int .u8 b.toNat):=by
 have hi:i < s.data.size:=(Z8t.1 h).1
 unfold bytesRow
 rw [Zno,if_pos (by simpa using hi),Zwa,h]
 rfl
theorem ZwC (s:ByteArray) (cap:Nat):s.size ≤ (bytesRow s cap).size:=by
 unfold bytesRow
 rw [Znq,Array.size_map,ZnE]
 omega
section
variable {P:Program} {H:Hints} {f:FuncId} {G:GF} {nt m0:Nat} {o:Oper} {w:World} {S:Stay} {β:Nat → Nat} {sl:Sl} {B:List Row} {a:Act}
 {K:AV → Sl → List Row → Option Res} {r:Res} {next:Act → World → Prop} {Q:Exit → Act → World → Prop}
theorem ZoS {s d:TypeId} {x:Operand} (ho:o.op = .convert s d x):execOp a.eval o = (convert s d (a.eval x)).bind fun v => Sem.pure (Next.value v):=by
 unfold execOp
 simp only [ho]
 rfl
variable (h:Good nt w S β sl B a) (hd:∀ t,o.dst = some t → t < nt)
include h hd
theorem ZHM {s d:TypeId} {x:Operand} (ho:o.op = .convert s d x) (hs:Zdf P s = true) (hd':Z8q P d .u8 = true) {v:AV} (hv:xbyt (ev sl x) = some v) (hk:K v sl B = some r) :
  o.wp P a w (Leaves nt m0 o w S β sl B a K r) Q:=by
 have he:=h.ev x
 obtain ⟨e,hud,hue⟩:=Zna hd'
 have hus:=ZyY hs
 unfold xbyt at hv
 split at hv
 ·rename_i b heq
  simp only [q1_] at hv
  subst hv
  rw [heq] at he
  have hval:=Z5b he
  have hrun:(execOp a.eval o).run P w = .ok (.value (.slice (some ⟨w.heap.size,0,none⟩) b.size (grownCap w b.size 0 e)))
   (w.drew.alloc (.cells (bytesRow b (grownCap w b.size 0 e)) e ((bytesRow b (grownCap w b.size 0 e)).size,(bytesRow b (grownCap w b.size 0 e)).size + 1))):=by
   rw [ZoS ho,hval,Sem.run_bind',run_bytes_of_string w s d e b hus hud hue]
   rfl
  have hf:Fresh w (w.drew.alloc (.cells (bytesRow b (grownCap w b.size 0 e)) e ((bytesRow b (grownCap w b.size 0 e)).size,(bytesRow b (grownCap w b.size 0 e)).size + 1)))
    (bytesRow b (grownCap w b.size 0 e)) e ((bytesRow b (grownCap w b.size 0 e)).size,(bytesRow b (grownCap w b.size 0 e)).size + 1):=⟨rfl,rfl,rfl,rfl⟩
  refine Z2p hrun (ZcD h hd h (fun t _ => .inl rfl) hf b.size (x:=.p (.lst .sh (Z8V b))) ?_ (by simp [isUn]) hk)
  have hp:=ZeM (w:=w.drew.alloc (.cells (bytesRow b (grownCap w b.size 0 e)) e ((bytesRow b (grownCap w b.size 0 e)).size,(bytesRow b (grownCap w b.size 0 e)).size + 1)))
   (S:=S.more w.heap.size b.size) (xs:=Z8V b) (b:=w.heap.size) (off:=0) (sz:=1) (cap:=grownCap w b.size 0 e) (o:=.sh) hf.new
   (fun k hk => .inr ⟨rfl,by rw [Zae] at hk; omega⟩) (by omega) (fun e he => ZiJ he)
   (by rw [Zae]; have:=ZwC b (grownCap w b.size 0 e); omega)
   (by
    intro i x j c hx hc
    obtain ⟨u,hu,rfl⟩:=Zll hx
    cases j with
    | succ j => simp [Z1r] at hc
    | zero =>
     simp only [Z1r,ZcJ,q1_] at hc
     subst hc
     refine ⟨rfl,fun v hv => ?_⟩
     simp only [Nat.mul_one,ZbF,Zfq] at hv
     rw [Ztk hu] at hv
     cases hv
     exact .v _ rfl)
   (by rw [Zae]; exact grownCap_ge w b.size 0 e) (by simp) (by simp) (by simp)
  rw [Zae] at hp
  exact .p _ _ hp
 ·simp at hv
theorem ZCj {s d:TypeId} {x:Operand} (ho:o.op = .convert s d x) {v:AV} (hv:xcnv P s d (ev sl x) = some v) (hk:K v sl B = some r) :
  o.wp P a w (Leaves nt m0 o w S β sl B a K r) Q:=by
 unfold xcnv at hv
 split at hv
 ·rename_i hc
  simp only [Z4R] at hc
  exact wp_q h hd <| ZHP h hd ho hc.1 hc.2 hv hk
 ·split at hv
  ·rename_i hc
   simp only [Z4R] at hc
   exact ZHM h hd ho hc.1 hc.2 hv hk
  ·obtain ⟨u,hu,hv1⟩:=ZR hv
   obtain ⟨c,hc,hcv⟩:=ZR hv1
   have e1:=ZcP hu (h.ev x)
   refine wp_q h hd <| Zl6 h hd (convert s d (a.eval x)) (ZoS ho) (v:=c) ?_ (Zaq hcv) (Zan hcv) hk
   rw [e1]
   exact hc
omit h hd in
theorem Zwu (h:Good nt w S β sl B a):∀ (l:List Operand) (vs:List Value),Z7J.vals (l.map (ev sl)) = some vs → l.map a.eval = vs
 | [],vs,hv => by
  simp only [Zev,Z7J.vals,q1_] at hv
  subst hv; rfl
 | x :: l,vs,hv => by
  simp only [Z99,Z7J.vals] at hv
  obtain ⟨u,hu,hv1⟩:=ZR hv
  obtain ⟨us,hus,rfl⟩:=q6_.1 hv1
  rw [Z99,Zwu h l us hus,ZcP hu (h.ev x)]
theorem Zsy {c:Call} {mx:Bool} (ho:o.op = .call c) (hc:c.callee = .builtin (if mx then .max else .min)) {v:AV} (hv:Z7J P mx (evs sl c.args) = some v) (hk:K v sl B = some r) :
  o.wp P a w (Leaves nt m0 o w S β sl B a K r) Q:=by
 unfold Z7J at hv
 obtain ⟨l,hl,hv1⟩:=ZR hv
 obtain ⟨u,hu,hcv⟩:=ZR hv1
 have hvals:=Zwu h _ _ hl
 have hmap:c.args.map a.eval = l.toArray:=by
  apply Ztb.1
  simpa using hvals
 cases mx with
 | true =>
  refine wp_q h hd <| Zl6 h hd (Builtin.max_ c.argTypes o.type (c.args.map a.eval)) ?_ (v:=u) ?_ (Zaq hcv) (Zan hcv) hk
  ·unfold execOp
   simp only [ho]
   show ((resolve a.eval c o.type).bind fun d => invoke d.target d.args) = _
   unfold resolve
   simp only [hc,if_true]
   rfl
  ·rw [hmap]; exact hu
 | false =>
  refine wp_q h hd <| Zl6 h hd (Builtin.min_ c.argTypes o.type (c.args.map a.eval)) ?_ (v:=u) ?_ (Zaq hcv) (Zan hcv) hk
  ·unfold execOp
   simp only [ho]
   show ((resolve a.eval c o.type).bind fun d => invoke d.target d.args) = _
   unfold resolve
   simp only [hc]
   rfl
  ·rw [hmap]; exact hu
end
end Go.Abs
end
section
namespace Go.Abs
open Go
section
variable {P:Program} {H:Hints} {f:FuncId} {G:GF} {nt m0:Nat} {o:Oper} {w:World} {S:Stay} {β:Nat → Nat} {sl:Sl} {B:List Row} {a:Act}
 {K:AV → Sl → List Row → Option Res} {r:Res} {next:Act → World → Prop} {Q:Exit → Act → World → Prop}
variable (h:Good nt w S β sl B a) (hd:∀ t,o.dst = some t → t < nt)
include h hd
theorem Zzb {t:TypeId} (ho:o.op = .makeMap t none) (hk:xmake P t B (fun v B => K v sl B) = some r):o.wp P a w (Leaves nt m0 o w S β sl B a K r) Q:=by
 have _:=h
 have _:=hd
 unfold xmake at hk
 obtain ⟨e,he,_⟩:=ZR hk
 simp [mapE] at he
theorem ZCo {t:TypeId} {x i:Operand} {c:Bool} (ho:o.op = .lookup t x i c) {v:AV} (hv:Zrp P t c (ev sl x) (ev sl i) B = some v) (hk:K v sl B = some r):o.wp P a w (Leaves nt m0 o w S β sl B a K r) Q:=by
 have _:=h
 have _:=hd
 unfold Zrp at hv
 obtain ⟨e,he,_⟩:=ZR hv
 simp [mapE] at he
theorem ZvV {t:TypeId} {x i y:Operand} (ho:o.op = .mapUpdate t x i y) (hk:xupd P t (ev sl x) (ev sl i) (ev sl y) B (fun B => K jk (weak sl y) B) = some r):o.wp P a w (Leaves nt m0 o w S β sl B a K r) Q:=by
 have _:=h
 have _:=hd
 unfold xupd at hk
 obtain ⟨e,he,_⟩:=ZR hk
 simp [mapE] at he
theorem ZCl {t:TypeId} {x i y:Operand} (ho:o.op = .insert t x i y) (hk:xupd P t (ev sl x) (ev sl i) (ev sl y) B (fun B => K jk (weak sl y) B) = some r):o.wp P a w (Leaves nt m0 o w S β sl B a K r) Q:=by
 have _:=h
 have _:=hd
 unfold xupd at hk
 obtain ⟨e,he,_⟩:=ZR hk
 simp [mapE] at he
theorem ZCk {c:Call} {x i:Operand} {t t2:TypeId} (ho:o.op = .call c) (hc:c.callee = .builtin .delete) (ha:c.args.toList = [x,i]) (ht:c.argTypes.toList = [t,t2])
  (hk:xdel P t (ev sl x) (ev sl i) B (fun B => K jk sl B) = some r):o.wp P a w (Leaves nt m0 o w S β sl B a K r) Q:=by
 have _:=h
 have _:=hd
 unfold xdel at hk
 obtain ⟨e,he,_⟩:=ZR hk
 simp [mapE] at he
theorem Zxr {c:Call} {x:Operand} {t e:TypeId} (ho:o.op = .call c) (hc:c.callee = .builtin .len) (ha:c.args.toList = [x]) (ht:c.argTypes.toList = [t]) (he:mapE P t = some e)
  {v:AV} (hv:Zrq (ev sl x) B = some v) (hk:K v sl B = some r):o.wp P a w (Z4d o w S β sl B a K r) Q:=by
 have _:=h
 have _:=hd
 simp [mapE] at he
end
end Go.Abs
end
section
namespace Go.Abs
open Go
structure Src (P:Program) (w:World) (S:Stay) (n:Nat) (ys:List PV) (q:Value) (arr:Array Value):Prop where
 len:∀ w1:World,(Builtin.lenOf q).run P w1 = .ok ys.length w1
 first:∀ w1:World,w1.heap = w.heap → (Builtin.firstCells n ys.length q).run P w1 = .ok arr w1
 size:arr.size = ys.length * n
 one:∀ v,v ∈ arr.toList → v.oneCell' = true
 rel:∀ (i:Nat) (e:PV) (j:Nat) (c:PV),ys[i]? = some e → (Z1r e)[j]? = some c → Z42 c = true ∧ ∀ v,arr[i * n + j]? = some v → PRel w S c v
theorem Z7K {n:Nat} {xs:List PV} (h:szOk n xs = true):∀ e,e ∈ xs → (Z1r e).length = n:=by
 intro e he
 have:=Z8v.1 h e he
 simpa using this
section
variable {P:Program} {w:World} {S:Stay}
theorem ZeL {n:Nat} {o:Own} {xs:List PV} {u:Value} (hx:PRel w S (.lst o xs) u) (hs:szOk n xs = true) :
  ∃ a cap,u = .slice a xs.length cap ∧ xs.length ≤ cap ∧ (a = none → cap = 0) ∧ (xs ≠ [] → ∃ b off,a = some ⟨b,off,none⟩ ∧
   ∀ (i:Nat) (e:PV) (j:Nat) (c:PV),xs[i]? = some e → (Z1r e)[j]? = some c → ∃ v,w.cell? ⟨b,off + (i * n + j),none⟩ = some v ∧ S b (off + (i * n + j)) ∧ Z42 c = true ∧ PRel w S c v):=by
 cases hx with
 | lst _ _ a cap b off sz g h1 h2 h3 h4 h5 h6 h7 h8 =>
  refine ⟨a,cap,rfl,h1,h5,fun hne => ?_⟩
  obtain ⟨rfl,h0,hall⟩:=h6 hne
  refine ⟨b,off,rfl,?_⟩
  intro i e j c he hc
  have hm:=q9_ he
  have hn:sz = n:=by rw [← hall e hm,Z7K hs e hm]
  subst hn
  obtain ⟨q1,q2,q3⟩:=h7 i e j c he hc
  exact ⟨_,q1,q2,q3,h8 i e j c he hc⟩
theorem ZsJ {k len n:Nat} (h:k < len * n):∃ i j,i < len ∧ j < n ∧ k = i * n + j:=by
 have hn:0 < n:=by
  rcases Zw2 n with e | e
  ·subst e; simp at h
  ·exact e
 refine ⟨k / n,k % n,?_,Nat.mod_lt _ hn,?_⟩
 ·exact Nat.div_lt_of_lt_mul (by rw [Nat.mul_comm]; exact h)
 ·rw [Nat.mul_comm,Nat.div_add_mod]
theorem ZxB {n:Nat} {o:Own} {xs:List PV} {u:Value} (hx:PRel w S (.lst o xs) u) (hs:szOk n xs = true):∃ arr,Src P w S n xs u arr:=by
 obtain ⟨a,cap,rfl,hcap,hnil,hcells⟩:=ZeL hx hs
 by_cases hne:xs = []
 ·subst hne
  refine ⟨#[],⟨fun w1 => rfl,fun w1 _ => ?_,by simp,by simp,by simp⟩⟩
  cases a with
  | none => exact run_firstCells_none w1 _ _ _ _
  | some a => exact run_firstCells_some w1 n 0 a 0 cap [] (by simp) (by simp)
 ·obtain ⟨b,off,rfl,hc⟩:=hcells hne
  have hall:∀ k,k < xs.length * n → ∃ v,w.cell? ⟨b,off + k,none⟩ = some v ∧ v.oneCell' = true:=by
   intro k hk
   obtain ⟨i,j,hi,hj,rfl⟩:=ZsJ hk
   have he:xs[i]? = some xs[i]:=by simp [hi]
   have hlen:=Z7K hs xs[i] (Znm hi)
   have hj':j < (Z1r xs[i]).length:=by omega
   obtain ⟨v,q1,_,q3,q4⟩:=hc i xs[i] j (Z1r xs[i])[j] he (by simp [hj'])
   simp only [Z42,Z4R] at q3
   exact ⟨v,q1,Zik (q4.cellV q3.1)⟩
  refine ⟨((List.range (xs.length * n)).map fun k => ZhM w b (off + k)).toArray,⟨fun w1 => rfl,fun w1 hw1 => ?_,by simp,?_,?_⟩⟩
  ·show (loadCells ⟨b,off,none⟩ (xs.length * n)).run P w1 = _
   have hcell:∀ o,w1.cell? ⟨b,o,none⟩ = w.cell? ⟨b,o,none⟩:=fun o => cell_of_heap (by rw [hw1])
   rw [Znz (w:=w1) (fun j hj => by rw [hcell]; obtain ⟨v,hv,_⟩:=hall j hj; exact ⟨v,hv⟩)]
   congr 3
   funext k
   simp [ZhM,hcell]
  ·intro v hv
   simp only [Z7a,ZhB] at hv
   obtain ⟨k,hk,rfl⟩:=hv
   obtain ⟨v,hv,h1⟩:=hall k hk
   rw [Zaw hv]
   exact h1
  ·intro i e j c he hc'
   obtain ⟨v,q1,_,q3,q4⟩:=hc i e j c he hc'
   refine ⟨q3,fun u hu => ?_⟩
   obtain ⟨_,rfl⟩:=range_map_get hu
   rw [Zaw q1]
   exact q4
theorem ZFk {n:Nat} {s:ByteArray} (hs:szOk n (Z8V s) = true):∃ arr,Src P w S n (Z8V s) (.string s) arr:=by
 have hx:∀ (g:UInt8 → Value),(s.extract 0 s.size).data.map g = s.data.map g:=by
  intro g
  congr 1
  rw [ByteArray.data_extract,← ZnE,Array.extract_size]
 refine ⟨s.data.map fun b => .int .u8 b.toNat,⟨fun w1 => ?_,fun w1 _ => ?_,?_,?_,?_⟩⟩
 ·rw [Zae]; rfl
 ·rw [Zae]
  show Result.ok _ _ = _
  rw [hx]
 ·rw [Array.size_map,ZnE,Zae]
  rcases Zw2 s.size with e | e
  ·rw [e,Nat.zero_mul]
  ·have hl:0 < (Z8V s).length:=by rw [Zae]; exact e
   have hm:(Z8V s)[0] ∈ Z8V s:=Znm hl
   have h1:=Z7K hs _ hm
   rw [ZiJ hm] at h1
   rw [← h1,Nat.mul_one]
 ·intro v hv
  rw [Array.toList_map] at hv
  obtain ⟨b,_,rfl⟩:=Z7a.1 hv
  rfl
 ·intro i x j c hx hc
  have h1:=Z7K hs _ (q9_ hx)
  rw [ZiJ (q9_ hx)] at h1
  obtain ⟨u,hu,rfl⟩:=Zll hx
  cases j with
  | succ j => simp [Z1r] at hc
  | zero =>
   simp only [Z1r,ZcJ,q1_] at hc
   subst hc
   refine ⟨rfl,fun v hv => ?_⟩
   rw [← h1,Nat.mul_one,ZbF,Zwa,hu] at hv
   cases hv
   exact .v _ rfl
theorem Zsf {n:Nat} {β:Nat → Nat} {k:Nat} {y:AV} {q:Value} {ys:List PV} (hy:ARel w S β k y q) (he:Zlo y = some ys) (hs:szOk n ys = true):∃ arr,Src P w S n ys q arr:=by
 unfold Zlo at he
 split at he
 ·simp only [q1_] at he
  subst he
  cases hy with | p _ _ hp => exact ZxB hp hs
 ·simp only [q1_] at he
  subst he
  rw [Z5b hy]
  exact ZFk hs
 ·simp at he
theorem ZvG {t':TypeId} (h:Zhi P t' = false):(∃ e,P.underlying t' = some (.slice e)) ∨ P.underlying t' = some .string:=by
 unfold Zhi at h
 split at h
 ·rename_i e hu
  exact .inl ⟨e,hu⟩
 ·rename_i hu
  exact .inr hu
 ·simp at h
theorem Znx (w:World) {t t' ty e:TypeId} {i:TypeInfo} (ht:P.underlying t = some (.slice e)) (hi:P.info? e = some i) (ht':Zhi P t' = false) {a:Option Addr} {sLen sCap:Nat} {q:Value}
  (hl:∀ w1:World,(Builtin.lenOf q).run P w1 = .ok 0 w1) (hf:(Builtin.firstCells i.size 0 q).run P w = .ok #[] w) (hle:sLen ≤ sCap) :
  (Builtin.append_ #[t,t'] ty #[.slice a sLen sCap,q]).run P w = .ok (.slice a sLen sCap) w:=by
 rcases ZvG ht' with ⟨e',hd⟩ | hd
 all_goals (cases a <;> simp [Builtin.append_,run_underlying ht,run_underlying hd,Go.sizeOf,typeInfo,hi,hl,hf,hle,storeCells])
theorem Zny (w:World) {t t' ty e:TypeId} {i:TypeInfo} (ht:P.underlying t = some (.slice e)) (hi:P.info? e = some i) (ht':Zhi P t' = false) {b off sLen sCap m:Nat} {q:Value} {news:Array Value}
  (hl:∀ w1:World,(Builtin.lenOf q).run P w1 = .ok m w1) (hf:(Builtin.firstCells i.size m q).run P w = .ok news w) (hle:sLen + m ≤ sCap) {cur:Array Value} {ty':TypeId}
  (hg:w.heap[b]? = some (.cells cur ty' (0,0))) (h1:∀ v,v ∈ news.toList → v.oneCell' = true) (hfit:off + sLen * i.size + news.toList.length ≤ cur.size) :
  (Builtin.append_ #[t,t'] ty #[.slice (some ⟨b,off,none⟩) sLen sCap,q]).run P w = .ok (.slice (some ⟨b,off,none⟩) (sLen + m) sCap)
   (w.setRow b (cur.toList.take (off + sLen * i.size) ++ news.toList ++ cur.toList.drop (off + sLen * i.size + news.toList.length)).toArray):=by
 have hst:=run_storeCells_at P b (off + sLen * i.size) ty' news.toList 0 cur w hg (by simpa using hfit) h1
 simp only [ZbF] at hst
 rcases ZvG ht' with ⟨e',hd⟩ | hd
 all_goals simp [Builtin.append_,run_underlying ht,run_underlying hd,Go.sizeOf,typeInfo,hi,hl,hf,hle,Z8M,hst]
theorem Znw (w:World) {t t' ty e:TypeId} {i:TypeInfo} {z:Value} (ht:P.underlying t = some (.slice e)) (hi:P.info? e = some i) (hz:i.zero = some z) (ht':Zhi P t' = false) {a:Option Addr} {sLen sCap m:Nat} {q:Value}
  {olds news:Array Value} (hl:∀ w1:World,(Builtin.lenOf q).run P w1 = .ok m w1) (hfo:(Builtin.firstCells i.size sLen (.slice a sLen sCap)).run P w.drew = .ok olds w.drew)
  (hf:(Builtin.firstCells i.size m q).run P w.drew = .ok news w.drew) (hg:sCap < sLen + m) (h63:((sLen + m:Nat):Int) ≤ 9223372036854775807)
  (hfit:Builtin.nextslicecap (sLen + m) sCap * i.bytes ≤ 281474976710656) :
  (Builtin.append_ #[t,t'] ty #[.slice a sLen sCap,q]).run P w =
   .ok (.slice (some ⟨w.heap.size,0,none⟩) (sLen + m) (grownCap w (sLen + m) sCap e))
    (w.drew.alloc (.cells (olds ++ news ++ Builtin.zeroCells z.cells (grownCap w (sLen + m) sCap e - (sLen + m))) e)):=by
 have hn:¬ (sLen + m ≤ sCap):=by omega
 have h63':¬ (9223372036854775807 < ((sLen:Int) + (m:Int))):=by omega
 have h48':¬ (281474976710656 < Builtin.nextslicecap (sLen + m) sCap * i.bytes):=by omega
 rcases ZvG ht' with ⟨e',hd⟩ | hd
 all_goals simp [Builtin.append_,run_underlying ht,run_underlying hd,Go.sizeOf,typeInfo,zeroValue,hi,hz,hl,hn,h63',h48',Question.forced,hf,hfo,newRow,grownCap,Array.append_assoc]
end
end Go.Abs
end
section
namespace Go.Abs
open Go
theorem ZqQ {nt:Nat} {w w':World} {β:Nat → Nat} {sl:Sl} {B:List Row} {tm:Array Value} (hb:∀ i,i < B.length → w'.heap[β i]? = w.heap[β i]?) {l:Loc} {x:AV} {v:Value}
  (hl:Here nt sl tm B β w' l x v):Here nt sl tm B β w l x v:=by
 cases l with
 | slot t => exact hl
 | box id j =>
  obtain ⟨row,q1,q2,q3⟩:=hl
  exact ⟨row,q1,q2,(cell_of_heap (hb id (q2_.1 q1).1)) ▸ q3⟩
section
variable {P:Program} {H:Hints} {f:FuncId} {G:GF} {nt m0:Nat} {o:Oper} {w:World} {S:Stay} {β:Nat → Nat} {sl:Sl} {B:List Row} {a:Act}
 {K:AV → Sl → List Row → Option Res} {r:Res} {next:Act → World → Prop} {Q:Exit → Act → World → Prop}
structure Only (w w':World) (b:Nat):Prop where
 other:∀ k,k ≠ b → w'.heap[k]? = w.heap[k]?
 size:w'.heap.size = w.heap.size
 os:w'.os = w.os
 tape:w'.tape = w.tape
 output:w'.output = w.output
theorem Set1.only {w w':World} {b:Nat} {arr:Array Value} (h:Set1 w w' b arr):Only w w' b:=⟨h.other,h.size,h.os,h.tape,h.output⟩
theorem Zgw {b lo k:Nat} {x:Operand} {v':Value} {x':AV} {w':World} (h:Good nt w S β sl B a) (hd:∀ t,o.dst = some t → t < nt)
  (hu:isUn (ev sl x) = true) (hb:Z3U (a.eval x) = some b) (hset:Only w w' b) (hlo:∀ o,lo ≤ o → ¬ S b o) (hsame:∀ o,o < lo → w'.cell? ⟨b,o,none⟩ = w.cell? ⟨b,o,none⟩)
  (hx:ARel w' (S.more b k) β B.length x' v') (hun:isUn x' = true → UnOk w' (S.more b k) x' v' ∧ Z3U v' = some b) (hk:K x' (weak sl x) B = some r) :
  Leaves nt m0 o w S β sl B a K r (a.put o.dst v') w':=by
 obtain ⟨t,rfl,htn,here⟩:=Zd1 h hu
 obtain ⟨hok,hapart⟩:=h.uns.ok _ _ _ here hu
 have hnb:∀ i,i < B.length → b ≠ β i:=fun i hi e => hapart i hi (by rw [hb,e])
 have hbox:∀ i,i < B.length → w'.heap[β i]? = w.heap[β i]?:=fun i hi => hset.other _ (fun e => hnb i hi e.symm)
 have hlt:b < w.heap.size:=by
  have h2:=hok.blk hb
  exact h2
 have hkeep:Keeps w S w' (S.more b k):=by
  refine ⟨fun _ _ h => .inl h,fun b1 o1 hs => ?_⟩
  by_cases e:b1 = b
  ·subst e
   refine hsame o1 ?_
   rcases Z9X o1 lo with h1 | h1
   ·exact h1
   ·exact absurd hs (hlo o1 h1)
  ·exact cell_of_heap (hset.other b1 e)
 have hal:=Zma h hu
 have hg:Good nt w' (S.more b k) β (weak sl (.tmp t)) B a:=by
  refine (h.weak (.tmp t)).world hkeep ?_ ?_ ?_
  ·intro i hi
   refine ⟨hbox i hi,fun o ho => ?_⟩
   rcases ho with ho | ⟨e,_⟩
   ·exact h.mem.apart i hi o ho
   ·exact hnb i hi e.symm
  ·intro b1 o1 hs
   rw [hset.size]
   rcases hs with hs | ⟨e,_⟩
   ·exact h.mem.stay b1 o1 hs
   ·rw [e]; exact hlt
  ·intro l y u hl hy
   have hne:=hal l y u hl hy
   refine ((h.weak (.tmp t)).uns.ok l y u hl hy).1.world hkeep fun b1 hb1 => ?_
   have e:b1 ≠ b:=by rintro rfl; exact hne ⟨_,hb1,hb⟩
   refine ⟨hset.other b1 e,fun o ho => ?_⟩
   rcases ho with ho | ⟨e',_⟩
   ·exact ho
   ·exact absurd e' e
 have hUB:∀ b1,UB (Here nt (weak sl (.tmp t)) a.tmps B β w') b1 → UB (Here nt sl a.tmps B β w) b1 :=
  fun b1 h1 => UB.reslot (fun q _ => Zgn sl (.tmp t) q) b1 (UB.world h.mem hbox h1)
 have hUb:UB (Here nt sl a.tmps B β w) b:=⟨_,_,_,here,hu,hb⟩
 refine ⟨x',weak sl (.tmp t),B,S.more b k,β,hk,?_,?_⟩
 ·cases hdd:o.dst with
  | none => exact hg
  | some d =>
   refine hg.putUn (hd d hdd) hx (fun hx' => ?_) (fun l y u hl hy hx' e => ?_)
   ·obtain ⟨q1,q2⟩:=hun hx'
    refine ⟨q1,fun i hi e => ?_⟩
    rw [q2] at e
    simp only [q1_] at e
    exact hnb i hi e
   ·obtain ⟨b2,e1,e2⟩:=e
    rw [(hun hx').2] at e2
    cases e2
    exact hal l y u (ZqQ hbox hl) hy ⟨_,e1,hb⟩
 ·refine ⟨hkeep,by rw [hset.size]; exact Z2x _,hset.os,hset.tape,hset.output,fun hm => ⟨hm,fun _ _ => rfl⟩,fun i hi => .inl ⟨i,hi,rfl,id⟩,?_,?_,?_⟩
  ·intro b1 hb1
   cases hdd:o.dst with
   | none => rw [hdd] at hb1; exact .inl (hUB b1 hb1)
   | some d =>
    rw [hdd] at hb1
    rcases UB.putUn h.size (hd d hdd) b1 hb1 with hb1 | ⟨q1,q2⟩
    ·exact .inl (hUB b1 hb1)
    ·rw [(hun q1).2] at q2
     cases q2
     exact .inl hUb
  ·intro b1 o1 hs
   rcases hs with hs | ⟨e,_⟩
   ·exact .inl hs
   ·rw [e]; exact .inr (.inr hUb)
  ·intro b1 _ _ h3
   exact hset.other b1 (fun e => h3 (e ▸ hUb))
theorem Zrs {xs ys:List PV} {i:Nat} {e:PV} (h:(xs ++ ys)[i]? = some e):(i < xs.length ∧ xs[i]? = some e) ∨ (xs.length ≤ i ∧ ys[i - xs.length]? = some e):=by
 rw [Zgi] at h
 split at h
 ·exact .inl ⟨‹_›,h⟩
 ·exact .inr ⟨by omega,h⟩
theorem Ztj {n:Nat} {xs ys:List PV} {u q:Value} {olds news rest:Array Value} (so:Src P w S n xs u olds) (sn:Src P w S n ys q news) :
  ∀ (i:Nat) (e:PV) (j:Nat) (c:PV),(xs ++ ys)[i]? = some e → (Z1r e).length = n → (Z1r e)[j]? = some c → Z42 c = true ∧ ∀ v,(olds ++ news ++ rest)[i * n + j]? = some v → PRel w S c v:=by
 intro i e j c he hn hc
 have hj:j < n:=by rw [← hn]; exact (q2_.1 hc).1
 rcases Zrs he with ⟨hi,he⟩ | ⟨hi,he⟩
 ·obtain ⟨q1,q2⟩:=so.rel i e j c he hc
  refine ⟨q1,fun v hv => q2 v ?_⟩
  have hlt:i * n + j < olds.size:=by rw [so.size]; exact ZcC hi hj
  rw [Zno,if_pos (by simp; omega),Zno,if_pos hlt] at hv
  exact hv
 ·obtain ⟨q1,q2⟩:=sn.rel _ e j c he hc
  refine ⟨q1,fun v hv => q2 v ?_⟩
  have hi':i - xs.length < ys.length:=(q2_.1 he).1
  have hlt:(i - xs.length) * n + j < news.size:=by rw [sn.size]; exact ZcC hi' hj
  have hmul:i * n = xs.length * n + (i - xs.length) * n:=by rw [← Z9Y]; congr 1; omega
  have hge:¬ i * n + j < olds.size:=by rw [so.size,hmul]; omega
  rw [Zno,if_pos (by rw [Znq,so.size,hmul]; omega),Zno,if_neg hge] at hv
  rw [← hv]
  congr 1
  rw [so.size,hmul]
  omega
variable (h:Good nt w S β sl B a) (hd:∀ t,o.dst = some t → t < nt)
include h hd
theorem ZCh {c:Call} {x y:Operand} {t t':TypeId} (ho:o.op = .call c) (hc:c.callee = .builtin .append) (ha:c.args.toList = [x,y]) (ht:c.argTypes.toList = [t,t'])
  (hint:Zhi P t' = false) {v:AV} (hv:xapp (Z4P P t) (ev sl x) (ev sl y) = some v) (hk:K v (weak sl x) B = some r):o.wp P a w (Leaves nt m0 o w S β sl B a K r) Q:=by
 have hex:∀ v1 w1,(Builtin.append_ #[t,t'] o.type #[a.eval x,a.eval y]).run P w = .ok v1 w1 → (execOp a.eval o).run P w = .ok (.value v1) w1:=by
  intro v1 w1 hn
  unfold execOp
  simp only [ho]
  show ((resolve a.eval c o.type).bind fun d => invoke d.target d.args).run P w = _
  unfold resolve
  simp only [hc,Zau ha,Zau ht]
  show ((Builtin.append_ #[t,t'] o.type (Array.map a.eval #[x,y])).bind fun x => Sem.pure (Next.value x)).run P w = _
  have e:Array.map a.eval #[x,y] = #[a.eval x,a.eval y]:=by simp
  rw [e,Sem.run_bind',hn]
  rfl
 have hx:=h.ev x
 have hy:=h.ev y
 unfold xapp at hv
 split at hv
 ·rename_i ow xs heq
  obtain ⟨ys,hel,hv1⟩:=ZR hv
  clear hv
  split at hv1
  ·rename_i hcond
   simp only [q1_] at hv1
   simp only [Z4R,decide_eq_true_eq,Zj7] at hcond
   obtain ⟨⟨⟨⟨happ,hsx⟩,hsy⟩,h0⟩,hlim⟩:=hcond
   obtain ⟨e,ti,hue,hie,hsz,hb0,hb128,z,hz,hzs⟩:=Zaf (P:=P) rfl h0
   generalize hn:Z4P P t = n at *
   obtain ⟨u,hueq⟩:∃ u,a.eval x = u:=⟨_,rfl⟩
   obtain ⟨q,hqeq⟩:∃ q,a.eval y = q:=⟨_,rfl⟩
   have hxe:=hx
   rw [heq,hueq] at hx
   rw [hqeq] at hy
   have hpx:PRel w S (.lst ow xs) u:=by cases hx with | p _ _ hp => exact hp
   obtain ⟨ad,cap,rfl,hcap,hnil,hcells⟩:=ZeL hpx hsx
   obtain ⟨olds,so⟩:=ZxB (P:=P) hpx hsx
   obtain ⟨news,sn⟩:=Zsf (P:=P) hy hel hsy
   rw [hueq,hqeq] at hex
   by_cases hys:ys = []
   ·subst hys
    have hnews:news = #[]:=by
     have:=sn.size
     simp at this
     exact this
    subst hnews
    have hrun:=hex _ _ (Znx w (ty:=o.type) hue hie hint (a:=ad) (sLen:=xs.length) (sCap:=cap) (q:=q) (fun w1 => sn.len w1) (by rw [hsz]; exact sn.first w rfl) hcap)
    refine Z2p hrun ?_
    rw [← hueq]
    have hvx:v = ev sl x:=by rw [← hv1,heq]; simp [apo]
    exact Zif h hd x (hvx ▸ hk)
   ·have hown:apo ow ys = .un:=by
     cases ys with
     | nil => exact absurd rfl hys
     | cons _ _ => rfl
    rw [hown] at hv1
    subst hv1
    have hm:0 < ys.length:=by
     cases ys with
     | nil => exact absurd rfl hys
     | cons _ _ => simp
    have hokA:ZM ow = true:=by
     rcases happ with h1 | h1
     ·exact h1
     ·cases ys with
      | nil => exact absurd rfl hys
      | cons _ _ => simp at h1
    have hxys:∀ e,e ∈ xs ++ ys → (Z1r e).length = n:=by
     intro e he
     rcases Zb8.1 he with he | he
     ·exact Z7K hsx e he
     ·exact Z7K hsy e he
    have hL:(xs ++ ys).length = xs.length + ys.length:=by simp
    have hne:xs ++ ys ≠ []:=by intro e; exact hys (List.append_eq_nil_iff.1 e).2
    by_cases hroom:xs.length + ys.length ≤ cap
    ·
     have hun:ow = .un:=by
      cases hpx with
      | lst _ _ _ _ _ _ _ _ p1 p2 p3 p4 p5 p6 p7 p8 =>
       cases ow with
       | un => rfl
       | sh => simp [ZM] at hokA
       | ex => have:=p3 rfl; omega
       | nl => have:=(p2 rfl).2; omega
     subst hun
     have hu:isUn (ev sl x) = true:=by rw [heq]; rfl
     obtain ⟨t1,rfl,htn,here⟩:=Zd1 h hu
     obtain ⟨hok,hapart⟩:=h.uns.ok _ _ _ here hu
     rw [heq] at hok
     obtain ⟨xs',b,off,len,cap',cs,ty,sz,e1,e2,e3,e4,e5,e6,e7,e8,e9⟩:=hok.un
     cases e1
     rw [hueq] at e2
     cases e2
     have hxne:∃ e,e ∈ xs:=by
      cases xs with
      | nil => simp at e7
      | cons y _ => exact ⟨y,by simp⟩
     obtain ⟨e0,he0⟩:=hxne
     have hszn:sz = n:=by rw [← e9 e0 he0,Z7K hsx e0 he0]
     subst hszn
     have hnl:news.toList.length = ys.length * sz:=by simpa using sn.size
     have hmul:(xs.length + ys.length) * sz ≤ cap * sz:=ZlZ sz hroom
     rw [Z9Y] at hmul
     have hfit:off + xs.length * sz + news.toList.length ≤ cs.size:=by rw [hnl]; omega
     have hrun:=hex _ _ (Zny w (ty:=o.type) hue hie hint (b:=b) (off:=off) (sLen:=xs.length) (sCap:=cap) (q:=q) (news:=news) (fun w1 => sn.len w1) (by rw [hsz]; exact sn.first w rfl) hroom e3 sn.one
      (by rw [hsz]; exact hfit))
     rw [hsz] at hrun
     have hset:=Zja e3 (cs.toList.take (off + xs.length * sz) ++ news.toList ++ cs.toList.drop (off + xs.length * sz + news.toList.length)).toArray
     obtain ⟨ty',hty⟩:=hset.heap
     have hsize:=Zil cs news.toList (off + xs.length * sz) hfit
     have hcell:∀ k,(w.setRow b (cs.toList.take (off + xs.length * sz) ++ news.toList ++ cs.toList.drop (off + xs.length * sz + news.toList.length)).toArray).cell? ⟨b,k,none⟩ =
       if off + xs.length * sz ≤ k ∧ k < off + xs.length * sz + news.toList.length then news.toList[k - (off + xs.length * sz)]? else cs[k]?:=by
      intro k
      rw [Z6s hty,ZcH _ _ _ _ hfit]
     have hsame:∀ k,k < off + xs.length * sz → (w.setRow b (cs.toList.take (off + xs.length * sz) ++ news.toList ++ cs.toList.drop (off + xs.length * sz + news.toList.length)).toArray).cell? ⟨b,k,none⟩ = w.cell? ⟨b,k,none⟩:=by
      intro k hk
      rw [hcell,if_neg (by omega),Z6s e3]
     have hkeep:Keeps w S (w.setRow b (cs.toList.take (off + xs.length * sz) ++ news.toList ++ cs.toList.drop (off + xs.length * sz + news.toList.length)).toArray) (S.more b (off + (xs ++ ys).length * sz)):=by
      refine ⟨fun _ _ h => .inl h,fun b1 o1 hs => ?_⟩
      by_cases e:b1 = b
      ·subst e
       refine hsame o1 ?_
       rcases Z9X o1 (off + xs.length * sz) with h1 | h1
       ·exact h1
       ·exact absurd hs (e8 o1 h1)
      ·exact cell_of_heap (hset.other b1 e)
     obtain ⟨b2,off2,hb2,hc2⟩:=hcells (by intro e; rw [e] at he0; simp at he0)
     simp only [q1_,Addr.mk.injEq] at hb2
     obtain ⟨rfl,rfl,_⟩:=hb2
     refine Z2p hrun (Zgw (x:=.tmp t1) (lo:=off + xs.length * sz) (k:=off + (xs ++ ys).length * sz) h hd hu (by rw [hueq]; rfl) hset.only e8 hsame (x':=.p (.lst .un (xs ++ ys))) ?_ ?_ hk)
     ·have hp:=ZeM (w:=w.setRow b (cs.toList.take (off + xs.length * sz) ++ news.toList ++ cs.toList.drop (off + xs.length * sz + news.toList.length)).toArray) (S:=S.more b (off + (xs ++ ys).length * sz))
       (xs:=xs ++ ys) (b:=b) (off:=off) (sz:=sz) (cap:=cap) (o:=.un) hty (fun k hk => .inr ⟨rfl,by omega⟩) h0 hxys (by rw [hsize,hL,Z9Y]; omega) ?_ (by rw [hL]; exact hroom) (by simp) (by simp) (fun _ => hne)
      ·rw [hL] at hp ⊢
       exact .p _ _ hp
      ·intro i e' j c he hcc
       have hen:=hxys e' (q9_ he)
       have hj:j < sz:=by rw [← hen]; exact (q2_.1 hcc).1
       rcases Zrs he with ⟨hi,he⟩ | ⟨hi,he⟩
       ·obtain ⟨v1,r1,r2,r3,r4⟩:=hc2 i e' j c he hcc
        refine ⟨r3,fun v hv => ?_⟩
        have:=ZcC hi hj
        rw [ZcH _ _ _ _ hfit,if_neg (by omega)] at hv
        rw [Z6s e3,hv] at r1
        cases r1
        exact r4.keeps hkeep
       ·obtain ⟨r1,r2⟩:=sn.rel _ e' j c he hcc
        refine ⟨r1,fun v hv => (r2 v ?_).keeps hkeep⟩
        have hi':i - xs.length < ys.length:=(q2_.1 he).1
        have hlt:=ZcC hi' hj
        have hmul2:i * sz = xs.length * sz + (i - xs.length) * sz:=by rw [← Z9Y]; congr 1; omega
        rw [ZcH _ _ _ _ hfit,if_pos (by omega),Zsd] at hv
        rw [← hv]
        congr 1
        omega
     ·intro _
      refine ⟨UnOk.ofUn ⟨xs ++ ys,b,off,_,cap,_,ty',sz,rfl,rfl,hty,e4,by rw [hsize]; exact e5,hroom,by omega,?_,hxys⟩,rfl⟩
      intro k hk hs
      rcases hs with hs | ⟨_,hs⟩
      ·refine e8 k ?_ hs
       rw [Z9Y] at hk
       omega
      ·rw [hL] at hs; omega
    ·
     have hg:cap < xs.length + ys.length:=by omega
     have hlim':xs.length + ys.length ≤ 1353245080339:=hlim
     have hbytes:(xs.length + ys.length) * ti.bytes ≤ 140737488355328:=by
      have:=Nat.mul_le_mul hlim' hb128
      omega
     have hrun:=hex _ _ (Znw w (ty:=o.type) hue hie hz hint (a:=ad) (sLen:=xs.length) (sCap:=cap) (q:=q) (olds:=olds) (news:=news) (fun w1 => sn.len w1)
      (by rw [hsz]; exact so.first w.drew rfl) (by rw [hsz]; exact sn.first w.drew rfl) hg (by omega) (growslice_fits hg hbytes))
     have hgc:=grownCap_ge w (xs.length + ys.length) cap e
     generalize grownCap w (xs.length + ys.length) cap e = gc at *
     have hf:Fresh w (w.drew.alloc (.cells (olds ++ news ++ Builtin.zeroCells z.cells (gc - (xs.length + ys.length))) e)) (olds ++ news ++ Builtin.zeroCells z.cells (gc - (xs.length + ys.length))) e:=⟨rfl,rfl,rfl,rfl⟩
     have hke:=hf.keeps h.mem.stay ((xs ++ ys).length * n)
     have hasz:(olds ++ news ++ Builtin.zeroCells z.cells (gc - (xs.length + ys.length))).size = gc * n:=by
      rw [Znq,Znq,so.size,sn.size,size_zeroCells,hzs,← Z9Y,← Z9Y]
      congr 1
      omega
     have hle:(xs.length + ys.length) * n ≤ gc * n:=ZlZ n hgc
     refine Z2p hrun (ZcD h hd (h.weak x) (fun t _ => Zgn sl x t) hf ((xs ++ ys).length * n) (x:=.p (.lst .un (xs ++ ys))) ?_ ?_ hk)
     ·have hp:=ZeM (w:=w.drew.alloc (.cells (olds ++ news ++ Builtin.zeroCells z.cells (gc - (xs.length + ys.length))) e)) (S:=S.more w.heap.size ((xs ++ ys).length * n))
       (xs:=xs ++ ys) (b:=w.heap.size) (off:=0) (sz:=n) (cap:=gc) (o:=.un) hf.new (fun k hk => .inr ⟨rfl,by omega⟩) h0 hxys (by rw [hasz,hL]; omega) ?_ (by rw [hL]; exact hgc) (by simp) (by simp) (fun _ => hne)
      ·rw [hL] at hp ⊢
       exact .p _ _ hp
      ·intro i e' j c he hcc
       obtain ⟨r1,r2⟩:=Ztj (rest:=Builtin.zeroCells z.cells (gc - (xs.length + ys.length))) so sn i e' j c he (hxys e' (q9_ he)) hcc
       rw [Zfq]
       exact ⟨r1,fun v hv => (r2 v hv).keeps hke⟩
     ·intro _
      refine ⟨UnOk.ofUn ⟨xs ++ ys,w.heap.size,0,_,gc,_,e,n,rfl,rfl,hf.new,h0,by rw [hasz]; omega,hgc,by omega,?_,hxys⟩,rfl⟩
      intro k hk hs
      rcases hs with hs | ⟨_,hs⟩
      ·exact Zpn _ (h.mem.stay _ _ hs)
      ·rw [hL] at hs; omega
  ·simp at hv1
 ·simp at hv
end
end Go.Abs
end
section
namespace Go.Abs
open Go
section
variable {P:Program} {w:World} {S:Stay}
theorem ZCz {n:Nat} {xs:List PV} {b off cap:Nat} (hs:∀ e,e ∈ xs → (Z1r e).length = n)
  (hc:∀ (i:Nat) (e:PV) (j:Nat) (c:PV),xs[i]? = some e → (Z1r e)[j]? = some c → ∃ v,w.cell? ⟨b,off + (i * n + j),none⟩ = some v ∧ Z42 c = true ∧ PRel w S c v) :
  ∃ arr,Src P w S n xs (.slice (some ⟨b,off,none⟩) xs.length cap) arr:=by
 have hall:∀ k,k < xs.length * n → ∃ v,w.cell? ⟨b,off + k,none⟩ = some v ∧ v.oneCell' = true:=by
  intro k hk
  obtain ⟨i,j,hi,hj,rfl⟩:=ZsJ hk
  have he:xs[i]? = some xs[i]:=by simp [hi]
  have hlen:=hs xs[i] (Znm hi)
  have hj':j < (Z1r xs[i]).length:=by omega
  obtain ⟨v,q1,q3,q4⟩:=hc i xs[i] j (Z1r xs[i])[j] he (by simp [hj'])
  simp only [Z42,Z4R] at q3
  exact ⟨v,q1,Zik (q4.cellV q3.1)⟩
 refine ⟨((List.range (xs.length * n)).map fun k => ZhM w b (off + k)).toArray,⟨fun w1 => rfl,fun w1 hw1 => ?_,by simp,?_,?_⟩⟩
 ·show (loadCells ⟨b,off,none⟩ (xs.length * n)).run P w1 = _
  have hcell:∀ o,w1.cell? ⟨b,o,none⟩ = w.cell? ⟨b,o,none⟩:=fun o => cell_of_heap (by rw [hw1])
  rw [Znz (w:=w1) (fun j hj => by rw [hcell]; obtain ⟨v,hv,_⟩:=hall j hj; exact ⟨v,hv⟩)]
  congr 3
  funext k
  simp [ZhM,hcell]
 ·intro v hv
  simp only [Z7a,ZhB] at hv
  obtain ⟨k,hk,rfl⟩:=hv
  obtain ⟨v,hv,h1⟩:=hall k hk
  rw [Zaw hv]
  exact h1
 ·intro i e j c he hc'
  obtain ⟨v,q1,q3,q4⟩:=hc i e j c he hc'
  refine ⟨q3,fun u hu => ?_⟩
  obtain ⟨_,rfl⟩:=range_map_get hu
  rw [Zaw q1]
  exact q4
theorem Znh {b:Nat} (h:∀ o,¬ S b o):∀ o,¬ (S.more b 0) b o:=by
 intro o ho
 rcases ho with ho | ⟨_,ho⟩
 ·exact h o ho
 ·exact absurd ho (Nat.not_lt_zero _)
theorem ZqX {c k:Nat}:Keeps w S w (S.more c k):=⟨fun _ _ h => .inl h,fun _ _ _ => rfl⟩
end
section
variable {P:Program} {H:Hints} {f:FuncId} {G:GF} {nt m0:Nat} {o:Oper} {w:World} {S:Stay} {β:Nat → Nat} {sl:Sl} {B:List Row} {a:Act}
 {K:AV → Sl → List Row → Option Res} {r:Res} {next:Act → World → Prop} {Q:Exit → Act → World → Prop}
variable (h:Good nt w S β sl B a) (hd:∀ t,o.dst = some t → t < nt)
include h hd
omit hd in
theorem Good.toMl {id off n:Nat} {row:Row} (hrow:B[id]? = some row) (hc:row[off]? = some (.p (.lst .nl []))) :
  Good nt w S β sl (B.set id (row.set off (.p (.ml n [])))) a ∧ ∀ b,UB (Here nt sl a.tmps (B.set id (row.set off (.p (.ml n [])))) β w) b → UB (Here nt sl a.tmps B β w) b:=by
 have hid:id < B.length:=(q2_.1 hrow).1
 have hmd:mdOf row = none:=by
  cases hm:mdOf row with
  | none => rfl
  | some es =>
   rw [ZeN hm] at hc
   cases off <;> simp at hc
 obtain ⟨cs,ty,hheap,hcs⟩:=h.mem.row id row hrow hmd
 have hcell:∀ j,w.cell? ⟨β id,j,none⟩ = cs[j]?:=fun j => Z6s hheap
 have hval:∀ u,ARel w S β B.length (.p (.lst .nl [])) u → u = .slice none 0 0:=fun u hu => ZcP (show ZgB (.p (.lst .nl [])) = some (.slice none 0 0) from rfl) hu
 obtain ⟨hg,hU⟩:=Good.setBox (j0:=off) (x0:=.p (.ml n [])) (v0:=.slice none 0 0) (row:=row.set off (.p (.ml n []))) h hid (Zbe hheap) (by simp [hcs]) (by
   intro j z u hz hu'
   have hjl:j < row.length:=by have:=(q2_.1 hz).1; simpa using this
   obtain ⟨v',q1,q2,q3⟩:=h.mem.cell id row j _ hrow hmd (q4_ hjl)
   rw [Z8u] at hz
   split at hz
   ·rename_i e
    subst e
    split at hz
    ·simp only [q1_] at hz
     subst hz
     have hlt:off < row.length:=(q2_.1 hc).1
     have e1:row[off] = .p (.lst .nl []):=by rw [q4_ hlt] at hc; exact Option.some.inj hc
     rw [hcell,hu'] at q1
     cases q1
     rw [e1] at q2
     have:=hval u q2
     subst this
     exact ⟨.p _ _ (.ml n [] none 0 (Z2x _) (fun _ => rfl)),rfl,fun _ => .inr ⟨rfl,rfl,rfl⟩⟩
    ·exact absurd hjl ‹_›
   ·have hlt:j < row.length:=(q2_.1 hz).1
    rw [q4_ hlt] at hz
    cases hz
    rw [hcell,hu'] at q1
    cases q1
    exact ⟨q2,q3,fun _ => .inl ⟨row,hrow,q4_ hlt,by rw [hcell,hu']⟩⟩) (fun _ => ⟨.inl ⟨n,rfl,rfl⟩,fun i _ e => by simp [Z3U] at e,fun l y u _ _ e => by obtain ⟨b,_,e2⟩:=e; simp [Z3U] at e2⟩)
 refine ⟨hg,fun b hb => ?_⟩
 rcases hU b hb with hb | ⟨_,e⟩
 ·exact hb
 ·simp [Z3U] at e
omit h hd in
theorem Good.mz {id:Nat}:∀ (l:List (Nat × Nat)) {B:List Row} {row:Row},Good nt w S β sl B a → B[id]? = some row → Good nt w S β sl (B.set id (ZaO l row)) a ∧ ∀ b,UB (Here nt sl a.tmps (B.set id (ZaO l row)) β w) b → UB (Here nt sl a.tmps B β w) b
 | [],B,row,h,hr => by
  have:B.set id row = B:=by
   apply Zm0
   intro i
   rw [Z8u]
   split
   ·rename_i e
    subst e
    rw [if_pos (q2_.1 hr).1,hr]
   ·rfl
  rw [show ZaO [] row = row from rfl,this]
  exact ⟨h,fun _ hb => hb⟩
 | (off,n) :: l,B,row,h,hr => by
  have hid:=(q2_.1 hr).1
  show Good nt w S β sl (B.set id (ZaO l (match row[off]? with | some (.p (.lst .nl [])) => row.set off (.p (.ml n [])) | _ => row))) a ∧ _
  by_cases hc:row[off]? = some (.p (.lst .nl []))
  ·obtain ⟨g1,u1⟩:=h.toMl (n:=n) hr hc
   obtain ⟨g2,u2⟩:=Good.mz (id:=id) l (row:=row.set off (.p (.ml n []))) g1 (by simp [hid])
   rw [List.set_set] at g2 u2
   have e:(match row[off]? with | some (.p (.lst .nl [])) => row.set off (.p (.ml n [])) | _ => row) = row.set off (AV.p (.ml n [])):=by rw [hc]
   have e2:ZaO ((off,n) :: l) row = ZaO l (row.set off (.p (.ml n []))):=congrArg (ZaO l) e
   rw [e2,e]
   exact ⟨g2,fun b hb => u1 b (u2 b hb)⟩
  ·obtain ⟨g2,u2⟩:=Good.mz (id:=id) l (row:=row) h hr
   have e:(match row[off]? with | some (.p (.lst .nl [])) => row.set off (.p (.ml n [])) | _ => row) = row:=by
    split
    ·rename_i heq; exact absurd heq hc
    ·rfl
   have e2:ZaO ((off,n) :: l) row = ZaO l row:=congrArg (ZaO l) e
   rw [e2,e]
   exact ⟨g2,u2⟩
theorem ZF4 {t:TypeId} {x:Operand} {l:List (Nat × Nat)} (ho:o.op = .box t x) (hk:bxM l (ev sl x) B (fun v B => K v (weak sl x) B) = some r):o.wp P a w (Leaves nt m0 o w S β sl B a K r) Q:=by
 unfold bxM at hk
 split at hk
 ·exact ZCi h hd ho hk
 ·rename_i l2 hne
  split at hk
  ·simp at hk
  ·rename_i ht
   have hk2:bx (ev sl x) B (fun v B' => (fun (v:AV) (s:Sl) (B':List Row) => (open Classical in if B' = B ++ [Z2k (ev sl x)] then K v s (B'.set B.length (ZaO l (Z2k (ev sl x)))) else none)) v (weak sl x) B') = some r:=by
    unfold bx
    rw [if_neg ht]
    simp only [if_true]
    rw [← hk,List.set_append_right _ _ (Z2x _),Nat.sub_self]
    rfl
   refine Oper.wp_mono ?_ (ZCi (m0:=m0) (K:=fun (v:AV) (s:Sl) (B':List Row) => (open Classical in if B' = B ++ [Z2k (ev sl x)] then K v s (B'.set B.length (ZaO l (Z2k (ev sl x)))) else none)) h hd ho hk2)
   rintro a' w' ⟨v,sl',B',S',β',q1,q2,q3⟩
   simp only at q1
   split at q1
   ·rename_i e
    subst e
    obtain ⟨g,u⟩:=Good.mz (id:=B.length) l (row:=Z2k (ev sl x)) q2 (by simp)
    refine ⟨v,sl',_,S',β',q1,g,?_⟩
    have hl:((B ++ [Z2k (ev sl x)]).set B.length (ZaO l (Z2k (ev sl x)))).length = (B ++ [Z2k (ev sl x)]).length:=by simp
    rw [hl]
    exact { q3 with uns:=fun b hb => q3.uns b (u b hb) }
   ·simp at q1
theorem ZHO {t:TypeId} {x:Operand} {lo hi mx:Option Operand} (ho:o.op = .slice t x lo hi mx)
  {v:AV} (hv:xslM (Z4P P t) (ev sl x) (evo sl lo) (evo sl hi) (evo sl mx) = some v) (hk:K v (weak sl x) B = some r):o.wp P a w (Leaves nt m0 o w S β sl B a K r) Q:=by
 have hs:execOp a.eval o = (Instr.sliceAt t (a.eval x) (lo.map a.eval) (hi.map a.eval) (mx.map a.eval)).bind fun x => Sem.pure (Next.value x):=by
  unfold execOp
  simp only [ho]
  rfl
 unfold xslM at hv
 split at hv
 ·rename_i k xs heq
  split at hv
  ·rename_i hv1 hlo hmx hhi
   obtain ⟨kd,j,hj,hv⟩:=Zbi hv
   split at hv
   ·rename_i hc
    obtain ⟨c1,c2,c3,c4⟩:=hc
    simp only [q1_] at hv
    subst hv
    have hu:isUn (ev sl x) = true:=by rw [heq]; rfl
    obtain ⟨t1,rfl,htn,here⟩:=Zd1 h hu
    obtain ⟨hok,hapart⟩:=h.uns.ok _ _ _ here hu
    rw [heq] at hok
    have hlo':lo = none:=by cases lo with | none => rfl | some y => simp [evo] at hlo
    have hmx':mx = none:=by cases mx with | none => rfl | some y => simp [evo] at hmx
    obtain ⟨y,rfl⟩:∃ y,hi = some y:=by cases hi with | none => simp [evo] at hhi | some y => exact ⟨y,rfl⟩
    simp only [evo,Z8O,q1_] at hhi
    have hy:=h.ev y
    rw [hhi,hj] at hy
    have hye:=Z5b hy
    subst hlo' hmx'
    obtain ⟨e,ti,hu',hi',hsz,_⟩:=Zaf (P:=P) rfl c4
    rcases hok.ml with ⟨rfl,e2⟩ | ⟨b,off,cap,cs,ty,e2,e3,e4,e5,e6,e8,e9,e10⟩
    ·
     have hj0:j = 0:=by simp at c2; omega
     subst hj0
     have hv':(execOp a.eval o).run P w = .ok (.value (a.eval (.tmp t1))) w:=by
      have hrun:=Zc8 (P:=P) (isSlice:=true) (len:=0) (cap:=0) (lo:=none) (hi:=some (a.eval y)) (mx:=none) (l:=0) (h:=0) (m:=0) (.inl ⟨rfl,rfl⟩) (.inr ⟨kd,by rw [hye]⟩) (.inl ⟨rfl,rfl⟩)
       (Zew _) (Zew _) (Zew _) (Zew _) (Zew _) (by simp) w
      rw [hs,e2,Sem.run_bind']
      have:(Instr.sliceAt t (.slice none 0 0) none (some (a.eval y)) none).run P w = .ok (.slice none 0 0) w:=by
       unfold Instr.sliceAt Instr.slice
       simp only [Sem.run_bind,run_underlying hu',Result.andThen_ok,run_sizeOf hi',Zo9,Z8O] at hrun ⊢
       rw [hrun]
       rfl
      simp only [Zo9,Z8O]
      rw [this]
      rfl
     exact Z2p hv' (Zif h hd (.tmp t1) (by rw [heq]; exact hk))
    have hrun:=Zc8 (P:=P) (isSlice:=true) (len:=xs.length) (cap:=cap) (lo:=none) (hi:=some (a.eval y)) (mx:=none) (l:=0) (h:=j) (m:=cap) (.inl ⟨rfl,rfl⟩) (.inr ⟨kd,by rw [hye]⟩) (.inl ⟨rfl,rfl⟩)
     (Zew _) c1 c2 (by omega) (Zew _) (by simp) w
    have hlen:(xs.take j.toNat).length = j.toNat:=by simp; omega
    have hv':(execOp a.eval o).run P w = .ok (.value (.slice (some ⟨b,off,none⟩) (xs.take j.toNat).length cap)) w:=by
     rw [hs,e2,Sem.run_bind']
     have:(Instr.sliceAt t (.slice (some ⟨b,off,none⟩) xs.length cap) none (some (a.eval y)) none).run P w = .ok (.slice (some ⟨b,off,none⟩) j.toNat cap) w:=by
      unfold Instr.sliceAt Instr.slice
      simp only [Sem.run_bind,run_underlying hu',Result.andThen_ok,run_sizeOf hi',Zo9,Z8O] at hrun ⊢
      rw [hrun]
      simp only [Result.andThen_ok,Sem.run_pure]
      have e0:(0:Int).toNat = 0:=rfl
      have e1:((cap:Nat):Int).toNat = cap:=by simp
      simp only [e0,e1,Nat.sub_zero]
      by_cases hz:cap = 0
      ·simp [hz]
      ·simp [hz,Addr.add]
     rw [hlen]
     simp only [Zo9,Z8O]
     rw [this]
     rfl
    have honly:Only w w b:=⟨fun _ _ => rfl,rfl,rfl,rfl,rfl⟩
    refine Z2p hv' (Zgw (x:=.tmp t1) (b:=b) (lo:=0) (k:=0) h hd hu (by rw [e2]; rfl) honly (fun o _ => e8 o) (fun _ _ => rfl) (x':=.p (.ml k (xs.take j.toNat))) (.p _ _ (.ml _ _ _ _ (by omega) (by simp))) (fun _ => ?_) hk)
    refine ⟨UnOk.ofMl rfl e3 e4 e5 (by omega) (Znh e8) (fun e he => e9 e (Zpi he)) ?_,rfl⟩
    intro i e q c he hcc
    rw [Zet] at he
    split at he
    ·obtain ⟨k1,u,k2,k3⟩:=e10 i e q c he hcc
     exact ⟨k1,u,k2,k3.keeps ZqX⟩
    ·simp at he
   ·simp at hv
  ·simp at hv
 ·simp at hv
theorem Zz8 {c:Call} {x y:Operand} {t t':TypeId} (ho:o.op = .call c) (hc:c.callee = .builtin .append) (ha:c.args.toList = [x,y]) (ht:c.argTypes.toList = [t,t'])
  (hint:Zhi P t' = false) {v:AV} (hv:Zoe (Z4P P t) (ev sl x) (ev sl y) = some v) (hk:K v (weak sl x) B = some r):o.wp P a w (Leaves nt m0 o w S β sl B a K r) Q:=by
 have hex:∀ v1 w1,(Builtin.append_ #[t,t'] o.type #[a.eval x,a.eval y]).run P w = .ok v1 w1 → (execOp a.eval o).run P w = .ok (.value v1) w1:=by
  intro v1 w1 hn
  unfold execOp
  simp only [ho]
  show ((resolve a.eval c o.type).bind fun d => invoke d.target d.args).run P w = _
  unfold resolve
  simp only [hc,Zau ha,Zau ht]
  show ((Builtin.append_ #[t,t'] o.type (Array.map a.eval #[x,y])).bind fun x => Sem.pure (Next.value x)).run P w = _
  have e:Array.map a.eval #[x,y] = #[a.eval x,a.eval y]:=by simp
  rw [e,Sem.run_bind',hn]
  rfl
 have hy:=h.ev y
 have grow:∀ (xs ys:List PV) (ad:Option Addr) (cap:Nat) (olds news:Array Value),a.eval x = .slice ad xs.length cap → (∀ e,e ∈ xs → (Z1r e).length = Z4P P t) → (∀ e,e ∈ ys → (Z1r e).length = Z4P P t) →
   0 < Z4P P t → xs.length + ys.length ≤ lim → cap < xs.length + ys.length → Src P w S (Z4P P t) xs (.slice ad xs.length cap) olds → Src P w S (Z4P P t) ys (a.eval y) news → K (.p (.ml (Z4P P t) (xs ++ ys))) (weak sl x) B = some r →
   o.wp P a w (Leaves nt m0 o w S β sl B a K r) Q:=by
  intro xs ys ad cap olds news hueq hsx hsy h0 hlim hg so sn hk
  obtain ⟨e,ti,hue,hie,hsz,hb0,hb128,z,hz,hzs⟩:=Zaf (P:=P) rfl h0
  generalize hn:Z4P P t = n at *
  generalize hqeq:a.eval y = q at *
  have hL:(xs ++ ys).length = xs.length + ys.length:=by simp
  have hxys:∀ e,e ∈ xs ++ ys → (Z1r e).length = n:=by
   intro e he
   rcases Zb8.1 he with he | he
   ·exact hsx e he
   ·exact hsy e he
  have hlim':xs.length + ys.length ≤ 1353245080339:=hlim
  have hbytes:(xs.length + ys.length) * ti.bytes ≤ 140737488355328:=by
   have:=Nat.mul_le_mul hlim' hb128
   omega
  rw [hueq] at hex
  have hrun:=hex _ _ (Znw w (ty:=o.type) hue hie hz hint (a:=ad) (sLen:=xs.length) (sCap:=cap) (q:=q) (olds:=olds) (news:=news) (fun w1 => sn.len w1)
   (by rw [hsz]; exact so.first w.drew rfl) (by rw [hsz]; exact sn.first w.drew rfl) hg (by omega) (growslice_fits hg hbytes))
  have hgc:=grownCap_ge w (xs.length + ys.length) cap e
  generalize grownCap w (xs.length + ys.length) cap e = gc at *
  have hf:Fresh w (w.drew.alloc (.cells (olds ++ news ++ Builtin.zeroCells z.cells (gc - (xs.length + ys.length))) e)) (olds ++ news ++ Builtin.zeroCells z.cells (gc - (xs.length + ys.length))) e:=⟨rfl,rfl,rfl,rfl⟩
  have hke:=hf.keeps h.mem.stay 0
  have hasz:(olds ++ news ++ Builtin.zeroCells z.cells (gc - (xs.length + ys.length))).size = gc * n:=by
   rw [Znq,Znq,so.size,sn.size,size_zeroCells,hzs,← Z9Y,← Z9Y]
   congr 1
   omega
  have hval:Value.slice (some ⟨w.heap.size,0,none⟩) (xs.length + ys.length) gc = .slice (some ⟨w.heap.size,0,none⟩) (xs ++ ys).length gc:=by rw [hL]
  rw [hval] at hrun
  refine Z2p hrun (ZcD h hd (h.weak x) (fun t _ => Zgn sl x t) hf 0 (x:=.p (.ml n (xs ++ ys))) (.p _ _ (.ml _ _ _ _ (by rw [hL]; exact hgc) (by simp))) (fun _ => ?_) hk)
  refine ⟨UnOk.ofMl rfl hf.new h0 (by rw [hasz]; omega) (by rw [hL]; exact hgc) ?_ hxys ?_,rfl⟩
  ·refine Znh fun o ho => ?_
   exact Zpn _ (h.mem.stay _ _ ho)
  ·intro i e' j c he hcc
   obtain ⟨r1,r2⟩:=Ztj (rest:=Builtin.zeroCells z.cells (gc - (xs.length + ys.length))) so sn i e' j c he (hxys e' (q9_ he)) hcc
   refine ⟨r1,?_⟩
   have hi:=(q2_.1 he).1
   have hj:j < n:=by rw [← hxys e' (q9_ he)]; exact (q2_.1 hcc).1
   have hlt:i * n + j < (olds ++ news ++ Builtin.zeroCells z.cells (gc - (xs.length + ys.length))).size:=by
    rw [hasz]
    have:=ZcC (sz:=n) (show i < gc by omega) hj
    exact this
   rw [Zfq]
   exact ⟨_,Zfp hlt,(r2 _ (Zfp hlt)).keeps hke⟩
 unfold Zoe at hv
 split at hv
 ·rename_i heq
  obtain ⟨ys,hel,hv1⟩:=ZR hv
  split at hv1
  ·rename_i hcond
   simp only [q1_] at hv1
   simp only [Z4R,decide_eq_true_eq,Zes,List.isEmpty_eq_false_iff] at hcond
   obtain ⟨⟨⟨hsy,h0⟩,hlim⟩,hne⟩:=hcond
   subst hv1
   have hx:=h.ev x
   rw [heq] at hx
   have hu:a.eval x = .slice none 0 0:=ZcP (show ZgB (.p (.lst .nl [])) = some (.slice none 0 0) from rfl) hx
   obtain ⟨news,sn⟩:=Zsf (P:=P) (n:=Z4P P t) hy hel hsy
   have so:Src P w S (Z4P P t) [] (.slice none 0 0) #[]:=⟨fun w1 => rfl,fun w1 _ => run_firstCells_none w1 _ _ _ _,by simp,by simp,by simp⟩
   exact grow [] ys none 0 #[] news hu (by simp) (Z7K hsy) h0 (by simpa using hlim) (by have:=List.length_pos_iff.2 hne; simpa using this) so sn hk
  ·simp at hv1
 ·rename_i k xs heq
  obtain ⟨ys,hel,hv1⟩:=ZR hv
  split at hv1
  ·rename_i hcond
   simp only [q1_] at hv1
   simp only [Z4R,decide_eq_true_eq] at hcond
   obtain ⟨⟨⟨hkn,hsy⟩,h0⟩,hlim⟩:=hcond
   have hkn:=Zt7 hkn
   subst hv1
   have hu:isUn (ev sl x) = true:=by rw [heq]; rfl
   obtain ⟨t1,rfl,htn,here⟩:=Zd1 h hu
   obtain ⟨hok,hapart⟩:=h.uns.ok _ _ _ here hu
   rw [heq] at hok
   subst hkn
   obtain ⟨news,sn⟩:=Zsf (P:=P) (n:=Z4P P t) hy hel hsy
   rcases hok.ml with ⟨rfl,e2⟩ | ⟨b,off,cap,cs,ty,e2,e3,e4,e5,e6,e8,e9,e10⟩
   ·
    by_cases hys:ys = []
    ·subst hys
     obtain ⟨e,ti,hue,hie,hsz,_⟩:=Zaf (P:=P) rfl h0
     have hnews:news = #[]:=by
      have:=sn.size
      simpa using this
     subst hnews
     rw [e2] at hex
     have hrun:=hex _ _ (Znx w (ty:=o.type) hue hie hint (a:=none) (sLen:=0) (sCap:=0) (q:=a.eval y) (fun w1 => sn.len w1) (by rw [hsz]; exact sn.first w rfl) (Z2x _))
     refine Z2p hrun ?_
     rw [← e2]
     exact Zif h hd (.tmp t1) (by rw [heq]; exact hk)
    ·have so:Src P w S (Z4P P t) [] (.slice none 0 0) #[]:=⟨fun w1 => rfl,fun w1 _ => run_firstCells_none w1 _ _ _ _,by simp,by simp,by simp⟩
     exact grow [] ys none 0 #[] news e2 (by simp) (Z7K hsy) h0 hlim (by have:=List.length_pos_iff.2 hys; simpa using this) so sn hk
   obtain ⟨olds,so⟩:=ZCz (P:=P) (w:=w) (S:=S) (cap:=cap) (b:=b) (off:=off) e9 (fun i e j c he hcc => by
    obtain ⟨k1,u,k2,k3⟩:=e10 i e j c he hcc
    exact ⟨u,by rw [Z6s e3]; exact k2,k1,k3⟩)
   by_cases hroom:xs.length + ys.length ≤ cap
   ·obtain ⟨e,ti,hue,hie,hsz,_⟩:=Zaf (P:=P) rfl h0
    generalize hn:Z4P P t = n at *
    have hnl:news.toList.length = ys.length * n:=by simpa using sn.size
    have hmul:(xs.length + ys.length) * n ≤ cap * n:=ZlZ n hroom
    rw [Z9Y] at hmul
    have hL:(xs ++ ys).length = xs.length + ys.length:=by simp
    have hfit:off + xs.length * n + news.toList.length ≤ cs.size:=by rw [hnl]; omega
    rw [e2] at hex
    have hrun:=hex _ _ (Zny w (ty:=o.type) hue hie hint (b:=b) (off:=off) (sLen:=xs.length) (sCap:=cap) (q:=a.eval y) (news:=news) (fun w1 => sn.len w1) (by rw [hsz]; exact sn.first w rfl) hroom e3 sn.one
     (by rw [hsz]; exact hfit))
    rw [hsz,← hL] at hrun
    have hset:=Zja e3 (cs.toList.take (off + xs.length * n) ++ news.toList ++ cs.toList.drop (off + xs.length * n + news.toList.length)).toArray
    obtain ⟨ty',hty⟩:=hset.heap
    have hsize:=Zil cs news.toList (off + xs.length * n) hfit
    have hkeep:Keeps w S (w.setRow b (cs.toList.take (off + xs.length * n) ++ news.toList ++ cs.toList.drop (off + xs.length * n + news.toList.length)).toArray) (S.more b 0):=by
     refine ⟨fun _ _ h => .inl h,fun b1 o1 hs => ?_⟩
     by_cases e:b1 = b
     ·subst e; exact absurd hs (e8 o1)
     ·exact cell_of_heap (hset.other b1 e)
    refine Z2p hrun (Zgw (x:=.tmp t1) (b:=b) (lo:=0) (k:=0) h hd hu (by rw [e2]; rfl) hset.only (fun o _ => e8 o) (fun _ hlt => absurd hlt (Nat.not_lt_zero _)) (x':=.p (.ml n (xs ++ ys))) (.p _ _ (.ml _ _ _ _ (by rw [hL]; exact hroom) (by simp))) (fun _ => ?_) hk)
    refine ⟨UnOk.ofMl rfl hty h0 (by rw [hsize]; exact e5) (by rw [hL]; exact hroom) (Znh e8) ?_ ?_,rfl⟩
    ·intro e he
     rcases Zb8.1 he with he | he
     ·exact e9 e he
     ·exact Z7K hsy e he
    ·intro i e' j c he hcc
     rcases Zrs he with ⟨hi,he⟩ | ⟨hi,he⟩
     ·obtain ⟨k1,u,k2,k3⟩:=e10 i e' j c he hcc
      have hj:j < n:=by rw [← e9 e' (q9_ he)]; exact (q2_.1 hcc).1
      have:=ZcC (sz:=n) hi hj
      refine ⟨k1,u,?_,k3.keeps hkeep⟩
      rw [ZcH _ _ _ _ hfit,if_neg (by omega)]
      exact k2
     ·obtain ⟨r1,r2⟩:=sn.rel _ e' j c he hcc
      have hj:j < n:=by rw [← Z7K hsy e' (q9_ he)]; exact (q2_.1 hcc).1
      have hi':i - xs.length < ys.length:=(q2_.1 he).1
      have hlt:=ZcC (sz:=n) hi' hj
      have hmul2:i * n = xs.length * n + (i - xs.length) * n:=by rw [← Z9Y]; congr 1; omega
      have hlt':(i - xs.length) * n + j < news.size:=by rw [sn.size]; exact hlt
      refine ⟨r1,news[(i - xs.length) * n + j],?_,(r2 _ (Zfp hlt')).keeps hkeep⟩
      rw [ZcH _ _ _ _ hfit,if_pos (by omega),Zsd]
      rw [← Zfp hlt']
      congr 1
      omega
   ·exact grow xs ys (some ⟨b,off,none⟩) cap olds news e2 e9 (Z7K hsy) h0 hlim (by omega) so sn hk
  ·simp at hv1
 ·simp at hv
theorem ZCn {t:TypeId} {x:Operand} {d:TypeDesc} (ho:o.op = .load t x) (hu:P.underlying t = some d) (ha:aggT d = false) (hk:ldFz (ev sl x) B (fun v B => K v sl B) = some r) :
  o.wp P a w (Leaves nt m0 o w S β sl B a K r) Q:=by
 have hx:=h.ev x
 unfold ldFz at hk
 split at hk
 ·rename_i id off heq
  obtain ⟨row,hrow,hk⟩:=ZR hk
  have hmd:mdOf row = none:=by
   cases hd:mdOf row with
   | none => rfl
   | some es => simp [hd] at hk
  rw [if_neg (by simp [hmd])] at hk
  obtain ⟨c,hc,hk⟩:=ZR hk
  split at hk
  ·rename_i n xs
   rw [heq] at hx
   obtain ⟨u,hue⟩:∃ u,a.eval x = u:=⟨_,rfl⟩
   rw [hue] at hx
   cases hx with
   | ptr _ _ hid =>
    obtain ⟨v,hcv,hrel,hcellA⟩:=h.mem.cell id row off _ hrow hmd hc
    obtain ⟨cs,ty,hheap,hcs⟩:=h.mem.row id row hrow hmd
    have hcell:∀ j,w.cell? ⟨β id,j,none⟩ = cs[j]?:=fun j => Z6s hheap
    have hrun:(execOp a.eval o).run P w = .ok (.value v) w:=by
     unfold execOp
     simp only [ho,hue]
     show ((Instr.loadAt t (.pointer (some ⟨β id,off,none⟩))).bind fun x => Sem.pure (Next.value x)).run P w = _
     rw [Sem.run_bind']
     unfold Instr.loadAt
     simp [Instr.sureAddr,Z9i hu ha hcv]
    have here:Here nt sl a.tmps B β w (.box id off) (.p (.ml n xs)) v:=⟨row,hrow,hc,hcv⟩
    obtain ⟨hok,hapart⟩:=h.uns.ok _ _ _ here rfl
    have hhd:ARel w S β B.length (.p (.hd xs.length)) v:=hrel.shr
    obtain ⟨hg,hU⟩:=Good.setBox (j0:=off) (x0:=jk) (v0:=undef) (row:=row.set off (.p (.hd xs.length))) h hid (Zbe hheap) (by simp [hcs]) (by
      intro j z u hz hu'
      rw [Z8u] at hz
      split at hz
      ·rename_i e
       subst e
       split at hz
       ·simp only [q1_] at hz
        subst hz
        rw [hcell,hu'] at hcv
        cases hcv
        exact ⟨hhd,rfl,fun hun => by simp [isUn] at hun⟩
       ·simp at hz
      ·obtain ⟨v',q1,q2,q3⟩:=h.mem.cell id row j z hrow hmd hz
       rw [hcell,hu'] at q1
       cases q1
       exact ⟨q2,q3,fun _ => .inl ⟨row,hrow,hz,by rw [hcell,hu']⟩⟩) (by intro hun; simp [isUn,jk] at hun)
    have hlen:(B.set id (row.set off (.p (.hd xs.length)))).length = B.length:=by simp
    rcases hok.ml with ⟨rfl,e2⟩ | ⟨b,off',cap,cs',ty',e2,e3,e4,e5,e6,e8,e9,e10⟩
    ·
     have hval:ARel w S β (B.set id (row.set off (.p (.hd ([]:List PV).length)))).length (.p (.lst .sh [])) v:=by
      rw [e2]
      exact .p _ _ (.lst .sh [] none 0 0 0 0 (fun _ _ => undef) (Z2x _) (by simp) (by simp) (by simp) (fun _ => rfl) (by simp) (by simp) (by simp))
     refine Z2p hrun ⟨_,sl,_,_,β,hk,hg.put hd hval rfl,?_⟩
     rw [hlen]
     refine Zm8 h.mem hid (Zbe hheap) fun b1 hb1 => ?_
     rcases hU b1 (UB.put h.size hd (x:=.p (.lst .sh [])) rfl b1 hb1) with hb | ⟨q1,_⟩
     ·exact hb
     ·simp [isUn,jk] at q1
    have hblk:Z3U v = some b:=by rw [e2]; rfl
    have hgone:∀ l y q,Here nt sl a.tmps (B.set id (row.set off (.p (.hd xs.length)))) β w l y q → isUn y = true → Z3U q ≠ some b:=by
     intro l y q hl hy hb
     have:Here nt sl a.tmps B β w l y q ∧ l ≠ .box id off:=by
      cases l with
      | slot t => exact ⟨hl,by simp⟩
      | box i j =>
       obtain ⟨r',q1,q2,q3⟩:=hl
       rcases Zgk q1 with ⟨rfl,rfl,_⟩ | ⟨hn,q⟩
       ·rw [Z8u] at q2
        split at q2
        ·rename_i e
         split at q2
         ·simp only [q1_] at q2
          rw [← q2] at hy
          simp [isUn] at hy
         ·simp at q2
        ·rename_i e
         exact ⟨⟨row,hrow,q2,q3⟩,by simp; exact fun e' => e e'.symm⟩
       ·exact ⟨⟨r',q,q2,q3⟩,by simp; exact fun e' => absurd e' hn⟩
     exact this.2 (h.uns.inj l _ y _ q v this.1 here hy rfl ⟨_,hb,hblk⟩)
    have hkeep:Keeps w S w (S.more b (off' + xs.length * n)):=ZqX
    have hg2:Good nt w (S.more b (off' + xs.length * n)) β sl (B.set id (row.set off (.p (.hd xs.length)))) a:=by
     refine hg.world hkeep ?_ ?_ ?_
     ·intro i hi
      rw [hlen] at hi
      refine ⟨rfl,fun o ho => ?_⟩
      rcases ho with ho | ⟨e,_⟩
      ·exact h.mem.apart i hi o ho
      ·exact hapart i hi (by rw [hblk,e])
     ·intro b1 o1 hs
      rcases hs with hs | ⟨e,_⟩
      ·exact h.mem.stay b1 o1 hs
      ·rw [e]; exact lt_of_heap e3
     ·intro l y q hl hy
      refine (hg.uns.ok l y q hl hy).1.world hkeep fun b1 hb1 => ⟨rfl,fun o ho => ?_⟩
      rcases ho with ho | ⟨e,_⟩
      ·exact ho
      ·exact absurd (e ▸ hb1) (hgone l y q hl hy)
    have hval:ARel w (S.more b (off' + xs.length * n)) β (B.set id (row.set off (.p (.hd xs.length)))).length (.p (.lst .sh xs)) v:=by
     rw [e2]
     have hle:xs.length * n ≤ cap * n:=ZlZ n e6
     refine .p _ _ (ZeM e3 (fun k hk => .inr ⟨rfl,by omega⟩) e4 e9 (by omega) ?_ e6 (by simp) (by simp) (by simp))
     intro i e j c he hcc
     obtain ⟨k1,u,k2,k3⟩:=e10 i e j c he hcc
     refine ⟨k1,fun v hv => ?_⟩
     rw [k2] at hv
     cases hv
     exact k3.keeps hkeep
    refine Z2p hrun ⟨_,sl,_,_,β,hk,hg2.put hd hval rfl,?_⟩
    rw [hlen]
    refine ⟨hkeep,Z2x _,rfl,rfl,rfl,fun hm => ⟨hm,fun _ _ => rfl⟩,fun i hi => .inl ⟨i,hi,rfl,fun q => q⟩,?_,?_,fun _ _ _ _ => rfl⟩
    ·intro b1 hb1
     left
     rcases hU b1 (UB.put h.size hd (x:=.p (.lst .sh xs)) rfl b1 hb1) with hb | ⟨q1,_⟩
     ·exact hb
     ·simp [isUn,jk] at q1
    ·intro b1 o1 hs
     rcases hs with hs | ⟨e,_⟩
     ·exact .inl hs
     ·exact .inr (.inr ⟨_,_,_,here,rfl,by rw [hblk,e]⟩)
  ·simp at hk
 ·simp at hk
end
end Go.Abs
end
section
namespace Go.Abs
open Go
theorem Zng {h:Array Obj} {b k:Nat} {f:Obj → Obj} (hk:k ≠ b):(h.modify b f)[k]? = h[k]?:=by
 rw [Zt9]
 rw [if_neg (fun e => hk e.symm)]
theorem ZwP (w:World) (a:Addr) (n:Nat):Only w (w.freeze a n) a.block:=by
 unfold World.freeze
 split
 ·exact ⟨fun _ _ => rfl,rfl,rfl,rfl,rfl⟩
 ·exact ⟨fun k hk => Zng hk,by simp,rfl,rfl,rfl⟩
theorem Zoz (w:World) (a:Addr) (n:Nat) (b o:Nat):(w.freeze a n).cell? ⟨b,o,none⟩ = w.cell? ⟨b,o,none⟩:=by
 unfold World.freeze
 split
 ·rfl
 ·by_cases e:b = a.block
  ·subst e
   unfold World.cell?
   simp only [Zt9,if_true]
   cases hb:w.heap[a.block]? with
   | none => rfl
   | some x => cases x <;> rfl
  ·exact cell_of_heap (Zng e)
section
variable {P:Program} {H:Hints} {f:FuncId} {G:GF} {nt m0:Nat} {o:Oper} {w:World} {S:Stay} {β:Nat → Nat} {sl:Sl} {B:List Row} {a:Act}
 {K:AV → Sl → List Row → Option Res} {r:Res} {next:Act → World → Prop} {Q:Exit → Act → World → Prop}
theorem ZF9 {x:Operand} {v:AV} {K:AV → Sl → List Row → Option Res} (_h:Good nt w S β sl B a) (hop:∀ (K':AV → Sl → List Row → Option Res),K' v sl B = some r → o.wp P a w (Leaves nt m0 o w S β sl B a K' r) Q)
  (_hd:∀ t,o.dst = some t → t < nt) (hk:K v (weak sl x) B = some r):o.wp P a w (Leaves nt m0 o w S β sl B a K r) Q:=by
 have h1:=hop (fun y sl2 B2 => K y (weak sl2 x) B2) hk
 refine Oper.wp_mono ?_ h1
 rintro a' w' ⟨y,sl2,B2,S',β',q1,q2,q3⟩
 have hg:∀ t,t < nt → get (put (weak sl2 x) o.dst y) t = get (put sl2 o.dst y) t ∨ (ARel w' S' β' B2.length (get (put (weak sl2 x) o.dst y) t) (a'.tmps.getD t undef) ∧ isUn (get (put (weak sl2 x) o.dst y) t) = false):=by
  intro t ht
  have hsl:=q2.slots t ht
  have key:∀ (d:Option Tmp),get (put (weak sl2 x) d y) t = get (put sl2 d y) t ∨ get (put (weak sl2 x) d y) t = shr (get (put sl2 d y) t):=by
   intro d
   have hw:get (weak sl2 x) t = get sl2 t ∨ get (weak sl2 x) t = shr (get sl2 t):=by
    cases x with
    | tmp u =>
     show get ((u,shr (get sl2 u)) :: sl2) t = _ ∨ get ((u,shr (get sl2 u)) :: sl2) t = _
     rw [Z1Z]
     by_cases e:u = t
     ·subst e; rw [if_pos rfl]; exact .inr rfl
     ·rw [if_neg e]; exact .inl rfl
    | _ => exact .inl rfl
   cases d with
   | none => exact hw
   | some d =>
    show get ((d,y) :: weak sl2 x) t = get ((d,y) :: sl2) t ∨ get ((d,y) :: weak sl2 x) t = shr (get ((d,y) :: sl2) t)
    rw [Z1Z,Z1Z]
    by_cases e:d = t
    ·rw [if_pos e,if_pos e]; exact .inl rfl
    ·rw [if_neg e,if_neg e]; exact hw
  rcases key o.dst with e | e
  ·exact .inl e
  ·exact .inr ⟨by rw [e]; exact hsl.shr,by rw [e]; exact Z4p _⟩
 have hh:∀ t,nt ≤ t → get (put (weak sl2 x) o.dst y) t = jk:=by
  intro t ht
  have h2:=q2.high t ht
  have hw:get (weak sl2 x) t = get sl2 t ∨ get (weak sl2 x) t = shr (get sl2 t):=by
   cases x with
   | tmp u =>
    show get ((u,shr (get sl2 u)) :: sl2) t = _ ∨ get ((u,shr (get sl2 u)) :: sl2) t = _
    rw [Z1Z]
    by_cases e:u = t
    ·subst e; rw [if_pos rfl]; exact .inr rfl
    ·rw [if_neg e]; exact .inl rfl
   | _ => exact .inl rfl
  cases hdd:o.dst with
  | none =>
   rw [hdd] at h2
   change get sl2 t = jk at h2
   show get (weak sl2 x) t = jk
   rcases hw with e | e
   ·rw [e,h2]
   ·rw [e,h2]; rfl
  | some d =>
   rw [hdd] at h2
   change get ((d,y) :: sl2) t = jk at h2
   show get ((d,y) :: weak sl2 x) t = jk
   rw [Z1Z] at h2 ⊢
   by_cases e:d = t
   ·rw [if_pos e] at h2 ⊢; exact h2
   ·rw [if_neg e] at h2 ⊢
    rcases hw with e' | e'
    ·rw [e',h2]
    ·rw [e',h2]; rfl
 refine ⟨y,weak sl2 x,B2,S',β',q1,q2.reslot hg hh,?_⟩
 exact { q3 with uns:=fun c hc => q3.uns c (UB.reslot (fun t ht => (hg t ht).imp id fun h => h.2) c hc) }
theorem ZF8 {s:TypeId} {x:Operand} (h:Good nt w S β sl B a) (hd:∀ t,o.dst = some t → t < nt) (ho:o.op = .convert s s x) {v:AV} (hv:Zzk P s (ev sl x) = some v) (hk:K v (weak sl x) B = some r) :
  o.wp P a w (Leaves nt m0 o w S β sl B a K r) Q:=by
 unfold Zzk at hv
 split at hv
 ·rename_i xs heq
  split at hv
  ·rename_i hs
   simp only [q1_] at hv
   subst hv
   obtain ⟨e,hu,he⟩:=Zna hs
   have hun:isUn (ev sl x) = true:=by rw [heq]; rfl
   obtain ⟨t,rfl,htn,here⟩:=Zd1 h hun
   obtain ⟨hok,_⟩:=h.uns.ok _ _ _ here hun
   have hx:=h.ev (.tmp t)
   rw [heq] at hok hx
   obtain ⟨xs',b,off,len,cap,cs,ty,sz,e1,e2,e3,e4,e5,e6,e7,e8,e9⟩:=hok.un
   cases e1
   have hrun:(execOp a.eval o).run P w = .ok (.value (a.eval (.tmp t))) (w.freeze ⟨b,cs.size,none⟩ 1):=by
    rw [ZoS ho,Sem.run_bind']
    have hsh:w.shape? b = some (ty,cs.size):=by unfold World.shape?; rw [e3]
    have:(convert s s (a.eval (.tmp t))).run P w = .ok (a.eval (.tmp t)) (w.freeze ⟨b,cs.size,none⟩ 1):=by
     rw [e2]
     simp [convert,run_underlying hu,run_underlying he,markStringish,hsh]
    rw [this]
    rfl
   have honly:=ZwP w ⟨b,cs.size,none⟩ 1
   refine Z2p hrun (Zgw (b:=b) (lo:=off + len * sz) (k:=0) h hd hun (by rw [e2]; rfl) honly e8 (fun o _ => Zoz _ _ _ _ _) (x':=.p (.lst .sh xs)) ?_ (by simp [isUn]) hk)
   have hkeep:Keeps w S (w.freeze ⟨b,cs.size,none⟩ 1) (S.more b 0):=⟨fun _ _ h => .inl h,fun _ _ _ => Zoz _ _ _ _ _⟩
   cases hx with
   | p _ _ hp => exact .p _ _ (hp.keeps hkeep).nrm
  ·simp at hv
 ·exact ZF9 h (fun K' hk' => ZCj h hd ho hv hk') hd hk
end
end Go.Abs
end
section
namespace Go.Abs
open Go
theorem Z8j (g:Nat → Nat):∀ l,Z1W g l = l.map (Z2o g)
 | [] => by simp [Z1W]
 | x :: r => by simp [Z1W,Z8j g r]
theorem Z4W {i:Nat}:∀ {l:List AV},i ∈ Z1p l ↔ ∃ x,x ∈ l ∧ i ∈ ptrs x
 | [] => by simp [Z1p]
 | x :: r => by simp [Z1p,Z4W (l:=r)]
theorem ZjK (f:AV → AV) (hf:∀ x,ptrs (f x) = ptrs x):∀ l,Z1p (l.map f) = Z1p l
 | [] => by simp
 | x :: r => by simp [Z1p,hf,ZjK f hf r]
theorem ZCw (x:AV):ptrs (nrmA x) = ptrs x:=by
 cases x with
 | p x => simp [nrmA,ptrs]
 | agg cs =>
  simp only [nrmA,ptrs]
  exact ZjK _ (fun x => by cases x <;> simp [ptrs]) _
 | tup vs =>
  simp only [nrmA,ptrs]
  exact ZjK _ (fun x => by cases x <;> simp [ptrs]) _
 | _ => rfl
theorem ZFh (g:Nat → Nat) (x:PV):Z2o g (.p x) = .p x:=by simp [Z2o]
theorem Zdg (g:Nat → Nat) (x:AV):isUn (Z2o g x) = isUn x:=by cases x <;> simp [Z2o,isUn]
theorem Zm2 {g:Nat → Nat} {x:AV} (h:isUn x = true):Z2o g x = x:=by
 rcases ZEV h with ⟨xs,rfl⟩ | ⟨n,xs,rfl⟩ <;> simp [Z2o]
theorem Zpq {g:Nat → Nat} {x:AV} (h:isUn x = false):isUn (Z2o g x) = false:=(Zdg g x).trans h
theorem ZbO (g:Nat → Nat) (r:Row):mdOf (Z1W g r) = mdOf r:=by
 cases r with
 | nil => rfl
 | cons x r =>
  cases r with
  | nil => cases x <;> simp [Z1W,Z2o,mdOf]
  | cons y r => cases x <;> cases y <;> simp [Z1W,Z2o,mdOf]
theorem Zhx (g:Nat → Nat) (x:AV):Z3g (Z2o g x) = Z3g x:=by cases x <;> simp [Z2o,Z3g]
theorem ZeO {w:World} {S:Stay} {β β':Nat → Nat} {n n':Nat} {g:Nat → Nat} {x:AV} {v:Value} (h:ARel w S β n x v) (hg:∀ i,i ∈ ptrs x → g i < n' ∧ β' (g i) = β i):ARel w S β' n' (Z2o g x) v:=by
 induction h with
 | p x v h => rw [ZFh]; exact .p x v h
 | ptr id off h =>
  obtain ⟨h1,h2⟩:=hg id (by simp [ptrs])
  simp only [Z2o]
  rw [← h2]
  exact .ptr _ _ h1
 | mp id h =>
  obtain ⟨h1,h2⟩:=hg id (by simp [ptrs])
  simp only [Z2o]
  rw [← h2]
  exact .mp _ h1
 | cptr cs b off g' h => simp only [Z2o]; exact .cptr cs b off g' h
 | clo f first cap a1 a2 h1 h2 _ _ h5 ih1 ih2 =>
  simp only [Z2o,Z8j]
  have hm1:∀ c,c ∈ first → ∀ i,i ∈ ptrs c → g i < n' ∧ β' (g i) = β i:=fun c hc i hi => hg i (by simp only [ptrs,Zb8]; exact .inl (Z4W.2 ⟨c,hc,hi⟩))
  have hm2:∀ c,c ∈ cap → ∀ i,i ∈ ptrs c → g i < n' ∧ β' (g i) = β i:=fun c hc i hi => hg i (by simp only [ptrs,Zb8]; exact .inr (Z4W.2 ⟨c,hc,hi⟩))
  refine .clo f _ _ a1 a2 (by simpa using h1) (by simpa using h2) ?_ ?_ ?_
  ·intro i c v hc hv
   rw [q7_] at hc
   obtain ⟨d,hd,rfl⟩:=q6_.1 hc
   exact ih1 i d v hd hv (hm1 d (q9_ hd))
  ·intro i c v hc hv
   rw [q7_] at hc
   obtain ⟨d,hd,rfl⟩:=q6_.1 hc
   exact ih2 i d v hd hv (hm2 d (q9_ hd))
  ·intro c hc
   rw [← ZhA] at hc
   obtain ⟨d,hd,rfl⟩:=Z7a.1 hc
   exact Zpq (h5 d hd)
 | agg cs arr h1 h2 _ ih =>
  simp only [Z2o,Z8j]
  refine .agg _ arr (by simpa using h1) ?_ ?_
  ·intro c hc
   obtain ⟨d,hd,rfl⟩:=Z7a.1 hc
   exact ⟨by rw [Zhx]; exact (h2 d hd).1,Zpq (h2 d hd).2⟩
  ·intro i c v hc hv
   rw [q7_] at hc
   obtain ⟨d,hd,rfl⟩:=q6_.1 hc
   exact ih i d v hd hv (fun k hk => hg k (by simp only [ptrs]; exact Z4W.2 ⟨d,q9_ hd,hk⟩))
 | tup vs arr h1 h2 _ ih =>
  simp only [Z2o,Z8j]
  refine .tup _ arr (by simpa using h1) ?_ ?_
  ·intro c hc
   obtain ⟨d,hd,rfl⟩:=Z7a.1 hc
   exact Zpq (h2 d hd)
  ·intro i c v hc hv
   rw [q7_] at hc
   obtain ⟨d,hd,rfl⟩:=q6_.1 hc
   exact ih i d v hd hv (fun k hk => hg k (by simp only [ptrs]; exact Z4W.2 ⟨d,q9_ hd,hk⟩))
theorem Zpp {w:World} {S:Stay} {β:Nat → Nat} {n:Nat} {x:AV} {v:Value} (h:ARel w S β n x v):∀ i,i ∈ ptrs x → i < n:=by
 have lift:∀ (l:List AV) (arr:Array Value),arr.size = l.length → (∀ (i:Nat) (c:AV) (v:Value),l[i]? = some c → arr[i]? = some v → ∀ k,k ∈ ptrs c → k < n) → ∀ i,i ∈ Z1p l → i < n:=by
  intro l arr hl h i hi
  obtain ⟨c,hc,hi⟩:=Z4W.1 hi
  obtain ⟨k,hk⟩:=ZcK.1 hc
  have hlt:k < arr.size:=by rw [hl]; exact (q2_.1 hk).1
  exact h k c _ hk (Zfp hlt) i hi
 induction h with
 | p x v h => intro i hi; simp [ptrs] at hi
 | ptr id off h => intro i hi; simp only [ptrs,ZdC] at hi; subst hi; exact h
 | mp id h => intro i hi; simp only [ptrs,ZdC] at hi; subst hi; exact h
 | cptr => intro i hi; simp [ptrs] at hi
 | clo f first cap a1 a2 h1 h2 _ _ h5 ih1 ih2 =>
  intro i hi
  simp only [ptrs,Zb8] at hi
  rcases hi with hi | hi
  ·exact lift first a1 h1 ih1 i hi
  ·exact lift cap a2 h2 ih2 i hi
 | agg cs arr h1 h2 _ ih => intro i hi; simp only [ptrs] at hi; exact lift cs arr h1 ih i hi
 | tup vs arr h1 h2 _ ih => intro i hi; simp only [ptrs] at hi; exact lift vs arr h1 ih i hi
theorem ZoH {g g':Nat → Nat}:∀ (x:AV),(∀ i,i ∈ ptrs x → g i = g' i) → Z2o g x = Z2o g' x:=by
 intro x
 induction x using AV.rec (motive_2:=fun l => (∀ i,i ∈ Z1p l → g i = g' i) → Z1W g l = Z1W g' l) with
 | p x => intro _; simp [Z2o]
 | ptr id off => intro h; simp [Z2o,h id (by simp [ptrs])]
 | mp id => intro h; simp [Z2o,h id (by simp [ptrs])]
 | md es => intro _; simp [Z2o]
 | cptr cs => intro _; simp [Z2o]
 | clo f a b iha ihb =>
  intro h
  simp only [ptrs,Zb8] at h
  simp only [Z2o,iha fun i hi => h i (.inl hi),ihb fun i hi => h i (.inr hi)]
 | agg cs ih => intro h; simp only [ptrs] at h; simp only [Z2o,ih h]
 | tup vs ih => intro h; simp only [ptrs] at h; simp only [Z2o,ih h]
 | nil => simp [Z1W]
 | cons x r ihx ihr =>
  rename_i h
  simp only [Z1p,Zb8] at h
  simp only [Z1W,ihx fun i hi => h i (.inl hi),ihr fun i hi => h i (.inr hi)]
theorem Zwg {g g':Nat → Nat} {l:List AV} (h:∀ i,i ∈ Z1p l → g i = g' i):Z1W g l = Z1W g' l:=by
 rw [Z8j,Z8j]
 apply Znn
 intro x hx
 exact ZoH x fun i hi => h i (Z4W.2 ⟨x,hx,hi⟩)
theorem Zkc (B:List Row):∀ (n:Nat) (todo seen:List Nat),seen.Nodup → (Z2b B n todo seen).Nodup
 | 0,_,_,h => by simpa [Z2b] using h
 | n + 1,[],_,h => by simpa [Z2b] using h
 | n + 1,i :: todo,seen,h => by
  simp only [Z2b]
  split
  ·exact Zkc B n _ _ h
  ·rename_i hc
   refine Zkc B n _ _ ?_
   rw [List.nodup_append]
   refine ⟨h,by simp,?_⟩
   intro a ha b hb
   simp only [ZdC] at hb
   subst hb
   rintro rfl
   exact hc (by simpa using ha)
theorem Zp8 {rs:List Nat} {i:Nat} (h:i ∈ rs):rs.idxOf i < rs.length ∧ rs.getD (rs.idxOf i) 0 = i:=by
 have h1:=List.idxOf_lt_length_iff.2 h
 refine ⟨h1,?_⟩
 rw [Z87,q4_ h1]
 simp
theorem Zbv {rs:List Nat} {k:Nat} (h:k < rs.length):rs.getD k 0 ∈ rs:=by
 rw [Z87,q4_ h]
 simp
theorem getD_some {rs:List Nat} {k i:Nat} (h:rs[k]? = some i):rs.getD k 0 = i:=by
 rw [Z87,h]
 rfl
theorem ZvD {rs:List Nat} (h:rs.Nodup) {j k:Nat} (hj:j < rs.length) (hk:k < rs.length) (e:rs.getD j 0 = rs.getD k 0):j = k:=by
 refine (List.getElem?_inj hj h).1 ?_
 rw [Z87,q4_ hj,Z87,q4_ hk] at e
 simp only [ZEz] at e
 rw [q4_ hj,q4_ hk,e]
theorem Zfv:∀ (rs:List Nat) (rows B:List Row),(Z2E B rs rows).length = B.length
 | [],_,_ => by simp [Z2E]
 | _ :: _,[],_ => by simp [Z2E]
 | i :: rs,r :: rows,B => by rw [Z2E,Zfv rs rows]; simp
theorem Zrn {id:Nat}:∀ (rs:List Nat) (rows B:List Row),id ∉ rs → (Z2E B rs rows)[id]? = B[id]?
 | [],_,_,_ => by simp [Z2E]
 | _ :: _,[],_,_ => by simp [Z2E]
 | i :: rs,r :: rows,B,h => by
  simp only [Z5G,not_or] at h
  rw [Z2E,Zrn rs rows _ h.2,Z8u]
  rw [if_neg (fun e => h.1 e.symm)]
theorem ZIK {id k:Nat} {row:Row}:∀ (rs:List Nat) (rows B:List Row),rs.Nodup → id < B.length → rs.length = rows.length → rs[k]? = some id → rows[k]? = some row → (Z2E B rs rows)[id]? = some row:=by
 induction k with
 | zero =>
  intro rs rows B hn hid hl hk hr
  cases rs with
  | nil => simp at hk
  | cons i rs =>
   cases rows with
   | nil => simp at hr
   | cons r rows =>
    simp at hk hr
    subst hk hr
    rw [Z2E,Zrn rs rows _ (List.nodup_cons.1 hn).1]
    simp [hid]
 | succ k ih =>
  intro rs rows B hn hid hl hk hr
  cases rs with
  | nil => simp at hk
  | cons i rs =>
   cases rows with
   | nil => simp at hr
   | cons r rows =>
    rw [Z2E]
    exact ih rs rows _ (List.nodup_cons.1 hn).2 (by simpa using hid) (by simpa using hl) (by simpa using hk) (by simpa using hr)
end Go.Abs
end
section
namespace Go.Abs
open Go
def Z8w (args:List AV) (vals:Array Value) (B:List Row) (β:Nat → Nat) (w:World):Loc → AV → Value → Prop
 | .slot i,x,v => args[i]? = some x ∧ vals[i]? = some v
 | .box id j,x,v => ∃ row,B[id]? = some row ∧ row[j]? = some x ∧ w.cell? ⟨β id,j,none⟩ = some v
structure Entry (w:World) (S:Stay) (β:Nat → Nat) (args:List AV) (B:List Row) (vals:Array Value):Prop where
 size:vals.size = args.length
 rel:∀ (i:Nat) (x:AV) (v:Value),args[i]? = some x → vals[i]? = some v → ARel w S β B.length x v
 mem:Mem w S β B
 uns:Uns w S β B.length (Z8w args vals B β w)
theorem Zfs {g:Nat → Nat} {row:Row} {j:Nat} {x:AV} (h:(Z1W g row)[j]? = some x):∃ x0,row[j]? = some x0 ∧ x = Z2o g x0:=by
 rw [Z8j,q7_] at h
 obtain ⟨x0,h0,rfl⟩:=q6_.1 h
 exact ⟨x0,h0,rfl⟩
section
variable {nt m0 M:Nat} {o:Oper} {w w':World} {S S':Stay} {β β' β1:Nat → Nat} {sl sl':Sl} {B r2 B1:List Row} {a:Act} {K:AV → Sl → List Row → Option Res} {r:Res}
 {rs:List Nat} {L0:Loc → AV → Value → Prop} {r1:AV} {v:Value} {back:Nat → Nat}
theorem Zr0 (h:Good nt w S β sl B a) (h':Good nt w S β sl' B a) (hd:∀ t,o.dst = some t → t < nt) (_hrs:rs.Nodup) (hrl:∀ i,i ∈ rs → i < B.length)
  (hcor:∀ l0 x v,L0 l0 x v → isUn x = true → ∃ l,Here nt sl a.tmps B β w l x v ∧ (∀ t,l = .slot t → isUn (get sl' t) = false) ∧ ∀ id j,l = .box id j → id ∈ rs)
  (hsl:∀ t,t < nt → get sl' t = get sl t ∨ isUn (get sl' t) = false) (e:Entry w' S' β' [r1] r2 #[v])
  (st:Step rs.length w S (fun k => β (rs.getD k 0)) rs.length (UB L0) w' S' β' r2.length (UB (Z8w [r1] #[v] r2 β' w')))
  (hm:rs.length ≤ M) (hM:M ≤ r2.length) (hlen:B1.length = B.length + (M - rs.length))
  (hback:∀ k,back k = if k < rs.length then rs.getD k 0 else B.length + (k - rs.length))
  (hβ:∀ id,β1 id = if id < B.length then β id else β' (rs.length + (id - B.length)))
  (hcls:∀ id row,B1[id]? = some row → (id < B.length ∧ id ∉ rs ∧ B[id]? = some row) ∨ (∃ k row0,k < M ∧ r2[k]? = some row0 ∧ row = Z1W back row0 ∧ id = back k))
  (hp1:∀ i,i ∈ ptrs r1 → i < M) (hp2:∀ k row,k < M → r2[k]? = some row → ∀ i,i ∈ Z1p row → i < M)
  (hk:K (Z2o back r1) sl' B1 = some r):Leaves nt m0 o w S β sl B a K r (a.put o.dst v) w':=by
 obtain ⟨_,hlow⟩:=st.low (Z2x _)
 have hn:B.length ≤ B1.length:=by omega
 have hβo:∀ i,i < B.length → β1 i = β i:=fun i hi => by rw [hβ,if_pos hi]
 have bk:∀ k,k < M → back k < B1.length ∧ β1 (back k) = β' k:=by
  intro k hk
  by_cases h1:k < rs.length
  ·have hmem:=hrl _ (Zbv h1)
   rw [hback,if_pos h1]
   refine ⟨by omega,?_⟩
   rw [hβo _ hmem,hlow k h1]
  ·rw [hback,if_neg h1]
   refine ⟨by omega,?_⟩
   rw [hβ,if_neg (by omega)]
   congr 1
   omega
 have hfresh:∀ k,rs.length ≤ k → k < r2.length → w.heap.size ≤ β' k:=by
  intro k h1 h2
  rcases st.boxes k h2 with ⟨j,hj,e1,_⟩ | h3
  ·have:=e.mem.inj k j h2 (by omega) (by rw [e1,hlow j hj])
   omega
  ·exact h3
 have hU0:∀ b,UB L0 b → UB (Here nt sl a.tmps B β w) b:=by
  rintro b ⟨l0,x,u,q1,q2,q3⟩
  obtain ⟨l,q4,_⟩:=hcor l0 x u q1 q2
  exact ⟨l,x,u,q4,q2,q3⟩
 have hU0box:∀ id,id < B.length → ¬ UB L0 (β id):=by
  intro id hid hu
  obtain ⟨l,x,u,q1,q2,q3⟩:=hU0 _ hu
  exact (h.uns.ok l x u q1 q2).2 id hid q3
 have hout:∀ id,id < B.length → id ∉ rs → w'.heap[β id]? = w.heap[β id]?:=by
  intro id hid hni
  refine st.block _ (h.mem.lt hid) ?_ (hU0box id hid)
  intro i hi e'
  have:=h.mem.inj id _ hid (hrl _ (Zbv hi)) e'
  exact hni (this ▸ Zbv hi)
 have cl:∀ l x u,Here nt sl' a.tmps B1 β1 w' l x u → isUn x = true →
   (Here nt sl' a.tmps B β w l x u ∧ (∀ b,Z3U u = some b → ¬ UB L0 b)) ∨ (∃ k j,l = .box (back k) j ∧ k < M ∧ Z8w [r1] #[v] r2 β' w' (.box k j) x u):=by
  intro l x u hl hu
  cases l with
  | slot t =>
   left
   refine ⟨hl,?_⟩
   rintro b hb ⟨l0,x0,u0,q1,q2,q3⟩
   obtain ⟨l1,q4,q5,_⟩:=hcor l0 x0 u0 q1 q2
   obtain ⟨ht,rfl,rfl⟩:=hl
   rcases hsl t ht with e1 | e1
   ·have here:Here nt sl a.tmps B β w (.slot t) (get sl' t) (a.tmps.getD t undef):=⟨ht,e1,rfl⟩
    have:=h.uns.inj _ _ _ _ _ _ q4 here q2 hu ⟨_,q3,hb⟩
    rw [q5 t this] at hu
    simp at hu
   ·rw [e1] at hu; simp at hu
  | box id j =>
   obtain ⟨row,q1,q2,q3⟩:=hl
   rcases hcls id row q1 with ⟨hid,hni,hb⟩ | ⟨k,row0,hkM,hr0,rfl,rfl⟩
   ·left
    rw [hβo id hid,cell_of_heap (hout id hid hni)] at q3
    have here:Here nt sl a.tmps B β w (.box id j) x u:=⟨row,hb,q2,q3⟩
    refine ⟨here,?_⟩
    rintro b hb ⟨l0,x0,u0,p1,p2,p3⟩
    obtain ⟨l1,p4,_,p6⟩:=hcor l0 x0 u0 p1 p2
    have:=h.uns.inj _ _ _ _ _ _ p4 here p2 hu ⟨_,p3,hb⟩
    exact hni (p6 id j this)
   ·right
    obtain ⟨x0,hx0,rfl⟩:=Zfs q2
    rw [Zdg] at hu
    rw [Zm2 hu]
    rw [(bk k hkM).2] at q3
    exact ⟨k,j,rfl,hkM,row0,hr0,hx0,q3⟩
 have hUlt:∀ x u,UnOk w S x u → ∀ b,Z3U u = some b → b < w.heap.size:=by
  intro x u hok b hb
  have h2:=hok.blk hb
  exact h2
 have okA:∀ x u,UnOk w S x u → (∀ i,i < B.length → Z3U u ≠ some (β i)) → (∀ b,Z3U u = some b → ¬ UB L0 b) → UnOk w' S' x u ∧ ∀ i,i < B1.length → Z3U u ≠ some (β1 i):=by
  intro x u hok hnb hnu
  refine ⟨hok.world st.keeps fun b hb => ?_,?_⟩
  ·have hlt:=hUlt x u hok b hb
   refine ⟨st.block b hlt ?_ (hnu b hb),fun o ho => ?_⟩
   ·intro i hi e'
    exact hnb _ (hrl _ (Zbv hi)) (by rw [hb,e'])
   ·rcases st.grown b o ho with h1 | h1 | h1
    ·exact h1
    ·omega
    ·exact absurd h1 (hnu b hb)
  ·intro i hi e'
   by_cases h1:i < B.length
   ·rw [hβo i h1] at e'; exact hnb i h1 e'
   ·rw [hβ,if_neg h1] at e'
    have:=hUlt x u hok _ e'
    have:=hfresh (rs.length + (i - B.length)) (by omega) (by omega)
    omega
 have okB:∀ l x u,Z8w [r1] #[v] r2 β' w' l x u → isUn x = true → UnOk w' S' x u ∧ ∀ i,i < B1.length → Z3U u ≠ some (β1 i):=by
  intro l x u hl hu
  obtain ⟨q1,q2⟩:=e.uns.ok l x u hl hu
  refine ⟨q1,fun i hi e' => ?_⟩
  by_cases h1:i < B.length
  ·rw [hβo i h1] at e'
   rcases st.uns (β i) ⟨l,x,u,hl,hu,e'⟩ with h2 | h2
   ·exact hU0box i h1 h2
   ·have:=h.mem.lt h1; omega
  ·rw [hβ,if_neg h1] at e'
   exact q2 (rs.length + (i - B.length)) (by omega) e'
 have hg:Good nt w' S' β1 sl' B1 a:=by
  refine ⟨h.size,h.defers,?_,h'.high,?_,?_⟩
  ·intro t ht
   exact (h'.slots t ht).keeps st.keeps hβo hn
  ·refine ⟨?_,?_,?_,?_,e.mem.stay,?_⟩
   ·intro id row hrow hm
    rcases hcls id row hrow with ⟨hid,hni,hb⟩ | ⟨k,row0,hkM,hr0,rfl,rfl⟩
    ·obtain ⟨cs,ty,q1,q2⟩:=h.mem.row id row hb hm
     exact ⟨cs,ty,by rw [hβo id hid,hout id hid hni]; exact q1,q2⟩
    ·obtain ⟨cs,ty,q1,q2⟩:=e.mem.row k row0 hr0 (by rw [ZbO] at hm; exact hm)
     exact ⟨cs,ty,by rw [(bk k hkM).2]; exact q1,by rw [Z8j]; simpa using q2⟩
   ·intro id row j x hrow hm hx
    rcases hcls id row hrow with ⟨hid,hni,hb⟩ | ⟨k,row0,hkM,hr0,rfl,rfl⟩
    ·obtain ⟨u,q1,q2,q3⟩:=h.mem.cell id row j x hb hm hx
     exact ⟨u,by rw [hβo id hid,cell_of_heap (hout id hid hni)]; exact q1,q2.keeps st.keeps hβo hn,q3⟩
    ·obtain ⟨x0,hx0,rfl⟩:=Zfs hx
     obtain ⟨u,q1,q2,q3⟩:=e.mem.cell k row0 j x0 hr0 (by rw [ZbO] at hm; exact hm) hx0
     refine ⟨u,by rw [(bk k hkM).2]; exact q1,ZeO q2 fun i hi => ?_,by rw [Zhx]; exact q3⟩
     exact bk i (hp2 k row0 hkM hr0 i (Z4W.2 ⟨x0,q9_ hx0,hi⟩))
   ·intro i j hi hj e'
    by_cases h1:i < B.length <;> by_cases h2:j < B.length
    ·rw [hβo i h1,hβo j h2] at e'; exact h.mem.inj i j h1 h2 e'
    ·rw [hβo i h1,hβ j,if_neg h2] at e'
     have:=h.mem.lt h1
     have:=hfresh (rs.length + (j - B.length)) (by omega) (by omega)
     omega
    ·rw [hβo j h2,hβ i,if_neg h1] at e'
     have:=h.mem.lt h2
     have:=hfresh (rs.length + (i - B.length)) (by omega) (by omega)
     omega
    ·rw [hβ i,if_neg h1,hβ j,if_neg h2] at e'
     have:=e.mem.inj _ _ (by omega) (by omega) e'
     omega
   ·intro i hi o ho
    by_cases h1:i < B.length
    ·rw [hβo i h1] at ho
     by_cases h2:i ∈ rs
     ·obtain ⟨q1,q2⟩:=Zp8 h2
      have:=e.mem.apart (rs.idxOf i) (by omega) o
      rw [hlow _ q1] at this
      simp only [q2] at this
      exact this ho
     ·rcases st.grown _ o ho with h3 | h3 | h3
      ·exact h.mem.apart i h1 o h3
      ·have:=h.mem.lt h1; omega
      ·exact hU0box i h1 h3
    ·rw [hβ,if_neg h1] at ho
     exact e.mem.apart _ (by omega) o ho
   ·intro id row es hrow hm
    rcases hcls id row hrow with ⟨hid,hni,hb⟩ | ⟨k,row0,hkM,hr0,rfl,rfl⟩
    ·have:=(h.mem.maps id row es hb hm).keeps st.keeps (hout id hid hni)
     rw [hβo id hid]
     exact this
    ·rw [ZbO] at hm
     rw [(bk k hkM).2]
     exact e.mem.maps k row0 es hr0 hm
  ·refine ⟨?_,?_⟩
   ·intro l x u hl hu
    rcases cl l x u hl hu with ⟨q1,q2⟩ | ⟨k,j,rfl,hkM,q⟩
    ·obtain ⟨p1,p2⟩:=h'.uns.ok l x u q1 hu
     exact okA x u p1 p2 q2
    ·exact okB _ x u q hu
   ·intro l l' x x' u u' hl hl' hu hu' e'
    have ab:∀ l1 x1 u1,Here nt sl' a.tmps B β w l1 x1 u1 → isUn x1 = true → (∀ b,Z3U u1 = some b → ¬ UB L0 b) → ∀ k j x2 u2,Z8w [r1] #[v] r2 β' w' (.box k j) x2 u2 → isUn x2 = true → ¬ ZcR u1 u2:=by
     intro l1 x1 u1 a1 a2 a3 k j x2 u2 b1 b2 e3
     obtain ⟨p1,_⟩:=h'.uns.ok l1 x1 u1 a1 a2
     obtain ⟨b,hb,hb2⟩:=e3
     have hlt:=p1.blk hb
     rcases st.uns b ⟨_,x2,u2,b1,b2,hb2⟩ with h3 | h3
     ·exact a3 b hb h3
     ·omega
    rcases cl l x u hl hu with ⟨q1,q2⟩ | ⟨k,j,rfl,hkM,q⟩ <;> rcases cl l' x' u' hl' hu' with ⟨q1',q2'⟩ | ⟨k',j',rfl,hkM',q'⟩
    ·exact h'.uns.inj l l' x x' u u' q1 q1' hu hu' e'
    ·exact absurd e' (ab l x u q1 hu q2 k' j' x' u' q' hu')
    ·exact absurd e'.symm (ab l' x' u' q1' hu' q2' k j x u q hu)
    ·have:=e.uns.inj _ _ x x' u u' q q' hu hu' e'
     simp only [Loc.box.injEq] at this
     rw [this.1,this.2]
 have hx:ARel w' S' β1 B1.length (Z2o back r1) v:=ZeO (e.rel 0 r1 v rfl rfl) fun i hi => bk i (hp1 i hi)
 have hslot:isUn (Z2o back r1) = true → Z8w [r1] #[v] r2 β' w' (.slot 0) (Z2o back r1) v:=by
  intro hu
  rw [Zdg] at hu
  rw [Zm2 hu]
  exact ⟨rfl,rfl⟩
 have hUB:∀ b,UB (Here nt sl' a.tmps B1 β1 w') b → UB (Here nt sl a.tmps B β w) b ∨ w.heap.size ≤ b:=by
  rintro b ⟨l,x,u,hl,hu,hb⟩
  rcases cl l x u hl hu with ⟨q1,_⟩ | ⟨k,j,rfl,hkM,q⟩
  ·exact .inl (UB.reslot hsl b ⟨l,x,u,q1,hu,hb⟩)
  ·rcases st.uns b ⟨_,x,u,q,hu,hb⟩ with h3 | h3
   ·exact .inl (hU0 b h3)
   ·exact .inr h3
 refine ⟨Z2o back r1,sl',B1,S',β1,hk,?_,?_⟩
 ·cases hdd:o.dst with
  | none => exact hg
  | some d =>
   refine hg.putUn (hd d hdd) hx (fun hu => okB _ _ _ (hslot hu) hu) (fun l y u hl hy hu e' => ?_)
   rcases cl l y u hl hy with ⟨q1,q2⟩ | ⟨k,j,rfl,hkM,q⟩
   ·obtain ⟨p1,_⟩:=h'.uns.ok l y u q1 hy
    obtain ⟨b,hb,hb2⟩:=e'
    have hlt:=p1.blk hb
    rcases st.uns b ⟨_,_,v,hslot hu,hu,hb2⟩ with h3 | h3
    ·exact q2 b hb h3
    ·omega
   ·have:=e.uns.inj _ _ _ _ _ _ q (hslot hu) hy hu e'
    simp at this
 ·refine ⟨st.keeps,st.size,st.os,st.tape,st.output,fun h1 => ⟨by omega,fun i hi => hβo i (by omega)⟩,?_,?_,?_,?_⟩
  ·intro i hi
   by_cases h1:i < B.length
   ·exact .inl ⟨i,h1,hβo i h1,id⟩
   ·right
    rw [hβ,if_neg h1]
    exact hfresh _ (by omega) (by omega)
  ·intro b hb
   cases hdd:o.dst with
   | none => rw [hdd] at hb; exact hUB b hb
   | some d =>
    rw [hdd] at hb
    rcases UB.putUn h.size (hd d hdd) b hb with hb | ⟨q1,q2⟩
    ·exact hUB b hb
    ·rcases st.uns b ⟨_,_,v,hslot q1,q1,q2⟩ with h3 | h3
     ·exact .inl (hU0 b h3)
     ·exact .inr h3
  ·intro b o' hs
   rcases st.grown b o' hs with h1 | h1 | h1
   ·exact .inl h1
   ·exact .inr (.inl h1)
   ·exact .inr (.inr (hU0 b h1))
  ·intro b hb1 hb2 hb3
   refine st.block b hb1 ?_ (fun hu => hb3 (hU0 b hu))
   intro i hi
   exact hb2 _ (hrl _ (Zbv hi))
end
end Go.Abs
end
section
namespace Go.Abs
open Go
def Plain (P : Program) (f : FuncId) : Prop := ∃ fn, P.funcs[f]? = some fn ∧ (fn.name == "runtime.NumGoroutine") = false ∧ fn.body.isNone = false
def Zbg (w:World) (S:Stay) (β:Nat → Nat) (args:List AV) (B:List Row) (vals:Array Value) (r:Res):Ending → World → Prop
 | .returned v,w' => ∃ S' β',Entry w' S' β' [r.1] r.2 #[v] ∧ Step B.length w S β B.length (UB (Z8w args vals B β w)) w' S' β' r.2.length (UB (Z8w [r.1] #[v] r.2 β' w'))
 | _,_ => False
abbrev Inv:=World → Stay → Prop
def Pers (I:Inv):Prop:=∀ (w w':World) (S S':Stay),Keeps w S w' S' → I w S → I w' S'
def Z90 (P:Program) (I:Inv) (G:GF):Prop:=∀ f args B r,G f args B = some r → ∀ w S β vals,I w S → Entry w S β args B vals → Plain P f ∧ Calls P f vals w (Zbg w S β args B vals r)
theorem Zwk {P:Program} {g:FuncId} (h:Plain P g) (vals:Array Value) (w:World):(callFunc g vals).run P w = .ok (.enter g vals) w:=by
 obtain ⟨fn,h1,h2,h3⟩:=h
 have h2' : ¬ fn.name = "runtime.NumGoroutine" := by simpa using h2
 have h3':¬ fn.body = none:=by intro e; rw [e] at h3; simp at h3
 unfold callFunc
 simp [program,h1,h2',h3',Sem.run,bind,Sem.bind,pure]
def handed (raw:Bool) (args:List AV):List AV:=match raw with | true => args | false => args.map nrmA
theorem ZxJ {raw:Bool} {G:GF} {g:FuncId} {args:List AV} {B:List Row} {k:AV → List Row → Option Res} {r:Res} (h:callS raw G g args B k = some r) :
  ∃ rs:List Nat,rs.Nodup ∧ (∀ i,i ∈ Z1p args → i ∈ rs) ∧ (∀ i,i ∈ rs → i < B.length ∧ ∀ j,j ∈ Z1p (B.getD i []) → j ∈ rs) ∧
   ∃ r',G g (Z1W (fun id => rs.idxOf id) (handed raw args)) (rs.map fun i => Z1W (fun id => rs.idxOf id) (B.getD i [])) = some r' ∧
    ((below rs.length (ptrs r'.1) = true ∧ (r'.2.take rs.length).all (fun row => below rs.length (Z1p row)) = true ∧
      k (Z2o (fun id => rs.getD id 0) r'.1) (Z2E B rs ((r'.2.take rs.length).map (Z1W fun id => rs.getD id 0))) = some r) ∨
     k (Z2o (fun id => if id < rs.length then rs.getD id 0 else B.length + (id - rs.length)) r'.1)
      (Z2E B rs ((r'.2.take rs.length).map (Z1W fun id => if id < rs.length then rs.getD id 0 else B.length + (id - rs.length))) ++
       (r'.2.drop rs.length).map (Z1W fun id => if id < rs.length then rs.getD id 0 else B.length + (id - rs.length))) = some r):=by
 unfold callS at h
 simp only at h
 split at h
 ·simp at h
 ·rename_i hc
  simp only [Zes,Bool.not_eq_false,Z4R,Z8v,decide_eq_true_eq,Zpj] at hc
  obtain ⟨hc1,hc2⟩:=hc
  obtain ⟨r',hr',hk⟩:=ZR h
  refine ⟨_,Zkc B 64 _ [] List.nodup_nil,hc1,hc2,r',hr',?_⟩
  split at hk
  ·rename_i hb
   simp only [Z4R] at hb
   exact .inl ⟨hb.1,hb.2,hk⟩
  ·exact .inr hk
theorem Zlk {m:Nat} {l:List Nat} (h:below m l = true):∀ i,i ∈ l → i < m:=by
 unfold below at h
 simpa using h
section
variable {P:Program} {H:Hints} {f:FuncId} {G:GF} {nt m0:Nat} {o:Oper} {w:World} {S:Stay} {β:Nat → Nat} {sl sl':Sl} {B:List Row} {a:Act}
 {K:AV → Sl → List Row → Option Res} {r:Res} {next:Act → World → Prop} {Q:Exit → Act → World → Prop}
theorem ZD4 (h:Good nt w S β sl B a) {raw:Bool} {args:List AV} {vals:Array Value} (hs:vals.size = args.length)
  (hrel:∀ (i:Nat) (x:AV) (v:Value),args[i]? = some x → vals[i]? = some v → ARel w S β B.length x v)
  (hun:raw = true → ∀ (i:Nat) (x:AV) (v:Value),args[i]? = some x → vals[i]? = some v → isUn x = true → ∃ t,Here nt sl a.tmps B β w (.slot t) x v ∧ isUn (get sl' t) = false)
  (hinj:raw = true → ∀ (i j:Nat) (x y:AV) (u v:Value),args[i]? = some x → vals[i]? = some u → args[j]? = some y → vals[j]? = some v → isUn x = true → isUn y = true → ZcR u v → i = j)
  {rs:List Nat} (hrs:rs.Nodup) (h1:∀ i,i ∈ Z1p args → i ∈ rs) (h2:∀ i,i ∈ rs → i < B.length ∧ ∀ j,j ∈ Z1p (B.getD i []) → j ∈ rs) :
  Entry w S (fun k => β (rs.getD k 0)) (Z1W (fun id => rs.idxOf id) (handed raw args)) (rs.map fun i => Z1W (fun id => rs.idxOf id) (B.getD i [])) vals ∧
   ∀ l0 x v,Z8w (Z1W (fun id => rs.idxOf id) (handed raw args)) vals (rs.map fun i => Z1W (fun id => rs.idxOf id) (B.getD i [])) (fun k => β (rs.getD k 0)) w l0 x v →
    isUn x = true → ∃ l,Here nt sl a.tmps B β w l x v ∧ (∀ t,l = .slot t → isUn (get sl' t) = false) ∧ ∀ id j,l = .box id j → id ∈ rs:=by
 have hg:∀ i,i ∈ rs → rs.idxOf i < (rs.map fun i => Z1W (fun id => rs.idxOf id) (B.getD i [])).length ∧ (fun k => β (rs.getD k 0)) (rs.idxOf i) = β i:=by
  intro i hi
  obtain ⟨q1,q2⟩:=Zp8 hi
  refine ⟨by simpa using q1,?_⟩
  simp only [q2]
 have hrow:∀ {k:Nat} {row:Row},(rs.map fun i => Z1W (fun id => rs.idxOf id) (B.getD i []))[k]? = some row → ∃ i row0,rs[k]? = some i ∧ rs.getD k 0 = i ∧ i ∈ rs ∧ B[i]? = some row0 ∧ row = Z1W (fun id => rs.idxOf id) row0 ∧ ∀ j,j ∈ Z1p row0 → j ∈ rs:=by
  intro k row hk
  rw [q7_] at hk
  obtain ⟨i,hi,rfl⟩:=q6_.1 hk
  have hm:=q9_ hi
  obtain ⟨q1,q2⟩:=h2 i hm
  have hB:B[i]? = some B[i]:=by simp [q1]
  have hBD:B.getD i [] = B[i]:=by rw [Z87,hB]; rfl
  rw [hBD] at q2
  exact ⟨i,B[i],hi,getD_some hi,hm,hB,by rw [hBD],q2⟩
 have hargs:∀ {i:Nat} {x:AV},(Z1W (fun id => rs.idxOf id) (handed raw args))[i]? = some x →
   ∃ x0,args[i]? = some x0 ∧ ((raw = true ∧ x = Z2o (fun id => rs.idxOf id) x0) ∨ (raw = false ∧ x = Z2o (fun id => rs.idxOf id) (nrmA x0))):=by
  intro i x hx
  obtain ⟨x0,hx0,rfl⟩:=Zfs hx
  cases raw with
  | true => exact ⟨x0,hx0,.inl ⟨rfl,rfl⟩⟩
  | false =>
   simp only [handed,q7_] at hx0
   obtain ⟨y,hy,rfl⟩:=q6_.1 hx0
   exact ⟨y,hy,.inr ⟨rfl,rfl⟩⟩
 have hcor:∀ l0 x v,Z8w (Z1W (fun id => rs.idxOf id) (handed raw args)) vals (rs.map fun i => Z1W (fun id => rs.idxOf id) (B.getD i [])) (fun k => β (rs.getD k 0)) w l0 x v →
    isUn x = true → (∃ i t,l0 = .slot i ∧ raw = true ∧ args[i]? = some x ∧ vals[i]? = some v ∧ Here nt sl a.tmps B β w (.slot t) x v ∧ isUn (get sl' t) = false) ∨
     (∃ k i j,l0 = .box k j ∧ rs[k]? = some i ∧ i ∈ rs ∧ Here nt sl a.tmps B β w (.box i j) x v):=by
  intro l0 x v hl hu
  cases l0 with
  | slot i =>
   left
   obtain ⟨q1,q2⟩:=hl
   obtain ⟨x0,hx0,⟨hr,rfl⟩ | ⟨hr,rfl⟩⟩:=hargs q1
   ·rw [Zdg] at hu
    rw [Zm2 hu]
    obtain ⟨t,p1,p2⟩:=hun hr i x0 v hx0 q2 hu
    exact ⟨i,t,rfl,hr,hx0,q2,p1,p2⟩
   ·rw [Zdg,ZjF] at hu
    simp at hu
  | box k j =>
   right
   obtain ⟨row,q1,q2,q3⟩:=hl
   obtain ⟨i,row0,p1,p2,p3,p4,rfl,_⟩:=hrow q1
   obtain ⟨x0,hx0,rfl⟩:=Zfs q2
   rw [Zdg] at hu
   rw [Zm2 hu]
   simp only [p2] at q3
   exact ⟨k,i,j,rfl,p1,p3,row0,p4,hx0,q3⟩
 refine ⟨⟨?_,?_,?_,?_⟩,?_⟩
 ·rw [Z8j,ZbC]
  cases raw with
  | true => exact hs
  | false => simpa [handed] using hs
 ·intro i x v hx hv
  obtain ⟨x0,hx0,⟨_,rfl⟩ | ⟨_,rfl⟩⟩:=hargs hx
  ·refine ZeO (hrel i x0 v hx0 hv) fun k hk => hg k (h1 k (Z4W.2 ⟨x0,q9_ hx0,hk⟩))
  ·refine ZeO (hrel i x0 v hx0 hv).nrmA fun k hk => hg k (h1 k (Z4W.2 ⟨x0,q9_ hx0,by rw [ZCw] at hk; exact hk⟩))
 ·refine ⟨?_,?_,?_,?_,h.mem.stay,?_⟩
  ·intro k row hk hmd
   obtain ⟨i,row0,p1,p2,p3,p4,rfl,_⟩:=hrow hk
   obtain ⟨cs,ty,q1,q2⟩:=h.mem.row i row0 p4 (by rw [ZbO] at hmd; exact hmd)
   exact ⟨cs,ty,by simp only [p2]; exact q1,by rw [Z8j]; simpa using q2⟩
  ·intro k row j x hk hmd hx
   obtain ⟨i,row0,p1,p2,p3,p4,rfl,p5⟩:=hrow hk
   obtain ⟨x0,hx0,rfl⟩:=Zfs hx
   obtain ⟨u,q1,q2,q3⟩:=h.mem.cell i row0 j x0 p4 (by rw [ZbO] at hmd; exact hmd) hx0
   refine ⟨u,by simp only [p2]; exact q1,ZeO q2 fun k hk => hg k (p5 k (Z4W.2 ⟨x0,q9_ hx0,hk⟩)),by rw [Zhx]; exact q3⟩
  ·intro i j hi hj e'
   simp only [ZbC] at hi hj
   have:=h.mem.inj _ _ (h2 _ (Zbv hi)).1 (h2 _ (Zbv hj)).1 e'
   exact ZvD hrs hi hj this
  ·intro i hi
   simp only [ZbC] at hi
   exact h.mem.apart _ (h2 _ (Zbv hi)).1
  ·intro k row es hk hmd
   obtain ⟨i,row0,p1,p2,p3,p4,rfl,_⟩:=hrow hk
   rw [ZbO] at hmd
   simp only [p2]
   exact h.mem.maps i row0 es p4 hmd
 ·refine ⟨?_,?_⟩
  ·intro l0 x v hl hu
   have key:∃ l,Here nt sl a.tmps B β w l x v:=by
    rcases hcor l0 x v hl hu with ⟨_,t,_,_,_,_,q,_⟩ | ⟨_,i,j,_,_,_,q⟩
    ·exact ⟨_,q⟩
    ·exact ⟨_,q⟩
   obtain ⟨l,q⟩:=key
   obtain ⟨q1,q2⟩:=h.uns.ok l x v q hu
   refine ⟨q1,fun i hi => ?_⟩
   simp only [ZbC] at hi
   exact q2 _ (h2 _ (Zbv hi)).1
  ·intro l l' x x' u u' hl hl' hu hu' e'
   rcases hcor l x u hl hu with ⟨i,t,rfl,hr,p1,p2,p3,_⟩ | ⟨k,i,j,rfl,p1,p2,p3⟩ <;> rcases hcor l' x' u' hl' hu' with ⟨i',t',rfl,_,p1',p2',p3',_⟩ | ⟨k',i',j',rfl,p1',p2',p3'⟩
   ·rw [hinj hr i i' x x' u u' p1 p2 p1' p2' hu hu' e']
   ·have:=h.uns.inj _ _ _ _ _ _ p3 p3' hu hu' e'
    simp at this
   ·have:=h.uns.inj _ _ _ _ _ _ p3 p3' hu hu' e'
    simp at this
   ·have:=h.uns.inj _ _ _ _ _ _ p3 p3' hu hu' e'
    simp only [Loc.box.injEq] at this
    obtain ⟨rfl,rfl⟩:=this
    have hk:=(q2_.1 p1).1
    have hk':=(q2_.1 p1').1
    rw [ZvD hrs hk hk' (by rw [getD_some p1,getD_some p1'])]
 ·intro l0 x v hl hu
  rcases hcor l0 x v hl hu with ⟨_,t,_,_,_,_,q,q'⟩ | ⟨_,i,j,_,_,q',q⟩
  ·refine ⟨_,q,fun t' e' => ?_,fun id j e' => by simp at e'⟩
   cases e'
   exact q'
  ·refine ⟨_,q,fun t e' => by simp at e',fun id j' e' => ?_⟩
   cases e'
   exact q'
theorem ZCK {rs:List Nat} {B:List Row} {r2:List Row} {back:Nat → Nat} {C:List Row} {M:Nat} (hrs:rs.Nodup) (_hrl:∀ i,i ∈ rs → i < B.length) (hm:rs.length ≤ r2.length) (hM:rs.length ≤ M)
  (hback:∀ k,back k = if k < rs.length then rs.getD k 0 else B.length + (k - rs.length)) (hC:∀ q row,C[q]? = some row → rs.length + q < M ∧ ∃ row0,r2[rs.length + q]? = some row0 ∧ row = Z1W back row0) :
  ∀ id row,(Z2E B rs ((r2.take rs.length).map (Z1W back)) ++ C)[id]? = some row → (id < B.length ∧ id ∉ rs ∧ B[id]? = some row) ∨ (∃ k row0,k < M ∧ r2[k]? = some row0 ∧ row = Z1W back row0 ∧ id = back k):=by
 intro id row hrow
 rw [Zgi,Zfv] at hrow
 split at hrow
 ·rename_i hid
  by_cases hin:id ∈ rs
  ·right
   obtain ⟨q1,q2⟩:=Zp8 hin
   have hk:rs[rs.idxOf id]? = some id:=by
    rw [Z87,q4_ q1] at q2
    rw [q4_ q1]
    simp
   have hlt:rs.idxOf id < r2.length:=by omega
   have hr:((r2.take rs.length).map (Z1W back))[rs.idxOf id]? = some (Z1W back r2[rs.idxOf id]):=by
    rw [q7_,Zet,if_pos q1,q4_ hlt]
    rfl
   rw [ZIK rs _ B hrs hid (by simp; omega) hk hr] at hrow
   simp only [q1_] at hrow
   exact ⟨_,_,by omega,q4_ hlt,hrow.symm,by rw [hback,if_pos q1,q2]⟩
  ·left
   rw [Zrn rs _ B hin] at hrow
   exact ⟨hid,hin,hrow⟩
 ·rename_i hid
  right
  obtain ⟨q1,row0,q2,q3⟩:=hC _ row hrow
  refine ⟨_,row0,q1,q2,q3,?_⟩
  rw [hback,if_neg (by omega)]
  omega
variable (h:Good nt w S β sl B a) (hd:∀ t,o.dst = some t → t < nt)
include h hd
theorem Zpe {I:Inv} (hI:I w S) (hF:Z90 P I G) {raw:Bool} {g:FuncId} {args:List AV} {vals:Array Value} (hexec:(execOp a.eval o).run P w = (callFunc g vals).run P w) (hs:vals.size = args.length)
  (hrel:∀ (i:Nat) (x:AV) (v:Value),args[i]? = some x → vals[i]? = some v → ARel w S β B.length x v)
  (hun:raw = true → ∀ (i:Nat) (x:AV) (v:Value),args[i]? = some x → vals[i]? = some v → isUn x = true → ∃ t,Here nt sl a.tmps B β w (.slot t) x v ∧ isUn (get sl' t) = false)
  (hinj:raw = true → ∀ (i j:Nat) (x y:AV) (u v:Value),args[i]? = some x → vals[i]? = some u → args[j]? = some y → vals[j]? = some v → isUn x = true → isUn y = true → ZcR u v → i = j)
  (h':Good nt w S β sl' B a) (hsl:∀ t,t < nt → get sl' t = get sl t ∨ isUn (get sl' t) = false)
  (hk:callS raw G g args B (fun v B => K v sl' B) = some r):o.wp P a w (Leaves nt m0 o w S β sl B a K r) Q:=by
 obtain ⟨rs,hrs,h1,h2,r',hr',hk⟩:=ZxJ hk
 obtain ⟨he,hcor⟩:=ZD4 (sl':=sl') h hs hrel hun hinj hrs h1 h2
 obtain ⟨hpl,hcalls⟩:=hF _ _ _ _ hr' w S _ vals hI he
 unfold Oper.wp
 rw [hexec,Zwk hpl]
 show Calls P g vals w _
 refine hcalls.mono ?_
 intro e w' hpost
 cases e with
 | panicked chain => exact hpost.elim
 | outgrown => exact hpost.elim
 | returned v =>
  obtain ⟨S',β',e,st⟩:=hpost
  simp only [ZbC] at st
  obtain ⟨hm,hlow⟩:=st.low (Z2x _)
  show Leaves nt m0 o w S β sl B a K r (a.put o.dst v) w'
  have hrl:∀ i,i ∈ rs → i < B.length:=fun i hi => (h2 i hi).1
  have hp:∀ k row,k < r'.2.length → r'.2[k]? = some row → ∀ i,i ∈ Z1p row → i < r'.2.length:=by
   intro k row _ hrow i hi
   obtain ⟨x,hx,hi⟩:=Z4W.1 hi
   obtain ⟨j,hj⟩:=ZcK.1 hx
   cases hmd:mdOf row with
   | none =>
    obtain ⟨u,_,q,_⟩:=e.mem.cell k row j x hrow hmd hj
    exact Zpp q i hi
   | some es =>
    rw [ZeN hmd] at hx
    simp only [ZdC] at hx
    subst hx
    simp [ptrs] at hi
  rcases hk with ⟨hb1,hb2,hk⟩ | hk
  ·have hb1:=Zlk hb1
   have hb2:∀ k row,k < rs.length → r'.2[k]? = some row → ∀ i,i ∈ Z1p row → i < rs.length:=by
    intro k row hk hrow
    refine Zlk (Z8v.1 hb2 row ?_)
    refine q9_ (i:=k) ?_
    rw [Zet,if_pos hk]
    exact hrow
   have hB:(r'.2.take rs.length).map (Z1W fun id => rs.getD id 0) = (r'.2.take rs.length).map (Z1W fun k => if k < rs.length then rs.getD k 0 else B.length + (k - rs.length)):=by
    apply Znn
    intro row hrow
    refine Zwg fun i hi => ?_
    obtain ⟨k,hk⟩:=ZcK.1 hrow
    rw [Zet] at hk
    split at hk
    ·rw [if_pos (hb2 k row ‹_› hk i hi)]
    ·simp at hk
   have hR:Z2o (fun id => rs.getD id 0) r'.1 = Z2o (fun k => if k < rs.length then rs.getD k 0 else B.length + (k - rs.length)) r'.1:=ZoH _ fun i hi => by rw [if_pos (hb1 i hi)]
   rw [hB,hR] at hk
   refine Zr0 (M:=rs.length) (back:=fun k => if k < rs.length then rs.getD k 0 else B.length + (k - rs.length)) (β1:=fun id => if id < B.length then β id else β' (rs.length + (id - B.length)))
    h h' hd hrs hrl hcor hsl e st (Z2x _) hm (by rw [Zfv]; omega) (fun _ => rfl) (fun _ => rfl) ?_ hb1 hb2 hk
   have:=ZCK (C:=[]) (M:=rs.length) (r2:=r'.2) (back:=fun k => if k < rs.length then rs.getD k 0 else B.length + (k - rs.length)) hrs hrl hm (Z2x _) (fun _ => rfl) (by simp)
   simpa using this
  ·refine Zr0 (M:=r'.2.length) (back:=fun k => if k < rs.length then rs.getD k 0 else B.length + (k - rs.length)) (β1:=fun id => if id < B.length then β id else β' (rs.length + (id - B.length)))
    h h' hd hrs hrl hcor hsl e st hm (Z2x _) (by rw [q3_,Zfv]; simp) (fun _ => rfl) (fun _ => rfl) ?_ (Zpp (e.rel 0 _ v rfl rfl)) hp hk
   refine ZCK hrs hrl hm hm (fun _ => rfl) ?_
   intro q row hq
   rw [q7_,Zka] at hq
   obtain ⟨row0,h0,rfl⟩:=q6_.1 hq
   exact ⟨(q2_.1 h0).1,row0,h0,rfl⟩
end
end Go.Abs
end
section
namespace Go.Abs
open Go
theorem Z3K {t:Nat}:∀ {l:List Operand},t ∈ tmpsOf l ↔ Operand.tmp t ∈ l
 | [] => by simp [tmpsOf]
 | .tmp u :: r => by simp [tmpsOf,Z3K (l:=r)]
 | .const _ :: r => by simp [tmpsOf,Z3K (l:=r)]
 | .global _ :: r => by simp [tmpsOf,Z3K (l:=r)]
 | .func _ :: r => by simp [tmpsOf,Z3K (l:=r)]
theorem Zmd {t:Nat}:∀ {l:List Operand} {i j:Nat},distinct (tmpsOf l) = true → l[i]? = some (.tmp t) → l[j]? = some (.tmp t) → i = j
 | [],i,j,_,h,_ => by simp at h
 | x :: r,i,j,hd,hi,hj => by
  have step:distinct (tmpsOf r) = true ∧ (x = .tmp t → .tmp t ∉ r):=by
   cases x with
   | tmp u =>
    simp only [tmpsOf,distinct,Z4R,Zes,Zpj,decide_eq_false_iff_not] at hd
    refine ⟨hd.2,fun e hm => ?_⟩
    cases e
    exact hd.1 (Z3K.2 hm)
   | const c => exact ⟨hd,fun e => by cases e⟩
   | global c => exact ⟨hd,fun e => by cases e⟩
   | func c => exact ⟨hd,fun e => by cases e⟩
  cases i with
  | zero =>
   cases j with
   | zero => rfl
   | succ j =>
    simp only [ZcJ,q1_] at hi
    simp only [Zhz] at hj
    exact absurd (q9_ hj) (step.2 hi)
  | succ i =>
   cases j with
   | zero =>
    simp only [ZcJ,q1_] at hj
    simp only [Zhz] at hi
    exact absurd (q9_ hi) (step.2 hj)
   | succ j =>
    simp only [Zhz] at hi hj
    rw [Zmd step.1 hi hj]
section
variable {P:Program} {H:Hints} {f:FuncId} {G:GF} {nt m0:Nat} {o:Oper} {w:World} {S:Stay} {β:Nat → Nat} {sl sl':Sl} {B:List Row} {a:Act}
 {K:AV → Sl → List Row → Option Res} {r:Res} {next:Act → World → Prop} {Q:Exit → Act → World → Prop}
theorem ZsM {t:Nat}:∀ (l:List Operand) (sl:Sl),Operand.tmp t ∈ l → isUn (get (weakL sl l) t) = false
 | [],_,h => by simp at h
 | x :: r,sl,h => by
  show isUn (get (weakL (weak sl x) r) t) = false
  rcases Z5G.1 h with e | h
  ·rcases ZsL r (weak sl x) t with e1 | e1
   ·rw [e1,← e]
    show isUn (get ((t,shr (get sl t)) :: sl) t) = false
    rw [Z1Z,if_pos rfl]
    exact Z4p _
   ·exact e1
  ·exact ZsM r _ h
variable (h:Good nt w S β sl B a) (hd:∀ t,o.dst = some t → t < nt)
include h hd
omit hd in
theorem Zx8 (xs:Array Operand):(xs.map a.eval).size = (evs sl xs).length ∧ ∀ (i:Nat) (x:AV) (v:Value),(evs sl xs)[i]? = some x → (xs.map a.eval)[i]? = some v →
  ARel w S β B.length x v ∧ ∃ y,xs.toList[i]? = some y ∧ x = ev sl y ∧ v = a.eval y:=by
 unfold evs
 refine ⟨by simp,?_⟩
 intro i x v hx hv
 rw [q7_] at hx
 obtain ⟨y,hy,rfl⟩:=q6_.1 hx
 rw [Zwa] at hv
 obtain ⟨y',hy',rfl⟩:=q6_.1 hv
 have:xs.toList[i]? = some y':=by simpa using hy'
 rw [hy] at this
 cases this
 exact ⟨h.ev y,y,hy,rfl,rfl⟩
theorem Zxo {I:Inv} (hI:I w S) (hF:Z90 P I G) {c:Call} {g:FuncId} (ho:o.op = .call c) (hc:c.callee = .value (.func g)) (hdis:(H.raw g && !distinct (tmpsOf c.args.toList)) = false)
  (hk:callS (H.raw g) G g (evs sl c.args) B (fun v B => K v (if H.raw g then weakL sl c.args.toList else sl) B) = some r):o.wp P a w (Leaves nt m0 o w S β sl B a K r) Q:=by
 obtain ⟨e1,e2⟩:=Zx8 h c.args
 have hexec:(execOp a.eval o).run P w = (callFunc g (c.args.map a.eval)).run P w:=by
  unfold execOp
  simp only [ho]
  show ((resolve a.eval c o.type).bind fun d => invoke d.target d.args).run P w = _
  unfold resolve
  simp only [hc]
  show (invoke (.fn (.func g) #[]) (#[] ++ c.args.map a.eval)).run P w = _
  unfold invoke
  simp
 cases hr:H.raw g with
 | false =>
  rw [hr] at hk
  exact Zpe (sl':=sl) h hd hI hF hexec e1 (fun i x v hx hv => (e2 i x v hx hv).1) (fun e => by simp at e) (fun e => by simp at e) h (fun _ _ => .inl rfl) hk
 | true =>
  rw [hr] at hk hdis
  simp only [Zw8,Bool.not_eq_false'] at hdis
  refine Zpe (sl':=weakL sl c.args.toList) h hd hI hF hexec e1 (fun i x v hx hv => (e2 i x v hx hv).1) (fun _ i x v hx hv hu => ?_) (fun _ i j x y u v hx hu' hy hv hux huy hb => ?_) (h.weakL _) (fun t _ => ZsL _ sl t) hk
  ·obtain ⟨_,y,hy,rfl,rfl⟩:=e2 i x v hx hv
   obtain ⟨t,rfl,htn,here⟩:=Zd1 h hu
   exact ⟨t,here,ZsM _ _ (q9_ hy)⟩
  ·obtain ⟨_,p,hp,rfl,rfl⟩:=e2 i x u hx hu'
   obtain ⟨_,q,hq,rfl,rfl⟩:=e2 j y v hy hv
   obtain ⟨t,rfl,_,here⟩:=Zd1 h hux
   obtain ⟨t',rfl,_,here'⟩:=Zd1 h huy
   have:=h.uns.inj _ _ _ _ _ _ here here' hux huy hb
   simp only [Loc.slot.injEq] at this
   subst this
   exact Zmd hdis hp hq
theorem ZDD {I:Inv} (hI:I w S) (hF:Z90 P I G) {c:Call} {g:FuncId} {near:Bool} (ho:o.op = .call c) (hc:c.callee = .value (.func g)) (hdis:(H.raw g && !distinct (tmpsOf c.args.toList)) = false)
  (hk:callQ near (H.raw g) G g (evs sl c.args) B (fun v B => K v (if H.raw g then weakL sl c.args.toList else sl) B) = some r):o.wp P a w (Leaves nt m0 o w S β sl B a K r) Q:=by
 cases near with
 | false => exact Zxo h hd hI hF ho hc hdis hk
 | true =>
  have Zga:∀ {b:Bool} {x:Option Res},grd b x = some r → x = some r:=by
   intro b x hx
   unfold grd hi at hx
   cases b
   ·simp at hx
   ·simpa using hx
  have hk':=Zga (x:=callS (H.raw g) G g (evs sl c.args) B fun v B' => grd (Nat.beq B'.length B.length) (K v (if H.raw g then weakL sl c.args.toList else sl) B')) hk
  refine Oper.wp_mono ?_ (Zxo (m0:=m0) (K:=fun v sl' B' => grd (Nat.beq B'.length B.length) (K v sl' B')) h hd hI hF ho hc hdis hk')
  rintro a' w' ⟨x,sl',B',S',β',h1,h2⟩
  exact ⟨x,sl',B',S',β',Zga h1,h2⟩
theorem ZDE {I:Inv} (hI:I w S) (hF:Z90 P I G) {c:Call} {x:Operand} (ho:o.op = .call c) (hc:c.callee = .value x) (hk:callV H G (ev sl x) (evs sl c.args) B (fun v B => K v sl B) = some r) :
  o.wp P a w (Leaves nt m0 o w S β sl B a K r) Q:=by
 obtain ⟨e1,e2⟩:=Zx8 h c.args
 have hx:=h.ev x
 unfold callV at hk
 split at hk
 ·rename_i g first cap heq
  split at hk
  ·simp at hk
  ·rw [heq] at hx
   obtain ⟨u,hue⟩:∃ u,a.eval x = u:=⟨_,rfl⟩
   rw [hue] at hx
   cases hx with
   | clo _ _ _ a1 a2 h1 h2 h3 h4 h5 =>
    have hexec:(execOp a.eval o).run P w = (callFunc g ((a1 ++ c.args.map a.eval) ++ a2)).run P w:=by
     unfold execOp
     simp only [ho]
     show ((resolve a.eval c o.type).bind fun d => invoke d.target d.args).run P w = _
     unfold resolve
     simp only [hc,hue]
     rfl
    refine Zpe (sl':=sl) h hd hI hF hexec (by simp [h1,h2]; simpa using e1) ?_ (fun e => by simp at e) (fun e => by simp at e) h (fun _ _ => .inl rfl) hk
    intro i y v hy hv
    rw [Zgi] at hy
    rw [Zno] at hv
    have hsz:(a1 ++ Array.map a.eval c.args).size = (first ++ evs sl c.args).length:=by rw [Znq,q3_,h1,e1]
    split at hy
    ·rename_i hlt
     rw [hsz,if_pos hlt] at hv
     rw [Zgi] at hy
     rw [Zno,h1] at hv
     split at hy
     ·rename_i hlt'
      rw [if_pos hlt'] at hv
      exact h3 i y v hy hv
     ·rename_i hlt'
      rw [if_neg hlt'] at hv
      exact (e2 _ y v hy hv).1
    ·rename_i hlt
     rw [hsz,if_neg hlt] at hv
     exact h4 _ y v hy hv
 ·simp at hk
theorem Zzh (hq:quiet H f o = true) (hk:stepOp P H f G o sl B K = some r):o.wp P a w (Z4d o w S β sl B a K r) Q:=by
 unfold quiet at hq
 unfold stepOp at hk
 split at hq
 ·rename_i t x ho
  simp only [Z4R,Zes] at hq
  simp only [ho,hq.1,hq.2,Zj4,if_false] at hk
  obtain ⟨s,hs,hk⟩:=ZR hk
  obtain ⟨v,hv,hk⟩:=ZR hk
  exact Zxq h hd ho (ag:=s.1) (k:=s.2) hs hv hk
 ·rename_i ho
  simp only [ho] at hk
  split at hk
  ·split at hk
   ·obtain ⟨v,hv,hk⟩:=ZR hk
    exact ZCp h hd ho hv hk
   ·obtain ⟨v,hv,hk⟩:=ZR hk
    exact Zr5 h hd ho hv hk
  ·obtain ⟨v,hv,hk⟩:=ZR hk
   exact Zr5 h hd ho hv hk
 ·rename_i ho
  simp only [ho] at hk
  obtain ⟨v,hv,hk⟩:=ZR hk
  exact ZEx h hd ho hv hk
 ·rename_i ho
  simp only [ho] at hk
  split at hk
  ·obtain ⟨fl,hfl,hk⟩:=ZR hk
   obtain ⟨s,hs,hk⟩:=ZR hk
   obtain ⟨v,hv,hk⟩:=ZR hk
   exact Zxs h hd ho ‹_› hfl (ag:=s.1) (n:=s.2) hs hv hk
  ·simp at hk
 ·rename_i ho
  simp only [ho] at hk
  obtain ⟨off,hoff,hk⟩:=ZR hk
  obtain ⟨v,hv,hk⟩:=ZR hk
  exact ZvT h hd ho hoff hv hk
 ·rename_i ho
  simp only [ho] at hk
  split at hk
  ·split at hk
   ·obtain ⟨v,hv,hk⟩:=ZR hk
    exact Zxn h hd ho ‹_› hv ‹_› hk
   ·simp at hk
  ·obtain ⟨v,hv,hk⟩:=ZR hk
   exact ZvU h hd ho hv hk
 ·rename_i ho
  simp only [ho] at hk
  obtain ⟨v,hv,hk⟩:=ZR hk
  exact Zsz h hd ho hv hk
 ·rename_i ho
  simp only [ho] at hk
  obtain ⟨v,hv,hk⟩:=ZR hk
  exact ZEw h hd ho hv hk
 ·rename_i ho
  simp only [ho] at hk
  obtain ⟨v,hv,hk⟩:=ZR hk
  exact ZvS h hd ho hv hk
 ·rename_i c ho
  split at hq
  ·rename_i hc
   simp only [ho,hc] at hk
   split at hk
   ·split at hk
    ·obtain ⟨v,hv,hk⟩:=ZR hk
     exact Zxr h hd ho ‹_› ‹_› ‹_› ‹_› hv hk
    ·obtain ⟨v,hv,hk⟩:=ZR hk
     exact ZCm h hd ho ‹_› ‹_› ‹_› hv hk
   ·simp at hk
  ·simp at hq
 ·simp at hq
theorem Zri {I:Inv} (hI:I w S) (hF:Z90 P I G) (hk:stepOp P H f G o sl B K = some r):o.wp P a w (Leaves nt m0 o w S β sl B a K r) Q:=by
 unfold stepOp at hk
 split at hk
 ·exact Zxp h hd (.inl ‹_›) hk
 ·exact Zxp h hd (.inr ‹_›) hk
 ·exact ZF7 h hd ‹_› hk
 ·exact ZDC h hd ‹_› hk
 ·exact ZF4 h hd ‹_› hk
 ·obtain ⟨v,hv,hk⟩:=ZR hk
  exact wp_q h hd <| ZvS h hd ‹_› hv hk
 ·obtain ⟨v,hv,hk⟩:=ZR hk
  exact ZHN h hd ‹_› hv (u:=Z8s H f o.dst) hk
 ·split at hk
  ·obtain ⟨s,hs,hk⟩:=ZR hk
   obtain ⟨d,i,hu,hi,hsz,hag,h1⟩:=Z9a (b:=s.1) (n:=s.2) hs
   split at hk
   ·simp at hk
   ·rename_i hs1
    exact Zza h hd ‹_› hu (by rw [← hag]; simpa using hs1) hk
  ·split at hk
   ·obtain ⟨s,hs,hk⟩:=ZR hk
    obtain ⟨d,i,hu,hi,hsz,hag,h1⟩:=Z9a (b:=s.1) (n:=s.2) hs
    split at hk
    ·simp at hk
    ·rename_i hs1
     exact ZCn h hd ‹_› hu (by rw [← hag]; simpa using hs1) hk
   obtain ⟨s,hs,hk⟩:=ZR hk
   obtain ⟨v,hv,hk⟩:=ZR hk
   exact wp_q h hd <| Zxq h hd ‹_› (ag:=s.1) (k:=s.2) hs hv hk
 ·obtain ⟨s,hs,hk⟩:=ZR hk
  exact ZDG h hd ‹_› (ag:=s.1) (n:=s.2) hs hk
 ·obtain ⟨v,hv,hk⟩:=ZR hk
  exact wp_q h hd <| Zsz h hd ‹_› hv hk
 ·split at hk
  ·split at hk
   ·obtain ⟨v,hv,hk⟩:=ZR hk
    exact wp_q h hd <| ZCp h hd ‹_› hv hk
   ·obtain ⟨v,hv,hk⟩:=ZR hk
    exact wp_q h hd <| Zr5 h hd ‹_› hv hk
  ·obtain ⟨v,hv,hk⟩:=ZR hk
   exact wp_q h hd <| Zr5 h hd ‹_› hv hk
 ·obtain ⟨v,hv,hk⟩:=ZR hk
  exact wp_q h hd <| ZEx h hd ‹_› hv hk
 ·rename_i s d x ho
  split at hk
  ·rename_i hsd
   have:=Zt7 hsd
   subst this
   obtain ⟨v,hv,hk⟩:=ZR hk
   exact ZF8 h hd ho hv hk
  ·obtain ⟨v,hv,hk⟩:=ZR hk
   exact ZCj h hd ho hv hk
 ·exact wp_q h hd <| ZF6 h hd ‹_› hk
 ·split at hk
  ·obtain ⟨v,hv,hk⟩:=ZR hk
   exact ZHO h hd ‹_› hv hk
  split at hk
  ·split at hk
   ·simp at hk
   ·obtain ⟨v,hv,hk⟩:=ZR hk
    rename_i hmx
    exact wp_q h hd <| ZCq h hd ‹_› ‹_› (Bool.eq_false_iff.2 ‹_›) hv hk
  ·split at hk
   ·simp at hk
   ·rename_i hmh
    obtain ⟨v,hv,hk⟩:=ZR hk
    refine wp_q h hd <| ZDF h hd ‹_› hv (fun e => ?_) hk
    rw [e,Zw8,Zes,Bool.not_eq_false] at hmh
    exact hmh
 ·obtain ⟨off,hoff,hk⟩:=ZR hk
  obtain ⟨v,hv,hk⟩:=ZR hk
  exact wp_q h hd <| ZvT h hd ‹_› hoff hv hk
 ·split at hk
  ·obtain ⟨fl,hfl,hk⟩:=ZR hk
   obtain ⟨s,hs,hk⟩:=ZR hk
   obtain ⟨v,hv,hk⟩:=ZR hk
   exact wp_q h hd <| Zxs h hd ‹_› ‹_› hfl (ag:=s.1) (n:=s.2) hs hv hk
  ·simp at hk
 ·split at hk
  ·split at hk
   ·obtain ⟨v,hv,hk⟩:=ZR hk
    exact wp_q h hd <| Zxn h hd ‹_› ‹_› hv ‹_› hk
   ·simp at hk
  ·obtain ⟨v,hv,hk⟩:=ZR hk
   exact wp_q h hd <| ZvU h hd ‹_› hv hk
 ·obtain ⟨v,hv,hk⟩:=ZR hk
  exact wp_q h hd <| ZEw h hd ‹_› hv hk
 ·exact Zzb h hd ‹_› hk
 ·obtain ⟨v,hv,hk⟩:=ZR hk
  exact ZCo h hd ‹_› hv hk
 ·exact ZvV h hd ‹_› hk
 ·exact ZCl h hd ‹_› hk
 ·obtain ⟨v,hv,hk⟩:=ZR hk
  exact Zz9 h hd ‹_› hv hk
 ·rename_i c ho
  split at hk
  ·split at hk
   ·split at hk
    ·obtain ⟨v,hv,hk⟩:=ZR hk
     exact wp_q h hd <| Zxr h hd ho ‹_› ‹_› ‹_› ‹_› hv hk
    ·obtain ⟨v,hv,hk⟩:=ZR hk
     exact wp_q h hd <| ZCm h hd ho ‹_› ‹_› ‹_› hv hk
   ·simp at hk
  ·split at hk
   ·exact ZCk h hd ho ‹_› ‹_› ‹_› hk
   ·simp at hk
  ·split at hk
   ·split at hk
    ·simp at hk
    ·obtain ⟨v,hv,hk⟩:=ZR hk
     split at hv
     ·exact Zz8 h hd ho ‹_› ‹_› ‹_› (Bool.eq_false_iff.2 ‹_›) hv hk
     ·exact ZCh h hd ho ‹_› ‹_› ‹_› (Bool.eq_false_iff.2 ‹_›) hv hk
   ·simp at hk
  ·obtain ⟨v,hv,hk⟩:=ZR hk
   exact Zsy h hd (mx:=true) ho ‹_› hv hk
  ·obtain ⟨v,hv,hk⟩:=ZR hk
   exact Zsy h hd (mx:=false) ho ‹_› hv hk
  ·split at hk
   ·simp at hk
   ·rename_i hdis
    exact ZDD h hd hI hF ho ‹_› (by simpa using hdis) hk
  ·exact ZDE h hd hI hF ho ‹_› hk
  ·simp at hk
 ·simp at hk
end
end Go.Abs
end
