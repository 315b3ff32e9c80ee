/- What the parser gives is right. No condition. -/
import Derived.Test.YtadodmjdkphddaaDoorPlain

section
set_option linter.unusedSimpArgs false
set_option linter.unusedVariables false
namespace Go.Proofs.YtadodmjdkphddaaDoor.N2
open Go Go.Abs Go.Proofs.Unis Go.Proofs.Norm
set_option maxRecDepth 100000
inductive Good : Z8 → Prop
 | none : Good nd0
 | set (l : List R2) : Z3t l → Good (setN l)
 | row (k : Int) (l : List Z8) : k = 2 ∨ k = 3 → 2 ≤ l.length → l.length ≤ 3000 → (∀ x ∈ l, Good x) → Good ⟨k, 0, 0, 0, 0, [], l⟩
 | rep (lo hi m : Int) (x : Z8) : 0 ≤ lo ∧ lo ≤ 64 → hi = -1 ∨ (lo ≤ hi ∧ hi ≤ 64) → 0 ≤ m ∧ m ≤ 2 → Good x → Good ⟨4, lo, hi, m, 0, [], [x]⟩
 | group (r : Int) (x : Z8) : 1 ≤ r ∧ r ≤ 9 → Good x → Good ⟨5, 0, 0, 0, r, [], [x]⟩
 | back (r : Int) : 1 ≤ r ∧ r ≤ 9 → Good ⟨6, 0, 0, 0, r, [], []⟩
 | look (m : Int) (x : Z8) : 0 ≤ m ∧ m ≤ 3 → Good x → Good ⟨7, 0, 0, m, 0, [], [x]⟩
 | atomic (x : Z8) : Good x → Good ⟨8, 0, 0, 0, 0, [], [x]⟩
 | edge (k : Int) : 0 ≤ k ∧ k ≤ 3 → Good (edge k)
section
variable {l : List UInt8} (hl : l.length ≤ 1000) {d : Int} {P : Int → St → Out (Z8 × Bool)} (HP : ∀ p s, Inv l s → AtmR l d s (P p s) (Z3z p (bl l) s.pos s.gr d s.rf 0 0))
 (HG : ∀ p s n s', Inv l s → P p s = .ok n s' → Good n.1)
end
end Go.Proofs.YtadodmjdkphddaaDoor.N2
end
section
set_option linter.unusedSimpArgs false
set_option linter.unusedVariables false
namespace Go.Proofs.YtadodmjdkphddaaDoor.N2
open Go Go.Abs Go.Proofs.Unis Go.Proofs.Norm
set_option maxRecDepth 100000
theorem Zl7 : Z5z = some true := by
 have e1 : (Z89 (ByteArray.mk #[97, 124, 98, 42, 63])) = (⟨⟨3, 0, 0, 0, 0, [], [⟨1, 0, 0, 0, 0, [⟨97, 97⟩], []⟩, ⟨4, 0, -1, 1, 0, [], [⟨1, 0, 0, 0, 0, [⟨98, 98⟩], []⟩]⟩]⟩, 0, false⟩, ⟨0, 0⟩) := by rfl
 have e2 : (Z89 (ByteArray.mk #[97, 42, 42])) = (ZaV, ⟨23, 2⟩) := by rfl
 have e3 : (Z89 (ByteArray.mk #[40, 97])) = (ZaV, ⟨20, 0⟩) := by rfl
 have e4 : (Z89 (ByteArray.mk #[92, 49])) = (ZaV, ⟨26, 0⟩) := by rfl
 apply ZbK
 unfold Z5u
 rw [Z9L, Option.bind_some, Z9L, Option.bind_some, Z9L, Option.bind_some, Z9L, Option.bind_some, e1, e2, e3, e4]
 rfl
end Go.Proofs.YtadodmjdkphddaaDoor.N2
end
