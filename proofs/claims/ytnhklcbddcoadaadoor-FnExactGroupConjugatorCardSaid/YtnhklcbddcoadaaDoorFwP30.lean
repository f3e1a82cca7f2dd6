/- What the implementation's functions of the group come to, in full. -/
import Derived.Test.YtnhklcbddcoadaaDoorFwP14
import Derived.Test.YtnhklcbddcoadaaDoorFwP18
import Derived.Test.YtnhklcbddcoadaaDoorFwP16
import Derived.Test.YtnhklcbddcoadaaDoorFwP19
import Derived.Test.YtnhklcbddcoadaaDoorFwP26
set_option linter.unusedVariables false
set_option linter.unusedSimpArgs false
set_option linter.unusedSectionVars false
set_option maxRecDepth 20000
namespace Go.PR.S
open Go Go.PR Go.Proofs Gp
section
variable {N : Nat} {d : List Int}
theorem zi7 (ha : Al N d) {w : List Int} (h : sgCode N d [w] = 0) : 2 * N ≤ 62 ∧ w.length ≤ 24 ∧ Bd w ∧ (∀ x ∈ w, x ≠ 0) ∧ Wd (2 * N) (w.map code) := by
  obtain ⟨N', _, e, h1, h2, h3, h4, h5⟩ := sg_one h
  obtain rfl : N = N' := by omega
  exact ⟨h1, h2, h3, h4, h5⟩
variable (ha : Al N d) (hd : d.length ≤ B40)
include ha hd
end
end Go.PR.S
