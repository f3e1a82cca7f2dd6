/- Products in the group: the reference and the implementation answer alike; the law comes to true. -/
import Derived.Test.YtnhklcbddcoadaaGreatDoorFwP12
import Derived.Test.YtnhklcbddcoadaaGreatDoorFwG11
set_option linter.unusedVariables false
set_option linter.unusedSimpArgs false
set_option linter.unusedSectionVars false
set_option maxRecDepth 20000
namespace Go.PR.S
open Go Go.PR Go.Proofs Gp
theorem sg_two {n : Int} {d u v : List Int} (h : sgCode n d [u,v] = 0) : sgCode n d [u] = 0 /\ sgCode n d [v] = 0 := by
 unfold sgCode at *
 cases h1 : alOK n d with
 | false => rw [h1] at h; simp at h
 | true =>
   rw [h1] at h
   cases h2 : sgOK n u with
   | false => simp [h2] at h
   | true =>
     cases h3 : sgOK n v with
     | false => simp [h2,h3] at h
     | true => simp [h2,h3]
end Go.PR.S
