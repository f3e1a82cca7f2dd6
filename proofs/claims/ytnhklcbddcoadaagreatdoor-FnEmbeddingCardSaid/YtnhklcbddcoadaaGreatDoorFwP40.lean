/- Roots: both functions look for the greatest k of which the word is a power. -/
import Derived.Test.YtnhklcbddcoadaaGreatDoorFwP26
import Derived.Test.YtnhklcbddcoadaaGreatDoorFwP18
import Derived.Test.YtnhklcbddcoadaaGreatDoorFwMp
import Derived.Test.YtnhklcbddcoadaaGreatDoorGrF
import Derived.Test.YtnhklcbddcoadaaGreatDoorFwG30
import Derived.Test.YtnhklcbddcoadaaGreatDoorFwG31
set_option linter.unusedVariables false
set_option linter.unusedSimpArgs false
set_option linter.unusedSectionVars false
set_option maxRecDepth 20000
namespace Go.PR.S
open Go Go.PR Go.Proofs Gp
def cm (w : List Int) : Nat → List MEnt
  | 0 => []
  | i + 1 => mset (.int .i64) (cm w i) (w.getD i 0, 0) ((mget (.int .i64) (cm w i) (w.getD i 0, 0)).getD 0 + 1)
def conL (m : Nat) (w : List Int) : List Int := (List.range m).map fun i : Nat => ((w.count (i : Int) : Nat) : Int)
section
variable {T : Dep Int} {m : Nat} {t : List Int}
theorem zvi (ht : Tab T m t) {u v : List Int} (hu : Wd m u) (hv : Wd m v) (lu : u.length ≤ B40) (lv : v.length ≤ B40) : Runs X F.z91 [lD t, lD u, lD v] [] (boolR (decide (nform T m u = nform T m v))) :=
  zrg (z3g ht hu lu) (z3g ht hv lv) (zdj _ _ (by rw [z2k hu]; exact lu))
end
end Go.PR.S
