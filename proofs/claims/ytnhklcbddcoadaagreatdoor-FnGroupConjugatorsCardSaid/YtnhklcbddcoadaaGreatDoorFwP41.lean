/- Roots: both functions look for the greatest k of which the word is a power. -/
import Derived.Test.YtnhklcbddcoadaaGreatDoorFwP26
import Derived.Test.YtnhklcbddcoadaaGreatDoorFwP18
import Derived.Test.YtnhklcbddcoadaaGreatDoorFwMp
import Derived.Test.YtnhklcbddcoadaaGreatDoorGrK
import Derived.Test.YtnhklcbddcoadaaGreatDoorFwG30
import Derived.Test.YtnhklcbddcoadaaGreatDoorFwG31
import Derived.Test.YtnhklcbddcoadaaGreatDoorFwG11
set_option linter.unusedVariables false
set_option linter.unusedSimpArgs false
set_option linter.unusedSectionVars false
section
set_option maxRecDepth 20000
namespace Go.PR.S
open Go Go.PR Go.Proofs Gp
def cm (w : List Int) : Nat -> List MEnt
 | 0 => []
 | i + 1 => mset (.int .i64) (cm w i) (w.getD i 0,0) ((mget (.int .i64) (cm w i) (w.getD i 0,0)).getD 0 + 1)
def conL (m : Nat) (w : List Int) : List Int := (List.range m).map fun i : Nat => ((w.count (i : Int) : Nat) : Int)
section
variable {T : Dep Int} {m : Nat} {t : List Int}
end
end Go.PR.S

end

section
set_option maxRecDepth 20000
namespace Go.PR.S
open Go Go.PR Go.Proofs Gp
def fitB (w : List Int) (k i : Nat) : Bool := (List.range i).all fun a => decide (w.count (a : Int) % k = 0)
section
variable {T : Dep Int} {m : Nat} {t : List Int}
end
end Go.PR.S

end
