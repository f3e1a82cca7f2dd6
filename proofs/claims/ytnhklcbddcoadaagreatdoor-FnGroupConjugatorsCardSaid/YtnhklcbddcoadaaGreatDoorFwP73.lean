/- Conjugate elements: both functions answer the same. -/
import Derived.Test.YtnhklcbddcoadaaGreatDoorFwP72
import Derived.Test.YtnhklcbddcoadaaGreatDoorFwP30
import Derived.Test.YtnhklcbddcoadaaGreatDoorFwP19
import Derived.Test.YtnhklcbddcoadaaGreatDoorFwG37
set_option linter.unusedVariables false
set_option linter.unusedSimpArgs false
set_option linter.unusedSectionVars false
set_option maxRecDepth 20000
namespace Go.PR.S
open Go Go.PR Go.Proofs Gp
abbrev pairB (b : Bool) (r : Int) : Ret := ⟨.tup [.bool b,.int .i64 r],[],[]⟩
end Go.PR.S
