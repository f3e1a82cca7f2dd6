/- The normal form in the group: the reference and the implementation answer alike; the law comes to true. -/
import Derived.Test.YtnhklcbddcoadaaGreatDoorFwP12
import Derived.Test.YtnhklcbddcoadaaGreatDoorFwG6
set_option linter.unusedVariables false
set_option linter.unusedSimpArgs false
set_option linter.unusedSectionVars false
section
set_option maxRecDepth 20000
namespace Go.PR.S
open Go Go.PR Go.Proofs Gp
end Go.PR.S

end

section
set_option maxRecDepth 20000
namespace Go.PR.S
open Go Go.PR Go.Proofs Gp
end Go.PR.S

end
