/- The smallest source set, IsSource, and their laws. -/
import Derived.Test.YtkoednplncfgaaaDoorFwP20
import Derived.Test.YtkoednplncfgaaaDoorFwG15
import Derived.Test.YtkoednplncfgaaaDoorFwG16
import Derived.Test.YtkoednplncfgaaaDoorFwG17
set_option linter.unusedVariables false
set_option linter.unusedSimpArgs false
set_option maxRecDepth 20000
namespace Go.PR.S
open Go Go.PR Go.Proofs Gp
section
variable {m n s f : Int} {d : List Int} {N : List (List Int)}
end
end Go.PR.S
