/- Path lemmas (written by Vc.lean). -/
import Derived.Test.YtdheehhnpjkdbaaDoorFwMk
import Derived.Test.YtdheehhnpjkdbaaDoorFwP12
section
/- Path lemmas (written by Vc.lean). -/
set_option linter.unusedVariables false
set_option linter.unusedSimpArgs false
set_option maxRecDepth 20000
open Go Go.PR Go.Proofs Go.PR.S
namespace Go.PR.S
-- (loop.example/g01094/impl.ties).cyclic$1
-- slices.IndexFunc[[]int64,int64]
-- loop.example/g01094/spec.CyclicReduction
-- loop.example/g01094/impl.CyclicReduction
end Go.PR.S

end

section
/- Cyclic reduction: the letters that may go from both ends. -/
set_option linter.unusedVariables false
set_option linter.unusedSimpArgs false
set_option maxRecDepth 20000
namespace Go.PR.S
open Go Go.PR Go.Proofs Gp

def ends (T : Dep Int) (c : List Int) (s : Int) : Bool := isFirst T c s && isFirst T c.reverse (opp s)

def nextC (c : List Int) (s : Int) : List Int := ((c.erase s).reverse.erase (opp s)).reverse

end Go.PR.S

end

section
/- Cyclic reduction: the reference and the implementation come to the same core and frame. -/
set_option linter.unusedVariables false
set_option linter.unusedSimpArgs false
set_option maxRecDepth 20000
namespace Go.PR.S
open Go Go.PR Go.Proofs Gp

section
variable {N : Nat} {d : List Int}

end

end Go.PR.S

end
