/- Cyclic reduction: the loops of the reference and of the implementation go side by side. -/
import Derived.Test.YtdheehhnpjkdbaaDoorFwP21
/- Cyclic reduction: the loops of the reference and of the implementation go side by side. -/
set_option linter.unusedVariables false
set_option linter.unusedSimpArgs false
set_option maxRecDepth 20000
namespace Go.PR.S
open Go Go.PR Go.Proofs Gp

section
variable {N : Nat} {d : List Int}

end

abbrev tripR (xs ys : List Int) (r : Int) : Ret := ⟨.tup [.rsl 600000 0 xs.length, .rsl 600001 0 ys.length, .int .i64 r], [], [⟨true, .ints .i64 xs⟩, ⟨true, .ints .i64 ys⟩]⟩

end Go.PR.S
