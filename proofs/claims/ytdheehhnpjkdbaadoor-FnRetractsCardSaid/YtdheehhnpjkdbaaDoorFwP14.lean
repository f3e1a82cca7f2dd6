/- Path lemmas (written by Vc.lean). -/
import Derived.Test.YtdheehhnpjkdbaaDoorFwMk
import Derived.Test.YtdheehhnpjkdbaaDoorFwP12
section
/- Path lemmas (written by Vc.lean). -/
set_option linter.unusedVariables false
set_option linter.unusedSimpArgs false
set_option maxRecDepth 20000
open Go Go.PR Go.Proofs Go.PR.S
namespace Go.PR.S
-- loop.example/g01094/laws.FnExactGroupInverse
-- loop.example/g01094/spec.GroupInverse
-- loop.example/g01094/impl.GroupInverse
end Go.PR.S

end

section
/- The inverse in the group: the reference and the implementation answer alike; the law comes to true. -/
set_option linter.unusedVariables false
set_option linter.unusedSimpArgs false
set_option maxRecDepth 20000
namespace Go.PR.S
open Go Go.PR Go.Proofs Gp

end Go.PR.S

end
