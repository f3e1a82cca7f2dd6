/- Path lemmas (written by Vc.lean). -/
import Derived.Test.YtkoednplncfgaaaDoorFwMk
section
/- Path lemmas (written by Vc.lean). -/
set_option linter.unusedVariables false
set_option linter.unusedSimpArgs false
set_option maxRecDepth 20000
open Go Go.PR Go.Proofs Go.PR.S
namespace Go.PR.S
-- (loop.example/g01094/impl.machine).smallestPersistent$1
-- (loop.example/g01094/impl.machine).smallest
-- (loop.example/g01094/impl.machine).smallestPersistent
-- loop.example/g01094/spec.l19Smallest
-- loop.example/g01094/spec.SmallestPersistent
-- loop.example/g01094/impl.SmallestPersistent
end Go.PR.S

end

section
/- Path lemmas (written by Vc.lean). -/
set_option linter.unusedVariables false
set_option linter.unusedSimpArgs false
set_option maxRecDepth 20000
open Go Go.PR Go.Proofs Go.PR.S
namespace Go.PR.S
-- loop.example/g01094/laws.FnExactSmallestPersistent
end Go.PR.S

end
