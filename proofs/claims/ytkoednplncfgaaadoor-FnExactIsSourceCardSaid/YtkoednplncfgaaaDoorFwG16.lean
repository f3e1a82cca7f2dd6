/- Path lemmas (written by Vc.lean). -/
import Derived.Test.YtkoednplncfgaaaDoorFwMk
/- Path lemmas (written by Vc.lean). -/
set_option linter.unusedVariables false
set_option linter.unusedSimpArgs false
set_option maxRecDepth 20000
open Go Go.PR Go.Proofs Go.PR.S
namespace Go.PR.S
-- (loop.example/g01094/impl.machine).smallestSource$1
-- (loop.example/g01094/impl.machine).smallest
-- (loop.example/g01094/impl.machine).smallestSource
-- loop.example/g01094/spec.l19Smallest
-- loop.example/g01094/spec.SmallestSource
-- loop.example/g01094/impl.SmallestSource
end Go.PR.S
