/- Path lemmas (written by Vc.lean). -/
import Derived.Test.YtdheehhnpjkdbaaDoorFwMk
import Derived.Test.YtdheehhnpjkdbaaDoorFwP31
section
/- Path lemmas (written by Vc.lean). -/
set_option linter.unusedVariables false
set_option linter.unusedSimpArgs false
set_option maxRecDepth 20000
open Go Go.PR Go.Proofs Go.PR.S
namespace Go.PR.S
-- loop.example/g01094/laws.FnRetracts
end Go.PR.S

end

section
/- Retracts: the law comes to true. -/
set_option linter.unusedVariables false
set_option linter.unusedSimpArgs false
set_option maxRecDepth 20000
namespace Go.PR.S
open Go Go.PR Go.Proofs Gp

theorem pairR_inj {xs ys : List Int} {r s : Int} (h : pairR xs r = pairR ys s) : xs = ys ∧ r = s := by
  injection h with e1 _ e3
  injection e1 with e1
  injection e1 with e1 e2
  injection e2 with e2 _
  injection e2 with _ e2
  injection e3 with e3 _
  injection e3 with _ e3
  injection e3 with _ e3
  exact ⟨e3, e2⟩

theorem like_self (xs : List Int) (h : xs.length ≤ B40) : Runs X F.laws_likeInts [lD xs, lD xs] [] (boolR true) := by
  have := run_likeInts xs xs h
  rwa [decide_eq_true rfl] at this

end Go.PR.S

end
