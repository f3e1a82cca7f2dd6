/- Path lemmas (written by Vc.lean). -/
import Derived.Test.YtdheehhnpjkdbaaDoorFwMk
import Derived.Test.YtdheehhnpjkdbaaDoorFwP30
section
/- Path lemmas (written by Vc.lean). -/
set_option linter.unusedVariables false
set_option linter.unusedSimpArgs false
set_option maxRecDepth 20000
open Go Go.PR Go.Proofs Go.PR.S
namespace Go.PR.S
-- loop.example/g01094/laws.FnGroupEquality
end Go.PR.S

end

section
/- Equality in the group: the law comes to true. -/
set_option linter.unusedVariables false
set_option linter.unusedSimpArgs false
set_option maxRecDepth 20000
namespace Go.PR.S
open Go Go.PR Go.Proofs Gp

theorem Runs.unique {f : FuncId} {args : List D} {prows : List Row} {r r' : Ret} (h : Runs X f args prows r) (h' : Runs X f args prows r') : r = r' := by
  obtain ⟨K, hK⟩ := h
  obtain ⟨K', hK'⟩ := h'
  have h1 := hK (max K K') (by omega)
  have h2 := hK' (max K K') (by omega)
  rw [h1] at h2
  exact Option.some.inj h2

theorem bytes_of {c : List Int} (hr : ∀ x ∈ c, 0 ≤ x ∧ x ≤ 255) (h : ¬ (c.length : Int) > 4096) : Bytes c := ⟨by omega, hr⟩

end Go.PR.S

end
