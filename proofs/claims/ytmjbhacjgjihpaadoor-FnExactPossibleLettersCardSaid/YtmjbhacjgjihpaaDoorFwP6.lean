/- Both ends functions make the plain passes. -/
import Derived.Test.YtmjbhacjgjihpaaDoorFwP4
set_option linter.unusedVariables false
set_option linter.unusedSimpArgs false
set_option linter.unusedSectionVars false
section
set_option maxRecDepth 20000
namespace Go.PR.S
open Go Go.PR Go.Proofs
structure RowsP (N : List (List Int)) : Prop where
  l16 : N.length ≤ 16
  short : ∀ i, i < N.length → (N.getD i []).length ≤ 8
  below : ∀ i, i < N.length → ∀ a, a < (N.getD i []).length → (N.getD i []).getD a 0 < N.length
end Go.PR.S

end

section
set_option maxRecDepth 20000
namespace Go.PR.S
open Go Go.PR Go.Proofs
def finals (f : Int) (N : List (List Int)) : List Bool := (List.range N.length).map fun (i : Nat) => tb f i
def possM (N : List (List Int)) (q : Int) : Nat := mkM (fun a => decide ((N.getD q.toNat []).getD a 0 ≥ 0)) (N.getD q.toNat []).length
end Go.PR.S

end
