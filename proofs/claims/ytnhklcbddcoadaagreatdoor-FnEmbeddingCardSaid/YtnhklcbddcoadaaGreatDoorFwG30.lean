/- Path lemmas (written by Vc.lean). -/
import Derived.Test.YtnhklcbddcoadaaGreatDoorFwMk
set_option linter.unusedVariables false
set_option linter.unusedSimpArgs false
set_option linter.unusedSectionVars false
set_option maxRecDepth 20000
open Go Go.PR Go.Proofs Go.PR.S
namespace Go.PR.S
theorem zrf : X.ft F.z91 = some Tryz.f58 := by kernel_rfl
theorem zrg {t u : List Int} {v xs1 : List Int} (c2 : Runs X F.zu [.immI .i64 t, .immI .i64 u] [] (rowR xs1)) {xs3 : List Int} (c4 : Runs X F.zu [.immI .i64 t, .immI .i64 v] [] (rowR xs3)) {b5 : Bool} (c6 : Runs X F.z1r [.immI .i64 xs1, .immI .i64 xs3] [] (boolR b5)) : Runs X F.z91 [.immI .i64 t, .immI .i64 u, .immI .i64 v] [] (boolR b5) :=
  RG zrf [true, true] [0 + xs1.length ≤ xs1.length, 0 = 0 ∧ xs1.length = xs1.length, 0 + xs3.length ≤ xs3.length, 0 = 0 ∧ xs3.length = xs3.length] (PO (PA ⟨(by first | omega | (simp; done) | (simp at *; omega)), (by omega)⟩ (PO (PA ⟨(by first | omega | (simp; done) | (simp at *; omega)), (by omega)⟩ trivial)))) (PC c2 (PC c4 (PC c6 PN))) LN
end Go.PR.S
