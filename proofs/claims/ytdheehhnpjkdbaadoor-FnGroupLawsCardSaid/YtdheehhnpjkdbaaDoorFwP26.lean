/- The normal form in the group against equality in the group; leaving letters out. -/
import Derived.Test.YtdheehhnpjkdbaaDoorFwP16
import Derived.Test.YtdheehhnpjkdbaaDoorGrE
import Derived.Test.YtdheehhnpjkdbaaDoorFwP21
section
/- The normal form in the group against equality in the group; leaving letters out. -/
set_option linter.unusedVariables false
set_option linter.unusedSimpArgs false
set_option maxRecDepth 20000
namespace Go.PR.S
open Go Go.PR Go.Proofs Gp

section
variable {N : Nat} {d : List Int}

theorem gnf_geq (h : Al N d) {u v : List Int} (hu : Wd (2 * N) u) (hv : Wd (2 * N) v) : gnf h u = gnf h v ↔ geq (grp h) u v := by
  unfold gnf geq
  rw [nform_eq_iff (fold_Wd hu) (fold_Wd hv)]
  constructor
  · intro hh
    have := hh.reverse
    simpa using this
  · intro hh; exact hh.reverse

theorem geq_gnf (h : Al N d) {u : List Int} (hu : Wd (2 * N) u) : geq (grp h) (gnf h u) u := by
  unfold gnf
  exact (geq_word (nform_same (fold_Wd hu))).trans (geq_red u)

theorem gnf_gnf (h : Al N d) {u : List Int} (hu : Wd (2 * N) u) : gnf h (gnf h u) = gnf h u := (gnf_geq h (gnf_Wd h hu) hu).2 (geq_gnf h hu)

theorem code_sign {c : Int} (h : 0 ≤ c) : code (sign c) = c := by
  unfold code sign
  split <;> split <;> omega

theorem codes_signs {m : Nat} {w : List Int} (h : Wd m w) : (w.map sign).map code = w := by
  rw [List.map_map]
  have : ∀ x ∈ w, (code ∘ sign) x = x := fun x hx => code_sign (h x hx).1
  rw [List.map_congr_left this, List.map_id']

def keepZ (m x : Int) : Bool := tb m (x / 2)

end

end Go.PR.S

end

section
/- Cyclic reduction: the loops, with what the core and the frame are to the word: the word is the trace of frame, core and inverse of the frame, and no letter may go from the core's two ends. -/
set_option linter.unusedVariables false
set_option linter.unusedSimpArgs false
set_option maxRecDepth 20000
namespace Go.PR.S
open Go Go.PR Go.Proofs Gp

section
variable {N : Nat} {d : List Int}

end

end Go.PR.S

end

section
/- Cyclic reduction: what core and frame are to the word; the core is its own core. -/
set_option linter.unusedVariables false
set_option linter.unusedSimpArgs false
set_option maxRecDepth 20000
namespace Go.PR.S
open Go Go.PR Go.Proofs Gp

section
variable {N : Nat} {d : List Int}

end

end Go.PR.S

end
