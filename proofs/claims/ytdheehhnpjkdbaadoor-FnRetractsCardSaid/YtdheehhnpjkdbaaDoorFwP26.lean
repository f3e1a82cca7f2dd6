/- The normal form in the group against equality in the group; leaving letters out. -/
import Derived.Test.YtdheehhnpjkdbaaDoorFwP16
import Derived.Test.YtdheehhnpjkdbaaDoorGrE
import Derived.Test.YtdheehhnpjkdbaaDoorFwP21
section
/- The normal form in the group against equality in the group; leaving letters out. -/
set_option linter.unusedVariables false
set_option linter.unusedSimpArgs false
set_option maxRecDepth 20000
namespace Go.PR.S
open Go Go.PR Go.Proofs Gp

section
variable {N : Nat} {d : List Int}

theorem gnf_geq (h : Al N d) {u v : List Int} (hu : Wd (2 * N) u) (hv : Wd (2 * N) v) : gnf h u = gnf h v ↔ geq (grp h) u v := by
  unfold gnf geq
  rw [nform_eq_iff (fold_Wd hu) (fold_Wd hv)]
  constructor
  · intro hh
    have := hh.reverse
    simpa using this
  · intro hh; exact hh.reverse

theorem geq_gnf (h : Al N d) {u : List Int} (hu : Wd (2 * N) u) : geq (grp h) (gnf h u) u := by
  unfold gnf
  exact (geq_word (nform_same (fold_Wd hu))).trans (geq_red u)

theorem gnf_app (h : Al N d) {u v : List Int} (hu : Wd (2 * N) u) (hv : Wd (2 * N) v) : gnf h (gnf h u ++ gnf h v) = gnf h (u ++ v) :=
  (gnf_geq h (Wd_append (gnf_Wd h hu) (gnf_Wd h hv)) (Wd_append hu hv)).2 ((geq_gnf h hu).append (geq_gnf h hv))

theorem code_sign {c : Int} (h : 0 ≤ c) : code (sign c) = c := by
  unfold code sign
  split <;> split <;> omega

theorem codes_signs {m : Nat} {w : List Int} (h : Wd m w) : (w.map sign).map code = w := by
  rw [List.map_map]
  have : ∀ x ∈ w, (code ∘ sign) x = x := fun x hx => code_sign (h x hx).1
  rw [List.map_congr_left this, List.map_id']

/-- The test of a letter, on all numbers. -/
def keepZ (m x : Int) : Bool := tb m (x / 2)

theorem keepZ_opp (m a : Int) : keepZ m (opp a) = keepZ m a := by unfold keepZ; rw [opp_div]

theorem keep_eq {m x : Int} (h : 0 ≤ x) : keepC m x = keepZ m x := by
  unfold keepC keepZ
  rw [Int.tdiv_eq_ediv_of_nonneg h]

theorem filter_keep {k : Nat} {m : Int} {w : List Int} (h : Wd k w) : w.filter (keepC m) = w.filter (keepZ m) :=
  List.filter_congr fun x hx => keep_eq (h x hx).1

theorem Wd_filter {k : Nat} {w : List Int} (h : Wd k w) (q : Int → Bool) : Wd k (w.filter q) := fun x hx => h x (List.mem_filter.1 hx).1

/-- The retract of a normal form is that of the word. -/
theorem gnf_filter (h : Al N d) {w : List Int} (hw : Wd (2 * N) w) (m : Int) : gnf h ((gnf h w).filter (keepC m)) = gnf h (w.filter (keepC m)) := by
  rw [filter_keep (gnf_Wd h hw), filter_keep hw]
  exact (gnf_geq h (Wd_filter (gnf_Wd h hw) _) (Wd_filter hw _)).2 (geq.filter (keepZ m) (fun a => keepZ_opp m a) (geq_gnf h hw))

/-- Retracting twice is retracting on the common letters. -/
theorem gnf_filter2 (h : Al N d) {w : List Int} (hw : Wd (2 * N) w) (m o : Int) (mo : Int) (hmo : ∀ x, 0 ≤ x → keepC mo x = (keepC m x && keepC o x)) :
    gnf h ((gnf h (w.filter (keepC m))).filter (keepC o)) = gnf h (w.filter (keepC mo)) := by
  rw [gnf_filter h (Wd_filter hw _), List.filter_filter]
  congr 1
  refine List.filter_congr fun x hx => ?_
  rw [hmo x (hw x hx).1, Bool.and_comm]

/-- The retract of a product is the product of the retracts. -/
theorem gnf_filter_app (h : Al N d) {u v : List Int} (hu : Wd (2 * N) u) (hv : Wd (2 * N) v) (m : Int) :
    gnf h (gnf h (u.filter (keepC m)) ++ gnf h (v.filter (keepC m))) = gnf h ((u ++ v).filter (keepC m)) := by
  rw [gnf_app h (Wd_filter hu _) (Wd_filter hv _), List.filter_append]
end

end Go.PR.S

end

section
/- Cyclic reduction: the loops, with what the core and the frame are to the word: the word is the trace of frame, core and inverse of the frame, and no letter may go from the core's two ends. -/
set_option linter.unusedVariables false
set_option linter.unusedSimpArgs false
set_option maxRecDepth 20000
namespace Go.PR.S
open Go Go.PR Go.Proofs Gp

section
variable {N : Nat} {d : List Int}

end

end Go.PR.S

end

section
/- Cyclic reduction: what core and frame are to the word; the core is its own core. -/
set_option linter.unusedVariables false
set_option linter.unusedSimpArgs false
set_option maxRecDepth 20000
namespace Go.PR.S
open Go Go.PR Go.Proofs Gp

section
variable {N : Nat} {d : List Int}

end

end Go.PR.S

end
