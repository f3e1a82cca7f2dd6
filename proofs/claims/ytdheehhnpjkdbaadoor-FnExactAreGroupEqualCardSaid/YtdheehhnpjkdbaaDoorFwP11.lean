/- The law of AreGroupEqual: it comes to true. -/
import Derived.Test.YtdheehhnpjkdbaaDoorFwP10
set_option linter.unusedVariables false
namespace Go.PR.S
open Go Go.PR

theorem run_FnExactAreGroupEqual (n : Int) (d u v : List Int) (hd : d.length ≤ 9223372036854775807) : Runs X F.laws_FnExactAreGroupEqual [alD n d, lD u, lD v] [] (boolR true) := by
  by_cases hu : u.length ≤ B40
  · by_cases hv : v.length ≤ B40
    · have c6 := run_szAlphabet n d hd
      have hu' : ¬ (u.length : Int) > 1048576 := by unfold B40 at hu; omega
      have hv' : ¬ (v.length : Int) > 1048576 := by unfold B40 at hv; omega
      by_cases hdl : d.length ≤ B40
      · rw [if_pos hdl] at c6
        obtain ⟨b, r, cs, ci⟩ := run_spec_AreGroupEqual n d u v hdl hu hv
        have ca := run_toAlphabet n d hdl
        have cu := run_toInt64S u hu
        have cv := run_toInt64S v hv
        have eu := run_eqInt64S u u hu
        have ev := run_eqInt64S v v hv
        have ed := run_eqAlphabet n d n d hdl
        rw [decide_eq_true (by trivial)] at eu ev ed
        apply laws_FnExactAreGroupEqual_p9
        all_goals first | exact hu' | exact hv' | exact c6 | exact ca | exact cu | exact cv | exact cs | exact ci | exact eu | exact ev | exact ed | (unfold B40 at hdl; omega) | rfl | skip
      · rw [if_neg hdl] at c6
        exact laws_FnExactAreGroupEqual_p3 hu' hv' c6 (by omega)
    · exact laws_FnExactAreGroupEqual_p2 (by unfold B40 at hu; omega) (by unfold B40 at hv; omega)
  · exact laws_FnExactAreGroupEqual_p1 (by unfold B40 at hu; omega)

end Go.PR.S
