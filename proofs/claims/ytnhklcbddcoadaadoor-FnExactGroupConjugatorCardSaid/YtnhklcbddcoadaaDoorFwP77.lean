/- Conjugators: the law comes to true. -/
import Derived.Test.YtnhklcbddcoadaaDoorFwP76
import Derived.Test.YtnhklcbddcoadaaDoorFwP10
import Derived.Test.YtnhklcbddcoadaaDoorFwP12
import Derived.Test.YtnhklcbddcoadaaDoorFwG42
set_option linter.unusedVariables false
set_option linter.unusedSimpArgs false
set_option linter.unusedSectionVars false
set_option maxRecDepth 20000
namespace Go.PR.S
open Go Go.PR Go.Proofs Gp
theorem run_FnExactGroupConjugator (n : Int) (d u v : List Int) (hd : d.length ≤ 9223372036854775807) : Runs X F.z5r [alD n d, lD u, lD v] [] (boolR true) := by
  by_cases hu : u.length ≤ B40
  · by_cases hv : v.length ≤ B40
    · have c6 := ztl n d hd
      have hu' : ¬ (u.length : Int) > 1048576 := by unfold B40 at hu; omega
      have hv' : ¬ (v.length : Int) > 1048576 := by unfold B40 at hv; omega
      by_cases hdl : d.length ≤ B40
      · rw [if_pos hdl] at c6
        obtain ⟨xs, r, hx, cs, ci⟩ := zsr n d u v hdl hu hv
        have ca := ztm n d hdl
        have cu := zcr u hu
        have cv := zcr v hv
        have eu := z93 u u hu
        have ev := z93 v v hv
        have ex := z93 xs xs hx
        have ed := zt2 n d n d hdl
        rw [decide_eq_true (by trivial)] at eu ev ed ex
        have m1 := ztg n d 1 hdl (by omega) (by unfold B40; omega)
        have m2 := z98 u (1 + d.length) hu (by omega) (by unfold B40 at *; omega)
        have m5 := z98 v (1 + d.length + u.length) hv (by omega) (by unfold B40 at *; omega)
        have m3 := z98 xs 1 hx (by omega) (by unfold B40; omega)
        have m4 := zt3 1 xs.length hx (by omega) (by unfold B40; omega)
        have e4 : List.take xs.length (List.drop 0 (marks 1 xs.length)) = marks 1 xs.length := by
          rw [List.drop_zero, List.take_of_length_le (by rw [z3w]; exact Nat.le_refl _)]
        rw [← e4] at m4
        apply zpz
        all_goals first | exact hu' | exact hv' | exact c6 | exact ca | exact cu | exact cv | exact cs | exact ci | exact eu | exact ev | exact ex | exact ed | exact m1 | exact m2 | exact m5 | exact m3 | exact m4 | (unfold B40 at hdl; omega) | rfl | (rw [z3w]; omega) | omega | skip
      · rw [if_neg hdl] at c6
        exact zq1 hu' hv' c6 (by omega)
    · exact zq0 (by unfold B40 at hu; omega) (by unfold B40 at hv; omega)
  · exact zpy (by unfold B40 at hu; omega)
end Go.PR.S
