/- The inverse in the group: the reference and the implementation answer alike; the law comes to true. -/
import Derived.Test.YtdheehhnpjkdbaaDoorFwP12
import Derived.Test.YtdheehhnpjkdbaaDoorFwG6
set_option linter.unusedVariables false
set_option linter.unusedSimpArgs false
set_option maxRecDepth 20000
namespace Go.PR.S
open Go Go.PR Go.Proofs Gp

theorem run_GroupInverse (n : Int) (d w : List Int) (hd : d.length ≤ B40) (hw : w.length ≤ B40) :
    ∃ xs r, xs.length ≤ B40 ∧ Runs X F.spec_GroupInverse [alD n d, lD w] [] (pairR xs r) ∧ Runs X F.impl_GroupInverse [alD n d, lD w] [] (pairR xs r) := by
  have c1 := run_l09Code n d w w hd hw hw
  rw [sg_twice] at c1
  have c2 : Runs X F.impl_checkSigned [alD n d, .imm2 .i64 [w]] [] (intR (sgCode n d [w])) := run_checkSigned n d [w] hd (by simp [B40]) (by simp [hw])
  by_cases h0 : sgCode n d [w] = 0
  · obtain ⟨N, ha, rfl, hN, hl, hb, hz, hW⟩ := sg_one h0
    have hc : (w.map code).length ≤ 24 := by simpa using hl
    have k1 := run_l09Double ha
    have k2 := run_l09In hb hz hw
    have hB := Wd_back hW
    have hcb : ((w.map code).map opp).reverse.length ≤ 24 := by simpa using hl
    have hg := gnf_le ha hB
    have kb := run_l09Back hN hW (by unfold B40; omega)
    have ki := run_inverted hN hW (by unfold B40; omega)
    have k3 := run_l09Reduce ha hB (by unfold B40; omega)
    have gW : Wd (2 * N) (gnf ha ((w.map code).map opp).reverse) := gnf_Wd ha hB
    have k4 := run_l09Out hN gW (by unfold B40; omega)
    have k5 := run_signedTies ha
    have k6 := run_codesOf hb hw
    have k7 := run_group ha hB (by unfold B40; omega)
    have k8 := run_element hN gW (by unfold B40; omega)
    rw [if_pos (by omega)] at k8
    exact ⟨_, 0, by rw [List.length_map]; unfold B40; omega, spec_GroupInverse_p2 c1 h0 k1 k2 kb k3 k4, impl_GroupInverse_p2 c2 h0 k5 k6 ki k7 k8⟩
  · exact ⟨[], sgCode n d [w], by simp [B40], spec_GroupInverse_p1 c1 h0, impl_GroupInverse_p1 c2 h0⟩

theorem run_FnExactGroupInverse (n : Int) (d w : List Int) (hd : d.length ≤ 9223372036854775807) : Runs X F.laws_FnExactGroupInverse [alD n d, lD w] [] (boolR true) := by
  by_cases hw : w.length ≤ B40
  · have c6 := run_szAlphabet n d hd
    have hw' : ¬ (w.length : Int) > 1048576 := by unfold B40 at hw; omega
    by_cases hdl : d.length ≤ B40
    · rw [if_pos hdl] at c6
      obtain ⟨xs, r, hx, cs, ci⟩ := run_GroupInverse n d w hdl hw
      have ca := run_toAlphabet n d hdl
      have cw := run_toInt64S w hw
      have ew := run_eqInt64S w w hw
      have ex := run_eqInt64S xs xs hx
      have ed := run_eqAlphabet n d n d hdl
      rw [decide_eq_true (by trivial)] at ew ed ex
      have m1 := run_markAlphabet n d 1 hdl (by omega) (by unfold B40; omega)
      have m2 := run_markInt64S w (1 + d.length) hw (by omega) (by unfold B40 at *; omega)
      have m3 := run_markInt64S xs 1 hx (by omega) (by unfold B40; omega)
      have m4 := run_heldInt64S 1 xs.length hx (by omega) (by unfold B40; omega)
      have e4 : List.take xs.length (List.drop 0 (marks 1 xs.length)) = marks 1 xs.length := by
        rw [List.drop_zero, List.take_of_length_le (by rw [marks_length]; exact Nat.le_refl _)]
      rw [← e4] at m4
      apply laws_FnExactGroupInverse_p15
      all_goals first | exact hw' | exact c6 | exact ca | exact cw | exact cs | exact ci | exact ew | exact ex | exact ed | exact m1 | exact m2 | exact m3 | exact m4 | (unfold B40 at hdl; omega) | rfl | (rw [marks_length]; omega) | omega | skip
    · rw [if_neg hdl] at c6
      exact laws_FnExactGroupInverse_p2 hw' c6 (by omega)
  · exact laws_FnExactGroupInverse_p1 (by unfold B40 at hw; omega)

end Go.PR.S
