/- Products in the group: the reference and the implementation answer alike; the law comes to true. -/
import Derived.Test.YtdheehhnpjkdbaaDoorFwP12
import Derived.Test.YtdheehhnpjkdbaaDoorFwG11
set_option linter.unusedVariables false
set_option linter.unusedSimpArgs false
set_option maxRecDepth 20000
namespace Go.PR.S
open Go Go.PR Go.Proofs Gp

theorem sg_two {n : Int} {d u v : List Int} (h : sgCode n d [u, v] = 0) : sgCode n d [u] = 0 ∧ sgCode n d [v] = 0 := by
  unfold sgCode at *
  cases h1 : alOK n d with
  | false => rw [h1] at h; simp at h
  | true =>
    rw [h1] at h
    cases h2 : sgOK n u with
    | false => simp [h2] at h
    | true =>
      cases h3 : sgOK n v with
      | false => simp [h2, h3] at h
      | true => simp [h2, h3]

theorem run_GroupProduct (n : Int) (d u v : List Int) (hd : d.length ≤ B40) (hu : u.length ≤ B40) (hv : v.length ≤ B40) :
    ∃ xs r, xs.length ≤ B40 ∧ Runs X F.spec_GroupProduct [alD n d, lD u, lD v] [] (pairR xs r) ∧ Runs X F.impl_GroupProduct [alD n d, lD u, lD v] [] (pairR xs r) := by
  have c1 := run_l09Code n d u v hd hu hv
  have c2 : Runs X F.impl_checkSigned [alD n d, .imm2 .i64 ([u] ++ [v])] [] (intR (sgCode n d [u, v])) := run_checkSigned n d [u, v] hd (by simp [B40]) (by simp [hu, hv])
  by_cases h0 : sgCode n d [u, v] = 0
  · obtain ⟨hu0, hv0⟩ := sg_two h0
    obtain ⟨N, ha, rfl, hN, hlu, hbu, hzu, hWu⟩ := sg_one hu0
    obtain ⟨N', _, e, _, hlv, hbv, hzv, hWv⟩ := sg_one hv0
    obtain rfl : N = N' := by omega
    have k1 := run_l09Double ha
    have k2 := run_l09In hbu hzu hu
    have k3 := run_l09In hbv hzv hv
    have k5 := run_signedTies ha
    have k6 := run_codesOf hbu hu
    have k7 := run_codesOf hbv hv
    have hcu : (u.map code).length ≤ 24 := by simpa using hlu
    have hcv : (v.map code).length ≤ 24 := by simpa using hlv
    generalize u.map code = U at *
    generalize v.map code = V at *
    have hW := Wd_append hWu hWv
    have hl : (U ++ V).length ≤ 48 := by rw [List.length_append]; omega
    have kc := run_Concat [U, V] (by simp [B40]) (by simp only [List.flatten_cons, List.flatten_nil, List.append_nil]; unfold B40; omega)
    have ef : [U, V].flatten = U ++ V := by simp
    rw [ef] at kc
    have hg := gnf_le ha hW
    have k8 := run_l09Reduce ha hW (by unfold B40; omega)
    have k9 := run_group ha hW (by unfold B40; omega)
    have gW := gnf_Wd ha hW
    have k4 := run_l09Out hN gW (by unfold B40; omega)
    have ke := run_element hN gW (by unfold B40; omega)
    by_cases h24 : (gnf ha (U ++ V)).length ≤ 24
    · rw [if_pos h24] at ke
      exact ⟨_, 0, by rw [List.length_map]; unfold B40; omega, spec_GroupProduct_p3 c1 h0 k1 k2 k3 (by omega) k8 (by omega) k4, impl_GroupProduct_p2 c2 h0 k5 k6 k7 kc k9 ke⟩
    · rw [if_neg h24] at ke
      exact ⟨[], 3, by simp [B40], spec_GroupProduct_p2 c1 h0 k1 k2 k3 (by omega) k8 (by omega), impl_GroupProduct_p2 c2 h0 k5 k6 k7 kc k9 ke⟩
  · exact ⟨[], sgCode n d [u, v], by simp [B40], spec_GroupProduct_p1 c1 h0, impl_GroupProduct_p1 c2 h0⟩

theorem run_FnExactGroupProduct (n : Int) (d u v : List Int) (hd : d.length ≤ 9223372036854775807) : Runs X F.laws_FnExactGroupProduct [alD n d, lD u, lD v] [] (boolR true) := by
  by_cases hu : u.length ≤ B40
  · by_cases hv : v.length ≤ B40
    · have c6 := run_szAlphabet n d hd
      have hu' : ¬ (u.length : Int) > 1048576 := by unfold B40 at hu; omega
      have hv' : ¬ (v.length : Int) > 1048576 := by unfold B40 at hv; omega
      by_cases hdl : d.length ≤ B40
      · rw [if_pos hdl] at c6
        obtain ⟨xs, r, hx, cs, ci⟩ := run_GroupProduct n d u v hdl hu hv
        have ca := run_toAlphabet n d hdl
        have cu := run_toInt64S u hu
        have cv := run_toInt64S v hv
        have eu := run_eqInt64S u u hu
        have ev := run_eqInt64S v v hv
        have ex := run_eqInt64S xs xs hx
        have ed := run_eqAlphabet n d n d hdl
        rw [decide_eq_true (by trivial)] at eu ev ed ex
        have m1 := run_markAlphabet n d 1 hdl (by omega) (by unfold B40; omega)
        have m2 := run_markInt64S u (1 + d.length) hu (by omega) (by unfold B40 at *; omega)
        have m5 := run_markInt64S v (1 + d.length + u.length) hv (by omega) (by unfold B40 at *; omega)
        have m3 := run_markInt64S xs 1 hx (by omega) (by unfold B40; omega)
        have m4 := run_heldInt64S 1 xs.length hx (by omega) (by unfold B40; omega)
        have e4 : List.take xs.length (List.drop 0 (marks 1 xs.length)) = marks 1 xs.length := by
          rw [List.drop_zero, List.take_of_length_le (by rw [marks_length]; exact Nat.le_refl _)]
        rw [← e4] at m4
        apply laws_FnExactGroupProduct_p17
        all_goals first | exact hu' | exact hv' | exact c6 | exact ca | exact cu | exact cv | exact cs | exact ci | exact eu | exact ev | exact ex | exact ed | exact m1 | exact m2 | exact m5 | exact m3 | exact m4 | (unfold B40 at hdl; omega) | rfl | (rw [marks_length]; omega) | omega | skip
      · rw [if_neg hdl] at c6
        exact laws_FnExactGroupProduct_p3 hu' hv' c6 (by omega)
    · exact laws_FnExactGroupProduct_p2 (by unfold B40 at hu; omega) (by unfold B40 at hv; omega)
  · exact laws_FnExactGroupProduct_p1 (by unfold B40 at hu; omega)

end Go.PR.S
