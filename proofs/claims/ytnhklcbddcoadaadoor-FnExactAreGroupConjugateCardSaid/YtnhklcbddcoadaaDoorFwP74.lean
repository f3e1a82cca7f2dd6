/- Conjugate elements: both functions answer the same. -/
import Derived.Test.YtnhklcbddcoadaaDoorFwP72
import Derived.Test.YtnhklcbddcoadaaDoorFwP30
import Derived.Test.YtnhklcbddcoadaaDoorFwP19
import Derived.Test.YtnhklcbddcoadaaDoorFwG38
import Derived.Test.YtnhklcbddcoadaaDoorFwP10
set_option linter.unusedVariables false
set_option linter.unusedSimpArgs false
set_option linter.unusedSectionVars false
section
set_option maxRecDepth 20000
namespace Go.PR.S
open Go Go.PR Go.Proofs Gp
abbrev pairB (b : Bool) (r : Int) : Ret := ⟨.tup [.bool b, .int .i64 r], [], []⟩
theorem zqs (n : Int) (d u v : List Int) (hd : d.length ≤ B40) (hu : u.length ≤ B40) (hv : v.length ≤ B40) :
    ∃ b r, Runs X F.z5l [alD n d, lD u, lD v] [] (pairB b r) ∧ Runs X F.z42 [alD n d, lD u, lD v] [] (pairB b r) := by
  have c1 := zrf n d u v hd hu hv
  have c2 : Runs X F.z1k [alD n d, .imm2 .i64 ([u] ++ [v])] [] (intR (sgCode n d [u, v])) := zr1 n d [u, v] hd (by simp [B40]) (by simp [hu, hv])
  by_cases h0 : sgCode n d [u, v] = 0
  · obtain ⟨hu0, hv0⟩ := sg_two h0
    obtain ⟨N, ha, rfl, hN, _⟩ := sg_one hu0
    obtain ⟨_, hul, hub, huz, huW⟩ := zh2 ha hu0
    obtain ⟨_, hvl, hvb, hvz, hvW⟩ := zh2 ha hv0
    have huc : (u.map code).length ≤ 24 := by simpa using hul
    have hvc : (v.map code).length ≤ 24 := by simpa using hvl
    have ht := tab_dbl ha
    obtain ⟨p, f, p1, p2, p3, p4, p5, p6, p7, p8, r1, r2⟩ := zgl ha huW huc
    obtain ⟨q, g, q1, q2, q3, q4, q5, q6, q7, q8, s1, s2⟩ := zgl ha hvW hvc
    have hgu := gnf_le ha huW
    have hgv := gnf_le ha hvW
    have k1 := zrg ha
    have k2 := zgq hub huz hu
    have k3 := zbr ha huW (by unfold B40; omega)
    have k4 := zgq hvb hvz hv
    have k5 := zbr ha hvW (by unfold B40; omega)
    have k6 := zri ha
    have k7 := zgk hub hu
    have k8 := zgk hvb hv
    have hpl : p.length ≤ 24 := by omega
    have hql : q.length ≤ 24 := by omega
    obtain ⟨m1, m2⟩ := zr3 ht p1 hpl
    obtain ⟨l1, l2⟩ := zrd ht p1 hpl
    cases hc : conjs (grp ha).toDep (2 * N) p with
    | none =>
      obtain ⟨ps, g1, g2⟩ := m2 hc
      exact ⟨false, 3, zt4 c1 h0 k1 k2 k3 r1 k4 k5 s1 (l2 hc) rfl, zle c2 h0 k6 k7 r2 k8 s2 g2 (by omega)⟩
    | some L =>
      obtain ⟨hI, g2⟩ := m1 L hc
      obtain ⟨far, g3⟩ := l1 L hc
      have hle := hI.le
      have hw : ∀ p ∈ L, p.1.length ≤ B40 := fun p hp => by rw [hI.len p hp]; unfold B40; omega
      have i1 := zr6 L q hle hw
      have i2 := zgp (L.map (·.1)) q (by rw [List.length_map]; unfold B40; omega) (fun x hx => by obtain ⟨p, hp, rfl⟩ := List.mem_map.1 hx; exact hw p hp)
      have hlen : ¬ ((L.map rc).length : Int) > 1000 := by rw [List.length_map]; omega
      by_cases hm : q ∈ L.map (·.1)
      · rw [if_pos hm] at i1 i2
        have hi := List.idxOf_lt_length_iff.2 hm
        rw [List.length_map] at hi
        have x1 := zhm c1 h0 k1 k2 k3 r1 k4 k5 s1 g3 rfl i2
        rw [decide_eq_true (by omega)] at x1
        exact ⟨true, 0, x1, zlg c2 h0 k6 k7 r2 k8 s2 g2 hlen i1 (by omega) (by rw [List.length_map]; omega)⟩
      · rw [if_neg hm] at i1 i2
        have x1 := zhm c1 h0 k1 k2 k3 r1 k4 k5 s1 g3 rfl i2
        rw [decide_eq_false (by omega)] at x1
        exact ⟨false, 0, x1, zlf c2 h0 k6 k7 r2 k8 s2 g2 hlen i1 (by omega)⟩
  · exact ⟨false, _, zt3 c1 h0, zld c2 h0⟩
end Go.PR.S

end

section
set_option maxRecDepth 20000
namespace Go.PR.S
open Go Go.PR Go.Proofs Gp
theorem run_FnExactAreGroupConjugate (n : Int) (d u v : List Int) (hd : d.length ≤ 9223372036854775807) : Runs X F.z59 [alD n d, lD u, lD v] [] (boolR true) := by
  by_cases hu : u.length ≤ B40
  · by_cases hv : v.length ≤ B40
    · have c6 := zrj n d hd
      have hu' : ¬ (u.length : Int) > 1048576 := by unfold B40 at hu; omega
      have hv' : ¬ (v.length : Int) > 1048576 := by unfold B40 at hv; omega
      by_cases hdl : d.length ≤ B40
      · rw [if_pos hdl] at c6
        obtain ⟨b, r, cs, ci⟩ := zqs n d u v hdl hu hv
        have ca := zrk n d hdl
        have cu := zbu u hu
        have cv := zbu v hv
        have eu := zbo u u hu
        have ev := zbo v v hv
        have ed := zr5 n d n d hdl
        rw [decide_eq_true (by trivial)] at eu ev ed
        apply zoh
        all_goals first | exact hu' | exact hv' | exact c6 | exact ca | exact cu | exact cv | exact cs | exact ci | exact eu | exact ev | exact ed | (unfold B40 at hdl; omega) | rfl | skip
      · rw [if_neg hdl] at c6
        exact zog hu' hv' c6 (by omega)
    · exact zof (by unfold B40 at hu; omega) (by unfold B40 at hv; omega)
  · exact zoe (by unfold B40 at hu; omega)
end Go.PR.S

end
