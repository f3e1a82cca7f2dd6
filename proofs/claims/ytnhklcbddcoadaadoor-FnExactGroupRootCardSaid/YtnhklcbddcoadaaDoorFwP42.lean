/- GroupRoot: both functions, and the law. -/
import Derived.Test.YtnhklcbddcoadaaDoorFwP41
import Derived.Test.YtnhklcbddcoadaaDoorFwG32
/- GroupRoot: both functions, and the law. -/
set_option linter.unusedVariables false
set_option linter.unusedSimpArgs false
set_option maxRecDepth 20000
namespace Go.PR.S
open Go Go.PR Go.Proofs Gp

abbrev rootR (xs : List Int) (k r : Int) : Ret := ⟨.tup [.rsl 600000 0 xs.length, .int .i64 k, .int .i64 r], [], [⟨true, .ints .i64 xs⟩]⟩

def rootG {N : Nat} {d : List Int} (h : Al N d) (c f : List Int) : List Int := gnf h (f ++ rootW (grp h).toDep (2 * N) c ++ (f.map opp).reverse)

theorem Wd_opps {N : Nat} {f : List Int} (hf : Wd (2 * N) f) : Wd (2 * N) ((f.map opp).reverse) := fun x hx => by
  obtain ⟨y, hy, rfl⟩ := List.mem_map.1 (List.mem_reverse.1 hx)
  exact Wd_opp hf hy

theorem run_GroupRoot (n : Int) (d w : List Int) (hd : d.length ≤ B40) (hw : w.length ≤ B40) :
    ∃ xs k r, xs.length ≤ B40 ∧ Runs X F.spec_GroupRoot [alD n d, lD w] [] (rootR xs k r) ∧ Runs X F.impl_GroupRoot [alD n d, lD w] [] (rootR xs k r) ∧
      (r = 0 → ∃ (N : Nat) (ha : Al N d) (c f : List Int), n = (N : Int) ∧ Wd (2 * N) c ∧ Wd (2 * N) f ∧ Wd (2 * N) (w.map code) ∧ c ≠ [] ∧ gnf ha c = c ∧ gnf ha f = f ∧ (∀ s : Nat, s < 2 * N → ends (grp ha).toDep c s = false) ∧
        (gnf ha (w.map code)).length = f.length + c.length + f.length ∧ geq (grp ha) (f ++ c ++ back (grp ha) f) (w.map code) ∧ w.length ≤ 24 ∧
        Runs X F.impl_ties_cyclic [lD (dblL N d), lD (w.map code)] [] ⟨.tup [.rsl 600000 0 c.length, .rsl 600001 0 f.length], [], [⟨true, .ints .i64 c⟩, ⟨true, .ints .i64 f⟩]⟩ ∧
        xs = (rootG ha c f).map sign ∧ k = (rootK (grp ha).toDep (2 * N) c : Nat)) := by
  have c1 := run_l09Code n d w w hd hw hw
  rw [sg_twice] at c1
  have c2 : Runs X F.impl_checkSigned [alD n d, .imm2 .i64 [w]] [] (intR (sgCode n d [w])) := run_checkSigned n d [w] hd (by simp [B40]) (by simp [hw])
  by_cases h0 : sgCode n d [w] = 0
  · obtain ⟨N, ha, rfl, hN, hl, hb, hz, hW⟩ := sg_one h0
    have hc : (w.map code).length ≤ 24 := by simpa using hl
    obtain ⟨c, f, w1, w2, w3, w4, w5, w6, w7, w8, r1, r2⟩ := run_core' ha hW hc
    have hgl := gnf_le ha hW
    have hcl : f.length + c.length + f.length ≤ 24 := by omega
    have k1 := run_l09Double ha
    have k2 := run_l09In hb hz hw
    have k3 := run_l09Reduce ha hW (by unfold B40; omega)
    have k6 := run_signedTies ha
    have k7 := run_codesOf hb hw
    by_cases he : c = []
    · have hz0 : ((c.length : Nat) : Int) = 0 := by rw [he]; rfl
      exact ⟨[], 0, 5, by simp [B40], spec_GroupRoot_p2 c1 h0 k1 k2 k3 r1 hz0, impl_GroupRoot_p2 c2 h0 k6 k7 r2 hz0, fun h => by cases h⟩
    · have hne : ¬ ((c.length : Nat) : Int) = 0 := by have := List.length_pos_iff.2 he; omega
      obtain ⟨q1, q2⟩ := run_root (tab_dbl ha) w1 (by omega)
      have hrW := rootW_Wd (T := (grp ha).toDep) w1
      have hrl := rootW_len (T := (grp ha).toDep) w1
      have k8 := run_inverted hN w2 (by unfold B40; omega)
      have k9 := run_l01Own f (by unfold B40; omega)
      have k10 := run_l09Back hN w2 (by unfold B40; omega)
      have hbl : ((f.map opp).reverse).length = f.length := by simp
      have hbW := Wd_opps w2
      have hall : Wd (2 * N) (f ++ rootW (grp ha).toDep (2 * N) c ++ (f.map opp).reverse) := Wd_append (Wd_append w2 hrW) hbW
      have hallL : (f ++ rootW (grp ha).toDep (2 * N) c ++ (f.map opp).reverse).length ≤ 24 := by
        rw [List.length_append, List.length_append, hbl]; omega
      have kc := run_Concat [f, rootW (grp ha).toDep (2 * N) c, (f.map opp).reverse] (by simp [B40]) (by
        simp only [List.flatten_cons, List.flatten_nil, List.append_nil]
        rw [← List.append_assoc]; unfold B40; omega)
      have ef : [f, rootW (grp ha).toDep (2 * N) c, (f.map opp).reverse].flatten = f ++ rootW (grp ha).toDep (2 * N) c ++ (f.map opp).reverse := by simp
      rw [ef] at kc
      have kg := run_group ha hall (by unfold B40; omega)
      have kr := run_l09Reduce ha hall (by unfold B40; omega)
      have hg2 := gnf_le ha hall
      have gW := gnf_Wd ha hall
      have ke := run_element hN gW (by unfold B40; omega)
      rw [if_pos (by omega)] at ke
      have ko := run_l09Out hN gW (by unfold B40; omega)
      refine ⟨(rootG ha c f).map sign, rootK (grp ha).toDep (2 * N) c, 0, by unfold rootG; rw [List.length_map]; unfold B40; omega, ?_, ?_, fun _ => ⟨N, ha, c, f, rfl, w1, w2, hW, he, w3, w4, w5, w6, w7, hl, r2, rfl, rfl⟩⟩
      · unfold rootG
        apply spec_GroupRoot_p3
        all_goals first | exact c1 | exact h0 | exact k1 | exact k2 | exact k3 | exact r1 | exact hne | exact q2 | exact k9 | exact k10 | exact kr | exact ko | (simp only [List.length_append, hbl]; omega) | omega
      · unfold rootG
        apply impl_GroupRoot_p4
        all_goals first | exact c2 | exact h0 | exact k6 | exact k7 | exact r2 | exact hne | exact q1 | exact k8 | exact kc | exact kg | exact ke | omega | rfl
  · exact ⟨[], 0, sgCode n d [w], by simp [B40], spec_GroupRoot_p1 c1 h0, impl_GroupRoot_p1 c2 h0, fun h => absurd h h0⟩

theorem run_FnExactGroupRoot (n : Int) (d w : List Int) (hd : d.length ≤ 9223372036854775807) : Runs X F.laws_FnExactGroupRoot [alD n d, lD w] [] (boolR true) := by
  by_cases hw : w.length ≤ B40
  · have c6 := run_szAlphabet n d hd
    have hw' : ¬ (w.length : Int) > 1048576 := by unfold B40 at hw; omega
    by_cases hdl : d.length ≤ B40
    · rw [if_pos hdl] at c6
      obtain ⟨xs, k, r, hx, cs, ci, _⟩ := run_GroupRoot n d w hdl hw
      have ca := run_toAlphabet n d hdl
      have cw := run_toInt64S w hw
      have ew := run_eqInt64S w w hw
      have ex := run_eqInt64S xs xs hx
      have ed := run_eqAlphabet n d n d hdl
      rw [decide_eq_true (by trivial)] at ew ed ex
      have m1 := run_markAlphabet n d 1 hdl (by omega) (by unfold B40; omega)
      have m2 := run_markInt64S w (1 + d.length) hw (by omega) (by unfold B40 at *; omega)
      have m3 := run_markInt64S xs 1 hx (by omega) (by unfold B40; omega)
      have m4 := run_heldInt64S 1 xs.length hx (by omega) (by unfold B40; omega)
      have e4 : List.take xs.length (List.drop 0 (marks 1 xs.length)) = marks 1 xs.length := by
        rw [List.drop_zero, List.take_of_length_le (by rw [marks_length]; exact Nat.le_refl _)]
      rw [← e4] at m4
      apply laws_FnExactGroupRoot_p17
      all_goals first | exact hw' | exact c6 | exact ca | exact cw | exact cs | exact ci | exact ew | exact ex | exact ed | exact m1 | exact m2 | exact m3 | exact m4 | (unfold B40 at hdl; omega) | rfl | (rw [marks_length]; omega) | omega | skip
    · rw [if_neg hdl] at c6
      exact laws_FnExactGroupRoot_p2 hw' c6 (by omega)
  · exact laws_FnExactGroupRoot_p1 (by unfold B40 at hw; omega)

end Go.PR.S
