/- What the program's functions come to: the laws' own functions; equality in the group. -/
import Derived.Test.YtdheehhnpjkdbaaDoorFwP9
set_option linter.unusedVariables false
set_option maxRecDepth 20000
namespace Go.PR.S
open Go Go.PR Go.Proofs Gp

abbrev alR (n : Int) (d : List Int) : Ret := ⟨.agg [.int .i64 n, .rsl 600000 0 d.length], [], [⟨true, .ints .i64 d⟩]⟩

theorem run_eqInt64S (a b : List Int) (ha : a.length ≤ B40) : Runs X F.laws_eqInt64S [lD a, lD b] [] (boolR (decide (a = b))) := by
  by_cases hl : a.length = b.length
  · have hlp := loop_all (f := F.laws_eqInt64S) (b := 0) (body := lb Tryd.f21 0) (N := a.length) (oF := laws_eqInt64S_o0_1) (oT := laws_eqInt64S_o0_2) (st := fun i => laws_eqInt64S_s0 a b i)
      (p := fun i => decide (a.getD i 0 = b.getD i 0)) (fun i hi hp Q hq => ?_) (fun i hi hp Q hq => ?_) (fun Q hq => ?_)
    · have e : ((List.range a.length).all fun i => decide (a.getD i 0 = b.getD i 0)) = decide (a = b) := by
        rw [Bool.eq_iff_iff, List.all_eq_true, decide_eq_true_eq]
        constructor
        · intro h
          apply List.ext_getElem hl
          intro j h1 h2
          have := h j (List.mem_range.2 h1)
          rw [decide_eq_true_eq, getD_lt h1, getD_lt h2] at this
          exact this
        · rintro rfl j hj; simp
      rw [e] at hlp
      cases hb : decide (a = b) with
      | true => rw [hb] at hlp; exact laws_eqInt64S_p3 (by omega) hlp
      | false => rw [hb] at hlp; exact laws_eqInt64S_p2 (by omega) hlp
    · apply laws_eqInt64S_r0_2
      case hq => exact hq
      all_goals first | (unfold B40 at ha; omega) | exact of_decide_eq_true hp
    · apply laws_eqInt64S_r0_1
      case hq => exact hq
      all_goals first | (unfold B40 at ha; omega) | exact of_decide_eq_false hp
    · apply laws_eqInt64S_r0_3
      case hq => exact hq
      all_goals (unfold B40 at ha; omega)
  · have : decide (a = b) = false := by simp; intro e; exact hl (by rw [e])
    rw [this]
    exact laws_eqInt64S_p1 (by omega)

theorem run_eqAlphabet (n : Int) (d : List Int) (n' : Int) (d' : List Int) (hd : d.length ≤ B40) : Runs X F.laws_eqAlphabet [alD n d, alD n' d'] [] (boolR (decide (n = n' ∧ d = d'))) := by
  have c := run_eqInt64S d d' hd
  by_cases h : n = n'
  · by_cases h2 : d = d'
    · rw [decide_eq_true h2] at c
      rw [decide_eq_true (show n = n' ∧ d = d' from ⟨h, h2⟩)]
      exact laws_eqAlphabet_p3 h c rfl
    · rw [decide_eq_false h2] at c
      rw [decide_eq_false (show ¬ (n = n' ∧ d = d') from fun hh => h2 hh.2)]
      exact laws_eqAlphabet_p2 h c rfl
  · rw [decide_eq_false (show ¬ (n = n' ∧ d = d') from fun hh => h hh.1)]
    exact laws_eqAlphabet_p1 h

theorem run_toInt64S (w : List Int) (hl : w.length ≤ B40) : Runs X F.laws_toInt64S [lD w] [] (rowR w) := by
  refine laws_toInt64S_p1 (by unfold B40 at hl; omega) ?_
  have key := loop_to (f := F.laws_toInt64S) (b := 0) (body := lb Tryd.f18 0) (N := w.length) (o := laws_toInt64S_o0_1 w w) (st := fun i => laws_toInt64S_s0 w i (w.take i ++ List.replicate (w.length - i) 0)) (fun i hi Q hq => ?_) (fun Q hq => ?_)
  · simpa using key
  · have e : (w.take i ++ List.replicate (w.length - i) 0).set (0 + i) (w.getD i 0) = w.take (i + 1) ++ List.replicate (w.length - (i + 1)) 0 := by
      rw [Nat.zero_add, List.set_append_right _ _ (by simp; omega), List.take_succ_eq_append_getElem hi, getD_lt hi]
      have e1 : i - (w.take i).length = 0 := by simp; omega
      have e2 : w.length - i = (w.length - (i + 1)) + 1 := by omega
      rw [e1, e2, List.replicate_succ, List.set_cons_zero, List.append_assoc, List.singleton_append]
    apply laws_toInt64S_r0_1
    case hq => rw [e]; exact hq
    all_goals first | (simp only [List.length_append, List.length_take, List.length_replicate]; omega) | (unfold B40 at hl; omega)
  · apply laws_toInt64S_r0_2
    case hq => simpa using hq
    all_goals first | (simp; done) | (unfold B40 at hl; omega)

theorem run_toAlphabet (n : Int) (d : List Int) (hl : d.length ≤ B40) : Runs X F.laws_toAlphabet [alD n d] [] (alR n d) := laws_toAlphabet_p1 (run_toInt64S d hl)

theorem run_szAlphabet (n : Int) (d : List Int) (hd : d.length ≤ 9223372036854775807) : Runs X F.laws_szAlphabet [alD n d, iD 1048576] [] (intR (if d.length ≤ B40 then 1048576 - d.length else -1)) := by
  by_cases h : d.length ≤ B40
  · rw [if_pos h]
    exact laws_szAlphabet_p2 (laws_szInt64S_p2 (by omega) (by omega) (by unfold B40 at h; omega)) (by unfold B40 at h; omega)
  · rw [if_neg h]
    exact laws_szAlphabet_p1 (laws_szInt64S_p1 (by omega) (by omega) (by unfold B40 at h; omega)) (by omega)

/-! ### AreGroupEqual -/
section
variable {n : Nat} {d : List Int}

theorem code_Wd {w : List Int} (hw : ∀ x ∈ w, x ≠ 0 ∧ -(n : Int) ≤ x ∧ x ≤ n) : Wd (2 * n) (w.map code) := fun y hy => by
  obtain ⟨x, hx, rfl⟩ := List.mem_map.1 hy
  have := hw x hx
  unfold code
  split <;> omega

theorem back_eq (h : Al n d) (w : List Int) : back (grp h) w = (w.map opp).reverse := rfl

theorem Wd_back {w : List Int} (hw : Wd (2 * n) w) : Wd (2 * n) ((w.map opp).reverse) := fun y hy => by
  obtain ⟨x, hx, rfl⟩ := List.mem_map.1 (List.mem_reverse.1 hy)
  exact Wd_opp hw hx

theorem gnf_eq_iff (h : Al n d) {u v : List Int} (hu : Wd (2 * n) u) (hv : Wd (2 * n) v) : gnf h u = gnf h v ↔ fold (grp h) (u ++ back (grp h) v) [] = [] := by
  unfold gnf
  rw [nform_eq_iff (fold_Wd hu) (fold_Wd hv), ← fold_eq_iff]
  constructor
  · intro hh
    have := hh.reverse
    simpa using this
  · intro hh; exact hh.reverse

theorem gnf_len (h : Al n d) {u : List Int} (hu : Wd (2 * n) u) : (gnf h u).length = (fold (grp h) u []).length := by
  unfold gnf
  rw [nform_length (fold_Wd hu), List.length_reverse]

theorem gnf_le (h : Al n d) {u : List Int} (hu : Wd (2 * n) u) : (gnf h u).length ≤ u.length := by
  rw [gnf_len h hu]
  have := fold_len (G := grp h) (w := u) (R := [])
  simpa using this

theorem Wd_append {m : Nat} {u v : List Int} (hu : Wd m u) (hv : Wd m v) : Wd m (u ++ v) := fun x hx => by
  rcases List.mem_append.1 hx with hx | hx
  · exact hu x hx
  · exact hv x hx

end

theorem run_spec_AreGroupEqual (n : Int) (d u v : List Int) (hd : d.length ≤ B40) (hu : u.length ≤ B40) (hv : v.length ≤ B40) :
    ∃ b : Bool, ∃ r : Int, Runs X F.spec_AreGroupEqual [alD n d, lD u, lD v] [] ⟨.tup [.bool b, .int .i64 r], [], []⟩ ∧ Runs X F.impl_AreGroupEqual [alD n d, lD u, lD v] [] ⟨.tup [.bool b, .int .i64 r], [], []⟩ := by
  have c1 := run_l09Code n d u v hd hu hv
  have c2 := run_checkSigned n d [u, v] hd (by simp [B40]) (by simp [hu, hv])
  have c2' : Runs X F.impl_checkSigned [alD n d, .imm2 .i64 ([u] ++ [v])] [] (intR (sgCode n d [u, v])) := c2
  by_cases h0 : sgCode n d [u, v] = 0
  · have hal : alOK n d = true := by
      unfold sgCode at h0
      cases h : alOK n d with
      | true => rfl
      | false => rw [h] at h0; simp at h0
    have hws : [u, v].all (sgOK n) = true := by
      unfold sgCode at h0
      rw [hal] at h0
      cases h : [u, v].all (sgOK n) with
      | true => rfl
      | false => rw [h] at h0; simp at h0
    simp only [List.all_cons, List.all_nil, Bool.and_true, Bool.and_eq_true] at hws
    obtain ⟨hn, ha⟩ := Al.of hal
    generalize hN : n.toNat = N at *
    subst hn
    have hN8 := ha.small
    obtain ⟨bu1, bu2, bu3⟩ := sgOK_bd (by omega) hws.1
    obtain ⟨bv1, bv2, bv3⟩ := sgOK_bd (by omega) hws.2
    have wu := code_Wd bu3
    have wv := code_Wd bv3
    have lu : (u.map code).length ≤ 24 := by simpa using bu1
    have lv : (v.map code).length ≤ 24 := by simpa using bv1
    have k1 := run_l09Double ha
    have k2 := run_l09In bu2 (fun x hx => (bu3 x hx).1) hu
    have k3 := run_l09In bv2 (fun x hx => (bv3 x hx).1) hv
    have k4 := run_l09Back (m := 2 * N) (by omega) wv (by unfold B40; omega)
    have wb := Wd_back wv
    have lb' : ((v.map code).map opp).reverse.length ≤ 24 := by simpa using bv1
    have k5 := run_l09Reduce ha (Wd_append wu wb) (by rw [List.length_append]; unfold B40; omega)
    have k6 := run_signedTies ha
    have k7 := run_codesOf bu2 hu
    have k8 := run_codesOf bv2 hv
    have k9 := run_group ha wu (by unfold B40; omega)
    have k10 := run_group ha wv (by unfold B40; omega)
    have k11 := run_Equal (gnf ha (u.map code)) (gnf ha (v.map code)) (by have := gnf_le ha wu; unfold B40; omega)
    refine ⟨decide (gnf ha (u.map code) = gnf ha (v.map code)), 0, ?_, ?_⟩
    · have hb : (((gnf ha (u.map code ++ ((v.map code).map opp).reverse)).length : Int) == 0) = decide (gnf ha (u.map code) = gnf ha (v.map code)) := by
        rw [Bool.eq_iff_iff, beq_iff_eq, decide_eq_true_eq, gnf_eq_iff ha wu wv, back_eq, gnf_len ha (Wd_append wu wb)]
        constructor
        · intro h; exact List.eq_nil_of_length_eq_zero (by omega)
        · intro h; rw [h]; rfl
      rw [← hb]
      exact spec_AreGroupEqual_p2 c1 h0 k1 k2 k3 k4 (by omega) k5
    · exact impl_AreGroupEqual_p2 c2' h0 k6 k7 k9 k8 k10 k11
  · exact ⟨false, sgCode n d [u, v], spec_AreGroupEqual_p1 c1 h0, impl_AreGroupEqual_p1 c2' h0⟩

end Go.PR.S
