/- Retracts of words: the reference and the implementation answer alike; the law comes to true. -/
import Derived.Test.YtdheehhnpjkdbaaDoorFwP12
import Derived.Test.YtdheehhnpjkdbaaDoorFwG9
set_option linter.unusedVariables false
set_option linter.unusedSimpArgs false
set_option maxRecDepth 20000
namespace Go.PR.S
open Go Go.PR Go.Proofs Gp

def keepC (m : Int) (x : Int) : Bool := tb m (x.tdiv 2)

theorem filter_step {q : Int → Bool} {v : List Int} {i : Nat} (hi : i < v.length) : (v.take (i + 1)).filter q = (v.take i).filter q ++ if q (v.getD i 0) = true then [v.getD i 0] else [] := by
  rw [List.take_succ_eq_append_getElem hi, List.filter_append, getD_lt hi]
  congr 1
  rw [List.filter_cons, List.filter_nil]

theorem run_IsMask {N : Nat} (hN : N ≤ 24) (m : Int) : Runs X F.impl_IsMask [iD m, iD N] [] (boolR (decide (0 ≤ m ∧ m ≤ ((2 ^ N : Nat) : Int) - 1))) := by
  have c1 := run_inRange (N : Int) 0 24
  rw [decide_eq_true (by omega)] at c1
  have h2 := pow62 (i := N) (by omega)
  have h3 : ((2 ^ N : Nat) : Int) < ((2 ^ 63 : Nat) : Int) := Int.ofNat_lt.2 h2
  have h4 : (0 : Int) ≤ ((2 ^ N : Nat) : Int) := Int.natCast_nonneg _
  exact impl_IsMask_p1 c1 rfl (run_one (by omega)) (by omega) (by omega) (run_inRange m 0 _)

theorem half_nat {x : Int} (h : 0 ≤ x) : x.tdiv 2 = ((x.toNat / 2 : Nat) : Int) := by
  obtain ⟨k, rfl⟩ := Int.eq_ofNat_of_zero_le h
  rw [Int.tdiv_eq_ediv_of_nonneg (by omega)]
  simp

theorem run_keep {M : Nat} (hM : M < 2 ^ 63) {x : Int} (h0 : 0 ≤ x) (h1 : x < 62) :
    Runs X F.spec_l01Bit [iD M, iD (x.tdiv 2)] [] (boolR (keepC M x)) ∧ Runs X F.impl_has [iD M, iD (x.tdiv 2)] [] (boolR (keepC M x)) := by
  unfold keepC
  rw [half_nat h0]
  exact ⟨run_l01Bit hM (by omega), run_has hM⟩

theorem run_RetractOn (n : Int) (d w : List Int) (m : Int) (hd : d.length ≤ B40) (hw : w.length ≤ B40) :
    ∃ xs r, xs.length ≤ B40 ∧ Runs X F.spec_RetractOn [alD n d, lD w, iD m] [] (pairR xs r) ∧ Runs X F.impl_RetractOn [alD n d, lD w, iD m] [] (pairR xs r) := by
  have c1 := run_l09Code n d w w hd hw hw
  rw [sg_twice] at c1
  have c2 : Runs X F.impl_checkSigned [alD n d, .imm2 .i64 [w]] [] (intR (sgCode n d [w])) := run_checkSigned n d [w] hd (by simp [B40]) (by simp [hw])
  by_cases h0 : sgCode n d [w] = 0
  · obtain ⟨N, ha, rfl, hN, hl, hb, hz, hW⟩ := sg_one h0
    have hN8 := ha.small
    have c3 := run_IsMask (N := N) (by omega) m
    have c4 := run_l01Full (i := N) (by omega)
    have c5 := run_l01In m 0 (((2 ^ N : Nat) : Int) - 1)
    by_cases hm : 0 ≤ m ∧ m ≤ ((2 ^ N : Nat) : Int) - 1
    · rw [decide_eq_true hm] at c3 c5
      obtain ⟨M, rfl⟩ := Int.eq_ofNat_of_zero_le hm.1
      have h2 := pow62 (i := N) (by omega)
      have hM : M < 2 ^ 63 := by omega
      have k2 := run_l09In hb hz hw
      have k6 := run_codesOf hb hw
      have hc : (w.map code).length ≤ 24 := by simpa using hl
      generalize hG : w.map code = G at *
      have gx : ∀ i, i < G.length → 0 ≤ G.getD i 0 ∧ G.getD i 0 < 62 := fun i hi => by
        rw [getD_lt hi]
        have := hW _ (List.getElem_mem hi)
        omega
      have hW2 : Wd (2 * N) (G.filter (keepC M)) := fun x hx => hW x (List.mem_filter.1 hx).1
      have hfl := List.length_filter_le (keepC (M : Int)) G
      have hg := gnf_le ha hW2
      have hti : ∀ i, ((G.take i).filter (keepC M)).length ≤ 24 := fun i => by
        have := List.length_filter_le (keepC (M : Int)) (G.take i)
        rw [List.length_take] at this
        omega
      have l1 := loop_to (f := F.spec_RetractOn) (b := 0) (body := lb Tryd.f31 0) (N := G.length) (o := spec_RetractOn_o0_1 N d (G.filter (keepC M))) (st := fun i => spec_RetractOn_s0 N d M G i ((G.take i).filter (keepC M))) (fun i hi Q hq => ?_) (fun Q hq => ?_)
      · have l2 := loop_to (f := F.impl_RetractOn) (b := 0) (body := lb Tryd.f32 0) (N := G.length) (o := impl_RetractOn_o0_1 N d (G.filter (keepC M))) (st := fun i => impl_RetractOn_s0 N d M G i ((G.take i).filter (keepC M))) (fun i hi Q hq => ?_) (fun Q hq => ?_)
        · have k1 := run_l09Double ha
          have k3 := run_l09Reduce ha hW2 (by unfold B40; omega)
          have gW := gnf_Wd ha hW2
          have k4 := run_l09Out hN gW (by unfold B40; omega)
          have k5 := run_signedTies ha
          have k7 := run_group ha hW2 (by unfold B40; omega)
          have k8 := run_element hN gW (by unfold B40; omega)
          rw [if_pos (by omega)] at k8
          exact ⟨_, 0, by rw [List.length_map]; unfold B40; omega, spec_RetractOn_p2 c1 h0 c4 c5 rfl k2 (by simpa using l1) k1 k3 k4, impl_RetractOn_p3 c2 h0 c3 rfl k6 (by simpa using l2) k5 k7 k8⟩
        · have hx := gx i hi
          have hk := (run_keep hM hx.1 hx.2).2
          have hh := half_nat hx.1
          have ht := hti i
          rw [filter_step hi] at hq
          cases hb : keepC M (G.getD i 0) with
          | true =>
            rw [hb, if_pos rfl] at hq
            rw [hb] at hk
            apply impl_RetractOn_r0_1
            case hq => rw [Nat.zero_add]; exact hq
            all_goals first | rfl | (rw [Nat.zero_add]; exact hk) | (rw [Nat.zero_add]; omega) | omega
          | false =>
            rw [hb, if_neg (by decide), List.append_nil] at hq
            rw [hb] at hk
            apply impl_RetractOn_r0_2
            case hq => exact hq
            all_goals first | rfl | (rw [Nat.zero_add]; exact hk) | (rw [Nat.zero_add]; omega) | omega
        · apply impl_RetractOn_r0_3
          case hq => simpa using hq
          all_goals omega
      · have hx := gx i hi
        have hk := (run_keep hM hx.1 hx.2).1
        have hh := half_nat hx.1
        have ht := hti i
        rw [filter_step hi] at hq
        cases hb : keepC M (G.getD i 0) with
        | true =>
          rw [hb, if_pos rfl] at hq
          rw [hb] at hk
          apply spec_RetractOn_r0_1
          case hq => rw [Nat.zero_add]; exact hq
          all_goals first | rfl | (rw [Nat.zero_add]; exact hk) | (rw [Nat.zero_add]; omega) | omega
        | false =>
          rw [hb, if_neg (by decide), List.append_nil] at hq
          rw [hb] at hk
          apply spec_RetractOn_r0_2
          case hq => exact hq
          all_goals first | rfl | (rw [Nat.zero_add]; exact hk) | (rw [Nat.zero_add]; omega) | omega
      · apply spec_RetractOn_r0_3
        case hq => simpa using hq
        all_goals omega
    · rw [decide_eq_false hm] at c3 c5
      exact ⟨[], 2, by simp [B40], spec_RetractOn_p1 c1 h0 c4 c5 rfl, impl_RetractOn_p2 c2 h0 c3 rfl⟩
  · exact ⟨[], sgCode n d [w], by simp [B40], spec_RetractOn_p3 c1 h0, impl_RetractOn_p1 c2 h0⟩

theorem run_FnExactRetractOn (n : Int) (d w : List Int) (m : Int) (hd : d.length ≤ 9223372036854775807) : Runs X F.laws_FnExactRetractOn [alD n d, lD w, iD m] [] (boolR true) := by
  by_cases hw : w.length ≤ B40
  · have c6 := run_szAlphabet n d hd
    have hw' : ¬ (w.length : Int) > 1048576 := by unfold B40 at hw; omega
    by_cases hdl : d.length ≤ B40
    · rw [if_pos hdl] at c6
      obtain ⟨xs, r, hx, cs, ci⟩ := run_RetractOn n d w m hdl hw
      have ca := run_toAlphabet n d hdl
      have cw := run_toInt64S w hw
      have ew := run_eqInt64S w w hw
      have ex := run_eqInt64S xs xs hx
      have ed := run_eqAlphabet n d n d hdl
      rw [decide_eq_true (by trivial)] at ew ed ex
      have m1 := run_markAlphabet n d 1 hdl (by omega) (by unfold B40; omega)
      have m2 := run_markInt64S w (1 + d.length) hw (by omega) (by unfold B40 at *; omega)
      have m3 := run_markInt64S xs 1 hx (by omega) (by unfold B40; omega)
      have m4 := run_heldInt64S 1 xs.length hx (by omega) (by unfold B40; omega)
      have e4 : List.take xs.length (List.drop 0 (marks 1 xs.length)) = marks 1 xs.length := by
        rw [List.drop_zero, List.take_of_length_le (by rw [marks_length]; exact Nat.le_refl _)]
      rw [← e4] at m4
      apply laws_FnExactRetractOn_p15
      all_goals first | exact hw' | exact c6 | exact ca | exact cw | exact cs | exact ci | exact ew | exact ex | exact ed | exact m1 | exact m2 | exact m3 | exact m4 | (unfold B40 at hdl; omega) | rfl | (rw [marks_length]; omega) | omega | skip
    · rw [if_neg hdl] at c6
      exact laws_FnExactRetractOn_p2 hw' c6 (by omega)
  · exact laws_FnExactRetractOn_p1 (by unfold B40 at hw; omega)

end Go.PR.S
