/- Desks: both sides ask the same, and the law of IsDesk. -/
import Derived.Test.YtkoednplncfgaaaDoorFwP22
import Derived.Test.YtkoednplncfgaaaDoorFwG19
import Derived.Test.YtkoednplncfgaaaDoorFwG21
/- Desks: both sides ask the same, and the law of IsDesk. -/
set_option linter.unusedVariables false
set_option linter.unusedSimpArgs false
set_option maxRecDepth 20000
namespace Go.PR.S
open Go Go.PR Go.Proofs Gp

abbrev neD (p : Int) (pre post : List Int) (z : Int) : D := .agg [.int .i64 p, .immI .i64 pre, .immI .i64 post, .int .i64 z]
abbrev dkD (m : Int) (d w : List Int) (n s f : Int) (N : List (List Int)) (p : Int) (pre post : List Int) (z : Int) : D :=
  .agg [.int .i64 m, .immI .i64 d, .immI .i64 w, .int .i64 n, .int .i64 s, .int .i64 f, .imm2 .i64 N, .int .i64 p, .immI .i64 pre, .immI .i64 post, .int .i64 z]

/-! ### nets -/
def okN (p : Int) (pre post : List Int) (i : Nat) : Bool :=
  decide (0 ≤ pre.getD i 0 ∧ pre.getD i 0 ≤ ((2 ^ p.toNat : Nat) : Int) - 1) && decide (0 ≤ post.getD i 0 ∧ post.getD i 0 ≤ ((2 ^ p.toNat : Nat) : Int) - 1) && decide (ior (pre.getD i 0) (post.getD i 0) ≠ 0)

def netOK (p : Int) (pre post : List Int) (z : Int) : Bool :=
  decide (0 ≤ p ∧ p ≤ 12) && decide (pre.length = post.length ∧ pre.length ≤ 8) && decide (0 ≤ z ∧ z ≤ ((2 ^ p.toNat : Nat) : Int) - 1) && (List.range pre.length).all (okN p pre post)

theorem run_IsNet (p : Int) (pre post : List Int) (z : Int) : Runs X F.impl_IsNet [neD p pre post z] [] (boolR (netOK p pre post z)) := by
  have c1 := run_inRange p 0 12
  unfold netOK
  by_cases h1 : 0 ≤ p ∧ p ≤ 12
  · rw [decide_eq_true h1] at c1 ⊢
    by_cases h2 : (pre.length : Int) > 8
    · rw [decide_eq_false (show ¬ (pre.length = post.length ∧ pre.length ≤ 8) by omega)]
      exact impl_IsNet_p2 c1 rfl h2
    · by_cases h3 : (post.length : Int) = pre.length
      · rw [decide_eq_true (show pre.length = post.length ∧ pre.length ≤ 8 by omega)]
        obtain ⟨P, rfl⟩ : ∃ P : Nat, p = P := ⟨p.toNat, by omega⟩
        have cm := fun x => run_IsMask (N := P) (by omega) x
        rw [Int.toNat_natCast]
        by_cases h4 : 0 ≤ z ∧ z ≤ ((2 ^ P : Nat) : Int) - 1
        · have c4 := cm z
          rw [decide_eq_true h4] at c4 ⊢
          have lp : WL F.impl_IsNet 0 Tryd.f81 0 (impl_IsNet_s0 P pre post z 0) (if (List.range pre.length).all (okN P pre post) = true then impl_IsNet_o0_2 else impl_IsNet_o0_1) := by
            refine loop_all (N := pre.length) (p := okN P pre post) (st := fun i => impl_IsNet_s0 P pre post z i) (fun i hi hp Q hqq => ?_) (fun i hi hp Q hqq => ?_) (fun Q hqq => ?_)
            · have g1 := cm (pre.getD i 0)
              have g2 := cm (post.getD i 0)
              unfold okN at hp
              rw [Int.toNat_natCast, Bool.and_eq_true, Bool.and_eq_true, decide_eq_true_eq (p := _ ≠ _)] at hp
              rw [hp.1.1] at g1
              rw [hp.1.2] at g2
              apply impl_IsNet_r0_4
              case hq => exact hqq
              all_goals first | exact g1 | exact g2 | exact hp.2 | rfl | omega
            · have g1 := cm (pre.getD i 0)
              have g2 := cm (post.getD i 0)
              unfold okN at hp
              rw [Int.toNat_natCast] at hp
              cases e1 : decide (0 ≤ pre.getD i 0 ∧ pre.getD i 0 ≤ ((2 ^ P : Nat) : Int) - 1) with
              | false =>
                rw [e1] at g1
                apply impl_IsNet_r0_1
                case hq => exact hqq
                all_goals first | exact g1 | rfl | omega
              | true =>
                rw [e1] at g1 hp
                cases e2 : decide (0 ≤ post.getD i 0 ∧ post.getD i 0 ≤ ((2 ^ P : Nat) : Int) - 1) with
                | false =>
                  rw [e2] at g2
                  apply impl_IsNet_r0_2
                  case hq => exact hqq
                  all_goals first | exact g1 | exact g2 | rfl | omega
                | true =>
                  rw [e2] at g2 hp
                  have hz : ior (pre.getD i 0) (post.getD i 0) = 0 := by simpa using hp
                  apply impl_IsNet_r0_3
                  case hq => exact hqq
                  all_goals first | exact g1 | exact g2 | exact hz | rfl | omega
            · apply impl_IsNet_r0_5
              case hq => exact hqq
              all_goals omega
          cases ha : (List.range pre.length).all (okN P pre post) with
          | true => rw [ha, if_pos rfl] at lp; exact impl_IsNet_p6 c1 rfl h2 h3 c4 rfl lp
          | false => rw [ha, if_neg (by simp)] at lp; exact impl_IsNet_p5 c1 rfl h2 h3 c4 rfl lp
        · have c4 := cm z
          rw [decide_eq_false h4] at c4 ⊢
          exact impl_IsNet_p4 c1 rfl h2 h3 c4 rfl
      · rw [decide_eq_false (show ¬ (pre.length = post.length ∧ pre.length ≤ 8) by omega)]
        exact impl_IsNet_p3 c1 rfl h2 h3
  · rw [decide_eq_false h1] at c1 ⊢
    exact impl_IsNet_p1 c1 rfl

theorem run_l17Is (p : Int) (pre post : List Int) (z : Int) : Runs X F.spec_l17Is [neD p pre post z] [] (boolR (netOK p pre post z)) := by
  have c1 := run_l01In p 0 12
  unfold netOK
  by_cases h1 : 0 ≤ p ∧ p ≤ 12
  · rw [decide_eq_true h1] at c1 ⊢
    by_cases h3 : (pre.length : Int) = post.length
    · by_cases h2 : (pre.length : Int) > 8
      · rw [decide_eq_false (show ¬ (pre.length = post.length ∧ pre.length ≤ 8) by omega)]
        exact spec_l17Is_p3 c1 rfl h3 h2
      · rw [decide_eq_true (show pre.length = post.length ∧ pre.length ≤ 8 by omega)]
        obtain ⟨P, rfl⟩ : ∃ P : Nat, p = P := ⟨p.toNat, by omega⟩
        have cf := run_l01Full (i := P) (by omega)
        have cm := fun x => run_l01In x 0 (((2 ^ P : Nat) : Int) - 1)
        rw [Int.toNat_natCast]
        by_cases h4 : 0 ≤ z ∧ z ≤ ((2 ^ P : Nat) : Int) - 1
        · have c4 := cm z
          rw [decide_eq_true h4] at c4 ⊢
          have lp : WL F.spec_l17Is 0 Tryd.f74 0 (spec_l17Is_s0 P pre post z 0) (if (List.range pre.length).all (okN P pre post) = true then spec_l17Is_o0_2 else spec_l17Is_o0_1) := by
            refine loop_all (N := pre.length) (p := okN P pre post) (st := fun i => spec_l17Is_s0 P pre post z i) (fun i hi hp Q hqq => ?_) (fun i hi hp Q hqq => ?_) (fun Q hqq => ?_)
            · have g1 := cm (pre.getD i 0)
              have g2 := cm (post.getD i 0)
              unfold okN at hp
              rw [Int.toNat_natCast, Bool.and_eq_true, Bool.and_eq_true, decide_eq_true_eq (p := _ ≠ _)] at hp
              rw [hp.1.1] at g1
              rw [hp.1.2] at g2
              apply spec_l17Is_r0_4
              case hq => exact hqq
              case c17 => exact cf
              case c23 => exact cf
              all_goals first | exact g1 | exact g2 | exact hp.2 | rfl | omega
            · have g1 := cm (pre.getD i 0)
              have g2 := cm (post.getD i 0)
              unfold okN at hp
              rw [Int.toNat_natCast] at hp
              cases e1 : decide (0 ≤ pre.getD i 0 ∧ pre.getD i 0 ≤ ((2 ^ P : Nat) : Int) - 1) with
              | false =>
                rw [e1] at g1
                apply spec_l17Is_r0_1
                case hq => exact hqq
                case c17 => exact cf
                all_goals first | exact g1 | rfl | omega
              | true =>
                rw [e1] at g1 hp
                cases e2 : decide (0 ≤ post.getD i 0 ∧ post.getD i 0 ≤ ((2 ^ P : Nat) : Int) - 1) with
                | false =>
                  rw [e2] at g2
                  apply spec_l17Is_r0_2
                  case hq => exact hqq
                  case c17 => exact cf
                  case c23 => exact cf
                  all_goals first | exact g1 | exact g2 | rfl | omega
                | true =>
                  rw [e2] at g2 hp
                  have hz : ior (pre.getD i 0) (post.getD i 0) = 0 := by simpa using hp
                  apply spec_l17Is_r0_3
                  case hq => exact hqq
                  case c17 => exact cf
                  case c23 => exact cf
                  all_goals first | exact g1 | exact g2 | exact hz | rfl | omega
            · apply spec_l17Is_r0_5
              case hq => exact hqq
              all_goals omega
          cases ha : (List.range pre.length).all (okN P pre post) with
          | true => rw [ha, if_pos rfl] at lp; exact spec_l17Is_p6 c1 rfl h3 h2 cf c4 rfl lp
          | false => rw [ha, if_neg (by simp)] at lp; exact spec_l17Is_p5 c1 rfl h3 h2 cf c4 rfl lp
        · have c4 := cm z
          rw [decide_eq_false h4] at c4 ⊢
          exact spec_l17Is_p4 c1 rfl h3 h2 cf c4 rfl
    · rw [decide_eq_false (show ¬ (pre.length = post.length ∧ pre.length ≤ 8) by omega)]
      exact spec_l17Is_p2 c1 rfl h3
  · rw [decide_eq_false h1] at c1 ⊢
    exact spec_l17Is_p1 c1 rfl

/-! ### words -/
def wordOK (n : Int) (w : List Int) : Bool := decide (w.length ≤ 24) && w.all fun x => decide (0 ≤ x ∧ x ≤ n - 1)

theorem run_isWord {m : Int} {d w : List Int} (h0 : 0 ≤ m) (h8 : m ≤ 8) : Runs X F.impl_isWord [alD m d, lD w] [] (boolR (wordOK m w)) := by
  unfold wordOK
  by_cases h : (w.length : Int) ≤ 24
  · rw [decide_eq_true (show w.length ≤ 24 by omega), Bool.true_and]
    exact impl_isWord_p1 h (by omega) (by omega) (run_allIn w 0 (m - 1) (by unfold B40; omega))
  · rw [decide_eq_false (show ¬ w.length ≤ 24 by omega)]
    exact impl_isWord_p2 h

theorem run_l03Word {m : Int} {w : List Int} (h0 : 0 ≤ m) (h8 : m ≤ 8) : Runs X F.spec_l03Word [iD m, lD w] [] (boolR (wordOK m w)) := by
  unfold wordOK
  by_cases h : (w.length : Int) > 24
  · rw [decide_eq_false (show ¬ w.length ≤ 24 by omega)]
    exact spec_l03Word_p1 h
  · rw [decide_eq_true (show w.length ≤ 24 by omega), Bool.true_and]
    let q : Int → Bool := fun x => decide (0 ≤ x ∧ x ≤ m - 1)
    have lp : WL F.spec_l03Word 0 Tryd.f125 0 (spec_l03Word_s0 m w 0) (if (List.range w.length).all (fun i => q (w.getD i 0)) = true then spec_l03Word_o0_2 else spec_l03Word_o0_1) := by
      refine loop_all (N := w.length) (p := fun i => q (w.getD i 0)) (st := fun i => spec_l03Word_s0 m w i) (fun i hi hp Q hqq => ?_) (fun i hi hp Q hqq => ?_) (fun Q hqq => ?_)
      · have c := run_l01In (w.getD i 0) 0 (m - 1)
        rw [show decide (0 ≤ w.getD i 0 ∧ w.getD i 0 ≤ m - 1) = true from hp] at c
        apply spec_l03Word_r0_2
        case hq => exact hqq
        all_goals first | exact c | rfl | omega
      · have c := run_l01In (w.getD i 0) 0 (m - 1)
        rw [show decide (0 ≤ w.getD i 0 ∧ w.getD i 0 ≤ m - 1) = false from hp] at c
        apply spec_l03Word_r0_1
        case hq => exact hqq
        all_goals first | exact c | rfl | omega
      · apply spec_l03Word_r0_3
        case hq => exact hqq
        all_goals omega
    rw [range_all (l := w) (q := q)] at lp
    show Runs X F.spec_l03Word [iD m, lD w] [] (boolR (w.all q))
    cases ha : w.all q with
    | true => rw [ha, if_pos rfl] at lp; exact spec_l03Word_p3 h lp
    | false => rw [ha, if_neg (by simp)] at lp; exact spec_l03Word_p2 h lp

theorem alOK_small {m : Int} {d : List Int} (h : alOK m d = true) : 0 ≤ m ∧ m ≤ 8 := by
  have := (Al.of h).1
  have h2 := (Al.of h).2.small
  omega

theorem run_IsWord (m : Int) (d w : List Int) (hd : d.length ≤ B40) : Runs X F.impl_IsWord [alD m d, lD w] [] (boolR (alOK m d && wordOK m w)) := by
  have c1 := run_IsAlphabet m d hd
  cases h : alOK m d with
  | false => rw [h] at c1; exact impl_IsWord_p2 c1 rfl
  | true =>
    rw [h] at c1
    rw [Bool.true_and]
    exact impl_IsWord_p1 c1 rfl (run_isWord (alOK_small h).1 (alOK_small h).2)

theorem run_l03Is (m : Int) (d w : List Int) (hd : d.length ≤ B40) : Runs X F.spec_l03Is [alD m d, lD w] [] (boolR (alOK m d && wordOK m w)) := by
  have c1 := run_l02Is m d hd
  cases h : alOK m d with
  | false => rw [h] at c1; exact spec_l03Is_p2 c1 rfl
  | true =>
    rw [h] at c1
    rw [Bool.true_and]
    exact spec_l03Is_p1 c1 rfl (run_l03Word (alOK_small h).1 (alOK_small h).2)

theorem run_l01Same (u w : List Int) (hu : u.length ≤ B40) : Runs X F.spec_l01Same [lD u, lD w] [] (boolR (decide (u = w))) := by
  unfold B40 at hu
  by_cases hl : (u.length : Int) = w.length
  · have lp : WL F.spec_l01Same 0 Tryd.f71 0 (spec_l01Same_s0 u w 0) (if (List.range u.length).all (fun i => decide (u.getD i 0 = w.getD i 0)) = true then spec_l01Same_o0_2 else spec_l01Same_o0_1) := by
      refine loop_all (N := u.length) (p := fun i => decide (u.getD i 0 = w.getD i 0)) (st := fun i => spec_l01Same_s0 u w i) (fun i hi hp Q hqq => ?_) (fun i hi hp Q hqq => ?_) (fun Q hqq => ?_)
      · apply spec_l01Same_r0_2
        case hq => exact hqq
        all_goals first | omega | exact of_decide_eq_true hp
      · apply spec_l01Same_r0_1
        case hq => exact hqq
        all_goals first | omega | exact of_decide_eq_false hp
      · apply spec_l01Same_r0_3
        case hq => exact hqq
        all_goals omega
    have e : decide (u = w) = (List.range u.length).all (fun i => decide (u.getD i 0 = w.getD i 0)) := by
      rw [Bool.eq_iff_iff, decide_eq_true_eq, List.all_eq_true]
      constructor
      · rintro rfl i _; simp
      · intro h
        apply List.ext_getElem (by omega)
        intro i h1 h2
        have := h i (List.mem_range.2 h1)
        rw [decide_eq_true_eq, getD_lt h1, getD_lt h2] at this
        exact this
    rw [e]
    cases ha : (List.range u.length).all (fun i => decide (u.getD i 0 = w.getD i 0)) with
    | true => rw [ha, if_pos rfl] at lp; exact spec_l01Same_p3 hl lp
    | false => rw [ha, if_neg (by simp)] at lp; exact spec_l01Same_p2 hl lp
  · rw [decide_eq_false (fun e => hl (by rw [e]))]
    exact spec_l01Same_p1 hl

/-! ### desks -/
theorem run_IsDesk (m : Int) (d w : List Int) (n s f : Int) (N : List (List Int)) (p : Int) (pre post : List Int) (z : Int) (hd : d.length ≤ B40) (hl : N.length ≤ B40) (hw : ∀ r ∈ N, r.length ≤ B40) :
    ∃ b : Bool, Runs X F.spec_IsDesk [dkD m d w n s f N p pre post z] [] (boolR b) ∧ Runs X F.impl_IsDesk [dkD m d w n s f N p pre post z] [] (boolR b) := by
  have c1 := run_l02Is m d hd
  have c2 := run_l03Is m d w hd
  have c3 := run_IsWord m d w hd
  cases h1 : alOK m d with
  | false =>
    rw [h1] at c1 c3
    exact ⟨false, spec_IsDesk_p5 c1 rfl, impl_IsDesk_p4 c3 rfl⟩
  | true =>
    rw [h1] at c1 c2 c3
    rw [Bool.true_and] at c2 c3
    cases h2 : wordOK m w with
    | false =>
      rw [h2] at c2 c3
      exact ⟨false, spec_IsDesk_p4 c1 rfl c2 rfl, impl_IsDesk_p4 c3 rfl⟩
    | true =>
      rw [h2] at c2 c3
      obtain ⟨hm, hA⟩ := Al.of h1
      unfold wordOK at h2
      rw [Bool.and_eq_true, decide_eq_true_eq, List.all_eq_true] at h2
      have hW : Wd m.toNat w := fun x hx => by
        have := h2.2 x hx
        rw [decide_eq_true_eq] at this
        omega
      have hwl : w.length ≤ B40 := by unfold B40; omega
      have k1 := run_l03Normal (tabA hA) hW hwl
      rw [← hm] at k1
      have k2 := run_normal (tabA hA) hW hwl
      have hnl : (nform (depA hA) m.toNat w).length ≤ B40 := by rw [nform_length hW]; exact hwl
      have k3 := run_l01Same (nform (depA hA) m.toNat w) w hnl
      have k4 := run_Equal (nform (depA hA) m.toNat w) w hnl
      cases h3 : decide (nform (depA hA) m.toNat w = w) with
      | false =>
        rw [h3] at k3 k4
        exact ⟨false, spec_IsDesk_p3 c1 rfl c2 rfl k1 k3 rfl, impl_IsDesk_p3 c3 rfl k2 k4 rfl⟩
      | true =>
        rw [h3] at k3 k4
        have o1 := run_l11Over m d n s f N hd hl
        have o2 := run_checkOver m d n s f N hd hl hw
        by_cases h4 : overCode m d n s f N = 0
        · exact ⟨_, spec_IsDesk_p1 c1 rfl c2 rfl k1 k3 rfl o1 h4 (run_l17Is p pre post z), impl_IsDesk_p1 c3 rfl k2 k4 rfl o2 h4 (run_IsNet p pre post z)⟩
        · exact ⟨false, spec_IsDesk_p2 c1 rfl c2 rfl k1 k3 rfl o1 h4, impl_IsDesk_p2 c3 rfl k2 k4 rfl o2 h4⟩

/-! ### the law -/
theorem run_szNet (p : Int) (pre post : List Int) (z l : Int) (h0 : 0 ≤ l) (h1 : l ≤ B40) (hp : pre.length ≤ L63) (hq : post.length ≤ L63) :
    ∃ r : Int, Runs X F.laws_szNet [neD p pre post z, iD l] [] (intR r) ∧ (r < 0 ∨ (pre.length ≤ B40 ∧ post.length ≤ B40)) := by
  have h1' := h1
  unfold B40 at h1'
  have c1 := run_szInt64S pre l h0 h1 hp
  by_cases h : (pre.length : Int) ≤ l
  · rw [if_pos h] at c1
    have c2 := run_szInt64S post (l - pre.length) (by omega) (by unfold B40; omega) hq
    by_cases h2 : (post.length : Int) ≤ l - pre.length
    · rw [if_pos h2] at c2
      exact ⟨_, laws_szNet_p3 c1 (by omega) c2 (by omega), .inr ⟨by unfold B40; omega, by unfold B40; omega⟩⟩
    · rw [if_neg h2] at c2
      exact ⟨-1, laws_szNet_p2 c1 (by omega) c2 (by omega), .inl (by omega)⟩
  · rw [if_neg h] at c1
    exact ⟨-1, laws_szNet_p1 c1 (by omega), .inl (by omega)⟩

theorem run_szDesk (m : Int) (d w : List Int) (n s f : Int) (N : List (List Int)) (p : Int) (pre post : List Int) (z : Int) (hd : d.length ≤ L63) (hww : w.length ≤ L63) (hx : N.length ≤ L63) (hw : ∀ xs ∈ N, xs.length ≤ L63) (hp : pre.length ≤ L63) (hq : post.length ≤ L63) :
    ∃ r : Int, Runs X F.laws_szDesk [dkD m d w n s f N p pre post z, iD 1048576] [] (intR r) ∧ (r < 0 ∨ (d.length ≤ B40 ∧ w.length ≤ B40 ∧ N.length ≤ B40 ∧ (∀ xs ∈ N, xs.length ≤ B40) ∧ pre.length ≤ B40 ∧ post.length ≤ B40)) := by
  have c1 := run_szAlphabet m d hd
  by_cases hdl : d.length ≤ B40
  · rw [if_pos hdl] at c1
    have hdl' := hdl
    unfold B40 at hdl'
    have c2 := run_szInt64S w (1048576 - d.length) (by omega) (by unfold B40; omega) hww
    by_cases hwl : (w.length : Int) ≤ 1048576 - d.length
    · rw [if_pos hwl] at c2
      obtain ⟨r, c3, hr1, hr⟩ := run_szAutomaton n s f N (1048576 - d.length - w.length) (by omega) (by unfold B40; omega) hx hw
      rcases hr with hr | ⟨hr, hl, hw⟩
      · exact ⟨-1, laws_szDesk_p3 c1 (by omega) c2 (by omega) c3 hr, .inl (by omega)⟩
      · obtain ⟨r2, c4, hr2⟩ := run_szNet p pre post z r hr (by unfold B40; omega) hp hq
        by_cases hneg : r2 < 0
        · exact ⟨-1, laws_szDesk_p4 c1 (by omega) c2 (by omega) c3 (by omega) c4 hneg, .inl (by omega)⟩
        · rcases hr2 with hr2 | ⟨g1, g2⟩
          · exact absurd hr2 hneg
          · exact ⟨r2, laws_szDesk_p5 c1 (by omega) c2 (by omega) c3 (by omega) c4 hneg, .inr ⟨hdl, by unfold B40; omega, hl, hw, g1, g2⟩⟩
    · rw [if_neg hwl] at c2
      exact ⟨-1, laws_szDesk_p2 c1 (by omega) c2 (by omega), .inl (by omega)⟩
  · rw [if_neg hdl] at c1
    exact ⟨-1, laws_szDesk_p1 c1 (by omega), .inl (by omega)⟩

theorem run_FnExactIsDesk (m : Int) (d w : List Int) (n s f : Int) (N : List (List Int)) (p : Int) (pre post : List Int) (z : Int) (hd : d.length ≤ L63) (hww : w.length ≤ L63) (hx : N.length ≤ L63) (hw : ∀ xs ∈ N, xs.length ≤ L63) (hp : pre.length ≤ L63) (hq : post.length ≤ L63) :
    Runs X F.laws_FnExactIsDesk [dkD m d w n s f N p pre post z] [] (boolR true) := by
  obtain ⟨r, c1, hr⟩ := run_szDesk m d w n s f N p pre post z hd hww hx hw hp hq
  by_cases hneg : r < 0
  · exact laws_FnExactIsDesk_p1 c1 hneg
  · rcases hr with hr | ⟨hd, hwl, hl, hw, hp, hq⟩
    · exact absurd hr hneg
    · obtain ⟨b, cs, ci⟩ := run_IsDesk m d w n s f N p pre post z hd hl hw
      have ct := laws_toDesk_p1 (m := m) (d := d) (w := w) (n := n) (s := s) (f := f) (xss := N) (p := p) (pre := pre) (post := post) (z := z) (run_toAlphabet m d hd) (run_toInt64S w hwl) (run_toAutomaton n s f N hl hw) (laws_toNet_p1 (run_toInt64S pre hp) (run_toInt64S post hq))
      have ce := laws_eqDesk_p5 (m := m) (m' := m) (laws_eqAlphabet_p3 (n := m) (n' := m) rfl (run_eqInt64S d hd) rfl) rfl (run_eqInt64S w hwl) rfl (run_eqAutomaton n s f N hl hw) rfl (laws_eqNet_p5 (p := p) (z := z) rfl (run_eqInt64S pre hp) rfl (run_eqInt64S post hq) rfl rfl) rfl
      apply laws_FnExactIsDesk_p4
      all_goals first | exact c1 | exact cs | exact ci | exact ct | exact ce | omega | rfl

end Go.PR.S
