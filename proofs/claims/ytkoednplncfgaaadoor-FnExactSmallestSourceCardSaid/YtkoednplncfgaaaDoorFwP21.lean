/- The smallest source set, IsSource, and their laws. -/
import Derived.Test.YtkoednplncfgaaaDoorFwP20
import Derived.Test.YtkoednplncfgaaaDoorFwG15
import Derived.Test.YtkoednplncfgaaaDoorFwG16
import Derived.Test.YtkoednplncfgaaaDoorFwG17
/- The smallest source set, IsSource, and their laws. -/
set_option linter.unusedVariables false
set_option linter.unusedSimpArgs false
set_option maxRecDepth 20000
namespace Go.PR.S
open Go Go.PR Go.Proofs Gp

section
variable {m n s f : Int} {d : List Int} {N : List (List Int)}

open Classical in
noncomputable def sB (d : List Int) (N : List (List Int)) (q E : Nat) : Bool := decide (Src d N E q)

open Classical in
theorem sB_iff {q E : Nat} : sB d N q E = true ↔ Src d N E q := by
  unfold sB; rw [decide_eq_true_eq]

theorem run_l19Src (h : Ov m d n s f N) {E q : Nat} (hq : q < N.length) (hE : E < 2 ^ d.length) : Runs X F.spec_l19Source [alD m d, auD n s f N, iD q, iD E] [] (boolR (sB d N q E)) := by
  obtain ⟨b, r, i⟩ := run_l19Source h hq hE
  have : b = sB d N q E := by rw [Bool.eq_iff_iff, i, sB_iff]
  rw [← this]; exact r

theorem run_isSrc {fs : List Bool} (h : Ov m d n s f N) (hEn : endsB N = true) {E q : Nat} (hq : q < N.length) (hE : E < 2 ^ d.length) : Runs X F.impl_machine_isSource [maD n s fs N, alD m d, iD q, iD E] [] (boolR (sB d N q E)) := by
  obtain ⟨b, r, i⟩ := run_isSource (fs := fs) h hEn hq hE
  have : b = sB d N q E := by rw [Bool.eq_iff_iff, i, sB_iff]
  rw [← this]; exact r

theorem sB_sub {q E : Nat} (hE : E < 2 ^ 63) (h : sB d N q E = true) : ∀ i, E.testBit i = true → (possM N q).testBit i = true := by
  exact (nandn_zero hE).1 (sB_iff.1 h).1

theorem run_l19SmallestS (h : Ov m d n s f N) {q : Nat} (hq : q < N.length) : Runs X F.spec_l19Smallest [alD m d, auD n s f N, iD q, .bool true] [] (intR ((bst (possM N q) (sB d N q) (2 ^ d.length) : Nat) : Int)) := by
  have hd := h.dlen
  have hs8 := h.al.small
  have hlen := h.al.len
  have h2 := two_le h
  have hP := poss_small h hq
  have cp := run_l19Possible h.toAutP (q := (q : Int)) (by omega) (by omega)
  have cf := run_l01Full (i := d.length) (by omega)
  rw [hd] at cf
  have lp : WL F.spec_l19Smallest 0 Tryd.f92 0 (spec_l19Smallest_S_s0 m d n s f N q (possM N q : Nat) 0) (spec_l19Smallest_S_o0_1 ((bst (possM N q) (sB d N q) (2 ^ d.length) : Nat) : Int)) := by
    refine loop_to (N := 2 ^ d.length) (st := fun j => spec_l19Smallest_S_s0 m d n s f N q ((bst (possM N q) (sB d N q) j : Nat) : Int) j) (fun j hj Q hqq => ?_) (fun Q hqq => ?_)
    · have hb := bst_lt (g := sB d N q) hP j (by omega)
      have c1 := run_l01Bits (m := j) (by omega)
      have c2 := run_l01Bits (m := bst (possM N q) (sB d N q) j) (by omega)
      have c3 := run_l19Src h hq hj
      rw [bst] at hqq
      by_cases h1 : pc j < pc (bst (possM N q) (sB d N q) j)
      · cases hg : sB d N q j with
        | true =>
          rw [if_pos ⟨h1, hg⟩] at hqq
          rw [hg] at c3
          apply spec_l19Smallest_S_r0_1
          case hq => exact hqq
          all_goals first | exact cf | exact c1 | exact c2 | exact c3 | rfl | omega
        | false =>
          rw [if_neg (by rw [hg]; simp)] at hqq
          rw [hg] at c3
          apply spec_l19Smallest_S_r0_2
          case hq => exact hqq
          all_goals first | exact cf | exact c1 | exact c2 | exact c3 | rfl | omega
      · rw [if_neg (fun hh => h1 hh.1)] at hqq
        by_cases h3 : pc j = pc (bst (possM N q) (sB d N q) j)
        · by_cases h4 : j < bst (possM N q) (sB d N q) j
          · have hg := bst_tie (P := possM N q) (g := sB d N q) (by omega) (fun hj' => sB_sub (by omega) hj') (by omega) h3 h4
            rw [hg] at c3
            apply spec_l19Smallest_S_r0_4
            case hq => exact hqq
            all_goals first | exact cf | exact c1 | exact c2 | exact c3 | rfl | omega
          · apply spec_l19Smallest_S_r0_5
            case hq => exact hqq
            all_goals first | exact cf | exact c1 | exact c2 | rfl | omega
        · apply spec_l19Smallest_S_r0_6
          case hq => exact hqq
          all_goals first | exact cf | exact c1 | exact c2 | rfl | omega
    · apply spec_l19Smallest_S_r0_7
      case hq => exact hqq
      all_goals first | exact cf | omega
  exact spec_l19Smallest_S_p1 cp lp

theorem run_smallestS {fs : List Bool} (h : Ov m d n s f N) (hEn : endsB N = true) {q : Nat} (hq : q < N.length) : Runs X F.impl_machine_smallestSource [maD n s fs N, alD m d, iD q] [] (intR ((bst (possM N q) (sB d N q) (2 ^ d.length) : Nat) : Int)) := by
  have hd := h.dlen
  have hs8 := h.al.small
  have hlen := h.al.len
  have h2 := two_le h
  have hP := poss_small h hq
  have cp := run_possible (n := n) (s := s) (fs := fs) h.rowsP (q := (q : Int)) (by omega) (by omega)
  have co := run_one (i := d.length) (by omega)
  rw [hd] at co
  have lp : WL F.impl_machine_smallest 0 Tryd.f151 0 (impl_machine_smallest_S_s0 n s fs N m d q ((2 ^ d.length : Nat) : Int) (possM N q : Nat) 0) (impl_machine_smallest_S_o0_1 ((bst (possM N q) (sB d N q) (2 ^ d.length) : Nat) : Int)) := by
    refine loop_to (N := 2 ^ d.length) (st := fun j => impl_machine_smallest_S_s0 n s fs N m d q ((2 ^ d.length : Nat) : Int) ((bst (possM N q) (sB d N q) j : Nat) : Int) j) (fun j hj Q hqq => ?_) (fun Q hqq => ?_)
    · have hb := bst_lt (g := sB d N q) hP j (by omega)
      have c1 := run_size (E := j) (by omega)
      have c2 := run_size (E := bst (possM N q) (sB d N q) j) (by omega)
      have c3 := impl_machine_smallestSourcek1_p1 (run_isSrc (fs := fs) h hEn hq hj)
      have hnd : iandnot (j : Int) (possM N q : Nat) = (nandn j (possM N q) : Nat) := iandnot_nat (by omega) (by omega)
      rw [bst] at hqq
      by_cases h0 : nandn j (possM N q) = 0
      · by_cases h1 : pc j < pc (bst (possM N q) (sB d N q) j)
        · cases hg : sB d N q j with
          | true =>
            rw [if_pos ⟨h1, hg⟩] at hqq
            rw [hg] at c3
            apply impl_machine_smallest_S_r0_1
            case hq => exact hqq
            all_goals first | exact co | exact cp | exact c1 | exact c2 | exact c3 | rfl | (rw [hnd]; omega) | omega
          | false =>
            rw [if_neg (by rw [hg]; simp)] at hqq
            rw [hg] at c3
            apply impl_machine_smallest_S_r0_2
            case hq => exact hqq
            all_goals first | exact co | exact cp | exact c1 | exact c2 | exact c3 | rfl | (rw [hnd]; omega) | omega
        · rw [if_neg (fun hh => h1 hh.1)] at hqq
          apply impl_machine_smallest_S_r0_3
          case hq => exact hqq
          all_goals first | exact co | exact cp | exact c1 | exact c2 | rfl | (rw [hnd]; omega) | omega
      · have hg : sB d N q j = false := by
          cases hg : sB d N q j with
          | false => rfl
          | true => exact absurd ((nandn_zero (by omega)).2 (sB_sub (by omega) hg)) h0
        rw [if_neg (by rw [hg]; simp)] at hqq
        apply impl_machine_smallest_S_r0_4
        case hq => exact hqq
        all_goals first | exact co | exact cp | rfl | (rw [hnd]; omega) | omega
    · apply impl_machine_smallest_S_r0_5
      case hq => exact hqq
      all_goals first | exact co | omega
  exact impl_machine_smallestSource_p1 (impl_machine_smallest_S_p1 cp co lp)
end

theorem run_SmallestSource (m : Int) (d : List Int) (n s f : Int) (N : List (List Int)) (q : Int) (hd : d.length ≤ B40) (hl : N.length ≤ B40) (hw : ∀ r ∈ N, r.length ≤ B40) :
    ∃ (a b : Int), Runs X F.spec_SmallestSource [alD m d, auD n s f N, iD q] [] ⟨.tup [.int .i64 a, .int .i64 b], [], []⟩ ∧ Runs X F.impl_SmallestSource [alD m d, auD n s f N, iD q] [] ⟨.tup [.int .i64 a, .int .i64 b], [], []⟩ := by
  have c1 := run_l19Code m d n s f N q 0 hd hl
  have c2 := run_checkState m d n s f N q 0 hd hl hw
  by_cases h0 : stCode m d n s f N q 0 = 0
  · rw [h0] at c1
    rw [if_pos h0] at c2
    obtain ⟨h, ⟨q0, q1, _, _⟩, _, _, hEn⟩ := stCode_zero h0
    obtain ⟨q, rfl⟩ : ∃ k : Nat, q = k := ⟨q.toNat, by omega⟩
    exact ⟨_, 0, spec_SmallestSource_p2 c1 rfl (run_l19SmallestS h (by omega)), impl_SmallestSource_p4 c2 rfl (run_smallestS h hEn (by omega))⟩
  · rw [if_neg h0] at c2
    exact ⟨0, _, spec_SmallestSource_p1 c1 h0, impl_SmallestSource_p1 c2 h0⟩

theorem run_FnExactSmallestSource (m : Int) (d : List Int) (n s f : Int) (N : List (List Int)) (q : Int) (hd : d.length ≤ L63) (hx : N.length ≤ L63) (hw : ∀ xs ∈ N, xs.length ≤ L63) : Runs X F.laws_FnExactSmallestSource [alD m d, auD n s f N, iD q] [] (boolR true) := by
  have c1 := run_szAlphabet m d hd
  by_cases hdl : d.length ≤ B40
  · rw [if_pos hdl] at c1
    have hdl' := hdl
    unfold B40 at hdl'
    obtain ⟨r, c2, _, hr⟩ := run_szAutomaton n s f N (1048576 - d.length) (by omega) (by unfold B40; omega) hx hw
    rcases hr with hr | ⟨hr, hl, hw⟩
    · exact laws_FnExactSmallestSource_p2 c1 (by omega) c2 hr
    · obtain ⟨a, b, cs, ci⟩ := run_SmallestSource m d n s f N q hdl hl hw
      have ca := run_toAutomaton n s f N hl hw
      have cl := run_toAlphabet m d hdl
      have ce := run_eqAutomaton n s f N hl hw
      have cd := run_eqAlphabet m d hdl
      apply laws_FnExactSmallestSource_p7
      all_goals first | exact c1 | exact c2 | exact cs | exact ci | exact ca | exact cl | exact ce | exact cd | omega | rfl
  · rw [if_neg hdl] at c1
    exact laws_FnExactSmallestSource_p1 c1 (by omega)



end Go.PR.S
