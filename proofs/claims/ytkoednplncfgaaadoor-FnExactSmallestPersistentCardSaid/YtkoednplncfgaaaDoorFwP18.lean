/- How many members a small mask has: both sides count the same. -/
import Derived.Test.YtkoednplncfgaaaDoorFwP16
import Derived.Test.YtkoednplncfgaaaDoorFwG10
import Derived.Test.YtkoednplncfgaaaDoorFwG12
section
/- How many members a small mask has: both sides count the same. -/
set_option linter.unusedVariables false
set_option linter.unusedSimpArgs false
set_option maxRecDepth 20000
namespace Go.PR.S
open Go Go.PR Go.Proofs Gp

def pcF : Nat → Nat → Nat
  | 0, _ => 0
  | k + 1, m => m % 2 + pcF k (m / 2)

def pc (m : Nat) : Nat := pcF 9 m

theorem pcF_mono : ∀ (k a b : Nat), a < 2 ^ k → b < 2 ^ k → (∀ i, a.testBit i = true → b.testBit i = true) → pcF k a ≤ pcF k b ∧ (pcF k a = pcF k b → a = b)
  | 0, a, b, ha, hb, _ => ⟨Nat.le_refl _, fun _ => by omega⟩
  | k + 1, a, b, ha, hb, h => by
    have hp : 2 ^ (k + 1) = 2 * 2 ^ k := by rw [Nat.pow_succ, Nat.mul_comm]
    obtain ⟨h1, h2⟩ := pcF_mono k (a / 2) (b / 2) (by omega) (by omega) fun i hi => by
      rw [← Nat.testBit_succ] at hi ⊢; exact h _ hi
    have h0 : a % 2 ≤ b % 2 := by
      have := h 0
      simp only [Nat.testBit_zero, decide_eq_true_eq] at this
      omega
    rw [pcF, pcF]
    refine ⟨by omega, fun e => ?_⟩
    have := h2 (by omega)
    omega

theorem run_l01Bits {m : Nat} (h : m < 2 ^ 9) : Runs X F.spec_l01Bits [iD m] [] (intR ((pc m : Nat) : Int)) := by
  have lp : ∀ (k m acc : Nat), m < 2 ^ k → acc + k ≤ 9 → k ≤ 9 → WL F.spec_l01Bits 0 Tryd.f150 0 (spec_l01Bits_s0 (m : Int) (acc : Int)) (spec_l01Bits_o0_1 ((acc + pcF k m : Nat) : Int)) := by
    intro k
    induction k with
    | zero =>
      intro m acc hm ha hk
      obtain rfl : m = 0 := by omega
      apply spec_l01Bits_r0_2
      case hq => rfl
      all_goals omega
    | succ k ih =>
      intro m acc hm ha hk
      by_cases h0 : m = 0
      · subst h0
        have hz : ∀ j, pcF j 0 = 0 := fun j => by
          induction j with
          | zero => rfl
          | succ j ihj => rw [pcF]; simpa using ihj
        rw [hz]
        apply spec_l01Bits_r0_2
        case hq => rfl
        all_goals omega
      · have hp : 2 ^ (k + 1) = 2 * 2 ^ k := by rw [Nat.pow_succ, Nat.mul_comm]
        have e1 : (m : Int).tdiv 2 = ((m / 2 : Nat) : Int) := by rw [Int.tdiv_eq_ediv_of_nonneg (by omega)]; omega
        have e2 : (m : Int).tmod 2 = ((m % 2 : Nat) : Int) := by rw [Int.tmod_eq_emod_of_nonneg (by omega)]; omega
        have := ih (m / 2) (acc + m % 2) (by omega) (by omega) (by omega)
        rw [Nat.add_assoc] at this
        have h2 : (2 : Nat) ^ (k + 1) ≤ 2 ^ 9 := Nat.pow_le_pow_right (by omega) (by omega)
        apply spec_l01Bits_r0_1
        case hq => rw [e1, e2]; exact this
        all_goals first | omega | (rw [e2]; omega) | (rw [e1]; omega)
  have := lp 9 m 0 h (by omega) (by omega)
  rw [Nat.zero_add] at this
  exact spec_l01Bits_p1 this

def ones1 (a : Int) : Int := uadd (uand (ushr a 1) 6148914691236517205) (uand a 6148914691236517205)
def ones2 (a : Int) : Int := uadd (uand (ushr (ones1 a) 2) 3689348814741910323) (uand (ones1 a) 3689348814741910323)
def ones3 (a : Int) : Int := uand (uadd (ushr (ones2 a) 4) (ones2 a)) 1085102592571150095
def ones4 (a : Int) : Int := uadd (ones3 a) (ushr (ones3 a) 8)
def ones5 (a : Int) : Int := uadd (ones4 a) (ushr (ones4 a) 16)
def ones6 (a : Int) : Int := uadd (ones5 a) (ushr (ones5 a) 32)

theorem ones_small : ∀ E, E < 512 → (-9223372036854775808 : Int) ≤ ones6 (E : Nat) ∧ ones6 (E : Nat) ≤ 9223372036854775807 ∧ iand (ones6 (E : Nat)) 127 = ((pc E : Nat) : Int) := by decide +kernel

theorem run_ones {E : Nat} (h : E < 512) : Runs X F.bits_OnesCount64 [.int .u64 (E : Int)] [] (intR ((pc E : Nat) : Int)) := by
  obtain ⟨h1, h2, h3⟩ := ones_small E h
  rw [← h3]
  exact bits_OnesCount64_p1 h1 h2

theorem run_size {E : Nat} (h : E < 512) : Runs X F.impl_size [iD E] [] (intR ((pc E : Nat) : Int)) :=
  impl_size_p1 (by rw [wrap_u64_nat (by omega)]; exact run_ones h)

end Go.PR.S

end

section
/- The smallest persistent set: both sides come to the same, and the law. -/
set_option linter.unusedVariables false
set_option linter.unusedSimpArgs false
set_option maxRecDepth 20000
namespace Go.PR.S
open Go Go.PR Go.Proofs Gp

def bst (P : Nat) (g : Nat → Bool) : Nat → Nat
  | 0 => P
  | j + 1 => if pc j < pc (bst P g j) ∧ g j = true then j else bst P g j

theorem bst_or (P : Nat) (g : Nat → Bool) : ∀ j, bst P g j = P ∨ bst P g j < j
  | 0 => .inl rfl
  | j + 1 => by
    rw [bst]
    split
    · exact .inr (by omega)
    · rcases bst_or P g j with h | h
      · exact .inl h
      · exact .inr (by omega)

theorem bst_tie {P : Nat} {g : Nat → Bool} (hP : P < 512) {j : Nat} (hg : g j = true → ∀ i, j.testBit i = true → P.testBit i = true) (hj : j < 512) (h1 : pc j = pc (bst P g j)) (h2 : j < bst P g j) : g j = false := by
  cases hgj : g j with
  | false => rfl
  | true =>
    exfalso
    rcases bst_or P g j with h | h
    · rw [h] at h1 h2
      have := (pcF_mono 9 j P hj hP (hg hgj)).2 h1
      omega
    · omega

section
variable {m n s f : Int} {d : List Int} {N : List (List Int)}

open Classical in
noncomputable def pB (d : List Int) (N : List (List Int)) (q E : Nat) : Bool := decide ((nandn E (possM N q) = 0 ∧ ¬ (E = 0 ∧ possM N q ≠ 0)) ∧ Pers d N E q)

open Classical in
theorem pB_iff {q E : Nat} : pB d N q E = true ↔ (nandn E (possM N q) = 0 ∧ ¬ (E = 0 ∧ possM N q ≠ 0)) ∧ Pers d N E q := by
  unfold pB; rw [decide_eq_true_eq]

theorem run_l19Pers (h : Ov m d n s f N) {E q : Nat} (hq : q < N.length) (hE : E < 2 ^ d.length) : Runs X F.spec_l19Persistent [alD m d, auD n s f N, iD q, iD E] [] (boolR (pB d N q E)) := by
  obtain ⟨b, r, i⟩ := run_l19Persistent h hq hE
  have : b = pB d N q E := by rw [Bool.eq_iff_iff, i, pB_iff]
  rw [← this]; exact r

theorem run_isPers {fs : List Bool} (h : Ov m d n s f N) {E q : Nat} (hq : q < N.length) (hE : E < 2 ^ d.length) : Runs X F.impl_machine_isPersistent [maD n s fs N, alD m d, iD q, iD E] [] (boolR (pB d N q E)) := by
  obtain ⟨b, r, i⟩ := run_isPersistent (fs := fs) h hq hE
  have : b = pB d N q E := by rw [Bool.eq_iff_iff, i, pB_iff]
  rw [← this]; exact r

theorem pB_sub {q E : Nat} (hE : E < 2 ^ 63) (h : pB d N q E = true) : ∀ i, E.testBit i = true → (possM N q).testBit i = true := by
  exact (nandn_zero hE).1 (pB_iff.1 h).1.1

theorem poss_small (h : Ov m d n s f N) {q : Nat} (hq : q < N.length) : possM N q < 2 ^ d.length := by
  unfold possM
  have := h.row hq
  rw [Int.toNat_natCast, this]
  exact mkM_lt _ _

theorem two_le (h : Ov m d n s f N) : (2 : Nat) ^ d.length ≤ 256 := by
  have hs8 := h.al.small
  have hlen := h.al.len
  exact Nat.pow_le_pow_right (n := 2) (by omega) (show d.length ≤ 8 by omega)

theorem bst_lt {P : Nat} {g : Nat → Bool} {k : Nat} (hP : P < k) : ∀ j, j ≤ k → bst P g j < k
  | 0, _ => hP
  | j + 1, hj => by
    rw [bst]
    split
    · omega
    · exact bst_lt hP j (by omega)

theorem run_l19SmallestP (h : Ov m d n s f N) {q : Nat} (hq : q < N.length) : Runs X F.spec_l19Smallest [alD m d, auD n s f N, iD q, .bool false] [] (intR ((bst (possM N q) (pB d N q) (2 ^ d.length) : Nat) : Int)) := by
  have hd := h.dlen
  have hs8 := h.al.small
  have hlen := h.al.len
  have h2 := two_le h
  have hP := poss_small h hq
  have cp := run_l19Possible h.toAutP (q := (q : Int)) (by omega) (by omega)
  have cf := run_l01Full (i := d.length) (by omega)
  rw [hd] at cf
  have lp : WL F.spec_l19Smallest 0 Tryd.f92 0 (spec_l19Smallest_P_s0 m d n s f N q (possM N q : Nat) 0) (spec_l19Smallest_P_o0_1 ((bst (possM N q) (pB d N q) (2 ^ d.length) : Nat) : Int)) := by
    refine loop_to (N := 2 ^ d.length) (st := fun j => spec_l19Smallest_P_s0 m d n s f N q ((bst (possM N q) (pB d N q) j : Nat) : Int) j) (fun j hj Q hqq => ?_) (fun Q hqq => ?_)
    · have hb := bst_lt (g := pB d N q) hP j (by omega)
      have c1 := run_l01Bits (m := j) (by omega)
      have c2 := run_l01Bits (m := bst (possM N q) (pB d N q) j) (by omega)
      have c3 := run_l19Pers h hq hj
      rw [bst] at hqq
      by_cases h1 : pc j < pc (bst (possM N q) (pB d N q) j)
      · cases hg : pB d N q j with
        | true =>
          rw [if_pos ⟨h1, hg⟩] at hqq
          rw [hg] at c3
          apply spec_l19Smallest_P_r0_1
          case hq => exact hqq
          all_goals first | exact cf | exact c1 | exact c2 | exact c3 | rfl | omega
        | false =>
          rw [if_neg (by rw [hg]; simp)] at hqq
          rw [hg] at c3
          apply spec_l19Smallest_P_r0_2
          case hq => exact hqq
          all_goals first | exact cf | exact c1 | exact c2 | exact c3 | rfl | omega
      · rw [if_neg (fun hh => h1 hh.1)] at hqq
        by_cases h3 : pc j = pc (bst (possM N q) (pB d N q) j)
        · by_cases h4 : j < bst (possM N q) (pB d N q) j
          · have hg := bst_tie (P := possM N q) (g := pB d N q) (by omega) (fun hj' => pB_sub (by omega) hj') (by omega) h3 h4
            rw [hg] at c3
            apply spec_l19Smallest_P_r0_4
            case hq => exact hqq
            all_goals first | exact cf | exact c1 | exact c2 | exact c3 | rfl | omega
          · apply spec_l19Smallest_P_r0_5
            case hq => exact hqq
            all_goals first | exact cf | exact c1 | exact c2 | rfl | omega
        · apply spec_l19Smallest_P_r0_6
          case hq => exact hqq
          all_goals first | exact cf | exact c1 | exact c2 | rfl | omega
    · apply spec_l19Smallest_P_r0_7
      case hq => exact hqq
      all_goals first | exact cf | omega
  exact spec_l19Smallest_P_p1 cp lp

theorem run_smallestP {fs : List Bool} (h : Ov m d n s f N) {q : Nat} (hq : q < N.length) : Runs X F.impl_machine_smallestPersistent [maD n s fs N, alD m d, iD q] [] (intR ((bst (possM N q) (pB d N q) (2 ^ d.length) : Nat) : Int)) := by
  have hd := h.dlen
  have hs8 := h.al.small
  have hlen := h.al.len
  have h2 := two_le h
  have hP := poss_small h hq
  have cp := run_possible (n := n) (s := s) (fs := fs) h.rowsP (q := (q : Int)) (by omega) (by omega)
  have co := run_one (i := d.length) (by omega)
  rw [hd] at co
  have lp : WL F.impl_machine_smallest 0 Tryd.f151 0 (impl_machine_smallest_P_s0 n s fs N m d q ((2 ^ d.length : Nat) : Int) (possM N q : Nat) 0) (impl_machine_smallest_P_o0_1 ((bst (possM N q) (pB d N q) (2 ^ d.length) : Nat) : Int)) := by
    refine loop_to (N := 2 ^ d.length) (st := fun j => impl_machine_smallest_P_s0 n s fs N m d q ((2 ^ d.length : Nat) : Int) ((bst (possM N q) (pB d N q) j : Nat) : Int) j) (fun j hj Q hqq => ?_) (fun Q hqq => ?_)
    · have hb := bst_lt (g := pB d N q) hP j (by omega)
      have c1 := run_size (E := j) (by omega)
      have c2 := run_size (E := bst (possM N q) (pB d N q) j) (by omega)
      have c3 := impl_machine_smallestPersistentk1_p1 (run_isPers (fs := fs) h hq hj)
      have hnd : iandnot (j : Int) (possM N q : Nat) = (nandn j (possM N q) : Nat) := iandnot_nat (by omega) (by omega)
      rw [bst] at hqq
      by_cases h0 : nandn j (possM N q) = 0
      · by_cases h1 : pc j < pc (bst (possM N q) (pB d N q) j)
        · cases hg : pB d N q j with
          | true =>
            rw [if_pos ⟨h1, hg⟩] at hqq
            rw [hg] at c3
            apply impl_machine_smallest_P_r0_1
            case hq => exact hqq
            all_goals first | exact co | exact cp | exact c1 | exact c2 | exact c3 | rfl | (rw [hnd]; omega) | omega
          | false =>
            rw [if_neg (by rw [hg]; simp)] at hqq
            rw [hg] at c3
            apply impl_machine_smallest_P_r0_2
            case hq => exact hqq
            all_goals first | exact co | exact cp | exact c1 | exact c2 | exact c3 | rfl | (rw [hnd]; omega) | omega
        · rw [if_neg (fun hh => h1 hh.1)] at hqq
          apply impl_machine_smallest_P_r0_3
          case hq => exact hqq
          all_goals first | exact co | exact cp | exact c1 | exact c2 | rfl | (rw [hnd]; omega) | omega
      · have hg : pB d N q j = false := by
          cases hg : pB d N q j with
          | false => rfl
          | true => exact absurd ((nandn_zero (by omega)).2 (pB_sub (by omega) hg)) h0
        rw [if_neg (by rw [hg]; simp)] at hqq
        apply impl_machine_smallest_P_r0_4
        case hq => exact hqq
        all_goals first | exact co | exact cp | rfl | (rw [hnd]; omega) | omega
    · apply impl_machine_smallest_P_r0_5
      case hq => exact hqq
      all_goals first | exact co | omega
  exact impl_machine_smallestPersistent_p1 (impl_machine_smallest_P_p1 cp co lp)
end

theorem run_SmallestPersistent (m : Int) (d : List Int) (n s f : Int) (N : List (List Int)) (q : Int) (hd : d.length ≤ B40) (hl : N.length ≤ B40) (hw : ∀ r ∈ N, r.length ≤ B40) :
    ∃ (a b : Int), Runs X F.spec_SmallestPersistent [alD m d, auD n s f N, iD q] [] ⟨.tup [.int .i64 a, .int .i64 b], [], []⟩ ∧ Runs X F.impl_SmallestPersistent [alD m d, auD n s f N, iD q] [] ⟨.tup [.int .i64 a, .int .i64 b], [], []⟩ := by
  have c1 := run_l19Code m d n s f N q 0 hd hl
  have c2 := run_checkState m d n s f N q 0 hd hl hw
  by_cases h0 : stCode m d n s f N q 0 = 0
  · rw [h0] at c1
    rw [if_pos h0] at c2
    obtain ⟨h, ⟨q0, q1, _, _⟩, _⟩ := stCode_zero h0
    obtain ⟨q, rfl⟩ : ∃ k : Nat, q = k := ⟨q.toNat, by omega⟩
    exact ⟨_, 0, spec_SmallestPersistent_p2 c1 rfl (run_l19SmallestP h (by omega)), impl_SmallestPersistent_p4 c2 rfl (run_smallestP h (by omega))⟩
  · rw [if_neg h0] at c2
    exact ⟨0, _, spec_SmallestPersistent_p1 c1 h0, impl_SmallestPersistent_p1 c2 h0⟩

theorem run_FnExactSmallestPersistent (m : Int) (d : List Int) (n s f : Int) (N : List (List Int)) (q : Int) (hd : d.length ≤ L63) (hx : N.length ≤ L63) (hw : ∀ xs ∈ N, xs.length ≤ L63) : Runs X F.laws_FnExactSmallestPersistent [alD m d, auD n s f N, iD q] [] (boolR true) := by
  have c1 := run_szAlphabet m d hd
  by_cases hdl : d.length ≤ B40
  · rw [if_pos hdl] at c1
    have hdl' := hdl
    unfold B40 at hdl'
    obtain ⟨r, c2, _, hr⟩ := run_szAutomaton n s f N (1048576 - d.length) (by omega) (by unfold B40; omega) hx hw
    rcases hr with hr | ⟨hr, hl, hw⟩
    · exact laws_FnExactSmallestPersistent_p2 c1 (by omega) c2 hr
    · obtain ⟨a, b, cs, ci⟩ := run_SmallestPersistent m d n s f N q hdl hl hw
      have ca := run_toAutomaton n s f N hl hw
      have cl := run_toAlphabet m d hdl
      have ce := run_eqAutomaton n s f N hl hw
      have cd := run_eqAlphabet m d hdl
      apply laws_FnExactSmallestPersistent_p7
      all_goals first | exact c1 | exact c2 | exact cs | exact ci | exact ca | exact cl | exact ce | exact cd | omega | rfl
  · rw [if_neg hdl] at c1
    exact laws_FnExactSmallestPersistent_p1 c1 (by omega)

end Go.PR.S

end
