/- How many members a small mask has: both sides count the same. -/
import Derived.Test.YtkoednplncfgaaaDoorFwP16
import Derived.Test.YtkoednplncfgaaaDoorFwG10
import Derived.Test.YtkoednplncfgaaaDoorFwG12
set_option linter.unusedVariables false
set_option linter.unusedSimpArgs false
section
set_option maxRecDepth 20000
namespace Go.PR.S
open Go Go.PR Go.Proofs Gp
def pcF : Nat → Nat → Nat
  | 0, _ => 0
  | k + 1, m => m % 2 + pcF k (m / 2)
def pc (m : Nat) : Nat := pcF 9 m
theorem zgs : ∀ (k a b : Nat), a < 2 ^ k → b < 2 ^ k → (∀ i, a.testBit i = true → b.testBit i = true) → pcF k a ≤ pcF k b ∧ (pcF k a = pcF k b → a = b)
  | 0, a, b, ha, hb, _ => ⟨Nat.le_refl _, fun _ => by omega⟩
  | k + 1, a, b, ha, hb, h => by
    have hp : 2 ^ (k + 1) = 2 * 2 ^ k := by rw [Nat.pow_succ, Nat.mul_comm]
    obtain ⟨h1, h2⟩ := zgs k (a / 2) (b / 2) (by omega) (by omega) fun i hi => by
      rw [← Nat.testBit_succ] at hi ⊢; exact h _ hi
    have h0 : a % 2 ≤ b % 2 := by
      have := h 0
      simp only [Nat.testBit_zero, decide_eq_true_eq] at this
      omega
    rw [pcF, pcF]
    refine ⟨by omega, fun e => ?_⟩
    have := h2 (by omega)
    omega
theorem zhe {m : Nat} (h : m < 2 ^ 9) : Runs X F.zw [iD m] [] (intR ((pc m : Nat) : Int)) := by
  have lp : ∀ (k m acc : Nat), m < 2 ^ k → acc + k ≤ 9 → k ≤ 9 → WL F.zw 0 Tryd.f150 0 (z6l (m : Int) (acc : Int)) (z9q ((acc + pcF k m : Nat) : Int)) := by
    intro k
    induction k with
    | zero =>
      intro m acc hm ha hk
      obtain rfl : m = 0 := by omega
      apply zif
      case hq => rfl
      all_goals omega
    | succ k ih =>
      intro m acc hm ha hk
      by_cases h0 : m = 0
      · subst h0
        have hz : ∀ j, pcF j 0 = 0 := fun j => by
          induction j with
          | zero => rfl
          | succ j ihj => rw [pcF]; simpa using ihj
        rw [hz]
        apply zif
        case hq => rfl
        all_goals omega
      · have hp : 2 ^ (k + 1) = 2 * 2 ^ k := by rw [Nat.pow_succ, Nat.mul_comm]
        have e1 : (m : Int).tdiv 2 = ((m / 2 : Nat) : Int) := by rw [Int.tdiv_eq_ediv_of_nonneg (by omega)]; omega
        have e2 : (m : Int).tmod 2 = ((m % 2 : Nat) : Int) := by rw [Int.tmod_eq_emod_of_nonneg (by omega)]; omega
        have := ih (m / 2) (acc + m % 2) (by omega) (by omega) (by omega)
        rw [Nat.add_assoc] at this
        have h2 : (2 : Nat) ^ (k + 1) ≤ 2 ^ 9 := Nat.pow_le_pow_right (by omega) (by omega)
        apply zvl
        case hq => rw [e1, e2]; exact this
        all_goals first | omega | (rw [e2]; omega) | (rw [e1]; omega)
  have := lp 9 m 0 h (by omega) (by omega)
  rw [Nat.zero_add] at this
  exact zvk this
def ones1 (a : Int) : Int := uadd (uand (ushr a 1) 6148914691236517205) (uand a 6148914691236517205)
def ones2 (a : Int) : Int := uadd (uand (ushr (ones1 a) 2) 3689348814741910323) (uand (ones1 a) 3689348814741910323)
def ones3 (a : Int) : Int := uand (uadd (ushr (ones2 a) 4) (ones2 a)) 1085102592571150095
def ones4 (a : Int) : Int := uadd (ones3 a) (ushr (ones3 a) 8)
def ones5 (a : Int) : Int := uadd (ones4 a) (ushr (ones4 a) 16)
def ones6 (a : Int) : Int := uadd (ones5 a) (ushr (ones5 a) 32)
theorem zs7 : ∀ E, E < 512 → (-9223372036854775808 : Int) ≤ ones6 (E : Nat) ∧ ones6 (E : Nat) ≤ 9223372036854775807 ∧ iand (ones6 (E : Nat)) 127 = ((pc E : Nat) : Int) := by decide +kernel
theorem ztu {E : Nat} (h : E < 512) : Runs X F.z7w [.int .u64 (E : Int)] [] (intR ((pc E : Nat) : Int)) := by
  obtain ⟨h1, h2, h3⟩ := zs7 E h
  rw [← h3]
  exact zjz h1 h2
theorem zhg {E : Nat} (h : E < 512) : Runs X F.z3o [iD E] [] (intR ((pc E : Nat) : Int)) :=
  zpc (by rw [zam (by omega)]; exact ztu h)
end Go.PR.S

end

section
set_option maxRecDepth 20000
namespace Go.PR.S
open Go Go.PR Go.Proofs Gp
def bst (P : Nat) (g : Nat → Bool) : Nat → Nat
  | 0 => P
  | j + 1 => if pc j < pc (bst P g j) ∧ g j = true then j else bst P g j
theorem bst_or (P : Nat) (g : Nat → Bool) : ∀ j, bst P g j = P ∨ bst P g j < j
  | 0 => .inl rfl
  | j + 1 => by
    rw [bst]
    split
    · exact .inr (by omega)
    · rcases bst_or P g j with h | h
      · exact .inl h
      · exact .inr (by omega)
theorem bst_tie {P : Nat} {g : Nat → Bool} (hP : P < 512) {j : Nat} (hg : g j = true → ∀ i, j.testBit i = true → P.testBit i = true) (hj : j < 512) (h1 : pc j = pc (bst P g j)) (h2 : j < bst P g j) : g j = false := by
  cases hgj : g j with
  | false => rfl
  | true =>
    exfalso
    rcases bst_or P g j with h | h
    · rw [h] at h1 h2
      have := (zgs 9 j P hj hP (hg hgj)).2 h1
      omega
    · omega
section
variable {m n s f : Int} {d : List Int} {N : List (List Int)}
open Classical in
noncomputable def pB (d : List Int) (N : List (List Int)) (q E : Nat) : Bool := decide ((nandn E (possM N q) = 0 ∧ ¬ (E = 0 ∧ possM N q ≠ 0)) ∧ Pers d N E q)
open Classical in
theorem pB_iff {q E : Nat} : pB d N q E = true ↔ (nandn E (possM N q) = 0 ∧ ¬ (E = 0 ∧ possM N q ≠ 0)) ∧ Pers d N E q := by
  unfold pB; rw [decide_eq_true_eq]
theorem ztl (h : Ov m d n s f N) {E q : Nat} (hq : q < N.length) (hE : E < 2 ^ d.length) : Runs X F.z5 [alD m d, auD n s f N, iD q, iD E] [] (boolR (pB d N q E)) := by
  obtain ⟨b, r, i⟩ := ztm h hq hE
  have : b = pB d N q E := by rw [Bool.eq_iff_iff, i, pB_iff]
  rw [← this]; exact r
theorem zta {fs : List Bool} (h : Ov m d n s f N) {E q : Nat} (hq : q < N.length) (hE : E < 2 ^ d.length) : Runs X F.z7 [maD n s fs N, alD m d, iD q, iD E] [] (boolR (pB d N q E)) := by
  obtain ⟨b, r, i⟩ := ztb (fs := fs) h hq hE
  have : b = pB d N q E := by rw [Bool.eq_iff_iff, i, pB_iff]
  rw [← this]; exact r
theorem pB_sub {q E : Nat} (hE : E < 2 ^ 63) (h : pB d N q E = true) : ∀ i, E.testBit i = true → (possM N q).testBit i = true := by
  exact (zgk hE).1 (pB_iff.1 h).1.1
theorem zcd (h : Ov m d n s f N) {q : Nat} (hq : q < N.length) : possM N q < 2 ^ d.length := by
  unfold possM
  have := h.row hq
  rw [Int.toNat_natCast, this]
  exact mkM_lt _ _
theorem two_le (h : Ov m d n s f N) : (2 : Nat) ^ d.length ≤ 256 := by
  have hs8 := h.al.small
  have hlen := h.al.len
  exact Nat.pow_le_pow_right (n := 2) (by omega) (show d.length ≤ 8 by omega)
theorem bst_lt {P : Nat} {g : Nat → Bool} {k : Nat} (hP : P < k) : ∀ j, j ≤ k → bst P g j < k
  | 0, _ => hP
  | j + 1, hj => by
    rw [bst]
    split
    · omega
    · exact bst_lt hP j (by omega)
theorem zto (h : Ov m d n s f N) {q : Nat} (hq : q < N.length) : Runs X F.z1h [alD m d, auD n s f N, iD q, .bool false] [] (intR ((bst (possM N q) (pB d N q) (2 ^ d.length) : Nat) : Int)) := by
  have hd := h.dlen
  have hs8 := h.al.small
  have hlen := h.al.len
  have h2 := two_le h
  have hP := zcd h hq
  have cp := z9m h.toAutP (q := (q : Int)) (by omega) (by omega)
  have cf := z7j (i := d.length) (by omega)
  rw [hd] at cf
  have lp : WL F.z1h 0 Tryd.f92 0 (z17 m d n s f N q (possM N q : Nat) 0) (zaj ((bst (possM N q) (pB d N q) (2 ^ d.length) : Nat) : Int)) := by
    refine loop_to (N := 2 ^ d.length) (st := fun j => z17 m d n s f N q ((bst (possM N q) (pB d N q) j : Nat) : Int) j) (fun j hj Q hqq => ?_) (fun Q hqq => ?_)
    · have hb := bst_lt (g := pB d N q) hP j (by omega)
      have c1 := zhe (m := j) (by omega)
      have c2 := zhe (m := bst (possM N q) (pB d N q) j) (by omega)
      have c3 := ztl h hq hj
      rw [bst] at hqq
      by_cases h1 : pc j < pc (bst (possM N q) (pB d N q) j)
      · cases hg : pB d N q j with
        | true =>
          rw [if_pos ⟨h1, hg⟩] at hqq
          rw [hg] at c3
          apply zzb
          case hq => exact hqq
          all_goals first | exact cf | exact c1 | exact c2 | exact c3 | rfl | omega
        | false =>
          rw [if_neg (by rw [hg]; simp)] at hqq
          rw [hg] at c3
          apply zzc
          case hq => exact hqq
          all_goals first | exact cf | exact c1 | exact c2 | exact c3 | rfl | omega
      · rw [if_neg (fun hh => h1 hh.1)] at hqq
        by_cases h3 : pc j = pc (bst (possM N q) (pB d N q) j)
        · by_cases h4 : j < bst (possM N q) (pB d N q) j
          · have hg := bst_tie (P := possM N q) (g := pB d N q) (by omega) (fun hj' => pB_sub (by omega) hj') (by omega) h3 h4
            rw [hg] at c3
            apply zzd
            case hq => exact hqq
            all_goals first | exact cf | exact c1 | exact c2 | exact c3 | rfl | omega
          · apply zze
            case hq => exact hqq
            all_goals first | exact cf | exact c1 | exact c2 | rfl | omega
        · apply zzf
          case hq => exact hqq
          all_goals first | exact cf | exact c1 | exact c2 | rfl | omega
    · apply zzg
      case hq => exact hqq
      all_goals first | exact cf | omega
  exact zza cp lp
theorem ztx {fs : List Bool} (h : Ov m d n s f N) {q : Nat} (hq : q < N.length) : Runs X F.z8p [maD n s fs N, alD m d, iD q] [] (intR ((bst (possM N q) (pB d N q) (2 ^ d.length) : Nat) : Int)) := by
  have hd := h.dlen
  have hs8 := h.al.small
  have hlen := h.al.len
  have h2 := two_le h
  have hP := zcd h hq
  have cp := z4j (n := n) (s := s) (fs := fs) h.rowsP (q := (q : Int)) (by omega) (by omega)
  have co := z5h (i := d.length) (by omega)
  rw [hd] at co
  have lp : WL F.z1x 0 Tryd.f151 0 (z1k n s fs N m d q ((2 ^ d.length : Nat) : Int) (possM N q : Nat) 0) (z8q ((bst (possM N q) (pB d N q) (2 ^ d.length) : Nat) : Int)) := by
    refine loop_to (N := 2 ^ d.length) (st := fun j => z1k n s fs N m d q ((2 ^ d.length : Nat) : Int) ((bst (possM N q) (pB d N q) j : Nat) : Int) j) (fun j hj Q hqq => ?_) (fun Q hqq => ?_)
    · have hb := bst_lt (g := pB d N q) hP j (by omega)
      have c1 := zhg (E := j) (by omega)
      have c2 := zhg (E := bst (possM N q) (pB d N q) j) (by omega)
      have c3 := zow (zta (fs := fs) h hq hj)
      have hnd : iandnot (j : Int) (possM N q : Nat) = (nandn j (possM N q) : Nat) := z22 (by omega) (by omega)
      rw [bst] at hqq
      by_cases h0 : nandn j (possM N q) = 0
      · by_cases h1 : pc j < pc (bst (possM N q) (pB d N q) j)
        · cases hg : pB d N q j with
          | true =>
            rw [if_pos ⟨h1, hg⟩] at hqq
            rw [hg] at c3
            apply zoz
            case hq => exact hqq
            all_goals first | exact co | exact cp | exact c1 | exact c2 | exact c3 | rfl | (rw [hnd]; omega) | omega
          | false =>
            rw [if_neg (by rw [hg]; simp)] at hqq
            rw [hg] at c3
            apply zp0
            case hq => exact hqq
            all_goals first | exact co | exact cp | exact c1 | exact c2 | exact c3 | rfl | (rw [hnd]; omega) | omega
        · rw [if_neg (fun hh => h1 hh.1)] at hqq
          apply zp1
          case hq => exact hqq
          all_goals first | exact co | exact cp | exact c1 | exact c2 | rfl | (rw [hnd]; omega) | omega
      · have hg : pB d N q j = false := by
          cases hg : pB d N q j with
          | false => rfl
          | true => exact absurd ((zgk (by omega)).2 (pB_sub (by omega) hg)) h0
        rw [if_neg (by rw [hg]; simp)] at hqq
        apply zp2
        case hq => exact hqq
        all_goals first | exact co | exact cp | rfl | (rw [hnd]; omega) | omega
    · apply zp3
      case hq => exact hqq
      all_goals first | exact co | omega
  exact zou (zoy cp co lp)
end
end Go.PR.S

end
