/- How many members a small mask has: both sides count the same. -/
import Derived.Test.YtkoednplncfgaaaDoorFwP16
import Derived.Test.YtkoednplncfgaaaDoorFwG10
import Derived.Test.YtkoednplncfgaaaDoorFwG12
set_option linter.unusedVariables false
set_option linter.unusedSimpArgs false
section
set_option maxRecDepth 20000
namespace Go.PR.S
open Go Go.PR Go.Proofs Gp
def pcF : Nat → Nat → Nat
  | 0, _ => 0
  | k + 1, m => m % 2 + pcF k (m / 2)
def pc (m : Nat) : Nat := pcF 9 m
theorem zgo : ∀ (k a b : Nat), a < 2 ^ k → b < 2 ^ k → (∀ i, a.testBit i = true → b.testBit i = true) → pcF k a ≤ pcF k b ∧ (pcF k a = pcF k b → a = b)
  | 0, a, b, ha, hb, _ => ⟨Nat.le_refl _, fun _ => by omega⟩
  | k + 1, a, b, ha, hb, h => by
    have hp : 2 ^ (k + 1) = 2 * 2 ^ k := by rw [Nat.pow_succ, Nat.mul_comm]
    obtain ⟨h1, h2⟩ := zgo k (a / 2) (b / 2) (by omega) (by omega) fun i hi => by
      rw [← Nat.testBit_succ] at hi ⊢; exact h _ hi
    have h0 : a % 2 ≤ b % 2 := by
      have := h 0
      simp only [Nat.testBit_zero, decide_eq_true_eq] at this
      omega
    rw [pcF, pcF]
    refine ⟨by omega, fun e => ?_⟩
    have := h2 (by omega)
    omega
theorem zh9 {m : Nat} (h : m < 2 ^ 9) : Runs X F.zp [iD m] [] (intR ((pc m : Nat) : Int)) := by
  have lp : ∀ (k m acc : Nat), m < 2 ^ k → acc + k ≤ 9 → k ≤ 9 → WL F.zp 0 Tryd.f150 0 (z6f (m : Int) (acc : Int)) (z9k ((acc + pcF k m : Nat) : Int)) := by
    intro k
    induction k with
    | zero =>
      intro m acc hm ha hk
      obtain rfl : m = 0 := by omega
      apply zia
      case hq => rfl
      all_goals omega
    | succ k ih =>
      intro m acc hm ha hk
      by_cases h0 : m = 0
      · subst h0
        have hz : ∀ j, pcF j 0 = 0 := fun j => by
          induction j with
          | zero => rfl
          | succ j ihj => rw [pcF]; simpa using ihj
        rw [hz]
        apply zia
        case hq => rfl
        all_goals omega
      · have hp : 2 ^ (k + 1) = 2 * 2 ^ k := by rw [Nat.pow_succ, Nat.mul_comm]
        have e1 : (m : Int).tdiv 2 = ((m / 2 : Nat) : Int) := by rw [Int.tdiv_eq_ediv_of_nonneg (by omega)]; omega
        have e2 : (m : Int).tmod 2 = ((m % 2 : Nat) : Int) := by rw [Int.tmod_eq_emod_of_nonneg (by omega)]; omega
        have := ih (m / 2) (acc + m % 2) (by omega) (by omega) (by omega)
        rw [Nat.add_assoc] at this
        have h2 : (2 : Nat) ^ (k + 1) ≤ 2 ^ 9 := Nat.pow_le_pow_right (by omega) (by omega)
        apply zva
        case hq => rw [e1, e2]; exact this
        all_goals first | omega | (rw [e2]; omega) | (rw [e1]; omega)
  have := lp 9 m 0 h (by omega) (by omega)
  rw [Nat.zero_add] at this
  exact zv9 this
def ones1 (a : Int) : Int := uadd (uand (ushr a 1) 6148914691236517205) (uand a 6148914691236517205)
def ones2 (a : Int) : Int := uadd (uand (ushr (ones1 a) 2) 3689348814741910323) (uand (ones1 a) 3689348814741910323)
def ones3 (a : Int) : Int := uand (uadd (ushr (ones2 a) 4) (ones2 a)) 1085102592571150095
def ones4 (a : Int) : Int := uadd (ones3 a) (ushr (ones3 a) 8)
def ones5 (a : Int) : Int := uadd (ones4 a) (ushr (ones4 a) 16)
def ones6 (a : Int) : Int := uadd (ones5 a) (ushr (ones5 a) 32)
theorem zrv : ∀ E, E < 512 → (-9223372036854775808 : Int) ≤ ones6 (E : Nat) ∧ ones6 (E : Nat) ≤ 9223372036854775807 ∧ iand (ones6 (E : Nat)) 127 = ((pc E : Nat) : Int) := by decide +kernel
theorem ztj {E : Nat} (h : E < 512) : Runs X F.z7n [.int .u64 (E : Int)] [] (intR ((pc E : Nat) : Int)) := by
  obtain ⟨h1, h2, h3⟩ := zrv E h
  rw [← h3]
  exact zjr h1 h2
theorem zhb {E : Nat} (h : E < 512) : Runs X F.z3k [iD E] [] (intR ((pc E : Nat) : Int)) :=
  zoz (by rw [zag (by omega)]; exact ztj h)
end Go.PR.S

end

section
set_option maxRecDepth 20000
namespace Go.PR.S
open Go Go.PR Go.Proofs Gp
def bst (P : Nat) (g : Nat → Bool) : Nat → Nat
  | 0 => P
  | j + 1 => if pc j < pc (bst P g j) ∧ g j = true then j else bst P g j
theorem bst_or (P : Nat) (g : Nat → Bool) : ∀ j, bst P g j = P ∨ bst P g j < j
  | 0 => .inl rfl
  | j + 1 => by
    rw [bst]
    split
    · exact .inr (by omega)
    · rcases bst_or P g j with h | h
      · exact .inl h
      · exact .inr (by omega)
theorem bst_tie {P : Nat} {g : Nat → Bool} (hP : P < 512) {j : Nat} (hg : g j = true → ∀ i, j.testBit i = true → P.testBit i = true) (hj : j < 512) (h1 : pc j = pc (bst P g j)) (h2 : j < bst P g j) : g j = false := by
  cases hgj : g j with
  | false => rfl
  | true =>
    exfalso
    rcases bst_or P g j with h | h
    · rw [h] at h1 h2
      have := (zgo 9 j P hj hP (hg hgj)).2 h1
      omega
    · omega
section
variable {m n s f : Int} {d : List Int} {N : List (List Int)}
theorem zc9 (h : Ov m d n s f N) {q : Nat} (hq : q < N.length) : possM N q < 2 ^ d.length := by
  unfold possM
  have := h.row hq
  rw [Int.toNat_natCast, this]
  exact mkM_lt _ _
theorem two_le (h : Ov m d n s f N) : (2 : Nat) ^ d.length ≤ 256 := by
  have hs8 := h.al.small
  have hlen := h.al.len
  exact Nat.pow_le_pow_right (n := 2) (by omega) (show d.length ≤ 8 by omega)
theorem bst_lt {P : Nat} {g : Nat → Bool} {k : Nat} (hP : P < k) : ∀ j, j ≤ k → bst P g j < k
  | 0, _ => hP
  | j + 1, hj => by
    rw [bst]
    split
    · omega
    · exact bst_lt hP j (by omega)
end
end Go.PR.S

end
