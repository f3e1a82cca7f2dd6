/- Masks: the operations on bits, told on natural numbers. -/
import Derived.Test.YtdheehhnpjkdbaaDoorFwW
set_option linter.unusedVariables false
namespace Go.PR
open Go

/-- Does a mask have a member? -/
def tb (m i : Int) : Bool := m.toNat.testBit i.toNat

theorem wrap_nat {a : Nat} (h : a < 2 ^ 63) : IntKind.i64.wrap (a : Int) = a := by
  rw [IntKind.wrap_i64]; omega

theorem ofInt_toNat {a : Nat} (h : a < 2 ^ 63) : (BitVec.ofInt 64 (a : Int)).toNat = a := by
  rw [BitVec.toNat_ofInt]; omega

theorem iand_nat {a b : Nat} (ha : a < 2 ^ 63) (hb : b < 2 ^ 63) : iand a b = (a &&& b : Nat) := by
  show IntKind.i64.wrap (BitVec.ofInt 64 (a : Int) &&& BitVec.ofInt 64 (b : Int)).toNat = _
  simp only [BitVec.toNat_and, ofInt_toNat ha, ofInt_toNat hb]
  exact wrap_nat (Nat.lt_of_le_of_lt Nat.and_le_left ha)

theorem ior_nat {a b : Nat} (ha : a < 2 ^ 63) (hb : b < 2 ^ 63) : ior a b = (a ||| b : Nat) := by
  show IntKind.i64.wrap (BitVec.ofInt 64 (a : Int) ||| BitVec.ofInt 64 (b : Int)).toNat = _
  simp only [BitVec.toNat_or, ofInt_toNat ha, ofInt_toNat hb]
  exact wrap_nat (Nat.or_lt_two_pow ha hb)

theorem ixor_nat {a b : Nat} (ha : a < 2 ^ 63) (hb : b < 2 ^ 63) : ixor a b = (a ^^^ b : Nat) := by
  show IntKind.i64.wrap (BitVec.ofInt 64 (a : Int) ^^^ BitVec.ofInt 64 (b : Int)).toNat = _
  simp only [BitVec.toNat_xor, ofInt_toNat ha, ofInt_toNat hb]
  exact wrap_nat (Nat.xor_lt_two_pow ha hb)

theorem ishr_nat (a i : Nat) : ishr a i = (a / 2 ^ min i 64 : Nat) := by
  unfold ishr
  rw [Int.toNat_natCast]
  have : (2 : Int) ^ min i 64 = ((2 ^ min i 64 : Nat) : Int) := by simp
  rw [this, Int.fdiv_eq_ediv_of_nonneg _ (Int.natCast_nonneg _)]
  rfl

theorem ishl_nat (a i : Nat) : ishl a i = (a * 2 ^ min i 64 : Nat) := by
  unfold ishl
  rw [Int.toNat_natCast]
  simp

theorem one_nat {i : Nat} (h : i ≤ 62) : ishl 1 i = (2 ^ i : Nat) := by
  have := ishl_nat 1 i
  rw [Nat.min_eq_left (by omega), Nat.one_mul] at this
  exact this

theorem pow62 {i : Nat} (h : i ≤ 62) : 2 ^ i < 2 ^ 63 := Nat.pow_lt_pow_right (by omega) (by omega)

theorem has_nat {m i : Nat} (h : m < 2 ^ 63) : (iand (ishr m i) 1 == 1) = tb m i := by
  have hs : m / 2 ^ min i 64 < 2 ^ 63 := Nat.lt_of_le_of_lt (Nat.div_le_self _ _) h
  have h1 : iand (ishr m i) 1 = ((m / 2 ^ min i 64 &&& 1 : Nat) : Int) := by rw [ishr_nat]; exact iand_nat (b := 1) hs (by omega)
  rw [h1]
  unfold tb
  simp only [Int.toNat_natCast]
  rw [Nat.and_one_is_mod]
  by_cases hi : i ≤ 64
  · rw [Nat.min_eq_left hi, Nat.testBit_eq_decide_div_mod_eq]
    rw [Bool.eq_iff_iff, beq_iff_eq, decide_eq_true_iff]; omega
  · rw [Nat.min_eq_right (by omega), Nat.div_eq_of_lt (by omega)]
    have : m.testBit i = false := Nat.testBit_lt_two_pow (Nat.lt_of_lt_of_le h (Nat.pow_le_pow_right (by omega) (by omega)))
    rw [this]; decide

/-- The mask of the numbers below m that fit. -/
def mkM (f : Nat → Bool) : Nat → Nat
  | 0 => 0
  | m + 1 => mkM f m ||| (if f m then 2 ^ m else 0)

theorem mkM_bit (f : Nat → Bool) : ∀ (m i : Nat), (mkM f m).testBit i = (decide (i < m) && f i)
  | 0, i => by simp [mkM]
  | m + 1, i => by
    simp only [mkM, Nat.testBit_or, mkM_bit f m i]
    by_cases h : f m
    · rw [if_pos h, Nat.testBit_two_pow]
      by_cases e : m = i
      · subst e; simp [h]
      · have : decide (i < m + 1) = decide (i < m) := by rw [Bool.eq_iff_iff]; simp; omega
        simp [e, this]
    · rw [if_neg h]
      by_cases e : m = i
      · subst e; simp at h; simp [h]
      · have : decide (i < m + 1) = decide (i < m) := by rw [Bool.eq_iff_iff]; simp; omega
        simp [this]

theorem mkM_lt (f : Nat → Bool) (m : Nat) : mkM f m < 2 ^ m := by
  refine Nat.lt_pow_two_of_testBit _ fun i hi => ?_
  rw [mkM_bit]; simp; omega

theorem lt_of_bits {a m : Nat} (h : ∀ i, m ≤ i → a.testBit i = false) : a < 2 ^ m := by
  exact Nat.lt_pow_two_of_testBit _ fun i hi => h i hi

theorem bit_lt {a m i : Nat} (ha : a < 2 ^ m) (h : a.testBit i = true) : i < m := by
  rcases Nat.lt_or_ge i m with hh | hh
  · exact hh
  · rw [Nat.testBit_lt_two_pow (Nat.lt_of_lt_of_le ha (Nat.pow_le_pow_right (by omega) hh))] at h
    cases h

end Go.PR
