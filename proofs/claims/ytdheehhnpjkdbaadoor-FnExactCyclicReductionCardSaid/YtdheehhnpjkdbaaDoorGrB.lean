/- Masks of letters: plain mathematics. -/
import Derived.Test.YtdheehhnpjkdbaaDoorFwMk
import Derived.Test.YtdheehhnpjkdbaaDoorGrA
import Derived.Lib.TrailingZeros
set_option linter.unusedVariables false
set_option linter.unusedSimpArgs false
namespace Gp
open Go.PR

/-- The lowest bit. -/
theorem low_bit {m : Nat} (h0 : m ≠ 0) (h : m < 2 ^ 63) : m.testBit (Go.Lib.ctz 64 m) = true ∧ (∀ i, i < Go.Lib.ctz 64 m → m.testBit i = false) ∧ ∀ i, (m &&& (m - 1)).testBit i = (m.testBit i && decide (i ≠ Go.Lib.ctz 64 m)) := by
  obtain ⟨q, hq, hk⟩ := Go.Lib.ctzFrom_spec 64 m (by omega) (by omega)
  have hc : Go.Lib.ctz 64 m = Go.Lib.ctzFrom 64 m := by unfold Go.Lib.ctz; rw [if_neg h0]
  rw [hc]
  generalize Go.Lib.ctzFrom 64 m = k at *
  have e1 : m = 2 ^ (k + 1) * q + 2 ^ k := by rw [hq, Nat.pow_succ]; grind
  have hp : 0 < 2 ^ k := Nat.two_pow_pos k
  have e2 : m - 1 = 2 ^ (k + 1) * q + (2 ^ k - 1) := by omega
  have l1 : 2 ^ k < 2 ^ (k + 1) := by rw [Nat.pow_succ]; omega
  have b1 : ∀ j, m.testBit j = if j < k + 1 then (2 ^ k).testBit j else q.testBit (j - (k + 1)) := fun j => by rw [e1]; exact Nat.testBit_two_pow_mul_add _ l1 j
  have b2 : ∀ j, (m - 1).testBit j = if j < k + 1 then (2 ^ k - 1).testBit j else q.testBit (j - (k + 1)) := fun j => by rw [e2]; exact Nat.testBit_two_pow_mul_add _ (by omega) j
  refine ⟨?_, ?_, ?_⟩
  · rw [b1, if_pos (by omega), Nat.testBit_two_pow_self]
  · intro i hi
    rw [b1, if_pos (by omega), Nat.testBit_two_pow]
    simp; omega
  · intro i
    rw [Nat.testBit_and, b1, b2]
    by_cases hi : i < k + 1
    · rw [if_pos hi, if_pos hi, Nat.testBit_two_pow, Nat.testBit_two_pow_sub_one]
      by_cases e : k = i
      · subst e; simp
      · simp [e]
    · rw [if_neg hi, if_neg hi]
      have : i ≠ k := by omega
      simp [this]

theorem ctz_lt {m k : Nat} (h0 : m ≠ 0) (h : m < 2 ^ 63) (hk : m < 2 ^ k) : Go.Lib.ctz 64 m < k := bit_lt hk (low_bit h0 h).1

/-- The members of a mask, ascending. -/
def bitsN (m : Nat) : List Nat := (List.range 63).filter fun i => m.testBit i
def bitsL (m : Nat) : List Int := (bitsN m).map fun (i : Nat) => (i : Int)

theorem filter_range_least {p : Nat → Bool} {k : Nat} (hp : p k = true) (hl : ∀ i, i < k → p i = false) : ∀ n, k < n → (List.range n).filter p = k :: (List.range n).filter (fun i => p i && decide (i ≠ k))
  | 0, h => by omega
  | n + 1, h => by
    rw [List.range_succ, List.filter_append, List.filter_append]
    by_cases e : k < n
    · rw [filter_range_least hp hl n e]
      have hn : ¬ n = k := by omega
      simp [List.filter_cons, hn]
    · obtain rfl : k = n := by omega
      have h1 : (List.range k).filter p = [] := List.filter_eq_nil_iff.2 fun i hi => by rw [hl i (List.mem_range.1 hi)]; simp
      have h2 : (List.range k).filter (fun i => p i && decide (i ≠ k)) = [] := List.filter_eq_nil_iff.2 fun i hi => by rw [hl i (List.mem_range.1 hi)]; simp
      rw [h1, h2]
      simp [List.filter_cons, hp]

theorem bitsN_step {m : Nat} (h0 : m ≠ 0) (h : m < 2 ^ 63) : bitsN m = Go.Lib.ctz 64 m :: bitsN (m &&& (m - 1)) := by
  obtain ⟨h1, h2, h3⟩ := low_bit h0 h
  unfold bitsN
  rw [filter_range_least h1 h2 63 (ctz_lt h0 h h)]
  congr 2
  funext i
  exact (h3 i).symm

theorem bitsL_step {m : Nat} (h0 : m ≠ 0) (h : m < 2 ^ 63) : bitsL m = (Go.Lib.ctz 64 m : Int) :: bitsL (m &&& (m - 1)) := by unfold bitsL; rw [bitsN_step h0 h]; rfl

theorem bitsL_zero : bitsL 0 = [] := by
  unfold bitsL bitsN
  rw [List.filter_eq_nil_iff.2 (by simp)]; rfl

theorem mem_bitsN {m i : Nat} (h : m < 2 ^ 63) : i ∈ bitsN m ↔ m.testBit i = true := by
  unfold bitsN
  rw [List.mem_filter, List.mem_range]
  exact ⟨fun h => h.2, fun hb => ⟨bit_lt h hb, hb⟩⟩

theorem find_ctz {f : Nat → Bool} {m : Nat} (hm : m ≤ 62) (h0 : mkM f m ≠ 0) : (List.range m).find? f = some (Go.Lib.ctz 64 (mkM f m)) := by
  have hlt := mkM_lt f m
  have h63 : mkM f m < 2 ^ 63 := Nat.lt_trans hlt (pow62 hm)
  obtain ⟨h1, h2, _⟩ := low_bit h0 h63
  have hk := ctz_lt h0 h63 hlt
  generalize Go.Lib.ctz 64 (mkM f m) = k at *
  rw [mkM_bit] at h1
  simp at h1
  rw [List.find?_range_eq_some]
  refine ⟨h1.2, List.mem_range.2 hk, fun j hj => ?_⟩
  have := h2 j hj
  rw [mkM_bit] at this
  simp at this
  simp [this (by omega)]

/-! ### first letters, from the front -/
section
variable {T : Dep Int}

theorem isFirst_snoc (a x : Int) : ∀ (u : List Int), isFirst T (u ++ [x]) a = (isFirst T u a || (decide (x = a) && u.all fun y => !T.d y a))
  | [] => by simp [isFirst]
  | y :: u => by
    simp only [List.cons_append, isFirst, isFirst_snoc a x u, List.all_cons]
    by_cases h : y = a
    · simp [h]
    · cases T.d y a <;> simp [h]

/-- A table tells the dependence of m letters. -/
structure Tab (T : Dep Int) (m : Nat) (t : List Int) : Prop where
  len : t.length = m
  small : m ≤ 62
  mask : ∀ a : Nat, a < m → ∃ k : Nat, k < 2 ^ m ∧ t.getD a 0 = k ∧ ∀ b : Nat, b < m → k.testBit b = T.d a b

def Wd (m : Nat) (w : List Int) : Prop := ∀ x ∈ w, 0 ≤ x ∧ x < m

theorem Wd.erase {m : Nat} {w : List Int} (h : Wd m w) (a : Int) : Wd m (w.erase a) := fun x hx => h x (List.mem_of_mem_erase hx)

/-- The first letters, as a mask. -/
def firstM (T : Dep Int) (m : Nat) (w : List Int) : Nat := mkM (fun a => isFirst T w a) m
def blockM (T : Dep Int) (m : Nat) (w : List Int) : Nat := mkM (fun a => w.any fun y => T.d y a) m

theorem firstM_nil (m : Nat) : firstM T m [] = 0 := by
  apply Nat.eq_of_testBit_eq; intro i; unfold firstM; rw [mkM_bit]; simp [isFirst]
theorem blockM_nil (m : Nat) : blockM T m [] = 0 := by
  apply Nat.eq_of_testBit_eq; intro i; unfold blockM; rw [mkM_bit]; simp

theorem firstM_bit {m : Nat} {w : List Int} {i : Nat} : (firstM T m w).testBit i = (decide (i < m) && isFirst T w i) := mkM_bit _ _ _
theorem blockM_bit {m : Nat} {w : List Int} {i : Nat} : (blockM T m w).testBit i = (decide (i < m) && w.any fun y => T.d y i) := mkM_bit _ _ _

theorem firstM_snoc {m : Nat} {u : List Int} {x : Nat} (hx : x < m) : firstM T m (u ++ [(x : Int)]) = if (blockM T m u).testBit x then firstM T m u else firstM T m u ||| 2 ^ x := by
  apply Nat.eq_of_testBit_eq
  intro i
  rw [firstM_bit, isFirst_snoc]
  rw [blockM_bit]
  have hall : (u.all fun y => !T.d y (x : Int)) = !(u.any fun y => T.d y (x : Int)) := by
    rw [List.not_any_eq_all_not]
  by_cases e : x = i
  · subst e
    simp only [hx, decide_true, Bool.true_and, hall]
    cases (u.any fun y => T.d y (x : Int)) with
    | true => simp [firstM_bit, hx]
    | false => simp [firstM_bit, hx, Nat.testBit_or]
  · have e2 : ¬ (x : Int) = (i : Int) := by omega
    simp only [e2, decide_false, Bool.false_and, Bool.or_false]
    split
    · rw [firstM_bit]
    · rw [Nat.testBit_or, Nat.testBit_two_pow, firstM_bit]; simp [e]

theorem blockM_snoc {m : Nat} {u t : List Int} {x k : Nat} (hk : k < 2 ^ m) (hb : ∀ b : Nat, b < m → k.testBit b = T.d x b) : blockM T m (u ++ [(x : Int)]) = blockM T m u ||| k := by
  apply Nat.eq_of_testBit_eq
  intro i
  rw [Nat.testBit_or, blockM_bit, blockM_bit, List.any_append]
  by_cases hi : i < m
  · rw [hb i hi]; simp [hi]
  · have : k.testBit i = false := Nat.testBit_lt_two_pow (Nat.lt_of_lt_of_le hk (Nat.pow_le_pow_right (by omega) (by omega)))
    simp [hi, this]

theorem firstM_lt (m : Nat) (w : List Int) : firstM T m w < 2 ^ m := mkM_lt _ _
theorem blockM_lt (m : Nat) (w : List Int) : blockM T m w < 2 ^ m := mkM_lt _ _

theorem firstM_ne {m : Nat} {w : List Int} (h : Wd m w) (hw : w ≠ []) : firstM T m w ≠ 0 := by
  cases w with
  | nil => exact (hw rfl).elim
  | cons x xs =>
    intro e
    have hx := h x (by simp)
    have : (firstM T m (x :: xs)).testBit x.toNat = true := by
      rw [firstM_bit]
      have e2 : ((x.toNat : Nat) : Int) = x := by omega
      simp [isFirst, e2]; omega
    rw [e] at this
    simp at this

theorem leastF_ctz {m : Nat} {w : List Int} (hm : m ≤ 62) (h : Wd m w) (hw : w ≠ []) : leastF T m w = some (Go.Lib.ctz 64 (firstM T m w) : Int) := by
  have h1 := find_ctz (f := fun a => isFirst T w a) hm (firstM_ne h hw)
  unfold leastF
  rw [List.find?_map]
  have : (List.range m).find? ((fun a => isFirst T w a) ∘ fun (i : Nat) => (i : Int)) = some (Go.Lib.ctz 64 (firstM T m w)) := h1
  rw [this]; rfl

theorem nfk_step {m k : Nat} {w : List Int} (hm : m ≤ 62) (h : Wd m w) (hw : w ≠ []) : nfk T m (k + 1) w = (Go.Lib.ctz 64 (firstM T m w) : Int) :: nfk T m k (w.erase (Go.Lib.ctz 64 (firstM T m w) : Int)) := by
  simp only [nfk, leastF_ctz hm h hw]

theorem least_mem {m : Nat} {w : List Int} (hm : m ≤ 62) (h : Wd m w) (hw : w ≠ []) : (Go.Lib.ctz 64 (firstM T m w) : Int) ∈ w := isFirst_mem (leastF_some (leastF_ctz hm h hw)).1

end

/-! ### the last letter on which one depends -/
theorem first_rev {G : Grp Int} {s y : Int} {A B : List Int} (hB : ∀ x ∈ B, G.d s x = false) (hy : G.d s y = true) :
    (if y = G.inv s then isFirst G.toDep (A ++ y :: B).reverse (G.inv s) = true ∧ (A ++ y :: B).reverse.erase (G.inv s) = (A ++ B).reverse else isFirst G.toDep (A ++ y :: B).reverse (G.inv s) = false) := by
  have e : (A ++ y :: B).reverse = B.reverse ++ y :: A.reverse := by simp
  have hBn : ∀ x ∈ B.reverse, x ≠ G.inv s := fun x hx e => by
    have := hB x (by simpa using hx)
    rw [e, Grp.dinv', G.refl] at this; cases this
  rw [e]
  split
  · rename_i hyi
    subst hyi
    refine ⟨first_of_split fun x hx => ?_, ?_⟩
    · rw [Grp.dinv', G.sym]; exact hB x (by simpa using hx)
    · rw [List.erase_append_right _ (fun hm => hBn _ hm rfl)]
      simp
  · rename_i hyi
    have gen : ∀ (L : List Int), (∀ x ∈ L, G.d s x = false) → isFirst G.toDep (L ++ y :: A.reverse) (G.inv s) = false := by
      intro L hL
      induction L with
      | nil => simp [isFirst, hyi, Grp.dinv', G.sym y s, hy]
      | cons x L ih =>
        have hx : x ≠ G.inv s := fun e => by have := hL x (by simp); rw [e, Grp.dinv', G.refl] at this; cases this
        simp only [List.cons_append, isFirst, hx, decide_false, Bool.false_or]
        rw [ih fun z hz => hL z (by simp [hz])]
        simp
    exact gen _ fun x hx => hB x (by simpa using hx)

theorem first_none {G : Grp Int} {s : Int} {B : List Int} (hB : ∀ x ∈ B, G.d s x = false) : isFirst G.toDep B.reverse (G.inv s) = false := by
  have gen : ∀ (L : List Int), (∀ x ∈ L, G.d s x = false) → isFirst G.toDep L (G.inv s) = false := by
    intro L hL
    induction L with
    | nil => rfl
    | cons x L ih =>
      have hx : x ≠ G.inv s := fun e => by have := hL x (by simp); rw [e, Grp.dinv', G.refl] at this; cases this
      simp only [isFirst, hx, decide_false, Bool.false_or]
      rw [ih fun z hz => hL z (by simp [hz])]
      simp
  exact gen _ fun x hx => hB x (by simpa using hx)

end Gp
