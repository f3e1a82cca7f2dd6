/- Words of traces and of graph groups: plain mathematics. -/
import Derived.Test.YtkoednplncfgaaaDoorFwMk
import Derived.Lib.TrailingZeros
section
/- Words of traces and of graph groups: plain mathematics. -/
namespace Gp
set_option linter.unusedVariables false
set_option linter.unusedSimpArgs false
set_option linter.unusedSectionVars false

section
variable {α : Type} [DecidableEq α]

structure Dep (α : Type) where
  d : α → α → Bool
  sym : ∀ a b, d a b = d b a
  refl : ∀ a, d a a = true

variable (T : Dep α)

def isFirst : List α → α → Bool
  | [], _ => false
  | x :: xs, a => decide (x = a) || (!T.d x a && isFirst xs a)

def two (a b x : α) : Bool := decide (x = a) || decide (x = b)

def teq (u v : List α) : Prop := ∀ a b, T.d a b = true → u.filter (two a b) = v.filter (two a b)

variable {T}

theorem teq.refl (u : List α) : teq T u u := fun _ _ _ => rfl
theorem teq.symm {u v : List α} (h : teq T u v) : teq T v u := fun a b hd => (h a b hd).symm
theorem teq.trans {u v w : List α} (h : teq T u v) (k : teq T v w) : teq T u w := fun a b hd => (h a b hd).trans (k a b hd)
theorem teq.cons {u v : List α} (h : teq T u v) (x : α) : teq T (x :: u) (x :: v) := fun a b hd => by simp only [List.filter_cons, h a b hd]
theorem teq.append {u v u' v' : List α} (h : teq T u v) (h' : teq T u' v') : teq T (u ++ u') (v ++ v') := fun a b hd => by rw [List.filter_append, List.filter_append, h a b hd, h' a b hd]
theorem teq.erase {u v : List α} (h : teq T u v) (x : α) : teq T (u.erase x) (v.erase x) := fun a b hd => by rw [← List.erase_filter, ← List.erase_filter, h a b hd]
theorem teq.reverse {u v : List α} (h : teq T u v) : teq T u.reverse v.reverse := fun a b hd => by rw [List.filter_reverse, List.filter_reverse, h a b hd]

theorem teq.count {u v : List α} (h : teq T u v) (x : α) : u.count x = v.count x := by
  have := congrArg (List.count x) (h x x (T.refl x))
  rw [List.count_filter (by simp [two]), List.count_filter (by simp [two])] at this
  exact this

theorem teq.perm {u v : List α} (h : teq T u v) : u.Perm v := List.perm_iff_count.2 fun x => h.count x

theorem teq.length {u v : List α} (h : teq T u v) : u.length = v.length := h.perm.length_eq

theorem isFirst_iff {a : α} : ∀ {w : List α}, isFirst T w a = true ↔ ∀ b, T.d a b = true → (w.filter (two a b)).head? = some a
  | [] => by
    simp only [isFirst, List.filter_nil, List.head?_nil]
    exact ⟨fun h => (by cases h), fun h => (by have := h a (T.refl a); cases this)⟩
  | x :: xs => by
    have ih := isFirst_iff (a := a) (w := xs)
    simp only [isFirst, Bool.or_eq_true, decide_eq_true_eq, Bool.and_eq_true, Bool.not_eq_true']
    by_cases hx : x = a
    · subst hx
      simp only [true_or, true_iff]
      intro b hb
      simp [List.filter_cons, two]
    · simp only [hx, false_or]
      cases hd : T.d x a with
      | true =>
        simp only [Bool.true_eq_false, false_and, false_iff]
        intro h
        have := h x (by rw [T.sym]; exact hd)
        simp [List.filter_cons, two] at this
        exact hx this
      | false =>
        simp only [true_and]
        rw [ih]
        constructor
        · intro h b hb
          have hxb : x ≠ b := fun e => by rw [e, T.sym, hb] at hd; cases hd
          have : two a b x = false := by simp [two, hx, hxb]
          simp only [List.filter_cons, this]
          exact h b hb
        · intro h b hb
          have hxb : x ≠ b := fun e => by rw [e, T.sym, hb] at hd; cases hd
          have h2 : two a b x = false := by simp [two, hx, hxb]
          have := h b hb
          simpa [List.filter_cons, h2] using this

theorem teq.first {u v : List α} (h : teq T u v) (a : α) : isFirst T u a = isFirst T v a := by
  rw [Bool.eq_iff_iff, isFirst_iff, isFirst_iff]
  exact ⟨fun hh b hb => by rw [← h a b hb]; exact hh b hb, fun hh b hb => by rw [h a b hb]; exact hh b hb⟩

theorem isFirst_mem {a : α} : ∀ {w : List α}, isFirst T w a = true → a ∈ w
  | [], h => by cases h
  | x :: xs, h => by
    simp only [isFirst, Bool.or_eq_true, decide_eq_true_eq, Bool.and_eq_true] at h
    rcases h with rfl | h
    · simp
    · exact List.mem_cons_of_mem _ (isFirst_mem h.2)

theorem teq_front {w : List α} {a : α} (h : isFirst T w a = true) : teq T (a :: w.erase a) w := by
  intro c d hd
  rw [List.filter_cons, ← List.erase_filter]
  by_cases ha : two c d a = true
  · rw [if_pos ha]
    have key : ∃ b, T.d a b = true ∧ two c d = two a b := by
      simp only [two, Bool.or_eq_true, decide_eq_true_eq] at ha
      rcases ha with rfl | rfl
      · exact ⟨d, hd, rfl⟩
      · refine ⟨c, by rw [T.sym]; exact hd, ?_⟩
        funext x; simp only [two, Bool.or_comm]
    obtain ⟨b, hb, e⟩ := key
    rw [e]
    have := isFirst_iff.1 h b hb
    cases hf : w.filter (two a b) with
    | nil => rw [hf] at this; cases this
    | cons x xs =>
      rw [hf] at this
      simp at this
      subst this
      simp
  · rw [if_neg ha]
    apply List.erase_of_not_mem
    intro hm
    exact ha (List.mem_filter.1 hm).2

/-! ### groups -/
structure Grp (α : Type) extends Dep α where
  inv : α → α
  inv2 : ∀ a, inv (inv a) = a
  dinv : ∀ a b, d (inv a) b = d a b

variable {G : Grp α}

variable (G) in
def push (s : α) (R : List α) : List α := if isFirst G.toDep R (G.inv s) then R.erase (G.inv s) else s :: R

variable (G) in
def red : List α → Prop
  | [] => True
  | s :: R => isFirst G.toDep R (G.inv s) = false ∧ red R

variable (G) in
def fold (w R : List α) : List α := w.foldl (fun R s => push G s R) R

variable (G) in
def back (w : List α) : List α := (w.map G.inv).reverse

end

/-! ### normal forms of words of numbers -/
section
variable (T : Dep Int)

def leastF (m : Nat) (w : List Int) : Option Int := ((List.range m).map fun (i : Nat) => (i : Int)).find? fun a => isFirst T w a

def nfk (m : Nat) : Nat → List Int → List Int
  | 0, _ => []
  | k + 1, w => match leastF T m w with
    | some a => a :: nfk m k (w.erase a)
    | none => []

def nform (m : Nat) (w : List Int) : List Int := nfk T m w.length w

variable {T}

theorem leastF_some {m : Nat} {w : List Int} {a : Int} (h : leastF T m w = some a) : isFirst T w a = true ∧ 0 ≤ a ∧ a < m := by
  unfold leastF at h
  refine ⟨List.find?_some h, ?_⟩
  have := List.mem_of_find?_eq_some h
  obtain ⟨i, hi, rfl⟩ := List.mem_map.1 this
  have := List.mem_range.1 hi
  omega

theorem leastF_none {m : Nat} {w : List Int} (h : leastF T m w = none) (hw : ∀ x ∈ w, 0 ≤ x ∧ x < m) : w = [] := by
  cases w with
  | nil => rfl
  | cons x xs =>
    unfold leastF at h
    rw [List.find?_eq_none] at h
    have hx := hw x (by simp)
    have := h x (List.mem_map.2 ⟨x.toNat, List.mem_range.2 (by omega), by omega⟩)
    simp [isFirst] at this

theorem teq.leastF {u v : List Int} (h : teq T u v) (m : Nat) : leastF T m u = leastF T m v := by
  unfold Gp.leastF
  congr 1
  funext a
  exact h.first a

theorem nfk_teq {m : Nat} : ∀ (k : Nat) {u v : List Int}, teq T u v → nfk T m k u = nfk T m k v
  | 0, _, _, _ => rfl
  | k + 1, u, v, h => by
    simp only [nfk, h.leastF]
    cases Gp.leastF T m v with
    | none => rfl
    | some a => simp only; rw [nfk_teq k (h.erase a)]

theorem teq.nform {u v : List Int} (h : teq T u v) (m : Nat) : nform T m u = nform T m v := by
  unfold Gp.nform; rw [h.length]; exact nfk_teq _ h

theorem nfk_same {m : Nat} : ∀ (k : Nat) {w : List Int}, w.length = k → (∀ x ∈ w, 0 ≤ x ∧ x < m) → teq T (nfk T m k w) w
  | 0, w, hk, _ => by
    obtain rfl : w = [] := List.eq_nil_of_length_eq_zero hk
    exact teq.refl _
  | k + 1, w, hk, hw => by
    simp only [nfk]
    cases h : Gp.leastF T m w with
    | none => have := leastF_none h hw; subst this; cases hk
    | some a =>
      simp only
      have hf := (leastF_some h).1
      have hm := isFirst_mem hf
      refine ((nfk_same k (by rw [List.length_erase_of_mem hm]; omega) fun x hx => hw x (List.mem_of_mem_erase hx)).cons a).trans (teq_front hf)

theorem nform_same {m : Nat} {w : List Int} (hw : ∀ x ∈ w, 0 ≤ x ∧ x < m) : teq T (nform T m w) w := nfk_same _ rfl hw

theorem nform_length {m : Nat} {w : List Int} (hw : ∀ x ∈ w, 0 ≤ x ∧ x < m) : (nform T m w).length = w.length := (nform_same (T := T) hw).length

end
end Gp

end

section
/- Masks of letters: plain mathematics. -/
set_option linter.unusedVariables false
set_option linter.unusedSimpArgs false
namespace Gp
open Go.PR

theorem low_bit {m : Nat} (h0 : m ≠ 0) (h : m < 2 ^ 63) : m.testBit (Go.Lib.ctz 64 m) = true ∧ (∀ i, i < Go.Lib.ctz 64 m → m.testBit i = false) ∧ ∀ i, (m &&& (m - 1)).testBit i = (m.testBit i && decide (i ≠ Go.Lib.ctz 64 m)) := by
  obtain ⟨q, hq, hk⟩ := Go.Lib.ctzFrom_spec 64 m (by omega) (by omega)
  have hc : Go.Lib.ctz 64 m = Go.Lib.ctzFrom 64 m := by unfold Go.Lib.ctz; rw [if_neg h0]
  rw [hc]
  generalize Go.Lib.ctzFrom 64 m = k at *
  have e1 : m = 2 ^ (k + 1) * q + 2 ^ k := by rw [hq, Nat.pow_succ]; grind
  have hp : 0 < 2 ^ k := Nat.two_pow_pos k
  have e2 : m - 1 = 2 ^ (k + 1) * q + (2 ^ k - 1) := by omega
  have l1 : 2 ^ k < 2 ^ (k + 1) := by rw [Nat.pow_succ]; omega
  have b1 : ∀ j, m.testBit j = if j < k + 1 then (2 ^ k).testBit j else q.testBit (j - (k + 1)) := fun j => by rw [e1]; exact Nat.testBit_two_pow_mul_add _ l1 j
  have b2 : ∀ j, (m - 1).testBit j = if j < k + 1 then (2 ^ k - 1).testBit j else q.testBit (j - (k + 1)) := fun j => by rw [e2]; exact Nat.testBit_two_pow_mul_add _ (by omega) j
  refine ⟨?_, ?_, ?_⟩
  · rw [b1, if_pos (by omega), Nat.testBit_two_pow_self]
  · intro i hi
    rw [b1, if_pos (by omega), Nat.testBit_two_pow]
    simp; omega
  · intro i
    rw [Nat.testBit_and, b1, b2]
    by_cases hi : i < k + 1
    · rw [if_pos hi, if_pos hi, Nat.testBit_two_pow, Nat.testBit_two_pow_sub_one]
      by_cases e : k = i
      · subst e; simp
      · simp [e]
    · rw [if_neg hi, if_neg hi]
      have : i ≠ k := by omega
      simp [this]

theorem ctz_lt {m k : Nat} (h0 : m ≠ 0) (h : m < 2 ^ 63) (hk : m < 2 ^ k) : Go.Lib.ctz 64 m < k := bit_lt hk (low_bit h0 h).1

def bitsN (m : Nat) : List Nat := (List.range 63).filter fun i => m.testBit i
def bitsL (m : Nat) : List Int := (bitsN m).map fun (i : Nat) => (i : Int)

theorem filter_range_least {p : Nat → Bool} {k : Nat} (hp : p k = true) (hl : ∀ i, i < k → p i = false) : ∀ n, k < n → (List.range n).filter p = k :: (List.range n).filter (fun i => p i && decide (i ≠ k))
  | 0, h => by omega
  | n + 1, h => by
    rw [List.range_succ, List.filter_append, List.filter_append]
    by_cases e : k < n
    · rw [filter_range_least hp hl n e]
      have hn : ¬ n = k := by omega
      simp [List.filter_cons, hn]
    · obtain rfl : k = n := by omega
      have h1 : (List.range k).filter p = [] := List.filter_eq_nil_iff.2 fun i hi => by rw [hl i (List.mem_range.1 hi)]; simp
      have h2 : (List.range k).filter (fun i => p i && decide (i ≠ k)) = [] := List.filter_eq_nil_iff.2 fun i hi => by rw [hl i (List.mem_range.1 hi)]; simp
      rw [h1, h2]
      simp [List.filter_cons, hp]

theorem bitsN_step {m : Nat} (h0 : m ≠ 0) (h : m < 2 ^ 63) : bitsN m = Go.Lib.ctz 64 m :: bitsN (m &&& (m - 1)) := by
  obtain ⟨h1, h2, h3⟩ := low_bit h0 h
  unfold bitsN
  rw [filter_range_least h1 h2 63 (ctz_lt h0 h h)]
  congr 2
  funext i
  exact (h3 i).symm

theorem bitsL_step {m : Nat} (h0 : m ≠ 0) (h : m < 2 ^ 63) : bitsL m = (Go.Lib.ctz 64 m : Int) :: bitsL (m &&& (m - 1)) := by unfold bitsL; rw [bitsN_step h0 h]; rfl

theorem bitsL_zero : bitsL 0 = [] := by
  unfold bitsL bitsN
  rw [List.filter_eq_nil_iff.2 (by simp)]; rfl

theorem mem_bitsN {m i : Nat} (h : m < 2 ^ 63) : i ∈ bitsN m ↔ m.testBit i = true := by
  unfold bitsN
  rw [List.mem_filter, List.mem_range]
  exact ⟨fun h => h.2, fun hb => ⟨bit_lt h hb, hb⟩⟩

theorem find_ctz {f : Nat → Bool} {m : Nat} (hm : m ≤ 62) (h0 : mkM f m ≠ 0) : (List.range m).find? f = some (Go.Lib.ctz 64 (mkM f m)) := by
  have hlt := mkM_lt f m
  have h63 : mkM f m < 2 ^ 63 := Nat.lt_trans hlt (pow62 hm)
  obtain ⟨h1, h2, _⟩ := low_bit h0 h63
  have hk := ctz_lt h0 h63 hlt
  generalize Go.Lib.ctz 64 (mkM f m) = k at *
  rw [mkM_bit] at h1
  simp at h1
  rw [List.find?_range_eq_some]
  refine ⟨h1.2, List.mem_range.2 hk, fun j hj => ?_⟩
  have := h2 j hj
  rw [mkM_bit] at this
  simp at this
  simp [this (by omega)]

/-! ### first letters, from the front -/
section
variable {T : Dep Int}

theorem isFirst_snoc (a x : Int) : ∀ (u : List Int), isFirst T (u ++ [x]) a = (isFirst T u a || (decide (x = a) && u.all fun y => !T.d y a))
  | [] => by simp [isFirst]
  | y :: u => by
    simp only [List.cons_append, isFirst, isFirst_snoc a x u, List.all_cons]
    by_cases h : y = a
    · simp [h]
    · cases T.d y a <;> simp [h]

structure Tab (T : Dep Int) (m : Nat) (t : List Int) : Prop where
  len : t.length = m
  small : m ≤ 62
  mask : ∀ a : Nat, a < m → ∃ k : Nat, k < 2 ^ m ∧ t.getD a 0 = k ∧ ∀ b : Nat, b < m → k.testBit b = T.d a b

def Wd (m : Nat) (w : List Int) : Prop := ∀ x ∈ w, 0 ≤ x ∧ x < m

theorem Wd.erase {m : Nat} {w : List Int} (h : Wd m w) (a : Int) : Wd m (w.erase a) := fun x hx => h x (List.mem_of_mem_erase hx)

def firstM (T : Dep Int) (m : Nat) (w : List Int) : Nat := mkM (fun a => isFirst T w a) m
def blockM (T : Dep Int) (m : Nat) (w : List Int) : Nat := mkM (fun a => w.any fun y => T.d y a) m

theorem firstM_nil (m : Nat) : firstM T m [] = 0 := by
  apply Nat.eq_of_testBit_eq; intro i; unfold firstM; rw [mkM_bit]; simp [isFirst]
theorem blockM_nil (m : Nat) : blockM T m [] = 0 := by
  apply Nat.eq_of_testBit_eq; intro i; unfold blockM; rw [mkM_bit]; simp

theorem firstM_bit {m : Nat} {w : List Int} {i : Nat} : (firstM T m w).testBit i = (decide (i < m) && isFirst T w i) := mkM_bit _ _ _
theorem blockM_bit {m : Nat} {w : List Int} {i : Nat} : (blockM T m w).testBit i = (decide (i < m) && w.any fun y => T.d y i) := mkM_bit _ _ _

theorem firstM_snoc {m : Nat} {u : List Int} {x : Nat} (hx : x < m) : firstM T m (u ++ [(x : Int)]) = if (blockM T m u).testBit x then firstM T m u else firstM T m u ||| 2 ^ x := by
  apply Nat.eq_of_testBit_eq
  intro i
  rw [firstM_bit, isFirst_snoc]
  rw [blockM_bit]
  have hall : (u.all fun y => !T.d y (x : Int)) = !(u.any fun y => T.d y (x : Int)) := by
    rw [List.not_any_eq_all_not]
  by_cases e : x = i
  · subst e
    simp only [hx, decide_true, Bool.true_and, hall]
    cases (u.any fun y => T.d y (x : Int)) with
    | true => simp [firstM_bit, hx]
    | false => simp [firstM_bit, hx, Nat.testBit_or]
  · have e2 : ¬ (x : Int) = (i : Int) := by omega
    simp only [e2, decide_false, Bool.false_and, Bool.or_false]
    split
    · rw [firstM_bit]
    · rw [Nat.testBit_or, Nat.testBit_two_pow, firstM_bit]; simp [e]

theorem blockM_snoc {m : Nat} {u t : List Int} {x k : Nat} (hk : k < 2 ^ m) (hb : ∀ b : Nat, b < m → k.testBit b = T.d x b) : blockM T m (u ++ [(x : Int)]) = blockM T m u ||| k := by
  apply Nat.eq_of_testBit_eq
  intro i
  rw [Nat.testBit_or, blockM_bit, blockM_bit, List.any_append]
  by_cases hi : i < m
  · rw [hb i hi]; simp [hi]
  · have : k.testBit i = false := Nat.testBit_lt_two_pow (Nat.lt_of_lt_of_le hk (Nat.pow_le_pow_right (by omega) (by omega)))
    simp [hi, this]

theorem firstM_lt (m : Nat) (w : List Int) : firstM T m w < 2 ^ m := mkM_lt _ _
theorem blockM_lt (m : Nat) (w : List Int) : blockM T m w < 2 ^ m := mkM_lt _ _

theorem firstM_ne {m : Nat} {w : List Int} (h : Wd m w) (hw : w ≠ []) : firstM T m w ≠ 0 := by
  cases w with
  | nil => exact (hw rfl).elim
  | cons x xs =>
    intro e
    have hx := h x (by simp)
    have : (firstM T m (x :: xs)).testBit x.toNat = true := by
      rw [firstM_bit]
      have e2 : ((x.toNat : Nat) : Int) = x := by omega
      simp [isFirst, e2]; omega
    rw [e] at this
    simp at this

theorem leastF_ctz {m : Nat} {w : List Int} (hm : m ≤ 62) (h : Wd m w) (hw : w ≠ []) : leastF T m w = some (Go.Lib.ctz 64 (firstM T m w) : Int) := by
  have h1 := find_ctz (f := fun a => isFirst T w a) hm (firstM_ne h hw)
  unfold leastF
  rw [List.find?_map]
  have : (List.range m).find? ((fun a => isFirst T w a) ∘ fun (i : Nat) => (i : Int)) = some (Go.Lib.ctz 64 (firstM T m w)) := h1
  rw [this]; rfl

theorem nfk_step {m k : Nat} {w : List Int} (hm : m ≤ 62) (h : Wd m w) (hw : w ≠ []) : nfk T m (k + 1) w = (Go.Lib.ctz 64 (firstM T m w) : Int) :: nfk T m k (w.erase (Go.Lib.ctz 64 (firstM T m w) : Int)) := by
  simp only [nfk, leastF_ctz hm h hw]

theorem least_mem {m : Nat} {w : List Int} (hm : m ≤ 62) (h : Wd m w) (hw : w ≠ []) : (Go.Lib.ctz 64 (firstM T m w) : Int) ∈ w := isFirst_mem (leastF_some (leastF_ctz hm h hw)).1

end

/-! ### the last letter on which one depends -/
end Gp

end
