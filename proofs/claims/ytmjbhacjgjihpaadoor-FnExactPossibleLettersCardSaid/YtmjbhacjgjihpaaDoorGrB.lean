/- Words of traces and of graph groups: plain mathematics. -/
import Derived.Test.YtmjbhacjgjihpaaDoorFwMk
import Derived.Lib.TrailingZeros
set_option linter.unusedVariables false
set_option linter.unusedSimpArgs false
set_option linter.unusedSectionVars false
section
namespace Gp
section
variable {α : Type} [DecidableEq α]
structure Dep (α : Type) where
  d : α → α → Bool
  sym : ∀ a b, d a b = d b a
  refl : ∀ a, d a a = true
variable (T : Dep α)
def isFirst : List α → α → Bool
  | [], _ => false
  | x :: xs, a => decide (x = a) || (!T.d x a && isFirst xs a)
def two (a b x : α) : Bool := decide (x = a) || decide (x = b)
def teq (u v : List α) : Prop := ∀ a b, T.d a b = true → u.filter (two a b) = v.filter (two a b)
variable {T}
theorem teq.refl (u : List α) : teq T u u := fun _ _ _ => rfl
theorem teq.symm {u v : List α} (h : teq T u v) : teq T v u := fun a b hd => (h a b hd).symm
theorem teq.trans {u v w : List α} (h : teq T u v) (k : teq T v w) : teq T u w := fun a b hd => (h a b hd).trans (k a b hd)
theorem teq.cons {u v : List α} (h : teq T u v) (x : α) : teq T (x :: u) (x :: v) := fun a b hd => by simp only [List.filter_cons, h a b hd]
theorem teq.append {u v u' v' : List α} (h : teq T u v) (h' : teq T u' v') : teq T (u ++ u') (v ++ v') := fun a b hd => by rw [List.filter_append, List.filter_append, h a b hd, h' a b hd]
theorem teq.erase {u v : List α} (h : teq T u v) (x : α) : teq T (u.erase x) (v.erase x) := fun a b hd => by rw [← List.erase_filter, ← List.erase_filter, h a b hd]
theorem teq.reverse {u v : List α} (h : teq T u v) : teq T u.reverse v.reverse := fun a b hd => by rw [List.filter_reverse, List.filter_reverse, h a b hd]
theorem teq.count {u v : List α} (h : teq T u v) (x : α) : u.count x = v.count x := by
  have := congrArg (List.count x) (h x x (T.refl x))
  rw [List.count_filter (by simp [two]), List.count_filter (by simp [two])] at this
  exact this
theorem teq.perm {u v : List α} (h : teq T u v) : u.Perm v := List.perm_iff_count.2 fun x => h.count x
theorem teq.length {u v : List α} (h : teq T u v) : u.length = v.length := h.perm.length_eq
theorem z7w {a : α} : ∀ {w : List α}, isFirst T w a = true ↔ ∀ b, T.d a b = true → (w.filter (two a b)).head? = some a
  | [] => by
    simp only [isFirst, List.filter_nil, List.head?_nil]
    exact ⟨fun h => (by cases h), fun h => (by have := h a (T.refl a); cases this)⟩
  | x :: xs => by
    have ih := z7w (a := a) (w := xs)
    simp only [isFirst, Bool.or_eq_true, decide_eq_true_eq, Bool.and_eq_true, Bool.not_eq_true']
    by_cases hx : x = a
    · subst hx
      simp only [true_or, true_iff]
      intro b hb
      simp [List.filter_cons, two]
    · simp only [hx, false_or]
      cases hd : T.d x a with
      | true =>
        simp only [Bool.true_eq_false, false_and, false_iff]
        intro h
        have := h x (by rw [T.sym]; exact hd)
        simp [List.filter_cons, two] at this
        exact hx this
      | false =>
        simp only [true_and]
        rw [ih]
        constructor
        · intro h b hb
          have hxb : x ≠ b := fun e => by rw [e, T.sym, hb] at hd; cases hd
          have : two a b x = false := by simp [two, hx, hxb]
          simp only [List.filter_cons, this]
          exact h b hb
        · intro h b hb
          have hxb : x ≠ b := fun e => by rw [e, T.sym, hb] at hd; cases hd
          have h2 : two a b x = false := by simp [two, hx, hxb]
          have := h b hb
          simpa [List.filter_cons, h2] using this
theorem teq.first {u v : List α} (h : teq T u v) (a : α) : isFirst T u a = isFirst T v a := by
  rw [Bool.eq_iff_iff, z7w, z7w]
  exact ⟨fun hh b hb => by rw [← h a b hb]; exact hh b hb, fun hh b hb => by rw [h a b hb]; exact hh b hb⟩
structure Grp (α : Type) extends Dep α where
  inv : α → α
  inv2 : ∀ a, inv (inv a) = a
  dinv : ∀ a b, d (inv a) b = d a b
variable {G : Grp α}
variable (G) in
def push (s : α) (R : List α) : List α := if isFirst G.toDep R (G.inv s) then R.erase (G.inv s) else s :: R
variable (G) in
def red : List α → Prop
  | [] => True
  | s :: R => isFirst G.toDep R (G.inv s) = false ∧ red R
variable (G) in
def fold (w R : List α) : List α := w.foldl (fun R s => push G s R) R
variable (G) in
def back (w : List α) : List α := (w.map G.inv).reverse
end
section
variable (T : Dep Int)
def leastF (m : Nat) (w : List Int) : Option Int := ((List.range m).map fun (i : Nat) => (i : Int)).find? fun a => isFirst T w a
def nfk (m : Nat) : Nat → List Int → List Int
  | 0, _ => []
  | k + 1, w => match leastF T m w with
    | some a => a :: nfk m k (w.erase a)
    | none => []
def nform (m : Nat) (w : List Int) : List Int := nfk T m w.length w
variable {T}
theorem teq.leastF {u v : List Int} (h : teq T u v) (m : Nat) : leastF T m u = leastF T m v := by
  unfold Gp.leastF
  congr 1
  funext a
  exact h.first a
theorem nfk_teq {m : Nat} : ∀ (k : Nat) {u v : List Int}, teq T u v → nfk T m k u = nfk T m k v
  | 0, _, _, _ => rfl
  | k + 1, u, v, h => by
    simp only [nfk, h.leastF]
    cases Gp.leastF T m v with
    | none => rfl
    | some a => simp only; rw [nfk_teq k (h.erase a)]
theorem teq.nform {u v : List Int} (h : teq T u v) (m : Nat) : nform T m u = nform T m v := by
  unfold Gp.nform; rw [h.length]; exact nfk_teq _ h
end
end Gp

end

section
namespace Gp
open Go.PR
theorem low_bit {m : Nat} (h0 : m ≠ 0) (h : m < 2 ^ 63) : m.testBit (Go.Lib.ctz 64 m) = true ∧ (∀ i, i < Go.Lib.ctz 64 m → m.testBit i = false) ∧ ∀ i, (m &&& (m - 1)).testBit i = (m.testBit i && decide (i ≠ Go.Lib.ctz 64 m)) := by
  obtain ⟨q, hq, hk⟩ := Go.Lib.ctzFrom_spec 64 m (by omega) (by omega)
  have hc : Go.Lib.ctz 64 m = Go.Lib.ctzFrom 64 m := by unfold Go.Lib.ctz; rw [if_neg h0]
  rw [hc]
  generalize Go.Lib.ctzFrom 64 m = k at *
  have e1 : m = 2 ^ (k + 1) * q + 2 ^ k := by rw [hq, Nat.pow_succ]; grind
  have hp : 0 < 2 ^ k := Nat.two_pow_pos k
  have e2 : m - 1 = 2 ^ (k + 1) * q + (2 ^ k - 1) := by omega
  have l1 : 2 ^ k < 2 ^ (k + 1) := by rw [Nat.pow_succ]; omega
  have b1 : ∀ j, m.testBit j = if j < k + 1 then (2 ^ k).testBit j else q.testBit (j - (k + 1)) := fun j => by rw [e1]; exact Nat.testBit_two_pow_mul_add _ l1 j
  have b2 : ∀ j, (m - 1).testBit j = if j < k + 1 then (2 ^ k - 1).testBit j else q.testBit (j - (k + 1)) := fun j => by rw [e2]; exact Nat.testBit_two_pow_mul_add _ (by omega) j
  refine ⟨?_, ?_, ?_⟩
  · rw [b1, if_pos (by omega), Nat.testBit_two_pow_self]
  · intro i hi
    rw [b1, if_pos (by omega), Nat.testBit_two_pow]
    simp; omega
  · intro i
    rw [Nat.testBit_and, b1, b2]
    by_cases hi : i < k + 1
    · rw [if_pos hi, if_pos hi, Nat.testBit_two_pow, Nat.testBit_two_pow_sub_one]
      by_cases e : k = i
      · subst e; simp
      · simp [e]
    · rw [if_neg hi, if_neg hi]
      have : i ≠ k := by omega
      simp [this]
theorem ctz_lt {m k : Nat} (h0 : m ≠ 0) (h : m < 2 ^ 63) (hk : m < 2 ^ k) : Go.Lib.ctz 64 m < k := bit_lt hk (low_bit h0 h).1
def bitsN (m : Nat) : List Nat := (List.range 63).filter fun i => m.testBit i
def bitsL (m : Nat) : List Int := (bitsN m).map fun (i : Nat) => (i : Int)
theorem zap {p : Nat → Bool} {k : Nat} (hp : p k = true) (hl : ∀ i, i < k → p i = false) : ∀ n, k < n → (List.range n).filter p = k :: (List.range n).filter (fun i => p i && decide (i ≠ k))
  | 0, h => by omega
  | n + 1, h => by
    rw [List.range_succ, List.filter_append, List.filter_append]
    by_cases e : k < n
    · rw [zap hp hl n e]
      have hn : ¬ n = k := by omega
      simp [List.filter_cons, hn]
    · obtain rfl : k = n := by omega
      have h1 : (List.range k).filter p = [] := List.filter_eq_nil_iff.2 fun i hi => by rw [hl i (List.mem_range.1 hi)]; simp
      have h2 : (List.range k).filter (fun i => p i && decide (i ≠ k)) = [] := List.filter_eq_nil_iff.2 fun i hi => by rw [hl i (List.mem_range.1 hi)]; simp
      rw [h1, h2]
      simp [List.filter_cons, hp]
theorem z79 {m : Nat} (h0 : m ≠ 0) (h : m < 2 ^ 63) : bitsN m = Go.Lib.ctz 64 m :: bitsN (m &&& (m - 1)) := by
  obtain ⟨h1, h2, h3⟩ := low_bit h0 h
  unfold bitsN
  rw [zap h1 h2 63 (ctz_lt h0 h h)]
  congr 2
  funext i
  exact (h3 i).symm
theorem zew {m : Nat} (h0 : m ≠ 0) (h : m < 2 ^ 63) : bitsL m = (Go.Lib.ctz 64 m : Int) :: bitsL (m &&& (m - 1)) := by unfold bitsL; rw [z79 h0 h]; rfl
theorem z9w : bitsL 0 = [] := by
  unfold bitsL bitsN
  rw [List.filter_eq_nil_iff.2 (by simp)]; rfl
theorem z8f {m i : Nat} (h : m < 2 ^ 63) : i ∈ bitsN m ↔ m.testBit i = true := by
  unfold bitsN
  rw [List.mem_filter, List.mem_range]
  exact ⟨fun h => h.2, fun hb => ⟨bit_lt h hb, hb⟩⟩
section
variable {T : Dep Int}
structure Tab (T : Dep Int) (m : Nat) (t : List Int) : Prop where
  len : t.length = m
  small : m ≤ 62
  mask : ∀ a : Nat, a < m → ∃ k : Nat, k < 2 ^ m ∧ t.getD a 0 = k ∧ ∀ b : Nat, b < m → k.testBit b = T.d a b
def Wd (m : Nat) (w : List Int) : Prop := ∀ x ∈ w, 0 ≤ x ∧ x < m
theorem Wd.erase {m : Nat} {w : List Int} (h : Wd m w) (a : Int) : Wd m (w.erase a) := fun x hx => h x (List.mem_of_mem_erase hx)
def firstM (T : Dep Int) (m : Nat) (w : List Int) : Nat := mkM (fun a => isFirst T w a) m
def blockM (T : Dep Int) (m : Nat) (w : List Int) : Nat := mkM (fun a => w.any fun y => T.d y a) m
end
end Gp

end
