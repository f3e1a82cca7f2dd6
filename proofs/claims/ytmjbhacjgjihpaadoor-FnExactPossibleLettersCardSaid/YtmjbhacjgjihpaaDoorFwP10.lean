/- Alphabets: both sides ask the same. -/
import Derived.Test.YtmjbhacjgjihpaaDoorFwP9
import Derived.Test.YtmjbhacjgjihpaaDoorFwG5
set_option linter.unusedVariables false
set_option linter.unusedSimpArgs false
set_option linter.unusedSectionVars false
set_option maxRecDepth 20000
namespace Go.PR.S
open Go Go.PR Go.Proofs Gp
abbrev alR (n : Int) (d : List Int) : Ret := ⟨.agg [.int .i64 n, .rsl 600000 0 d.length], [], [⟨true, .ints .i64 d⟩]⟩
def dm (d : List Int) (a : Nat) : Nat := (d.getD a 0).toNat
def alOK (n : Int) (d : List Int) : Bool :=
  decide (0 ≤ n ∧ n ≤ 8) && decide ((d.length : Int) = n) && (d.all fun x => decide (0 ≤ x ∧ x ≤ ((2 ^ d.length : Nat) : Int) - 1)) &&
    (List.range d.length).all fun a => (dm d a).testBit a && (List.range d.length).all fun b => (dm d a).testBit b == (dm d b).testBit a
structure Al (n : Nat) (d : List Int) : Prop where
  small : n ≤ 8
  len : d.length = n
  mask : ∀ a, a < n → d.getD a 0 = dm d a ∧ dm d a < 2 ^ n
  refl : ∀ a, a < n → (dm d a).testBit a = true
  sym : ∀ a b, a < n → b < n → (dm d a).testBit b = (dm d b).testBit a
theorem Al.of {n : Int} {d : List Int} (h : alOK n d = true) : n = (n.toNat : Nat) ∧ Al n.toNat d := by
  unfold alOK at h
  simp only [Bool.and_eq_true, decide_eq_true_eq, List.all_eq_true, List.mem_range, beq_iff_eq] at h
  obtain ⟨⟨⟨h1, h2⟩, h3⟩, h4⟩ := h
  have hn : d.length = n.toNat := by omega
  refine ⟨by omega, ⟨by omega, hn, fun a ha => ?_, fun a ha => (h4 a (by omega)).1, fun a b ha hb => (h4 a (by omega)).2 b (by omega)⟩⟩
  have hl : a < d.length := by omega
  have := h3 d[a] (List.getElem_mem hl)
  unfold dm
  rw [getD_lt hl, ← hn]
  have hp := Nat.two_pow_pos d.length
  constructor
  · omega
  · omega
def col (d : List Int) (i k : Nat) : Nat := mkM (fun a => (dm d a).testBit k) i
def cvL (d : List Int) : List Int := (List.range d.length).map fun k => ((col d d.length k : Nat) : Int)
def cvI (d : List Int) (i j : Nat) : List Int := (List.range d.length).map fun k => ((col d i k ||| (if k ∈ (bitsN (dm d i)).take j then 2 ^ i else 0) : Nat) : Int)
theorem z9v {m j : Nat} (h : j < (bitsN m).length) : (bitsL m).getD j 0 = (((bitsN m)[j] : Nat) : Int) := by
  unfold bitsL
  rw [getD_lt (by simpa using h)]; simp
theorem z9x (m : Nat) : (bitsN m).length ≤ 63 := by
  unfold bitsN
  exact Nat.le_trans (List.length_filter_le _ _) (by simp)
end Go.PR.S
