/- What the program's functions come to, first part: bits, lists. -/
import Derived.Test.YtdheehhnpjkdbaaDoorFwG1
import Derived.Test.YtdheehhnpjkdbaaDoorFwG3
import Derived.Test.YtdheehhnpjkdbaaDoorFwMk
import Derived.Laws.Bits64
import Derived.Test.YtdheehhnpjkdbaaDoorGrA
set_option linter.unusedVariables false
set_option maxRecDepth 20000
namespace Go.PR.S
open Go Go.PR Go.Proofs

abbrev rowR (xs : List Int) : Ret := ⟨.rsl 600000 0 xs.length, [], [⟨true, .ints .i64 xs⟩]⟩
abbrev intR (r : Int) : Ret := ⟨.int .i64 r, [], []⟩
abbrev boolR (b : Bool) : Ret := ⟨.bool b, [], []⟩
abbrev iD (x : Int) : D := .int .i64 x
abbrev lD (w : List Int) : D := .immI .i64 w
abbrev alD (n : Int) (d : List Int) : D := .agg [.int .i64 n, .immI .i64 d]
abbrev B40 : Nat := 1048576

theorem X_prim : X.prim = prim := rfl

theorem run_one {i : Nat} (h : i ≤ 62) : Runs X F.impl_one [iD i] [] (intR ((2 ^ i : Nat) : Int)) := by
  have h1 := one_nat h
  have h2 := pow62 h
  rw [← h1]
  have h3 : ((2 ^ i : Nat) : Int) < ((2 ^ 63 : Nat) : Int) := Int.ofNat_lt.2 h2
  have h4 : (0 : Int) ≤ ((2 ^ i : Nat) : Int) := Int.natCast_nonneg _
  rw [← h1] at h3 h4
  exact impl_one_p1 (by omega) (by omega) (by omega)

theorem run_has {m i : Nat} (h : m < 2 ^ 63) : Runs X F.impl_has [iD m, iD i] [] (boolR (tb m i)) := by
  rw [← has_nat h]
  exact impl_has_p1 (by omega)

theorem run_inRange (n a b : Int) : Runs X F.impl_inRange [iD n, iD a, iD b] [] (boolR (decide (a ≤ n ∧ n ≤ b))) := by
  by_cases h : a ≤ n
  · have : decide (a ≤ n ∧ n ≤ b) = decide (n ≤ b) := by simp [h]
    rw [this]; exact impl_inRange_p1 h
  · have : decide (a ≤ n ∧ n ≤ b) = false := by simp [h]
    rw [this]; exact impl_inRange_p2 h

theorem run_length (w : List Int) : Runs X F.impl_lengthint64 [lD w] [] (intR w.length) := impl_lengthint64_p1

theorem evalFn_prim {X : Ctx} {f : FuncId} {args : List D} {prows : List Row} {r : Ret} (h : X.prim f args prows = some r) (k : Nat) : evalFn X (k + 1) f args prows = some r := by
  simp only [evalFn, h]

theorem Runs.prim {X : Ctx} {f : FuncId} {args : List D} {prows : List Row} {r : Ret} (h : X.prim f args prows = some r) : Runs X f args prows r :=
  ⟨1, fun k hk => by obtain ⟨k, rfl⟩ : ∃ k', k = k' + 1 := ⟨k - 1, by omega⟩; exact evalFn_prim h k⟩

theorem prim_tz {x : Int} (h : 0 ≤ x ∧ x < 18446744073709551616) : prim F.bits_TrailingZeros64 [.int .u64 x] [] = some (intR (Lib.ctz 64 x.toNat)) := by
  unfold prim
  rw [if_neg (by decide), if_pos rfl]
  exact if_pos h

theorem run_tz {m : Nat} (h : m < 2 ^ 63) : Runs X F.bits_TrailingZeros64 [.int .u64 (m : Int)] [] (intR (Lib.ctz 64 m)) := by
  have hp := prim_tz (x := (m : Int)) ⟨by omega, by omega⟩
  rw [Int.toNat_natCast] at hp
  rw [← X_prim] at hp
  exact Runs.prim hp

/-- The least member of a set of numbers. -/
theorem run_least {m : Nat} (h : m < 2 ^ 63) : Runs X F.impl_least [iD m] [] (intR (Lib.ctz 64 m)) := by
  refine impl_least_p1 ?_
  have : IntKind.u64.wrap (m : Int) = m := by rw [IntKind.wrap_u64]; omega
  rw [this]
  exact run_tz h

theorem idxOf_mid {l1 l2 : List Int} {a : Int} (h : a ∉ l1) : (l1 ++ a :: l2).idxOf a = l1.length := by
  rw [List.idxOf_append, if_neg h, List.idxOf_cons_self, Nat.zero_add]

theorem run_Index (w : List Int) (a : Int) (hw : w.length ≤ B40) : Runs X F.slices_IndexSint64int64 [lD w, iD a] [] (intR (if a ∈ w then (w.idxOf a : Int) else -1)) := by
  have loop : ∀ (n i : Nat), i + n = w.length → a ∉ w.take i →
      WpL X F.slices_IndexSint64int64 0 (lb Tryd.f127 0) (slices_IndexSint64int64_s0 w a i).st (fun o => o = (if a ∈ w then slices_IndexSint64int64_o0_1 (w.idxOf a) else slices_IndexSint64int64_o0_2).out) := by
    intro n
    induction n with
    | zero =>
      intro i hi hn
      rw [List.take_of_length_le (by omega)] at hn
      rw [if_neg hn]
      apply slices_IndexSint64int64_r0_3
      case hq => rfl
      all_goals omega
    | succ n ih =>
      intro i hi hn
      have hlt : i < w.length := by omega
      have hv : w.getD i 0 = w[i] := by simp [List.getD_eq_getElem?_getD, hlt]
      by_cases e : a = w.getD i 0
      · have hm : a ∈ w := by rw [e, hv]; exact List.getElem_mem hlt
        have hidx : w.idxOf a = i := by
          have h1 : w = w.take i ++ a :: w.drop (i + 1) := by rw [e, hv]; simp
          have h2 := idxOf_mid (l1 := w.take i) (l2 := w.drop (i + 1)) hn
          rw [← h1, List.length_take] at h2
          omega
        rw [if_pos hm, hidx]
        apply slices_IndexSint64int64_r0_1
        case hq => rfl
        all_goals first | omega | exact e
      · apply slices_IndexSint64int64_r0_2
        case hq =>
          refine ih (i + 1) (by omega) ?_
          rw [List.take_succ_eq_append_getElem hlt]
          intro hm
          rcases List.mem_append.1 hm with hm | hm
          · exact hn hm
          · simp at hm; exact e (by rw [hv]; exact hm)
        all_goals first | assumption | (unfold B40 at hw; omega)
  have h0 := loop w.length 0 (by omega) (by simp)
  by_cases hm : a ∈ w
  · rw [if_pos hm] at h0 ⊢
    exact slices_IndexSint64int64_p1 h0
  · rw [if_neg hm] at h0 ⊢
    exact slices_IndexSint64int64_p2 h0

theorem run_Contains (w : List Int) (a : Int) (hw : w.length ≤ B40) : Runs X F.slices_ContainsSint64int64 [lD w, iD a] [] (boolR (decide (a ∈ w))) := by
  have := run_Index w a hw
  by_cases h : a ∈ w
  · rw [if_pos h] at this
    have e : decide (a ∈ w) = decide ((w.idxOf a : Int) ≥ 0) := by simp [h]
    rw [e]; exact slices_ContainsSint64int64_p1 this
  · rw [if_neg h] at this
    have e : decide (a ∈ w) = decide ((-1 : Int) ≥ 0) := by simp [h]
    rw [e]; exact slices_ContainsSint64int64_p1 this

end Go.PR.S
