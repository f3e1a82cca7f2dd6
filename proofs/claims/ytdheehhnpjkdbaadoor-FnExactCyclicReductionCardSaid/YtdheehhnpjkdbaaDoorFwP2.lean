/- What the program's functions come to, second part: lists. -/
import Derived.Test.YtdheehhnpjkdbaaDoorFwP1
set_option linter.unusedVariables false
set_option maxRecDepth 20000
namespace Go.PR.S
open Go Go.PR Go.Proofs

abbrev WL (f : FuncId) (b : Nat) (fn : Func) (k : Nat) (s : LSt) (o : OutL) : Prop := WpL X f b (lb fn k) s.st (fun x => x = o.out)

theorem run_Clone (w : List Int) (hw : w.length ≤ 2 * B40) : Runs X F.slices_CloneSint64int64 [lD w] [] (rowR w) := by
  cases w with
  | nil => exact Runs.prim (by rw [X_prim]; rfl)
  | cons a w => exact slices_CloneSint64int64_p1 (by unfold B40 at hw; omega)

theorem getD_lt {l : List Int} {i : Nat} (h : i < l.length) : l.getD i 0 = l[i] := by simp [List.getD_eq_getElem?_getD, h]

theorem run_Equal (a b : List Int) (ha : a.length ≤ B40) : Runs X F.slices_EqualSint64int64 [lD a, lD b] [] (boolR (decide (a = b))) := by
  by_cases hl : a.length = b.length
  · have loop : ∀ (n i : Nat), i + n = a.length → (∀ j, j < i → a.getD j 0 = b.getD j 0) →
        WL F.slices_EqualSint64int64 0 Tryd.f57 0 (slices_EqualSint64int64_s0 a b i) (if a = b then slices_EqualSint64int64_o0_2 else slices_EqualSint64int64_o0_1) := by
      intro n
      induction n with
      | zero =>
        intro i hi he
        have : a = b := by
          apply List.ext_getElem hl
          intro j h1 h2
          have := he j (by omega)
          rwa [getD_lt h1, getD_lt h2] at this
        rw [if_pos this]
        apply slices_EqualSint64int64_r0_3
        case hq => rfl
        all_goals omega
      | succ n ih =>
        intro i hi he
        by_cases h : a.getD i 0 = b.getD i 0
        · apply slices_EqualSint64int64_r0_2
          case hq =>
            refine ih (i + 1) (by omega) fun j hj => ?_
            by_cases e : j = i
            · rw [e]; exact h
            · exact he j (by omega)
          all_goals first | assumption | (unfold B40 at ha; omega)
        · rw [if_neg (fun e => h (by rw [e]))]
          apply slices_EqualSint64int64_r0_1
          case hq => rfl
          all_goals first | assumption | (unfold B40 at ha; omega)
    have h0 := loop a.length 0 (by omega) (fun j hj => by omega)
    by_cases e : a = b
    · rw [if_pos e] at h0; rw [decide_eq_true e]; exact slices_EqualSint64int64_p3 (by omega) h0
    · rw [if_neg e] at h0; rw [decide_eq_false e]; exact slices_EqualSint64int64_p2 (by omega) h0
  · have : decide (a = b) = false := by simp; intro e; exact hl (by rw [e])
    rw [this]
    exact slices_EqualSint64int64_p1 (by omega)

/-- The first i and the last i elements exchanged. -/
def revTo (xs : List Int) (i : Nat) : List Int := (xs.reverse.take i ++ (xs.drop i).take (xs.length - 2 * i)) ++ xs.reverse.drop (xs.length - i)

theorem run_Reverse (xs : List Int) (hx : xs.length ≤ 2 * B40) : Runs X F.slices_ReverseSint64int64 [.rsl 500000 0 xs.length] [⟨true, .ints .i64 xs⟩] ⟨.tup [], [some ⟨true, .ints .i64 xs.reverse⟩], []⟩ := by
  have loop : ∀ (n i : Nat) (r : List Int), xs.length - 2 * i ≤ n → 2 * i ≤ xs.length + 1 → r.length = xs.length → (∀ k, k < xs.length → r.getD k 0 = if k < i ∨ xs.length - i ≤ k then xs.reverse.getD k 0 else xs.getD k 0) →
      WL F.slices_ReverseSint64int64 0 Tryd.f126 0 (slices_ReverseSint64int64_s0 xs i (xs.length - i - 1 : Int) r) (slices_ReverseSint64int64_o0_1 xs.reverse) := by
    intro n
    induction n with
    | zero =>
      intro i r hn hi hr he
      have : r = xs.reverse := by
        apply List.ext_getElem (by simp [hr])
        intro k h1 h2
        have := he k (by omega)
        rw [getD_lt h1, getD_lt h2] at this
        by_cases hk : k < i ∨ xs.length - i ≤ k
        · rw [if_pos hk] at this; exact this
        · rw [if_neg hk] at this
          rw [this, getD_lt (by omega), List.getElem_reverse]
          congr 1
          omega
      subst this
      apply slices_ReverseSint64int64_r0_2
      case hq => rfl
      all_goals first | assumption | (unfold B40 at hx; omega)
    | succ n ih =>
      intro i r hn hi hr he
      by_cases h : (i : Int) < xs.length - i - 1
      · have e1 : ((xs.length : Int) - i - 1).toNat = xs.length - i - 1 := by omega
        apply slices_ReverseSint64int64_r0_1
        case hq =>
          have e2 : ((xs.length : Int) - (i : Int) - 1 - 1) = ((xs.length : Int) - ((i + 1 : Nat) : Int) - 1) := by omega
          rw [e2, e1]
          refine ih (i + 1) _ (by omega) (by omega) (by simp [hr]) ?_
          intro k hk
          have hki : i < r.length := by omega
          have hkj : xs.length - i - 1 < r.length := by omega
          have v1 := he i (by omega)
          have v2 := he (xs.length - i - 1) (by omega)
          rw [if_neg (by omega)] at v1 v2
          rw [List.getD_eq_getElem?_getD, List.getElem?_set, List.getElem?_set]
          simp only [Nat.zero_add, List.length_set]
          by_cases hj : xs.length - i - 1 = k
          · rw [if_pos hj, if_pos (by omega), if_pos (by omega), Option.getD_some, v1, getD_lt (l := xs) (by omega), getD_lt (by simpa using hk), List.getElem_reverse]
            congr 1; omega
          · rw [if_neg hj]
            by_cases hk2 : i = k
            · rw [if_pos hk2, if_pos (by omega), if_pos (by omega), Option.getD_some, v2, getD_lt (l := xs) (by omega), getD_lt (by simpa using hk), List.getElem_reverse]
              congr 1; omega
            · rw [if_neg hk2, ← List.getD_eq_getElem?_getD, he k hk]
              by_cases hc : k < i ∨ xs.length - i ≤ k
              · rw [if_pos hc, if_pos (by omega)]
              · rw [if_neg hc, if_neg (by omega)]
        all_goals first | assumption | (unfold B40 at hx; omega)
      · have : r = xs.reverse := by
          apply List.ext_getElem (by simp [hr])
          intro k h1 h2
          have := he k (by omega)
          rw [getD_lt h1, getD_lt h2] at this
          by_cases hk : k < i ∨ xs.length - i ≤ k
          · rw [if_pos hk] at this; exact this
          · rw [if_neg hk] at this
            rw [this, getD_lt (by omega), List.getElem_reverse]
            congr 1
            omega
        subst this
        apply slices_ReverseSint64int64_r0_2
        case hq => rfl
        all_goals first | assumption | (unfold B40 at hx; omega)
  have h0 := loop xs.length 0 xs (by omega) (by omega) rfl (fun k hk => by rw [if_neg (by omega)])
  have e0 : ((xs.length : Int) - ((0 : Nat) : Int) - 1) = (xs.length : Int) - 1 := by omega
  rw [e0] at h0
  exact slices_ReverseSint64int64_p1 (by unfold B40 at hx; omega) h0

theorem run_reversed (w : List Int) (hw : w.length ≤ 2 * B40) : Runs X F.impl_reversed [lD w] [] (rowR w.reverse) := by
  have := impl_reversed_p1 (run_Clone w hw) (run_Reverse w hw)
  unfold rowR
  rw [List.length_reverse]
  exact this

theorem run_Delete (xs : List Int) (i : Nat) (hi : i < xs.length) : Runs X F.slices_DeleteSint64int64 [.rsl 500000 0 xs.length, iD i, iD (i + 1)] [⟨true, .ints .i64 xs⟩]
    ⟨.rsl 600000 0 (xs.eraseIdx i).length, [none], [⟨true, .ints .i64 (xs.eraseIdx i)⟩]⟩ := by
  have h := slices_DeleteSint64int64_p2 (xs := xs) (i := (i : Int)) (j := (i : Int) + 1) (by omega) (by omega) (by omega) (by omega)
  have e1 : ((i : Int) + 1).toNat = i + 1 := by omega
  have e2 : (List.take (xs.length - (i + 1)) (List.drop (i + 1) xs)) = xs.drop (i + 1) := by
    rw [List.take_of_length_le (by simp)]
  have e3 : (xs.eraseIdx i) = xs.take i ++ xs.drop (i + 1) := List.eraseIdx_eq_take_drop_succ ..
  simp only [Int.toNat_natCast, e1, Nat.sub_zero, Nat.zero_add, e2] at h
  have e4 : i + (xs.drop (i + 1)).length = (xs.eraseIdx i).length := by rw [e3]; simp; omega
  have e5 : List.take (i + (xs.drop (i + 1)).length) (List.take i xs ++ List.drop (i + 1) xs ++ List.drop (i + (List.drop (i + 1) xs).length) xs) = xs.eraseIdx i := by
    rw [List.take_append_of_le_length (by simp; omega), List.take_of_length_le (by simp; omega), e3]
  rw [e5, e4] at h
  exact h

end Go.PR.S
