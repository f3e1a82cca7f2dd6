/- What the program's functions come to, fourth part: joining, taking away, normal forms. -/
import Derived.Test.YtdheehhnpjkdbaaDoorFwP3
set_option linter.unusedVariables false
set_option maxRecDepth 20000
namespace Go.PR.S
open Go Go.PR Go.Proofs Gp

def sumL (ws : List (List Int)) : Nat := ws.flatten.length

theorem flat_take {ws : List (List Int)} {i : Nat} (h : i < ws.length) : (ws.take (i + 1)).flatten = (ws.take i).flatten ++ ws.getD i [] := by
  rw [List.take_succ_eq_append_getElem h, List.flatten_append]
  simp [List.getD_eq_getElem?_getD, h]

theorem flat_take_le (ws : List (List Int)) (i : Nat) : (ws.take i).flatten.length ≤ ws.flatten.length := by
  have : ws.flatten = (ws.take i).flatten ++ (ws.drop i).flatten := by rw [← List.flatten_append, List.take_append_drop]
  rw [this]; simp

theorem run_Concat (ws : List (List Int)) (hl : ws.length ≤ B40) (hs : ws.flatten.length ≤ 4 * B40) : Runs X F.slices_ConcatSint64int64 [.imm2 .i64 ws] [] (rowR ws.flatten) := by
  have sum : ∀ (n i : Nat), i + n = ws.length → WL F.slices_ConcatSint64int64 0 Tryd.f64 0 (slices_ConcatSint64int64_s0 ws (ws.take i).flatten.length i) (slices_ConcatSint64int64_o0_1 ws ws.flatten.length) := by
    intro n
    induction n with
    | zero =>
      intro i hi
      rw [List.take_of_length_le (by omega)]
      apply slices_ConcatSint64int64_r0_2
      case hq => rfl
      all_goals omega
    | succ n ih =>
      intro i hi
      have hf := flat_take (ws := ws) (i := i) (by omega)
      have hle := flat_take_le ws (i + 1)
      apply slices_ConcatSint64int64_r0_1
      case hq =>
        have := ih (i + 1) (by omega)
        rw [hf, List.length_append] at this
        exact this
      all_goals rw [hf, List.length_append] at hle
      all_goals unfold B40 at hl hs; omega
  have l5 := sum ws.length 0 (by omega)
  have l5' : WL F.slices_ConcatSint64int64 0 Tryd.f64 0 (slices_ConcatSint64int64_s0 ws 0 0) (slices_ConcatSint64int64_o0_1 ws ws.flatten.length) := l5
  by_cases hpos : 0 < ws.flatten.length
  · have loop : ∀ (n i : Nat) (r : List Int), i + n = ws.length → r.length = ws.flatten.length → r.take (ws.take i).flatten.length = (ws.take i).flatten →
        WL F.slices_ConcatSint64int64 2 Tryd.f64 1 (slices_ConcatSint64int64_s1 ws (ws.take i).flatten.length i r) (slices_ConcatSint64int64_o1_1 ws.flatten.length ws.flatten) := by
      intro n
      induction n with
      | zero =>
        intro i r hi hr he
        have ht : ws.take i = ws := List.take_of_length_le (by omega)
        rw [ht] at he ⊢
        rw [List.take_of_length_le (by omega : r.length ≤ ws.flatten.length)] at he
        subst he
        apply slices_ConcatSint64int64_r1_3
        case hq => rfl
        all_goals first | exact l5' | (unfold B40 at hl hs; omega)
      | succ n ih =>
        intro i r hi hr he
        have hf := flat_take (ws := ws) (i := i) (by omega)
        have hle := flat_take_le ws (i + 1)
        rw [hf, List.length_append] at hle
        by_cases hend : (ws.take i).flatten.length = r.length
        · have h0 : (ws.getD i []).length = 0 := by omega
          have h0' : ws.getD i [] = [] := List.eq_nil_of_length_eq_zero h0
          apply slices_ConcatSint64int64_r1_1
          case hq =>
            have := ih (i + 1) r (by omega) hr (by rw [hf, h0', List.append_nil]; exact he)
            rw [hf, h0', List.append_nil] at this
            have e1 : List.take (ws.take i).flatten.length (List.drop 0 r) ++ ws.getD i [] = r := by
              rw [h0', List.append_nil, List.drop_zero, hend, List.take_length]
            rw [e1, ← hend]
            exact this
          all_goals first | exact l5' | (unfold B40 at hl hs; omega)
        · apply slices_ConcatSint64int64_r1_2
          case hq =>
            have e1 : (ws.take (i + 1)).flatten.length = (ws.take i).flatten.length + (ws.getD i []).length := by rw [hf, List.length_append]
            rw [← e1]
            refine ih (i + 1) _ (by omega) ?_ ?_
            · simp only [Nat.zero_add, List.length_append, List.length_take, List.length_drop]; omega
            · rw [e1, Nat.zero_add, he, ← hf, List.take_append_of_le_length (by rw [e1]; exact Nat.le_refl _), List.take_of_length_le (by rw [e1]; exact Nat.le_refl _)]
          all_goals first | exact l5' | (unfold B40 at hl hs; omega)
    have h0 := loop ws.length 0 (List.replicate ws.flatten.length 0) (by omega) (by simp) (by simp)
    refine slices_ConcatSint64int64_p1 l5' (by unfold B40 at hs; omega) (by omega) (by unfold B40 at hs; omega) ?_
    have e2 : ((ws.flatten.length : Int) - (0 - 0)).toNat = ws.flatten.length := by omega
    rw [e2]
    exact h0
  · have hz : ws.flatten.length = 0 := by omega
    have loop : ∀ (n i : Nat), i + n = ws.length → WL F.slices_ConcatSint64int64 2 Tryd.f64 1 (slices_ConcatSint64int64_s1x ws i []) (slices_ConcatSint64int64_o1_1x []) := by
      intro n
      induction n with
      | zero =>
        intro i hi
        apply slices_ConcatSint64int64_r1x_2
        case hq => rfl
        all_goals first | exact l5' | (unfold B40 at hl hs; omega)
      | succ n ih =>
        intro i hi
        have hf := flat_take (ws := ws) (i := i) (by omega)
        have hle := flat_take_le ws (i + 1)
        rw [hf, List.length_append] at hle
        have h0' : ws.getD i [] = [] := List.eq_nil_of_length_eq_zero (by omega)
        apply slices_ConcatSint64int64_r1x_1
        case hq => rw [h0']; exact ih (i + 1) (by omega)
        all_goals first | exact l5' | (rw [h0']; simp) | (unfold B40 at hl hs; omega)
    have h0 := loop ws.length 0 (by omega)
    have : ws.flatten = [] := List.eq_nil_of_length_eq_zero hz
    rw [this] at l5' ⊢
    exact slices_ConcatSint64int64_p2 l5' (by simp) (by simp) h0

theorem take_drop_erase {w : List Int} {a : Int} (h : a ∈ w) : w.take (w.idxOf a) ++ w.drop (w.idxOf a + 1) = w.erase a := by
  rw [List.erase_eq_eraseIdx_of_idxOf rfl, List.eraseIdx_eq_take_drop_succ]

theorem run_withoutFirst {w : List Int} {a : Int} (h : a ∈ w) (hl : w.length ≤ B40) : Runs X F.impl_withoutFirst [lD w, iD a] [] (rowR (w.erase a)) := by
  have h1 := run_Index w a hl
  rw [if_pos h] at h1
  have hi : w.idxOf a < w.length := List.idxOf_lt_length_of_mem h
  refine impl_withoutFirst_p1 h1 (by omega) (by omega) (by unfold B40 at hl; omega) (by omega) ?_
  have e1 : ((w.idxOf a : Int)).toNat - 0 = w.idxOf a := by omega
  have e2 : ((w.idxOf a : Int) + 1).toNat = w.idxOf a + 1 := by omega
  have e3 : List.take (w.length - (w.idxOf a + 1)) (List.drop (w.idxOf a + 1) w) = w.drop (w.idxOf a + 1) := List.take_of_length_le (by simp)
  rw [e1, e2, e3, List.drop_zero]
  have hfl : [w.take (w.idxOf a), w.drop (w.idxOf a + 1)].flatten = w.erase a := by simp [take_drop_erase h]
  have := run_Concat [w.take (w.idxOf a), w.drop (w.idxOf a + 1)] (by simp [B40]) (by rw [hfl]; have := List.length_erase_le (a := a) (l := w); unfold B40 at hl ⊢; omega)
  rw [hfl] at this
  exact this

theorem run_withoutLast {w : List Int} {a : Int} (h : a ∈ w) (hl : w.length ≤ B40) : Runs X F.impl_withoutLast [lD w, iD a] [] (rowR (w.reverse.erase a).reverse) := by
  have hle := List.length_erase_le (a := a) (l := w.reverse)
  simp only [List.length_reverse] at hle
  exact impl_withoutLast_p1 (run_reversed w (by unfold B40 at *; omega)) (run_withoutFirst (by simpa using h) (by simpa using hl)) (run_reversed _ (by unfold B40 at *; omega))

section
variable {T : Dep Int} {m : Nat} {t : List Int}

theorem run_normal (ht : Tab T m t) {w : List Int} (hw : Wd m w) (hl : w.length ≤ B40) : Runs X F.impl_ties_normal [lD t, lD w] [] (rowR (nform T m w)) := by
  have hm := ht.small
  have loop : ∀ (n : Nat) (out rest : List Int), rest.length = n → Wd m rest → out.length + n ≤ B40 →
      WL F.impl_ties_normal 0 Tryd.f97 0 (impl_ties_normal_s0n1 t out rest) (impl_ties_normal_o0_1 (out ++ nfk T m n rest)) := by
    intro n
    induction n with
    | zero =>
      intro out rest hn hr hb
      apply impl_ties_normal_r0n1_2
      case hq => simp [nfk]
      all_goals first | (unfold B40 at hl; omega)
    | succ n ih =>
      intro out rest hn hr hb
      have hne : rest ≠ [] := by intro e; subst e; cases hn
      have hmem := least_mem (T := T) hm hr hne
      have hf63 : firstM T m rest < 2 ^ 63 := Nat.lt_of_lt_of_le (firstM_lt m _) (Nat.pow_le_pow_right (by omega) (by omega))
      have c1 := run_firsts ht hr (by omega)
      have c2 := run_least hf63
      have c3 := run_withoutFirst hmem (by omega)
      rw [nfk_step hm hr hne]
      apply impl_ties_normal_r0n1_1
      case hq =>
        have := ih (out ++ [(Go.Lib.ctz 64 (firstM T m rest) : Int)]) (rest.erase (Go.Lib.ctz 64 (firstM T m rest) : Int)) (by rw [List.length_erase_of_mem hmem]; omega) (hr.erase _) (by simp; omega)
        rw [List.append_assoc] at this
        exact this
      all_goals first | exact c1 | exact c2 | exact c3 | (unfold B40 at hl hb; omega)
  have key : WL F.impl_ties_normal 0 Tryd.f97 0 (impl_ties_normal_s0 t w) (impl_ties_normal_o0_1 (nform T m w)) := by
    unfold nform
    cases hn : w.length with
    | zero =>
      apply impl_ties_normal_r0_2
      case hq => simp [nfk]
      all_goals first | (unfold B40 at hl; omega)
    | succ n =>
      have hne : w ≠ [] := by intro e; subst e; cases hn
      have hmem := least_mem (T := T) hm hw hne
      have hf63 : firstM T m w < 2 ^ 63 := Nat.lt_of_lt_of_le (firstM_lt m _) (Nat.pow_le_pow_right (by omega) (by omega))
      have c1 := run_firsts ht hw hl
      have c2 := run_least hf63
      have c3 := run_withoutFirst hmem hl
      rw [nfk_step hm hw hne]
      apply impl_ties_normal_r0_1
      case hq =>
        have := loop n [(Go.Lib.ctz 64 (firstM T m w) : Int)] (w.erase (Go.Lib.ctz 64 (firstM T m w) : Int)) (by rw [List.length_erase_of_mem hmem]; omega) (hw.erase _) (by unfold B40 at *; simp; omega)
        exact this
      all_goals first | exact c1 | exact c2 | exact c3 | (unfold B40 at hl; omega)
  exact impl_ties_normal_p1 (by unfold B40 at hl; omega) key

end
end Go.PR.S
