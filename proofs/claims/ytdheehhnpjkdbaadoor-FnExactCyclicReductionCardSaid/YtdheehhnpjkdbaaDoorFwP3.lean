/- What the program's functions come to, third part: traces and groups. -/
import Derived.Test.YtdheehhnpjkdbaaDoorFwP2
import Derived.Test.YtdheehhnpjkdbaaDoorGrB
set_option linter.unusedVariables false
set_option maxRecDepth 20000
namespace Go.PR.S
open Go Go.PR Go.Proofs Gp

theorem run_members {m : Nat} (h : m < 2 ^ 63) : Runs X F.impl_members [iD m] [] (rowR (bitsL m)) := by
  have loop : ∀ (n k : Nat) (r : List Int), (bitsN k).length = n → k < 2 ^ 63 → r ++ bitsL k = bitsL m → r.length ≤ 63 →
      WL F.impl_members 0 Tryd.f95 0 (impl_members_s0 k r) (impl_members_o0_1 (bitsL m)) := by
    intro n
    induction n with
    | zero =>
      intro k r hn hk he hr
      by_cases h0 : k = 0
      · subst h0
        rw [bitsL_zero, List.append_nil] at he
        subst he
        apply impl_members_r0_2
        case hq => rfl
        all_goals rfl
      · rw [bitsN_step h0 hk] at hn; cases hn
    | succ n ih =>
      intro k r hn hk he hr
      by_cases h0 : k = 0
      · subst h0
        rw [bitsL_zero, List.append_nil] at he
        subst he
        apply impl_members_r0_2
        case hq => rfl
        all_goals rfl
      · have h1 : (k : Int) - 1 = ((k - 1 : Nat) : Int) := by omega
        have h2 : iand (k : Int) ((k : Int) - 1) = ((k &&& (k - 1) : Nat) : Int) := by rw [h1]; exact iand_nat hk (by omega)
        have hk' : k &&& (k - 1) < 2 ^ 63 := Nat.lt_of_le_of_lt Nat.and_le_left hk
        have hb := bitsL_step h0 hk
        have hlen : (r ++ bitsL k).length ≤ 63 := by
          rw [he]; unfold bitsL bitsN
          rw [List.length_map]
          exact Nat.le_trans (List.length_filter_le _ _) (by simp)
        rw [hb] at hlen
        apply impl_members_r0_1
        case hq =>
          rw [h2]
          refine ih _ _ ?_ hk' ?_ ?_
          · rw [bitsN_step h0 hk] at hn; simpa using hn
          · rw [hb] at he; rw [List.append_assoc]; exact he
          · simp at hlen ⊢; omega
        all_goals first | exact run_least hk | omega
  exact impl_members_p1 (loop _ m [] rfl h (by simp) (by simp))

section
variable {T : Dep Int} {m : Nat} {t : List Int}

theorem run_firsts (ht : Tab T m t) {w : List Int} (hw : Wd m w) (hl : w.length ≤ B40) : Runs X F.impl_ties_firsts [lD t, lD w] [] (intR (firstM T m w)) := by
  have hm := ht.small
  have loop : ∀ (n i : Nat), i + n = w.length → WL F.impl_ties_firsts 0 Tryd.f106 0 (impl_ties_firsts_s0 t w (firstM T m (w.take i)) (blockM T m (w.take i)) i) (impl_ties_firsts_o0_1 (firstM T m w)) := by
    intro n
    induction n with
    | zero =>
      intro i hi
      rw [List.take_of_length_le (by omega)]
      apply impl_ties_firsts_r0_3
      case hq => rfl
      all_goals omega
    | succ n ih =>
      intro i hi
      have hlt : i < w.length := by omega
      have hv : w.getD i 0 = w[i] := getD_lt hlt
      have hx := hw w[i] (List.getElem_mem hlt)
      obtain ⟨x, hxe⟩ : ∃ x : Nat, w[i] = (x : Int) := ⟨w[i].toNat, by omega⟩
      have hxm : x < m := by omega
      obtain ⟨k, hk, hke, hkb⟩ := ht.mask x hxm
      have hts : w.take (i + 1) = w.take i ++ [(x : Int)] := by rw [List.take_succ_eq_append_getElem hlt, hxe]
      have hb63 : blockM T m (w.take i) < 2 ^ 63 := Nat.lt_of_lt_of_le (blockM_lt m _) (Nat.pow_le_pow_right (by omega) (by omega))
      have hf63 : firstM T m (w.take i) < 2 ^ 63 := Nat.lt_of_lt_of_le (firstM_lt m _) (Nat.pow_le_pow_right (by omega) (by omega))
      have hk63 : k < 2 ^ 63 := Nat.lt_of_lt_of_le hk (Nat.pow_le_pow_right (by omega) (by omega))
      have e6 : ior (blockM T m (w.take i) : Int) (t.getD (w.getD i 0).toNat 0) = (blockM T m (w.take (i + 1)) : Int) := by
        rw [hv, hxe, Int.toNat_natCast, hke, ior_nat hb63 hk63, hts, blockM_snoc (t := t) hk hkb]
      have hh := run_has (i := x) hb63
      rw [← hxe, ← hv] at hh
      have hlen := ht.len
      have hw0 : 0 ≤ w.getD i 0 ∧ w.getD i 0 < t.length := by rw [hv]; omega
      by_cases hbit : (blockM T m (w.take i)).testBit x = true
      · have hbt : tb (blockM T m (w.take i) : Int) (w.getD i 0) = true := by rw [hv, hxe]; unfold tb; simpa using hbit
        have e5 : firstM T m (w.take (i + 1)) = firstM T m (w.take i) := by rw [hts, firstM_snoc hxm, if_pos hbit]
        apply impl_ties_firsts_r0_2
        case hq => rw [e6, ← e5]; exact ih (i + 1) (by omega)
        all_goals first | exact hh | exact hbt | (unfold B40 at hl; omega)
      · have hbt : tb (blockM T m (w.take i) : Int) (w.getD i 0) = false := by rw [hv, hxe]; unfold tb; simpa using hbit
        have e5 : ior (firstM T m (w.take i) : Int) ((2 ^ x : Nat) : Int) = (firstM T m (w.take (i + 1)) : Int) := by
          rw [ior_nat hf63 (pow62 (by omega)), hts, firstM_snoc hxm, if_neg hbit]
        have ho := run_one (i := x) (by omega)
        rw [← hxe, ← hv] at ho
        apply impl_ties_firsts_r0_1
        case hq => rw [e6, e5]; exact ih (i + 1) (by omega)
        all_goals first | exact hh | exact ho | exact hbt | (unfold B40 at hl; omega)
  have h0 := loop w.length 0 (by omega)
  rw [List.take_zero, firstM_nil, blockM_nil] at h0
  exact impl_ties_firsts_p1 h0

end
end Go.PR.S
