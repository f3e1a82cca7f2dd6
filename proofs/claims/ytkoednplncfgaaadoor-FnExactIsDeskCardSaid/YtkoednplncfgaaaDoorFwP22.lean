/- Words and normal forms: both sides come to the same. -/
import Derived.Test.YtkoednplncfgaaaDoorFwP11
import Derived.Test.YtkoednplncfgaaaDoorFwG18
/- Words and normal forms: both sides come to the same. -/
set_option linter.unusedVariables false
set_option linter.unusedSimpArgs false
set_option maxRecDepth 20000
namespace Go.PR.S
open Go Go.PR Go.Proofs Gp

theorem run_least {m : Nat} (h : m < 2 ^ 63) : Runs X F.impl_least [iD m] [] (intR (Lib.ctz 64 m)) := by
  refine impl_least_p1 ?_
  have : IntKind.u64.wrap (m : Int) = m := by rw [IntKind.wrap_u64]; omega
  rw [this]
  exact run_tz h

theorem idxOf_mid {l1 l2 : List Int} {a : Int} (h : a ∉ l1) : (l1 ++ a :: l2).idxOf a = l1.length := by
  rw [List.idxOf_append, if_neg h, List.idxOf_cons_self, Nat.zero_add]

theorem run_Index (w : List Int) (a : Int) (hw : w.length ≤ B40) : Runs X F.slices_IndexSint64int64 [lD w, iD a] [] (intR (if a ∈ w then (w.idxOf a : Int) else -1)) := by
  have loop : ∀ (n i : Nat), i + n = w.length → a ∉ w.take i →
      WpL X F.slices_IndexSint64int64 0 (lb Tryd.f167 0) (slices_IndexSint64int64_s0 w a i).st (fun o => o = (if a ∈ w then slices_IndexSint64int64_o0_1 (w.idxOf a) else slices_IndexSint64int64_o0_2).out) := by
    intro n
    induction n with
    | zero =>
      intro i hi hn
      rw [List.take_of_length_le (by omega)] at hn
      rw [if_neg hn]
      apply slices_IndexSint64int64_r0_3
      case hq => rfl
      all_goals omega
    | succ n ih =>
      intro i hi hn
      have hlt : i < w.length := by omega
      have hv : w.getD i 0 = w[i] := by simp [List.getD_eq_getElem?_getD, hlt]
      by_cases e : a = w.getD i 0
      · have hm : a ∈ w := by rw [e, hv]; exact List.getElem_mem hlt
        have hidx : w.idxOf a = i := by
          have h1 : w = w.take i ++ a :: w.drop (i + 1) := by rw [e, hv]; simp
          have h2 := idxOf_mid (l1 := w.take i) (l2 := w.drop (i + 1)) hn
          rw [← h1, List.length_take] at h2
          omega
        rw [if_pos hm, hidx]
        apply slices_IndexSint64int64_r0_1
        case hq => rfl
        all_goals first | omega | exact e
      · apply slices_IndexSint64int64_r0_2
        case hq =>
          refine ih (i + 1) (by omega) ?_
          rw [List.take_succ_eq_append_getElem hlt]
          intro hm
          rcases List.mem_append.1 hm with hm | hm
          · exact hn hm
          · simp at hm; exact e (by rw [hv]; exact hm)
        all_goals first | assumption | (unfold B40 at hw; omega)
  have h0 := loop w.length 0 (by omega) (by simp)
  by_cases hm : a ∈ w
  · rw [if_pos hm] at h0 ⊢
    exact slices_IndexSint64int64_p1 h0
  · rw [if_neg hm] at h0 ⊢
    exact slices_IndexSint64int64_p2 h0

theorem run_Equal (a b : List Int) (ha : a.length ≤ B40) : Runs X F.slices_EqualSint64int64 [lD a, lD b] [] (boolR (decide (a = b))) := by
  by_cases hl : a.length = b.length
  · have loop : ∀ (n i : Nat), i + n = a.length → (∀ j, j < i → a.getD j 0 = b.getD j 0) →
        WL F.slices_EqualSint64int64 0 Tryd.f77 0 (slices_EqualSint64int64_s0 a b i) (if a = b then slices_EqualSint64int64_o0_2 else slices_EqualSint64int64_o0_1) := by
      intro n
      induction n with
      | zero =>
        intro i hi he
        have : a = b := by
          apply List.ext_getElem hl
          intro j h1 h2
          have := he j (by omega)
          rwa [getD_lt h1, getD_lt h2] at this
        rw [if_pos this]
        apply slices_EqualSint64int64_r0_3
        case hq => rfl
        all_goals omega
      | succ n ih =>
        intro i hi he
        by_cases h : a.getD i 0 = b.getD i 0
        · apply slices_EqualSint64int64_r0_2
          case hq =>
            refine ih (i + 1) (by omega) fun j hj => ?_
            by_cases e : j = i
            · rw [e]; exact h
            · exact he j (by omega)
          all_goals first | assumption | (unfold B40 at ha; omega)
        · rw [if_neg (fun e => h (by rw [e]))]
          apply slices_EqualSint64int64_r0_1
          case hq => rfl
          all_goals first | assumption | (unfold B40 at ha; omega)
    have h0 := loop a.length 0 (by omega) (fun j hj => by omega)
    by_cases e : a = b
    · rw [if_pos e] at h0; rw [decide_eq_true e]; exact slices_EqualSint64int64_p3 (by omega) h0
    · rw [if_neg e] at h0; rw [decide_eq_false e]; exact slices_EqualSint64int64_p2 (by omega) h0
  · have : decide (a = b) = false := by simp; intro e; exact hl (by rw [e])
    rw [this]
    exact slices_EqualSint64int64_p1 (by omega)

section
variable {T : Dep Int} {m : Nat} {t : List Int}

theorem run_firsts (ht : Tab T m t) {w : List Int} (hw : Wd m w) (hl : w.length ≤ B40) : Runs X F.impl_ties_firsts [lD t, lD w] [] (intR (firstM T m w)) := by
  have hm := ht.small
  have loop : ∀ (n i : Nat), i + n = w.length → WL F.impl_ties_firsts 0 Tryd.f132 0 (impl_ties_firsts_s0 t w (firstM T m (w.take i)) (blockM T m (w.take i)) i) (impl_ties_firsts_o0_1 (firstM T m w)) := by
    intro n
    induction n with
    | zero =>
      intro i hi
      rw [List.take_of_length_le (by omega)]
      apply impl_ties_firsts_r0_3
      case hq => rfl
      all_goals omega
    | succ n ih =>
      intro i hi
      have hlt : i < w.length := by omega
      have hv : w.getD i 0 = w[i] := getD_lt hlt
      have hx := hw w[i] (List.getElem_mem hlt)
      obtain ⟨x, hxe⟩ : ∃ x : Nat, w[i] = (x : Int) := ⟨w[i].toNat, by omega⟩
      have hxm : x < m := by omega
      obtain ⟨k, hk, hke, hkb⟩ := ht.mask x hxm
      have hts : w.take (i + 1) = w.take i ++ [(x : Int)] := by rw [List.take_succ_eq_append_getElem hlt, hxe]
      have hb63 : blockM T m (w.take i) < 2 ^ 63 := Nat.lt_of_lt_of_le (blockM_lt m _) (Nat.pow_le_pow_right (by omega) (by omega))
      have hf63 : firstM T m (w.take i) < 2 ^ 63 := Nat.lt_of_lt_of_le (firstM_lt m _) (Nat.pow_le_pow_right (by omega) (by omega))
      have hk63 : k < 2 ^ 63 := Nat.lt_of_lt_of_le hk (Nat.pow_le_pow_right (by omega) (by omega))
      have e6 : ior (blockM T m (w.take i) : Int) (t.getD (w.getD i 0).toNat 0) = (blockM T m (w.take (i + 1)) : Int) := by
        rw [hv, hxe, Int.toNat_natCast, hke, ior_nat hb63 hk63, hts, blockM_snoc (t := t) hk hkb]
      have hh := run_has (i := x) hb63
      rw [← hxe, ← hv] at hh
      have hlen := ht.len
      have hw0 : 0 ≤ w.getD i 0 ∧ w.getD i 0 < t.length := by rw [hv]; omega
      by_cases hbit : (blockM T m (w.take i)).testBit x = true
      · have hbt : tb (blockM T m (w.take i) : Int) (w.getD i 0) = true := by rw [hv, hxe]; unfold tb; simpa using hbit
        have e5 : firstM T m (w.take (i + 1)) = firstM T m (w.take i) := by rw [hts, firstM_snoc hxm, if_pos hbit]
        apply impl_ties_firsts_r0_2
        case hq => rw [e6, ← e5]; exact ih (i + 1) (by omega)
        all_goals first | exact hh | exact hbt | (unfold B40 at hl; omega)
      · have hbt : tb (blockM T m (w.take i) : Int) (w.getD i 0) = false := by rw [hv, hxe]; unfold tb; simpa using hbit
        have e5 : ior (firstM T m (w.take i) : Int) ((2 ^ x : Nat) : Int) = (firstM T m (w.take (i + 1)) : Int) := by
          rw [ior_nat hf63 (pow62 (by omega)), hts, firstM_snoc hxm, if_neg hbit]
        have ho := run_one (i := x) (by omega)
        rw [← hxe, ← hv] at ho
        apply impl_ties_firsts_r0_1
        case hq => rw [e6, e5]; exact ih (i + 1) (by omega)
        all_goals first | exact hh | exact ho | exact hbt | (unfold B40 at hl; omega)
  have h0 := loop w.length 0 (by omega)
  rw [List.take_zero, firstM_nil, blockM_nil] at h0
  exact impl_ties_firsts_p1 h0

end
def sumL (ws : List (List Int)) : Nat := ws.flatten.length

theorem flat_take {ws : List (List Int)} {i : Nat} (h : i < ws.length) : (ws.take (i + 1)).flatten = (ws.take i).flatten ++ ws.getD i [] := by
  rw [List.take_succ_eq_append_getElem h, List.flatten_append]
  simp [List.getD_eq_getElem?_getD, h]

theorem flat_take_le (ws : List (List Int)) (i : Nat) : (ws.take i).flatten.length ≤ ws.flatten.length := by
  have : ws.flatten = (ws.take i).flatten ++ (ws.drop i).flatten := by rw [← List.flatten_append, List.take_append_drop]
  rw [this]; simp

theorem run_Concat (ws : List (List Int)) (hl : ws.length ≤ B40) (hs : ws.flatten.length ≤ 4 * B40) : Runs X F.slices_ConcatSint64int64 [.imm2 .i64 ws] [] (rowR ws.flatten) := by
  have sum : ∀ (n i : Nat), i + n = ws.length → WL F.slices_ConcatSint64int64 0 Tryd.f168 0 (slices_ConcatSint64int64_s0 ws (ws.take i).flatten.length i) (slices_ConcatSint64int64_o0_1 ws ws.flatten.length) := by
    intro n
    induction n with
    | zero =>
      intro i hi
      rw [List.take_of_length_le (by omega)]
      apply slices_ConcatSint64int64_r0_2
      case hq => rfl
      all_goals omega
    | succ n ih =>
      intro i hi
      have hf := flat_take (ws := ws) (i := i) (by omega)
      have hle := flat_take_le ws (i + 1)
      apply slices_ConcatSint64int64_r0_1
      case hq =>
        have := ih (i + 1) (by omega)
        rw [hf, List.length_append] at this
        exact this
      all_goals rw [hf, List.length_append] at hle
      all_goals unfold B40 at hl hs; omega
  have l5 := sum ws.length 0 (by omega)
  have l5' : WL F.slices_ConcatSint64int64 0 Tryd.f168 0 (slices_ConcatSint64int64_s0 ws 0 0) (slices_ConcatSint64int64_o0_1 ws ws.flatten.length) := l5
  by_cases hpos : 0 < ws.flatten.length
  · have loop : ∀ (n i : Nat) (r : List Int), i + n = ws.length → r.length = ws.flatten.length → r.take (ws.take i).flatten.length = (ws.take i).flatten →
        WL F.slices_ConcatSint64int64 2 Tryd.f168 1 (slices_ConcatSint64int64_s1 ws (ws.take i).flatten.length i r) (slices_ConcatSint64int64_o1_1 ws.flatten.length ws.flatten) := by
      intro n
      induction n with
      | zero =>
        intro i r hi hr he
        have ht : ws.take i = ws := List.take_of_length_le (by omega)
        rw [ht] at he ⊢
        rw [List.take_of_length_le (by omega : r.length ≤ ws.flatten.length)] at he
        subst he
        apply slices_ConcatSint64int64_r1_3
        case hq => rfl
        all_goals first | exact l5' | (unfold B40 at hl hs; omega)
      | succ n ih =>
        intro i r hi hr he
        have hf := flat_take (ws := ws) (i := i) (by omega)
        have hle := flat_take_le ws (i + 1)
        rw [hf, List.length_append] at hle
        by_cases hend : (ws.take i).flatten.length = r.length
        · have h0 : (ws.getD i []).length = 0 := by omega
          have h0' : ws.getD i [] = [] := List.eq_nil_of_length_eq_zero h0
          apply slices_ConcatSint64int64_r1_1
          case hq =>
            have := ih (i + 1) r (by omega) hr (by rw [hf, h0', List.append_nil]; exact he)
            rw [hf, h0', List.append_nil] at this
            have e1 : List.take (ws.take i).flatten.length (List.drop 0 r) ++ ws.getD i [] = r := by
              rw [h0', List.append_nil, List.drop_zero, hend, List.take_length]
            rw [e1, ← hend]
            exact this
          all_goals first | exact l5' | (unfold B40 at hl hs; omega)
        · apply slices_ConcatSint64int64_r1_2
          case hq =>
            have e1 : (ws.take (i + 1)).flatten.length = (ws.take i).flatten.length + (ws.getD i []).length := by rw [hf, List.length_append]
            rw [← e1]
            refine ih (i + 1) _ (by omega) ?_ ?_
            · simp only [Nat.zero_add, List.length_append, List.length_take, List.length_drop]; omega
            · rw [e1, Nat.zero_add, he, ← hf, List.take_append_of_le_length (by rw [e1]; exact Nat.le_refl _), List.take_of_length_le (by rw [e1]; exact Nat.le_refl _)]
          all_goals first | exact l5' | (unfold B40 at hl hs; omega)
    have h0 := loop ws.length 0 (List.replicate ws.flatten.length 0) (by omega) (by simp) (by simp)
    refine slices_ConcatSint64int64_p1 l5' (by unfold B40 at hs; omega) (by omega) (by unfold B40 at hs; omega) ?_
    have e2 : ((ws.flatten.length : Int) - (0 - 0)).toNat = ws.flatten.length := by omega
    rw [e2]
    exact h0
  · have hz : ws.flatten.length = 0 := by omega
    have loop : ∀ (n i : Nat), i + n = ws.length → WL F.slices_ConcatSint64int64 2 Tryd.f168 1 (slices_ConcatSint64int64_s1x ws i []) (slices_ConcatSint64int64_o1_1x []) := by
      intro n
      induction n with
      | zero =>
        intro i hi
        apply slices_ConcatSint64int64_r1x_2
        case hq => rfl
        all_goals first | exact l5' | (unfold B40 at hl hs; omega)
      | succ n ih =>
        intro i hi
        have hf := flat_take (ws := ws) (i := i) (by omega)
        have hle := flat_take_le ws (i + 1)
        rw [hf, List.length_append] at hle
        have h0' : ws.getD i [] = [] := List.eq_nil_of_length_eq_zero (by omega)
        apply slices_ConcatSint64int64_r1x_1
        case hq => rw [h0']; exact ih (i + 1) (by omega)
        all_goals first | exact l5' | (rw [h0']; simp) | (unfold B40 at hl hs; omega)
    have h0 := loop ws.length 0 (by omega)
    have : ws.flatten = [] := List.eq_nil_of_length_eq_zero hz
    rw [this] at l5' ⊢
    exact slices_ConcatSint64int64_p2 l5' (by simp) (by simp) h0

theorem take_drop_erase {w : List Int} {a : Int} (h : a ∈ w) : w.take (w.idxOf a) ++ w.drop (w.idxOf a + 1) = w.erase a := by
  rw [List.erase_eq_eraseIdx_of_idxOf rfl, List.eraseIdx_eq_take_drop_succ]

theorem run_withoutFirst {w : List Int} {a : Int} (h : a ∈ w) (hl : w.length ≤ B40) : Runs X F.impl_withoutFirst [lD w, iD a] [] (rowR (w.erase a)) := by
  have h1 := run_Index w a hl
  rw [if_pos h] at h1
  have hi : w.idxOf a < w.length := List.idxOf_lt_length_of_mem h
  refine impl_withoutFirst_p1 h1 (by omega) (by omega) (by unfold B40 at hl; omega) (by omega) ?_
  have e1 : ((w.idxOf a : Int)).toNat - 0 = w.idxOf a := by omega
  have e2 : ((w.idxOf a : Int) + 1).toNat = w.idxOf a + 1 := by omega
  have e3 : List.take (w.length - (w.idxOf a + 1)) (List.drop (w.idxOf a + 1) w) = w.drop (w.idxOf a + 1) := List.take_of_length_le (by simp)
  rw [e1, e2, e3, List.drop_zero]
  have hfl : [w.take (w.idxOf a), w.drop (w.idxOf a + 1)].flatten = w.erase a := by simp [take_drop_erase h]
  have := run_Concat [w.take (w.idxOf a), w.drop (w.idxOf a + 1)] (by simp [B40]) (by rw [hfl]; have := List.length_erase_le (a := a) (l := w); unfold B40 at hl ⊢; omega)
  rw [hfl] at this
  exact this

section
variable {T : Dep Int} {m : Nat} {t : List Int}

theorem run_normal (ht : Tab T m t) {w : List Int} (hw : Wd m w) (hl : w.length ≤ B40) : Runs X F.impl_ties_normal [lD t, lD w] [] (rowR (nform T m w)) := by
  have hm := ht.small
  have loop : ∀ (n : Nat) (out rest : List Int), rest.length = n → Wd m rest → out.length + n ≤ B40 →
      WL F.impl_ties_normal 0 Tryd.f79 0 (impl_ties_normal_s0n1 t out rest) (impl_ties_normal_o0_1 (out ++ nfk T m n rest)) := by
    intro n
    induction n with
    | zero =>
      intro out rest hn hr hb
      apply impl_ties_normal_r0n1_2
      case hq => simp [nfk]
      all_goals first | (unfold B40 at hl; omega)
    | succ n ih =>
      intro out rest hn hr hb
      have hne : rest ≠ [] := by intro e; subst e; cases hn
      have hmem := least_mem (T := T) hm hr hne
      have hf63 : firstM T m rest < 2 ^ 63 := Nat.lt_of_lt_of_le (firstM_lt m _) (Nat.pow_le_pow_right (by omega) (by omega))
      have c1 := run_firsts ht hr (by omega)
      have c2 := run_least hf63
      have c3 := run_withoutFirst hmem (by omega)
      rw [nfk_step hm hr hne]
      apply impl_ties_normal_r0n1_1
      case hq =>
        have := ih (out ++ [(Go.Lib.ctz 64 (firstM T m rest) : Int)]) (rest.erase (Go.Lib.ctz 64 (firstM T m rest) : Int)) (by rw [List.length_erase_of_mem hmem]; omega) (hr.erase _) (by simp; omega)
        rw [List.append_assoc] at this
        exact this
      all_goals first | exact c1 | exact c2 | exact c3 | (unfold B40 at hl hb; omega)
  have key : WL F.impl_ties_normal 0 Tryd.f79 0 (impl_ties_normal_s0 t w) (impl_ties_normal_o0_1 (nform T m w)) := by
    unfold nform
    cases hn : w.length with
    | zero =>
      apply impl_ties_normal_r0_2
      case hq => simp [nfk]
      all_goals first | (unfold B40 at hl; omega)
    | succ n =>
      have hne : w ≠ [] := by intro e; subst e; cases hn
      have hmem := least_mem (T := T) hm hw hne
      have hf63 : firstM T m w < 2 ^ 63 := Nat.lt_of_lt_of_le (firstM_lt m _) (Nat.pow_le_pow_right (by omega) (by omega))
      have c1 := run_firsts ht hw hl
      have c2 := run_least hf63
      have c3 := run_withoutFirst hmem hl
      rw [nfk_step hm hw hne]
      apply impl_ties_normal_r0_1
      case hq =>
        have := loop n [(Go.Lib.ctz 64 (firstM T m w) : Int)] (w.erase (Go.Lib.ctz 64 (firstM T m w) : Int)) (by rw [List.length_erase_of_mem hmem]; omega) (hw.erase _) (by unfold B40 at *; simp; omega)
        exact this
      all_goals first | exact c1 | exact c2 | exact c3 | (unfold B40 at hl; omega)
  exact impl_ties_normal_p1 (by unfold B40 at hl; omega) key

end
theorem run_l01Own (w : List Int) (hl : w.length ≤ 4 * B40) : Runs X F.spec_l01Own [lD w] [] (rowR w) := spec_l01Own_p1 (by unfold B40 at hl; omega)

theorem run_l03Without {w : List Int} {i : Nat} (hi : i < w.length) (hl : w.length ≤ B40) : Runs X F.spec_l03Without [lD w, iD i] [] (rowR (w.eraseIdx i)) := by
  have e1 : ((i : Int)).toNat - 0 = i := by omega
  have e2 : ((i : Int) + 1).toNat = i + 1 := by omega
  have e3 : List.take (w.length - (i + 1)) (List.drop (i + 1) w) = w.drop (i + 1) := List.take_of_length_le (by simp)
  have c1 := run_l01Own (w.take i) (by simp only [List.length_take]; unfold B40 at *; omega)
  have := spec_l03Without_p1 (w := w) (i := (i : Int)) (xs3 := w.take i) (by omega) (by omega) (by rw [e1, List.drop_zero]; exact c1) (by unfold B40 at hl; omega) (by omega) (by rw [e2, e3]; simp only [List.length_take, List.length_drop]; unfold B40 at hl; omega)
  rw [e2, e3, ← List.eraseIdx_eq_take_drop_succ] at this
  exact this

section
variable {T : Dep Int} {m : Nat} {t : List Int}

theorem run_depT (ht : Tab T m t) (n : Int) {a b : Int} (ha : 0 ≤ a ∧ a < m) (hb : 0 ≤ b ∧ b < m) : Runs X F.spec_l02Dep [alD n t, iD a, iD b] [] (boolR (T.d a b)) := by
  have hs := ht.small
  have hlen := ht.len
  obtain ⟨k, hk, hke, hkb⟩ := ht.mask a.toNat (by omega)
  have hk63 : k < 2 ^ 63 := Nat.lt_of_lt_of_le hk (Nat.pow_le_pow_right (by omega) (by omega))
  have c := run_l01Bit (m := k) (i := b.toNat) hk63 (by omega)
  have e : tb (k : Int) (b.toNat : Int) = T.d a b := by
    have := hkb b.toNat (by omega)
    have e1 : ((a.toNat : Nat) : Int) = a := by omega
    have e2 : ((b.toNat : Nat) : Int) = b := by omega
    rw [e1, e2] at this
    unfold tb; rw [Int.toNat_natCast, Int.toNat_natCast]; exact this
  rw [e, ← hke] at c
  have e2 : ((b.toNat : Nat) : Int) = b := by omega
  rw [e2] at c
  exact spec_l02Dep_p1 (by omega) (by omega) c

theorem run_l03First (ht : Tab T m t) (n : Int) {w : List Int} (hw : Wd m w) {a : Int} (ha : 0 ≤ a ∧ a < m) (hl : w.length ≤ B40) :
    Runs X F.spec_l03First [alD n t, lD w, iD a] [] (intR (if isFirst T w a then (w.idxOf a : Int) else -1)) := by
  have key : ∀ (S P : List Int), w = P ++ S → (∀ y ∈ P, y ≠ a ∧ T.d y a = false) →
      (isFirst T S a = true → WL F.spec_l03First 0 Tryd.f127 0 (spec_l03First_s0 n t w a P.length) (spec_l03First_o0_1 (w.idxOf a))) ∧
      (isFirst T S a = false → WL F.spec_l03First 0 Tryd.f127 0 (spec_l03First_s0 n t w a P.length) (spec_l03First_o0_1 (-1)) ∨ WL F.spec_l03First 0 Tryd.f127 0 (spec_l03First_s0 n t w a P.length) spec_l03First_o0_2) := by
    intro S
    induction S with
    | nil =>
      intro P e hP
      refine ⟨(fun h => by cases h), fun _ => .inr ?_⟩
      have : w.length = P.length := by rw [e]; simp
      apply spec_l03First_r0_4
      case hq => rfl
      all_goals omega
    | cons y S ih =>
      intro P e hP
      have hlt : P.length < w.length := by rw [e]; simp
      have hg : w.getD P.length 0 = y := by rw [getD_lt hlt]; simp [e]
      have hyw : y ∈ w := by rw [e]; simp
      have hyr := hw y hyw
      have c1 := run_depT ht n (a := y) (b := a) hyr ha
      rw [← hg] at c1
      by_cases hya : y = a
      · subst hya
        refine ⟨fun _ => ?_, fun h => by simp [isFirst] at h⟩
        have hidx : w.idxOf y = P.length := by rw [e]; exact idxOf_mid fun hm => (hP y hm).1 rfl
        rw [hidx]
        apply spec_l03First_r0_1
        case hq => rfl
        all_goals first | exact hg | omega
      · have hfs : isFirst T (y :: S) a = (!T.d y a && isFirst T S a) := by simp [isFirst, hya]
        cases hd : T.d y a with
        | true =>
          refine ⟨(fun h => by rw [hfs, hd] at h; cases h), fun _ => .inl ?_⟩
          apply spec_l03First_r0_2
          case hq => rfl
          all_goals first | exact c1 | (rw [hg]; first | exact hya | exact hd) | omega
        | false =>
          have ih' := ih (P ++ [y]) (by rw [e]; simp) (fun z hz => by
            rcases List.mem_append.1 hz with hz | hz
            · exact hP z hz
            · simp at hz; subst hz; exact ⟨hya, hd⟩)
          have el : (P ++ [y]).length = P.length + 1 := by simp
          rw [el] at ih'
          have step : ∀ o, WL F.spec_l03First 0 Tryd.f127 0 (spec_l03First_s0 n t w a (P.length + 1)) o → WL F.spec_l03First 0 Tryd.f127 0 (spec_l03First_s0 n t w a P.length) o := by
            intro o ho
            apply spec_l03First_r0_3
            case hq => exact ho
            all_goals first | exact c1 | (rw [hg]; first | exact hya | exact hd) | (unfold B40 at hl; omega)
          rw [hfs, hd]
          refine ⟨fun h => step _ (ih'.1 (by simpa using h)), fun h => ?_⟩
          rcases ih'.2 (by simpa using h) with h1 | h1
          · exact .inl (step _ h1)
          · exact .inr (step _ h1)
  have h0 := key w [] (by simp) (by simp)
  cases hf : isFirst T w a with
  | true => exact spec_l03First_p1 (h0.1 hf)
  | false =>
    rcases h0.2 hf with h1 | h1
    · exact spec_l03First_p1 h1
    · exact spec_l03First_p2 h1

theorem erase_idx {w : List Int} {a : Int} : w.eraseIdx (w.idxOf a) = w.erase a := (List.erase_eq_eraseIdx_of_idxOf rfl).symm

theorem run_l03Normal (ht : Tab T m t) {w : List Int} (hw : Wd m w) (hl : w.length ≤ B40) : Runs X F.spec_l03Normal [alD m t, lD w] [] (rowR (nform T m w)) := by
  have hs := ht.small
  have loop : ∀ (k : Nat) (out rest : List Int), rest.length = k → Wd m rest → out.length + k ≤ B40 →
      WL F.spec_l03Normal 0 Tryd.f72 0 (spec_l03Normal_s0 m t out rest) (spec_l03Normal_o0_1 (out ++ nfk T m k rest)) := by
    intro k
    induction k with
    | zero =>
      intro out rest hn hr hb
      apply spec_l03Normal_r0_2
      case hq => simp [nfk]
      all_goals omega
    | succ k ih =>
      intro out rest hn hr hb
      have hne : rest ≠ [] := by intro e; subst e; cases hn
      have hmem := least_mem (T := T) hs hr hne
      have hsome := leastF_ctz (T := T) hs hr hne
      obtain ⟨hfst, hr0, hrm⟩ := leastF_some hsome
      rw [nfk_step hs hr hne]
      have hf63 : firstM T m rest < 2 ^ 63 := Nat.lt_of_lt_of_le (firstM_lt m _) (Nat.pow_le_pow_right (by omega) (by omega))
      have hlow := (low_bit (firstM_ne (T := T) hr hne) hf63).2.1
      generalize Go.Lib.ctz 64 (firstM T m rest) = a at *
      have ham : a < m := by omega
      have hbelow : ∀ b, b < a → isFirst T rest (b : Int) = false := fun b hb => by
        have := hlow b hb
        rw [firstM_bit] at this
        simpa [show b < m by omega] using this
      have inner : WL F.spec_l03Normal 2 Tryd.f72 1 (spec_l03Normal_s1 m t out rest 0) (spec_l03Normal_o1_1 m t (out ++ [(a : Int)]) (rest.erase (a : Int))) := by
        refine loop_to (N := a) (st := fun b => spec_l03Normal_s1 m t out rest b) (fun b hb Q hq => ?_) (fun Q hq => ?_)
        · have c1 := run_l03First ht (m : Int) hr (a := (b : Int)) (by omega) (by omega)
          rw [hbelow b hb] at c1
          apply spec_l03Normal_r1_2
          case hq => exact hq
          all_goals first | exact c1 | (unfold B40 at hb; omega) | (simp; done)
        · have c1 := run_l03First ht (m : Int) hr (a := (a : Int)) (by omega) (by omega)
          rw [hfst] at c1
          have hix : rest.idxOf (a : Int) < rest.length := List.idxOf_lt_length_of_mem hmem
          have c2 := run_l03Without hix (by omega)
          rw [erase_idx] at c2
          apply spec_l03Normal_r1_1
          case hq => exact hq
          all_goals first | exact c1 | exact c2 | (simp only [if_true]; omega) | (unfold B40 at hb; omega)
      apply spec_l03Normal_r0_1
      case hq =>
        have := ih (out ++ [(a : Int)]) (rest.erase (a : Int)) (by rw [List.length_erase_of_mem hmem]; omega) (hr.erase _) (by simp; omega)
        rw [List.append_assoc] at this
        exact this
      all_goals first | exact inner | omega
  have h0 := loop w.length [] w rfl hw (by simpa using hl)
  exact spec_l03Normal_p1 (run_l01Own w (by unfold B40 at *; omega)) h0

end

def depZ (n : Nat) (d : List Int) (a b : Int) : Bool := decide (a = b) || (decide (0 ≤ a ∧ a < n ∧ 0 ≤ b ∧ b < n) && (dm d a.toNat).testBit b.toNat)

theorem depZ_sym {n : Nat} {d : List Int} (h : Al n d) (a b : Int) : depZ n d a b = depZ n d b a := by
  unfold depZ
  by_cases hr : 0 ≤ a ∧ a < n ∧ 0 ≤ b ∧ b < n
  · have hr' : 0 ≤ b ∧ b < n ∧ 0 ≤ a ∧ a < n := by omega
    rw [h.sym a.toNat b.toNat (by omega) (by omega)]
    have e : decide (a = b) = decide (b = a) := by rw [Bool.eq_iff_iff]; simp; omega
    simp [hr, hr', e]
  · have hr' : ¬ (0 ≤ b ∧ b < n ∧ 0 ≤ a ∧ a < n) := by omega
    have e : decide (a = b) = decide (b = a) := by rw [Bool.eq_iff_iff]; simp; omega
    simp only [hr, hr', decide_false, Bool.false_and, Bool.or_false, e]


def depA {n : Nat} {d : List Int} (h : Al n d) : Dep Int where
  d := depZ n d
  sym := depZ_sym h
  refl := fun a => by simp [depZ]

theorem tabA {n : Nat} {d : List Int} (h : Al n d) : Tab (depA h) n d := by
  refine ⟨h.len, by have := h.small; omega, fun a ha => ⟨dm d a, (h.mask a ha).2, (h.mask a ha).1, fun b hb => ?_⟩⟩
  show _ = depZ n d (a : Int) (b : Int)
  unfold depZ
  have hr : (0 : Int) ≤ (a : Int) ∧ (a : Int) < n ∧ (0 : Int) ≤ (b : Int) ∧ (b : Int) < n := by omega
  rw [decide_eq_true hr, Bool.true_and, Int.toNat_natCast, Int.toNat_natCast]
  by_cases e : (a : Int) = b
  · have e' : a = b := by omega
    subst e'
    rw [h.refl a ha]; simp
  · rw [decide_eq_false e, Bool.false_or]

end Go.PR.S
