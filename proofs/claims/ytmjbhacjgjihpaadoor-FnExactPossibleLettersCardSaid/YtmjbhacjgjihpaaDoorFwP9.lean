/- The laws' helpers over automata, and the law of CountRuns: it comes to true. -/
import Derived.Test.YtmjbhacjgjihpaaDoorFwP8
import Derived.Test.YtmjbhacjgjihpaaDoorFwG2
set_option linter.unusedVariables false
set_option linter.unusedSimpArgs false
set_option linter.unusedSectionVars false
set_option maxRecDepth 20000
namespace Go.PR.S
open Go Go.PR Go.Proofs
abbrev L63 : Nat := 9223372036854775807
theorem zcw (xs : List Int) (l : Int) (h0 : 0 ≤ l) (h1 : l ≤ B40) (hx : xs.length ≤ L63) : Runs X F.z9 [lD xs, iD l] [] (intR (if (xs.length : Int) ≤ l then l - xs.length else -1)) := by
  unfold B40 at h1; unfold L63 at hx
  by_cases h : (xs.length : Int) ≤ l
  · rw [if_pos h]; exact zj1 (by omega) (by omega) (by omega)
  · rw [if_neg h]; exact zj0 (by omega) (by omega) (by omega)
def leftR : Int → List (List Int) → Int
  | l, [] => l
  | l, xs :: xss => if (xs.length : Int) ≤ l then leftR (l - xs.length) xss else -1
theorem z88 : ∀ (xss : List (List Int)) (l : Int), 0 ≤ l → -1 ≤ leftR l xss ∧ leftR l xss ≤ l
  | [], l, h => by simp [leftR]; omega
  | xs :: xss, l, h => by
    rw [leftR]
    split
    · have := z88 xss (l - xs.length) (by omega); omega
    · omega
theorem zbr : ∀ (xss : List (List Int)) (l : Int), 0 ≤ l → 0 ≤ leftR l xss → ∀ xs ∈ xss, (xs.length : Int) ≤ l
  | [], l, h, _ => by simp
  | xs :: xss, l, h, h1 => by
    rw [leftR] at h1
    split at h1
    · have := zbr xss (l - xs.length) (by omega) h1
      intro ys hy
      rcases List.mem_cons.1 hy with rfl | hy
      · assumption
      · have := this ys hy; omega
    · omega
theorem zly (xss : List (List Int)) (l : Int) (h0 : 0 ≤ l) (h1 : l ≤ B40) (hx : xss.length ≤ L63) (hw : ∀ xs ∈ xss, xs.length ≤ L63) :
    Runs X F.z1d [.imm2 .i64 xss, iD l] [] (intR (if (xss.length : Int) ≤ l then leftR (l - xss.length) xss else -1)) := by
  have h1' := h1
  have hx' := hx
  unfold B40 at h1'; unfold L63 at hx'
  by_cases h : (xss.length : Int) ≤ l
  · rw [if_pos h]
    have lp : ∀ (m i : Nat) (t : Int), i + m = xss.length → 0 ≤ t → t ≤ l →
        if 0 ≤ leftR t (xss.drop i) then WL F.z1d 0 Tryd.f28 0 (z2l xss t i) (z60 (leftR t (xss.drop i))) else ∃ t', WL F.z1d 0 Tryd.f28 0 (z2l xss t i) (z5z t') := by
      intro m
      induction m with
      | zero =>
        intro i t hi ht0 htl
        have hd : xss.drop i = [] := List.drop_of_length_le (by omega)
        rw [hd, leftR, if_pos ht0]
        apply ziz
        case hq => rfl
        all_goals omega
      | succ m ih =>
        intro i t hi ht0 htl
        have hd : xss.drop i = xss.getD i [] :: xss.drop (i + 1) := by rw [getR_lt (by omega)]; exact List.drop_eq_getElem_cons (by omega)
        have hmem : (xss.getD i []).length ≤ L63 := hw _ (by rw [getR_lt (by omega)]; exact List.getElem_mem _)
        have c := zcw (xss.getD i []) t ht0 (by unfold B40; omega) hmem
        rw [hd, leftR]
        by_cases hle : ((xss.getD i []).length : Int) ≤ t
        · rw [if_pos hle] at c ⊢
          have := ih (i + 1) (t - (xss.getD i []).length) (by omega) (by omega) (by omega)
          split
          · rename_i hp
            rw [if_pos hp] at this
            apply zbn
            case hq => exact this
            all_goals first | exact c | omega
          · rename_i hp
            rw [if_neg hp] at this
            obtain ⟨t', this⟩ := this
            refine ⟨t', ?_⟩
            apply zbn
            case hq => exact this
            all_goals first | exact c | omega
        · rw [if_neg hle] at c ⊢
          rw [if_neg (by omega)]
          refine ⟨-1, ?_⟩
          apply ziy
          case hq => rfl
          all_goals first | exact c | omega
    have := lp xss.length 0 (l - xss.length) (by omega) (by omega) (by omega)
    rw [List.drop_zero] at this
    split at this
    · exact zix (by omega) (by omega) (by omega) this
    · rename_i hp
      obtain ⟨t', this⟩ := this
      have hle := z88 xss (l - xss.length) (by omega)
      have e : leftR (l - xss.length) xss = -1 := by omega
      rw [e]
      exact ziw (by omega) (by omega) (by omega) this
  · rw [if_neg h]
    exact ziv (by omega) (by omega) (by omega)
theorem z92 {α : Type} {w : List α} {z x : α} {i : Nat} (h : i < w.length) (hx : x = w[i]) : (w.take i ++ List.replicate (w.length - i) z).set i x = w.take (i + 1) ++ List.replicate (w.length - (i + 1)) z := by
  have e : w.length - i = (w.length - (i + 1)) + 1 := by omega
  rw [List.set_append, if_neg (by rw [List.length_take]; omega), List.length_take, Nat.min_eq_left (by omega), Nat.sub_self, e, List.replicate_succ, List.set_cons_zero, List.take_add_one, List.getElem?_eq_getElem h, hx, List.append_assoc]
  rfl
theorem z3v (xs : List Int) (hx : xs.length ≤ B40) : Runs X F.z11 [lD xs] [] (rowR xs) := by
  unfold B40 at hx
  have lp : WL F.z11 0 Tryd.f9 0 (z3m xs 0 (List.replicate xs.length 0)) (z64 xs xs) := by
    refine loop_to (N := xs.length) (st := fun i => z3m xs i (xs.take i ++ List.replicate (xs.length - i) 0)) (fun i hi Q hqq => ?_) (fun Q hqq => ?_)
    · rw [← z92 hi (getD_lt hi)] at hqq
      apply zjh
      case hq => rw [Nat.zero_add]; exact hqq
      all_goals first | omega | (simp; omega)
    · rw [List.take_length, Nat.sub_self, List.replicate_zero, List.append_nil]
      apply zji
      case hq => exact hqq
      all_goals first | omega | rfl
  exact zjg (by omega) lp
theorem zm1 (N : List (List Int)) (hx : N.length ≤ B40) (hw : ∀ xs ∈ N, xs.length ≤ B40) : Runs X F.z2n [.imm2 .i64 N] [] ⟨.rsl 600000 0 N.length, [], [⟨true, .ints2 .i64 N⟩]⟩ := by
  unfold B40 at hx
  have lp : WL F.z2n 0 Tryd.f33 0 (z3l N 0 (List.replicate N.length [])) (z63 N N) := by
    refine loop_to (N := N.length) (st := fun i => z3l N i (N.take i ++ List.replicate (N.length - i) [])) (fun i hi Q hqq => ?_) (fun Q hqq => ?_)
    · rw [← z92 hi (getR_lt hi)] at hqq
      have c := z3v (N.getD i []) (hw _ (by rw [getR_lt hi]; exact List.getElem_mem hi))
      apply zjd
      case hq => rw [Nat.zero_add]; exact hqq
      all_goals first | omega | exact c | (simp; omega)
    · rw [List.take_length, Nat.sub_self, List.replicate_zero, List.append_nil]
      apply zje
      case hq => exact hqq
      all_goals first | omega | rfl
  exact zjc (by omega) lp
theorem z3u (xs : List Int) (hx : xs.length ≤ B40) : Runs X F.z1c [lD xs, lD xs] [] (boolR true) := by
  unfold B40 at hx
  have lp : WL F.z1c 0 Tryd.f12 0 (z3k xs xs 0) (z5y) := by
    refine loop_to (N := xs.length) (st := fun i => z3k xs xs i) (fun i hi Q hqq => ?_) (fun Q hqq => ?_)
    · apply zii
      case hq => exact hqq
      all_goals first | omega | rfl
    · apply zij
      case hq => exact hqq
      all_goals first | omega | rfl
  exact zih rfl lp
theorem zlk (N : List (List Int)) (hx : N.length ≤ B40) (hw : ∀ xs ∈ N, xs.length ≤ B40) : Runs X F.z2k [.imm2 .i64 N, .imm2 .i64 N] [] (boolR true) := by
  unfold B40 at hx
  have lp : WL F.z2k 0 Tryd.f38 0 (z3j N N 0) (z5x) := by
    refine loop_to (N := N.length) (st := fun i => z3j N N i) (fun i hi Q hqq => ?_) (fun Q hqq => ?_)
    · have c := z3u (N.getD i []) (hw _ (by rw [getR_lt hi]; exact List.getElem_mem hi))
      apply zie
      case hq => exact hqq
      all_goals first | omega | exact c | rfl
    · apply zif
      case hq => exact hqq
      all_goals first | omega | rfl
  exact zid rfl lp
end Go.PR.S
