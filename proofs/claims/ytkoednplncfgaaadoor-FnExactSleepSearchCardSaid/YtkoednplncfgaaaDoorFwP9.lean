/- The laws' helpers over automata, and the law of CountRuns: it comes to true. -/
import Derived.Test.YtkoednplncfgaaaDoorFwP8
import Derived.Test.YtkoednplncfgaaaDoorFwG40
/- The laws' helpers over automata, and the law of CountRuns: it comes to true. -/
set_option linter.unusedVariables false
set_option linter.unusedSimpArgs false
set_option maxRecDepth 20000
namespace Go.PR.S
open Go Go.PR Go.Proofs

abbrev L63 : Nat := 9223372036854775807

theorem run_szInt64S (xs : List Int) (l : Int) (h0 : 0 ≤ l) (h1 : l ≤ B40) (hx : xs.length ≤ L63) : Runs X F.laws_szInt64S [lD xs, iD l] [] (intR (if (xs.length : Int) ≤ l then l - xs.length else -1)) := by
  unfold B40 at h1; unfold L63 at hx
  by_cases h : (xs.length : Int) ≤ l
  · rw [if_pos h]; exact laws_szInt64S_p2 (by omega) (by omega) (by omega)
  · rw [if_neg h]; exact laws_szInt64S_p1 (by omega) (by omega) (by omega)

def leftR : Int → List (List Int) → Int
  | l, [] => l
  | l, xs :: xss => if (xs.length : Int) ≤ l then leftR (l - xs.length) xss else -1

theorem leftR_le : ∀ (xss : List (List Int)) (l : Int), 0 ≤ l → -1 ≤ leftR l xss ∧ leftR l xss ≤ l
  | [], l, h => by simp [leftR]; omega
  | xs :: xss, l, h => by
    rw [leftR]
    split
    · have := leftR_le xss (l - xs.length) (by omega); omega
    · omega

theorem leftR_mem : ∀ (xss : List (List Int)) (l : Int), 0 ≤ l → 0 ≤ leftR l xss → ∀ xs ∈ xss, (xs.length : Int) ≤ l
  | [], l, h, _ => by simp
  | xs :: xss, l, h, h1 => by
    rw [leftR] at h1
    split at h1
    · have := leftR_mem xss (l - xs.length) (by omega) h1
      intro ys hy
      rcases List.mem_cons.1 hy with rfl | hy
      · assumption
      · have := this ys hy; omega
    · omega

theorem run_szInt64SS (xss : List (List Int)) (l : Int) (h0 : 0 ≤ l) (h1 : l ≤ B40) (hx : xss.length ≤ L63) (hw : ∀ xs ∈ xss, xs.length ≤ L63) :
    Runs X F.laws_szInt64SS [.imm2 .i64 xss, iD l] [] (intR (if (xss.length : Int) ≤ l then leftR (l - xss.length) xss else -1)) := by
  have h1' := h1
  have hx' := hx
  unfold B40 at h1'; unfold L63 at hx'
  by_cases h : (xss.length : Int) ≤ l
  · rw [if_pos h]
    have lp : ∀ (m i : Nat) (t : Int), i + m = xss.length → 0 ≤ t → t ≤ l →
        if 0 ≤ leftR t (xss.drop i) then WL F.laws_szInt64SS 0 Tryd.f52 0 (laws_szInt64SS_s0 xss t i) (laws_szInt64SS_o0_2 (leftR t (xss.drop i))) else ∃ t', WL F.laws_szInt64SS 0 Tryd.f52 0 (laws_szInt64SS_s0 xss t i) (laws_szInt64SS_o0_1 t') := by
      intro m
      induction m with
      | zero =>
        intro i t hi ht0 htl
        have hd : xss.drop i = [] := List.drop_of_length_le (by omega)
        rw [hd, leftR, if_pos ht0]
        apply laws_szInt64SS_r0_3
        case hq => rfl
        all_goals omega
      | succ m ih =>
        intro i t hi ht0 htl
        have hd : xss.drop i = xss.getD i [] :: xss.drop (i + 1) := by rw [getR_lt (by omega)]; exact List.drop_eq_getElem_cons (by omega)
        have hmem : (xss.getD i []).length ≤ L63 := hw _ (by rw [getR_lt (by omega)]; exact List.getElem_mem _)
        have c := run_szInt64S (xss.getD i []) t ht0 (by unfold B40; omega) hmem
        rw [hd, leftR]
        by_cases hle : ((xss.getD i []).length : Int) ≤ t
        · rw [if_pos hle] at c ⊢
          have := ih (i + 1) (t - (xss.getD i []).length) (by omega) (by omega) (by omega)
          split
          · rename_i hp
            rw [if_pos hp] at this
            apply laws_szInt64SS_r0_2
            case hq => exact this
            all_goals first | exact c | omega
          · rename_i hp
            rw [if_neg hp] at this
            obtain ⟨t', this⟩ := this
            refine ⟨t', ?_⟩
            apply laws_szInt64SS_r0_2
            case hq => exact this
            all_goals first | exact c | omega
        · rw [if_neg hle] at c ⊢
          rw [if_neg (by omega)]
          refine ⟨-1, ?_⟩
          apply laws_szInt64SS_r0_1
          case hq => rfl
          all_goals first | exact c | omega
    have := lp xss.length 0 (l - xss.length) (by omega) (by omega) (by omega)
    rw [List.drop_zero] at this
    split at this
    · exact laws_szInt64SS_p3 (by omega) (by omega) (by omega) this
    · rename_i hp
      obtain ⟨t', this⟩ := this
      have hle := leftR_le xss (l - xss.length) (by omega)
      have e : leftR (l - xss.length) xss = -1 := by omega
      rw [e]
      exact laws_szInt64SS_p2 (by omega) (by omega) (by omega) this
  · rw [if_neg h]
    exact laws_szInt64SS_p1 (by omega) (by omega) (by omega)

theorem set_take {α : Type} {w : List α} {z x : α} {i : Nat} (h : i < w.length) (hx : x = w[i]) : (w.take i ++ List.replicate (w.length - i) z).set i x = w.take (i + 1) ++ List.replicate (w.length - (i + 1)) z := by
  have e : w.length - i = (w.length - (i + 1)) + 1 := by omega
  rw [List.set_append, if_neg (by rw [List.length_take]; omega), List.length_take, Nat.min_eq_left (by omega), Nat.sub_self, e, List.replicate_succ, List.set_cons_zero, List.take_add_one, List.getElem?_eq_getElem h, hx, List.append_assoc]
  rfl

theorem run_toInt64S (xs : List Int) (hx : xs.length ≤ B40) : Runs X F.laws_toInt64S [lD xs] [] (rowR xs) := by
  unfold B40 at hx
  have lp : WL F.laws_toInt64S 0 Tryd.f33 0 (laws_toInt64S_s0 xs 0 (List.replicate xs.length 0)) (laws_toInt64S_o0_1 xs xs) := by
    refine loop_to (N := xs.length) (st := fun i => laws_toInt64S_s0 xs i (xs.take i ++ List.replicate (xs.length - i) 0)) (fun i hi Q hqq => ?_) (fun Q hqq => ?_)
    · rw [← set_take hi (getD_lt hi)] at hqq
      apply laws_toInt64S_r0_1
      case hq => rw [Nat.zero_add]; exact hqq
      all_goals first | omega | (simp; omega)
    · rw [List.take_length, Nat.sub_self, List.replicate_zero, List.append_nil]
      apply laws_toInt64S_r0_2
      case hq => exact hqq
      all_goals first | omega | rfl
  exact laws_toInt64S_p1 (by omega) lp

theorem run_toInt64SS (N : List (List Int)) (hx : N.length ≤ B40) (hw : ∀ xs ∈ N, xs.length ≤ B40) : Runs X F.laws_toInt64SS [.imm2 .i64 N] [] ⟨.nsl 600000 N.length, [], [⟨true, .nest .i64 N⟩]⟩ := by
  unfold B40 at hx
  have lp : WL F.laws_toInt64SS 0 Tryd.f56 0 (laws_toInt64SS_s0 N 0 (List.replicate N.length [])) (laws_toInt64SS_o0_1 N N) := by
    refine loop_to (N := N.length) (st := fun i => laws_toInt64SS_s0 N i (N.take i ++ List.replicate (N.length - i) [])) (fun i hi Q hqq => ?_) (fun Q hqq => ?_)
    · rw [← set_take hi (getR_lt hi)] at hqq
      have c := run_toInt64S (N.getD i []) (hw _ (by rw [getR_lt hi]; exact List.getElem_mem hi))
      apply laws_toInt64SS_r0_1
      case hq => exact hqq
      all_goals first | omega | exact c | (simp; omega)
    · rw [List.take_length, Nat.sub_self, List.replicate_zero, List.append_nil]
      apply laws_toInt64SS_r0_2
      case hq => exact hqq
      all_goals first | omega | rfl
  exact laws_toInt64SS_p1 (by omega) lp

theorem run_toAutomaton (n s f : Int) (N : List (List Int)) (hx : N.length ≤ B40) (hw : ∀ xs ∈ N, xs.length ≤ B40) : Runs X F.laws_toAutomaton [auD n s f N] [] ⟨.agg [.int .i64 n, .int .i64 s, .int .i64 f, .nsl 600000 N.length], [], [⟨true, .nest .i64 N⟩]⟩ :=
  laws_toAutomaton_p1 (run_toInt64SS N hx hw)

theorem run_eqInt64S (xs : List Int) (hx : xs.length ≤ B40) : Runs X F.laws_eqInt64S [lD xs, lD xs] [] (boolR true) := by
  unfold B40 at hx
  have lp : WL F.laws_eqInt64S 0 Tryd.f36 0 (laws_eqInt64S_s0 xs xs 0) (laws_eqInt64S_o0_2) := by
    refine loop_to (N := xs.length) (st := fun i => laws_eqInt64S_s0 xs xs i) (fun i hi Q hqq => ?_) (fun Q hqq => ?_)
    · apply laws_eqInt64S_r0_2
      case hq => exact hqq
      all_goals first | omega | rfl
    · apply laws_eqInt64S_r0_3
      case hq => exact hqq
      all_goals first | omega | rfl
  exact laws_eqInt64S_p3 rfl lp

theorem run_eqInt64SS (N : List (List Int)) (hx : N.length ≤ B40) (hw : ∀ xs ∈ N, xs.length ≤ B40) : Runs X F.laws_eqInt64SS [.imm2 .i64 N, .imm2 .i64 N] [] (boolR true) := by
  unfold B40 at hx
  have lp : WL F.laws_eqInt64SS 0 Tryd.f43 0 (laws_eqInt64SS_s0 N N 0) (laws_eqInt64SS_o0_2) := by
    refine loop_to (N := N.length) (st := fun i => laws_eqInt64SS_s0 N N i) (fun i hi Q hqq => ?_) (fun Q hqq => ?_)
    · have c := run_eqInt64S (N.getD i []) (hw _ (by rw [getR_lt hi]; exact List.getElem_mem hi))
      apply laws_eqInt64SS_r0_2
      case hq => exact hqq
      all_goals first | omega | exact c | rfl
    · apply laws_eqInt64SS_r0_3
      case hq => exact hqq
      all_goals first | omega | rfl
  exact laws_eqInt64SS_p3 rfl lp

theorem run_eqAutomaton (n s f : Int) (N : List (List Int)) (hx : N.length ≤ B40) (hw : ∀ xs ∈ N, xs.length ≤ B40) : Runs X F.laws_eqAutomaton [auD n s f N, auD n s f N] [] (boolR true) :=
  laws_eqAutomaton_p5 rfl rfl rfl (run_eqInt64SS N hx hw) rfl

end Go.PR.S
