/- The laws' helpers over automata, and the law of CountRuns: it comes to true. -/
import Derived.Test.YtkoednplncfgaaaDoorFwP8
import Derived.Test.YtkoednplncfgaaaDoorFwG40
set_option linter.unusedVariables false
set_option linter.unusedSimpArgs false
set_option maxRecDepth 20000
namespace Go.PR.S
open Go Go.PR Go.Proofs
abbrev L63 : Nat := 9223372036854775807
theorem zu0 (xs : List Int) (l : Int) (h0 : 0 ≤ l) (h1 : l ≤ B40) (hx : xs.length ≤ L63) : Runs X F.z4g [lD xs, iD l] [] (intR (if (xs.length : Int) ≤ l then l - xs.length else -1)) := by
  unfold B40 at h1; unfold L63 at hx
  by_cases h : (xs.length : Int) ≤ l
  · rw [if_pos h]; exact zg1 (by omega) (by omega) (by omega)
  · rw [if_neg h]; exact zg0 (by omega) (by omega) (by omega)
def leftR : Int → List (List Int) → Int
  | l, [] => l
  | l, xs :: xss => if (xs.length : Int) ≤ l then leftR (l - xs.length) xss else -1
theorem zbt : ∀ (xss : List (List Int)) (l : Int), 0 ≤ l → -1 ≤ leftR l xss ∧ leftR l xss ≤ l
  | [], l, h => by simp [leftR]; omega
  | xs :: xss, l, h => by
    rw [leftR]
    split
    · have := zbt xss (l - xs.length) (by omega); omega
    · omega
theorem zg2 : ∀ (xss : List (List Int)) (l : Int), 0 ≤ l → 0 ≤ leftR l xss → ∀ xs ∈ xss, (xs.length : Int) ≤ l
  | [], l, h, _ => by simp
  | xs :: xss, l, h, h1 => by
    rw [leftR] at h1
    split at h1
    · have := zg2 xss (l - xs.length) (by omega) h1
      intro ys hy
      rcases List.mem_cons.1 hy with rfl | hy
      · assumption
      · have := this ys hy; omega
    · omega
theorem zu1 (xss : List (List Int)) (l : Int) (h0 : 0 ≤ l) (h1 : l ≤ B40) (hx : xss.length ≤ L63) (hw : ∀ xs ∈ xss, xs.length ≤ L63) :
    Runs X F.z1t [.imm2 .i64 xss, iD l] [] (intR (if (xss.length : Int) ≤ l then leftR (l - xss.length) xss else -1)) := by
  have h1' := h1
  have hx' := hx
  unfold B40 at h1'; unfold L63 at hx'
  by_cases h : (xss.length : Int) ≤ l
  · rw [if_pos h]
    have lp : ∀ (m i : Nat) (t : Int), i + m = xss.length → 0 ≤ t → t ≤ l →
        if 0 ≤ leftR t (xss.drop i) then WL F.z1t 0 Tryd.f52 0 (z3q xss t i) (z98 (leftR t (xss.drop i))) else ∃ t', WL F.z1t 0 Tryd.f52 0 (z3q xss t i) (z97 t') := by
      intro m
      induction m with
      | zero =>
        intro i t hi ht0 htl
        have hd : xss.drop i = [] := List.drop_of_length_le (by omega)
        rw [hd, leftR, if_pos ht0]
        apply zqu
        case hq => rfl
        all_goals omega
      | succ m ih =>
        intro i t hi ht0 htl
        have hd : xss.drop i = xss.getD i [] :: xss.drop (i + 1) := by rw [getR_lt (by omega)]; exact List.drop_eq_getElem_cons (by omega)
        have hmem : (xss.getD i []).length ≤ L63 := hw _ (by rw [getR_lt (by omega)]; exact List.getElem_mem _)
        have c := zu0 (xss.getD i []) t ht0 (by unfold B40; omega) hmem
        rw [hd, leftR]
        by_cases hle : ((xss.getD i []).length : Int) ≤ t
        · rw [if_pos hle] at c ⊢
          have := ih (i + 1) (t - (xss.getD i []).length) (by omega) (by omega) (by omega)
          split
          · rename_i hp
            rw [if_pos hp] at this
            apply zfy
            case hq => exact this
            all_goals first | exact c | omega
          · rename_i hp
            rw [if_neg hp] at this
            obtain ⟨t', this⟩ := this
            refine ⟨t', ?_⟩
            apply zfy
            case hq => exact this
            all_goals first | exact c | omega
        · rw [if_neg hle] at c ⊢
          rw [if_neg (by omega)]
          refine ⟨-1, ?_⟩
          apply zqt
          case hq => rfl
          all_goals first | exact c | omega
    have := lp xss.length 0 (l - xss.length) (by omega) (by omega) (by omega)
    rw [List.drop_zero] at this
    split at this
    · exact zqs (by omega) (by omega) (by omega) this
    · rename_i hp
      obtain ⟨t', this⟩ := this
      have hle := zbt xss (l - xss.length) (by omega)
      have e : leftR (l - xss.length) xss = -1 := by omega
      rw [e]
      exact zqr (by omega) (by omega) (by omega) this
  · rw [if_neg h]
    exact zqq (by omega) (by omega) (by omega)
theorem zht {α : Type} {w : List α} {z x : α} {i : Nat} (h : i < w.length) (hx : x = w[i]) : (w.take i ++ List.replicate (w.length - i) z).set i x = w.take (i + 1) ++ List.replicate (w.length - (i + 1)) z := by
  have e : w.length - i = (w.length - (i + 1)) + 1 := by omega
  rw [List.set_append, if_neg (by rw [List.length_take]; omega), List.length_take, Nat.min_eq_left (by omega), Nat.sub_self, e, List.replicate_succ, List.set_cons_zero, List.take_add_one, List.getElem?_eq_getElem h, hx, List.append_assoc]
  rfl
theorem zhi (xs : List Int) (hx : xs.length ≤ B40) : Runs X F.z37 [lD xs] [] (rowR xs) := by
  unfold B40 at hx
  have lp : WL F.z37 0 Tryd.f33 0 (z59 xs 0 (List.replicate xs.length 0)) (z9a xs xs) := by
    refine loop_to (N := xs.length) (st := fun i => z59 xs i (xs.take i ++ List.replicate (xs.length - i) 0)) (fun i hi Q hqq => ?_) (fun Q hqq => ?_)
    · rw [← zht hi (getD_lt hi)] at hqq
      apply zr5
      case hq => rw [Nat.zero_add]; exact hqq
      all_goals first | omega | (simp; omega)
    · rw [List.take_length, Nat.sub_self, List.replicate_zero, List.append_nil]
      apply zr6
      case hq => exact hqq
      all_goals first | omega | rfl
  exact zr4 (by omega) lp
theorem zu4 (N : List (List Int)) (hx : N.length ≤ B40) (hw : ∀ xs ∈ N, xs.length ≤ B40) : Runs X F.z3r [.imm2 .i64 N] [] ⟨.nsl 600000 N.length, [], [⟨true, .nest .i64 N⟩]⟩ := by
  unfold B40 at hx
  have lp : WL F.z3r 0 Tryd.f56 0 (z58 N 0 (List.replicate N.length [])) (z99 N N) := by
    refine loop_to (N := N.length) (st := fun i => z58 N i (N.take i ++ List.replicate (N.length - i) [])) (fun i hi Q hqq => ?_) (fun Q hqq => ?_)
    · rw [← zht hi (getR_lt hi)] at hqq
      have c := zhi (N.getD i []) (hw _ (by rw [getR_lt hi]; exact List.getElem_mem hi))
      apply zr1
      case hq => exact hqq
      all_goals first | omega | exact c | (simp; omega)
    · rw [List.take_length, Nat.sub_self, List.replicate_zero, List.append_nil]
      apply zr2
      case hq => exact hqq
      all_goals first | omega | rfl
  exact zr0 (by omega) lp
theorem zu3 (n s f : Int) (N : List (List Int)) (hx : N.length ≤ B40) (hw : ∀ xs ∈ N, xs.length ≤ B40) : Runs X F.z57 [auD n s f N] [] ⟨.agg [.int .i64 n, .int .i64 s, .int .i64 f, .nsl 600000 N.length], [], [⟨true, .nest .i64 N⟩]⟩ :=
  zqy (zu4 N hx hw)
theorem zhc (xs : List Int) (hx : xs.length ≤ B40) : Runs X F.z34 [lD xs, lD xs] [] (boolR true) := by
  unfold B40 at hx
  have lp : WL F.z34 0 Tryd.f36 0 (z54 xs xs 0) (z8z) := by
    refine loop_to (N := xs.length) (st := fun i => z54 xs xs i) (fun i hi Q hqq => ?_) (fun Q hqq => ?_)
    · apply zpx
      case hq => exact hqq
      all_goals first | omega | rfl
    · apply zpy
      case hq => exact hqq
      all_goals first | omega | rfl
  exact zpw rfl lp
theorem zhd (N : List (List Int)) (hx : N.length ≤ B40) (hw : ∀ xs ∈ N, xs.length ≤ B40) : Runs X F.z2f [.imm2 .i64 N, .imm2 .i64 N] [] (boolR true) := by
  unfold B40 at hx
  have lp : WL F.z2f 0 Tryd.f43 0 (z53 N N 0) (z8y) := by
    refine loop_to (N := N.length) (st := fun i => z53 N N i) (fun i hi Q hqq => ?_) (fun Q hqq => ?_)
    · have c := zhc (N.getD i []) (hw _ (by rw [getR_lt hi]; exact List.getElem_mem hi))
      apply zpt
      case hq => exact hqq
      all_goals first | omega | exact c | rfl
    · apply zpu
      case hq => exact hqq
      all_goals first | omega | rfl
  exact zps rfl lp
theorem zt5 (n s f : Int) (N : List (List Int)) (hx : N.length ≤ B40) (hw : ∀ xs ∈ N, xs.length ≤ B40) : Runs X F.z8x [auD n s f N, auD n s f N] [] (boolR true) :=
  zpq rfl rfl rfl (zhd N hx hw) rfl
end Go.PR.S
