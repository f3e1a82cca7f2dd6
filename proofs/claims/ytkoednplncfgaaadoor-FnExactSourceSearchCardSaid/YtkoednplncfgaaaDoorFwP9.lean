/- The laws' helpers over automata, and the law of CountRuns: it comes to true. -/
import Derived.Test.YtkoednplncfgaaaDoorFwP8
import Derived.Test.YtkoednplncfgaaaDoorFwG40
set_option linter.unusedVariables false
set_option linter.unusedSimpArgs false
set_option maxRecDepth 20000
namespace Go.PR.S
open Go Go.PR Go.Proofs
abbrev L63 : Nat := 9223372036854775807
theorem ztp (xs : List Int) (l : Int) (h0 : 0 ≤ l) (h1 : l ≤ B40) (hx : xs.length ≤ L63) : Runs X F.z49 [lD xs, iD l] [] (intR (if (xs.length : Int) ≤ l then l - xs.length else -1)) := by
  unfold B40 at h1; unfold L63 at hx
  by_cases h : (xs.length : Int) ≤ l
  · rw [if_pos h]; exact zfx (by omega) (by omega) (by omega)
  · rw [if_neg h]; exact zfw (by omega) (by omega) (by omega)
def leftR : Int → List (List Int) → Int
  | l, [] => l
  | l, xs :: xss => if (xs.length : Int) ≤ l then leftR (l - xs.length) xss else -1
theorem zbp : ∀ (xss : List (List Int)) (l : Int), 0 ≤ l → -1 ≤ leftR l xss ∧ leftR l xss ≤ l
  | [], l, h => by simp [leftR]; omega
  | xs :: xss, l, h => by
    rw [leftR]
    split
    · have := zbp xss (l - xs.length) (by omega); omega
    · omega
theorem zfy : ∀ (xss : List (List Int)) (l : Int), 0 ≤ l → 0 ≤ leftR l xss → ∀ xs ∈ xss, (xs.length : Int) ≤ l
  | [], l, h, _ => by simp
  | xs :: xss, l, h, h1 => by
    rw [leftR] at h1
    split at h1
    · have := zfy xss (l - xs.length) (by omega) h1
      intro ys hy
      rcases List.mem_cons.1 hy with rfl | hy
      · assumption
      · have := this ys hy; omega
    · omega
theorem ztq (xss : List (List Int)) (l : Int) (h0 : 0 ≤ l) (h1 : l ≤ B40) (hx : xss.length ≤ L63) (hw : ∀ xs ∈ xss, xs.length ≤ L63) :
    Runs X F.z1w [.imm2 .i64 xss, iD l] [] (intR (if (xss.length : Int) ≤ l then leftR (l - xss.length) xss else -1)) := by
  have h1' := h1
  have hx' := hx
  unfold B40 at h1'; unfold L63 at hx'
  by_cases h : (xss.length : Int) ≤ l
  · rw [if_pos h]
    have lp : ∀ (m i : Nat) (t : Int), i + m = xss.length → 0 ≤ t → t ≤ l →
        if 0 ≤ leftR t (xss.drop i) then WL F.z1w 0 Tryd.f52 0 (z3m xss t i) (z91 (leftR t (xss.drop i))) else ∃ t', WL F.z1w 0 Tryd.f52 0 (z3m xss t i) (z90 t') := by
      intro m
      induction m with
      | zero =>
        intro i t hi ht0 htl
        have hd : xss.drop i = [] := List.drop_of_length_le (by omega)
        rw [hd, leftR, if_pos ht0]
        apply zqh
        case hq => rfl
        all_goals omega
      | succ m ih =>
        intro i t hi ht0 htl
        have hd : xss.drop i = xss.getD i [] :: xss.drop (i + 1) := by rw [getR_lt (by omega)]; exact List.drop_eq_getElem_cons (by omega)
        have hmem : (xss.getD i []).length ≤ L63 := hw _ (by rw [getR_lt (by omega)]; exact List.getElem_mem _)
        have c := ztp (xss.getD i []) t ht0 (by unfold B40; omega) hmem
        rw [hd, leftR]
        by_cases hle : ((xss.getD i []).length : Int) ≤ t
        · rw [if_pos hle] at c ⊢
          have := ih (i + 1) (t - (xss.getD i []).length) (by omega) (by omega) (by omega)
          split
          · rename_i hp
            rw [if_pos hp] at this
            apply zfu
            case hq => exact this
            all_goals first | exact c | omega
          · rename_i hp
            rw [if_neg hp] at this
            obtain ⟨t', this⟩ := this
            refine ⟨t', ?_⟩
            apply zfu
            case hq => exact this
            all_goals first | exact c | omega
        · rw [if_neg hle] at c ⊢
          rw [if_neg (by omega)]
          refine ⟨-1, ?_⟩
          apply zqg
          case hq => rfl
          all_goals first | exact c | omega
    have := lp xss.length 0 (l - xss.length) (by omega) (by omega) (by omega)
    rw [List.drop_zero] at this
    split at this
    · exact zqf (by omega) (by omega) (by omega) this
    · rename_i hp
      obtain ⟨t', this⟩ := this
      have hle := zbp xss (l - xss.length) (by omega)
      have e : leftR (l - xss.length) xss = -1 := by omega
      rw [e]
      exact zqe (by omega) (by omega) (by omega) this
  · rw [if_neg h]
    exact zqd (by omega) (by omega) (by omega)
theorem zho {α : Type} {w : List α} {z x : α} {i : Nat} (h : i < w.length) (hx : x = w[i]) : (w.take i ++ List.replicate (w.length - i) z).set i x = w.take (i + 1) ++ List.replicate (w.length - (i + 1)) z := by
  have e : w.length - i = (w.length - (i + 1)) + 1 := by omega
  rw [List.set_append, if_neg (by rw [List.length_take]; omega), List.length_take, Nat.min_eq_left (by omega), Nat.sub_self, e, List.replicate_succ, List.set_cons_zero, List.take_add_one, List.getElem?_eq_getElem h, hx, List.append_assoc]
  rfl
theorem zhd (xs : List Int) (hx : xs.length ≤ B40) : Runs X F.z35 [lD xs] [] (rowR xs) := by
  unfold B40 at hx
  have lp : WL F.z35 0 Tryd.f33 0 (z57 xs 0 (List.replicate xs.length 0)) (z93 xs xs) := by
    refine loop_to (N := xs.length) (st := fun i => z57 xs i (xs.take i ++ List.replicate (xs.length - i) 0)) (fun i hi Q hqq => ?_) (fun Q hqq => ?_)
    · rw [← zho hi (getD_lt hi)] at hqq
      apply zqs
      case hq => rw [Nat.zero_add]; exact hqq
      all_goals first | omega | (simp; omega)
    · rw [List.take_length, Nat.sub_self, List.replicate_zero, List.append_nil]
      apply zqt
      case hq => exact hqq
      all_goals first | omega | rfl
  exact zqr (by omega) lp
theorem ztt (N : List (List Int)) (hx : N.length ≤ B40) (hw : ∀ xs ∈ N, xs.length ≤ B40) : Runs X F.z3n [.imm2 .i64 N] [] ⟨.nsl 600000 N.length, [], [⟨true, .nest .i64 N⟩]⟩ := by
  unfold B40 at hx
  have lp : WL F.z3n 0 Tryd.f56 0 (z56 N 0 (List.replicate N.length [])) (z92 N N) := by
    refine loop_to (N := N.length) (st := fun i => z56 N i (N.take i ++ List.replicate (N.length - i) [])) (fun i hi Q hqq => ?_) (fun Q hqq => ?_)
    · rw [← zho hi (getR_lt hi)] at hqq
      have c := zhd (N.getD i []) (hw _ (by rw [getR_lt hi]; exact List.getElem_mem hi))
      apply zqo
      case hq => exact hqq
      all_goals first | omega | exact c | (simp; omega)
    · rw [List.take_length, Nat.sub_self, List.replicate_zero, List.append_nil]
      apply zqp
      case hq => exact hqq
      all_goals first | omega | rfl
  exact zqn (by omega) lp
theorem zts (n s f : Int) (N : List (List Int)) (hx : N.length ≤ B40) (hw : ∀ xs ∈ N, xs.length ≤ B40) : Runs X F.z55 [auD n s f N] [] ⟨.agg [.int .i64 n, .int .i64 s, .int .i64 f, .nsl 600000 N.length], [], [⟨true, .nest .i64 N⟩]⟩ :=
  zql (ztt N hx hw)
theorem zh7 (xs : List Int) (hx : xs.length ≤ B40) : Runs X F.z32 [lD xs, lD xs] [] (boolR true) := by
  unfold B40 at hx
  have lp : WL F.z32 0 Tryd.f36 0 (z52 xs xs 0) (z8s) := by
    refine loop_to (N := xs.length) (st := fun i => z52 xs xs i) (fun i hi Q hqq => ?_) (fun Q hqq => ?_)
    · apply zpk
      case hq => exact hqq
      all_goals first | omega | rfl
    · apply zpl
      case hq => exact hqq
      all_goals first | omega | rfl
  exact zpj rfl lp
theorem zh8 (N : List (List Int)) (hx : N.length ≤ B40) (hw : ∀ xs ∈ N, xs.length ≤ B40) : Runs X F.z2d [.imm2 .i64 N, .imm2 .i64 N] [] (boolR true) := by
  unfold B40 at hx
  have lp : WL F.z2d 0 Tryd.f43 0 (z51 N N 0) (z8r) := by
    refine loop_to (N := N.length) (st := fun i => z51 N N i) (fun i hi Q hqq => ?_) (fun Q hqq => ?_)
    · have c := zh7 (N.getD i []) (hw _ (by rw [getR_lt hi]; exact List.getElem_mem hi))
      apply zpg
      case hq => exact hqq
      all_goals first | omega | exact c | rfl
    · apply zph
      case hq => exact hqq
      all_goals first | omega | rfl
  exact zpf rfl lp
theorem zss (n s f : Int) (N : List (List Int)) (hx : N.length ≤ B40) (hw : ∀ xs ∈ N, xs.length ≤ B40) : Runs X F.z8q [auD n s f N, auD n s f N] [] (boolR true) :=
  zpd rfl rfl rfl (zh8 N hx hw) rfl
end Go.PR.S
