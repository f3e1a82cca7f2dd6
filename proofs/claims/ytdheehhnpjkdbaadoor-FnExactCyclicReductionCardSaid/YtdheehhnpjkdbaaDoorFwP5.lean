/- What the program's functions come to, fifth part: signed letters, words that are valid. -/
import Derived.Test.YtdheehhnpjkdbaaDoorFwP4
import Derived.Test.YtdheehhnpjkdbaaDoorFwG2
set_option linter.unusedVariables false
set_option maxRecDepth 20000
namespace Go.PR.S
open Go Go.PR Go.Proofs Gp

/-- A loop that goes on while a test holds, N rounds at most. -/
theorem loop_all {f : FuncId} {b : Nat} {body : Code} {st : Nat → LSt} {p : Nat → Bool} {oF oT : OutL} {N : Nat}
    (hS : ∀ i, i < N → p i = true → ∀ Q, WpL X f b body (st (i + 1)).st Q → WpL X f b body (st i).st Q)
    (hF : ∀ i, i < N → p i = false → ∀ Q : Out → Prop, Q oF.out → WpL X f b body (st i).st Q)
    (hE : ∀ Q : Out → Prop, Q oT.out → WpL X f b body (st N).st Q) :
    WpL X f b body (st 0).st (fun o => o = (if (List.range N).all p then oT else oF).out) := by
  have key : ∀ (n i : Nat), i + n = N → (∀ j, j < i → p j = true) → WpL X f b body (st i).st (fun o => o = (if (List.range N).all p then oT else oF).out) := by
    intro n
    induction n with
    | zero =>
      intro i hi hp
      obtain rfl : i = N := by omega
      have : (List.range i).all p = true := List.all_eq_true.2 fun j hj => hp j (List.mem_range.1 hj)
      rw [if_pos this]
      exact hE _ rfl
    | succ n ih =>
      intro i hi hp
      cases hpi : p i with
      | true =>
        refine hS i (by omega) hpi _ (ih (i + 1) (by omega) fun j hj => ?_)
        by_cases e : j = i
        · rw [e]; exact hpi
        · exact hp j (by omega)
      | false =>
        have : ¬ (List.range N).all p = true := fun h => by
          have := List.all_eq_true.1 h i (List.mem_range.2 (by omega))
          rw [hpi] at this; cases this
        rw [if_neg this]
        exact hF i (by omega) hpi _ rfl
  exact key N 0 (by omega) fun j hj => by omega

/-- A loop of N rounds. -/
theorem loop_to {f : FuncId} {b : Nat} {body : Code} {st : Nat → LSt} {o : OutL} {N : Nat}
    (hS : ∀ i, i < N → ∀ Q, WpL X f b body (st (i + 1)).st Q → WpL X f b body (st i).st Q)
    (hE : ∀ Q : Out → Prop, Q o.out → WpL X f b body (st N).st Q) : WpL X f b body (st 0).st (fun x => x = o.out) := by
  have key : ∀ (n i : Nat), i + n = N → WpL X f b body (st i).st (fun x => x = o.out) := by
    intro n
    induction n with
    | zero => intro i hi; obtain rfl : i = N := by omega
              exact hE _ rfl
    | succ n ih => intro i hi; exact hS i (by omega) _ (ih (i + 1) (by omega))
  exact key N 0 (by omega)

theorem range_all {l : List Int} {q : Int → Bool} : (List.range l.length).all (fun i => q (l.getD i 0)) = l.all q := by
  rw [Bool.eq_iff_iff, List.all_eq_true, List.all_eq_true]
  constructor
  · intro h x hx
    obtain ⟨i, hi, rfl⟩ := List.getElem_of_mem hx
    have := h i (List.mem_range.2 hi)
    rwa [getD_lt hi] at this
  · intro h i hi
    have hi := List.mem_range.1 hi
    rw [getD_lt hi]
    exact h _ (List.getElem_mem hi)

def code (s : Int) : Int := if s < 0 then -2 * s - 1 else 2 * s - 2
def sign (c : Int) : Int := if c % 2 = 1 then -(c / 2 + 1) else c / 2 + 1
def opp (a : Int) : Int := if a % 2 = 0 then a + 1 else a - 1
def Bd (w : List Int) : Prop := ∀ x ∈ w, -1000 ≤ x ∧ x ≤ 1000

theorem Bd.at {w : List Int} (h : Bd w) {i : Nat} (hi : i < w.length) : -1000 ≤ w.getD i 0 ∧ w.getD i 0 ≤ 1000 := by
  rw [getD_lt hi]; exact h _ (List.getElem_mem hi)

theorem map_take_succ {w : List Int} {g : Int → Int} {i : Nat} (h : i < w.length) : (w.take (i + 1)).map g = (w.take i).map g ++ [g (w.getD i 0)] := by
  rw [List.take_succ_eq_append_getElem h, List.map_append, getD_lt h]; rfl

theorem run_codeOf {s : Int} (h : -1000 ≤ s ∧ s ≤ 1000) : Runs X F.impl_codeOf [iD s] [] (intR (code s)) := by
  unfold code
  split
  · exact impl_codeOf_p1 (by omega) (by omega)
  · exact impl_codeOf_p2 (by omega) (by omega)

theorem run_codesOf {w : List Int} (h : Bd w) (hl : w.length ≤ B40) : Runs X F.impl_codesOf [lD w] [] (rowR (w.map code)) := by
  refine impl_codesOf_p1 (by unfold B40 at hl; omega) (loop_to (N := w.length) (st := fun i => impl_codesOf_s0 w i ((w.take i).map code)) (fun i hi Q hq => ?_) (fun Q hq => ?_))
  · have c1 := run_codeOf (h.at hi)
    apply impl_codesOf_r0_1
    case hq => rw [← map_take_succ hi]; exact hq
    all_goals first | exact c1 | (simp only [List.length_map, List.length_take]; unfold B40 at hl; omega) | (unfold B40 at hl; omega)
  · apply impl_codesOf_r0_2
    case hq => rw [List.take_length]; exact hq
    all_goals (unfold B40 at hl; omega)

theorem run_l09In {w : List Int} (h : Bd w) (h0 : ∀ x ∈ w, x ≠ 0) (hl : w.length ≤ B40) : Runs X F.spec_l09In [lD w] [] (rowR (w.map code)) := by
  refine spec_l09In_p1 (loop_to (N := w.length) (st := fun i => spec_l09In_s0 w i ((w.take i).map code)) (fun i hi Q hq => ?_) (fun Q hq => ?_))
  · have hb := h.at hi
    have hne : w.getD i 0 ≠ 0 := by rw [getD_lt hi]; exact h0 _ (List.getElem_mem hi)
    by_cases hp : w.getD i 0 > 0
    · apply spec_l09In_r0_1
      case hq =>
        have e : code (w.getD i 0) = 2 * w.getD i 0 - 2 := by unfold code; rw [if_neg (by omega)]
        rw [← e, ← map_take_succ hi]; exact hq
      all_goals first | (simp only [List.length_map, List.length_take]; unfold B40 at hl; omega) | (unfold B40 at hl; omega)
    · apply spec_l09In_r0_2
      case hq =>
        have e : code (w.getD i 0) = -2 * w.getD i 0 - 1 := by unfold code; rw [if_pos (by omega)]
        rw [← e, ← map_take_succ hi]; exact hq
      all_goals first | (simp only [List.length_map, List.length_take]; unfold B40 at hl; omega) | (unfold B40 at hl; omega)
  · apply spec_l09In_r0_3
    case hq => rw [List.take_length]; exact hq
    all_goals (unfold B40 at hl; omega)

theorem tm2 {c : Int} (h : 0 ≤ c) : c.tmod 2 = c % 2 ∧ c.tdiv 2 = c / 2 := ⟨Int.tmod_eq_emod_of_nonneg h, Int.tdiv_eq_ediv_of_nonneg h⟩

theorem run_signOf {c : Int} (h : 0 ≤ c ∧ c ≤ 1000) : Runs X F.impl_signOf [iD c] [] (intR (sign c)) := by
  obtain ⟨e1, e2⟩ := tm2 h.1
  unfold sign
  rw [← e1, ← e2]
  split
  · exact impl_signOf_p1 (by assumption) (by omega) (by omega) (by omega)
  · exact impl_signOf_p2 (by assumption) (by omega) (by omega) (by omega)

theorem Wd.at {m : Nat} {w : List Int} (h : Wd m w) {i : Nat} (hi : i < w.length) : 0 ≤ w.getD i 0 ∧ w.getD i 0 < m := by
  rw [getD_lt hi]; exact h _ (List.getElem_mem hi)

theorem run_signsOf {m : Nat} (hm : m ≤ 62) {w : List Int} (h : Wd m w) (hl : w.length ≤ B40) : Runs X F.impl_signsOf [lD w] [] (rowR (w.map sign)) := by
  refine impl_signsOf_p1 (by unfold B40 at hl; omega) (loop_to (N := w.length) (st := fun i => impl_signsOf_s0 w i ((w.take i).map sign)) (fun i hi Q hq => ?_) (fun Q hq => ?_))
  · have hb := Wd.at h hi
    have c1 := run_signOf (c := w.getD i 0) (by omega)
    apply impl_signsOf_r0_1
    case hq => rw [← map_take_succ hi]; exact hq
    all_goals first | exact c1 | (simp only [List.length_map, List.length_take]; unfold B40 at hl; omega) | (unfold B40 at hl; omega)
  · apply impl_signsOf_r0_2
    case hq => rw [List.take_length]; exact hq
    all_goals (unfold B40 at hl; omega)

theorem run_l09Out {m : Nat} (hm : m ≤ 62) {w : List Int} (h : Wd m w) (hl : w.length ≤ B40) : Runs X F.spec_l09Out [lD w] [] (rowR (w.map sign)) := by
  refine spec_l09Out_p1 (loop_to (N := w.length) (st := fun i => spec_l09Out_s0 w i ((w.take i).map sign)) (fun i hi Q hq => ?_) (fun Q hq => ?_))
  · have hb := Wd.at h hi
    obtain ⟨e1, e2⟩ := tm2 hb.1
    by_cases hp : (w.getD i 0) % 2 = 0
    · have e : sign (w.getD i 0) = (w.getD i 0).tdiv 2 + 1 := by unfold sign; rw [if_neg (by omega), e2]
      apply spec_l09Out_r0_1
      case hq => rw [← e, ← map_take_succ hi]; exact hq
      all_goals first | (simp only [List.length_map, List.length_take]; unfold B40 at hl; omega) | (unfold B40 at hl; omega)
    · have e : sign (w.getD i 0) = -(w.getD i 0).tdiv 2 - 1 := by unfold sign; rw [if_pos (by omega), e2]; omega
      apply spec_l09Out_r0_2
      case hq => rw [← e, ← map_take_succ hi]; exact hq
      all_goals first | (simp only [List.length_map, List.length_take]; unfold B40 at hl; omega) | (unfold B40 at hl; omega)
  · apply spec_l09Out_r0_3
    case hq => rw [List.take_length]; exact hq
    all_goals (unfold B40 at hl; omega)

theorem run_l09Opposite {a : Int} (h : 0 ≤ a ∧ a ≤ 1000) : Runs X F.spec_l09Opposite [iD a] [] (intR (opp a)) := by
  have e1 := (tm2 h.1).1
  have : opp a = a + 1 - 2 * a.tmod 2 := by unfold opp; rw [e1]; split <;> omega
  rw [this]
  apply spec_l09Opposite_p1
  all_goals omega

theorem run_l09Back {m : Nat} (hm : m ≤ 62) {w : List Int} (h : Wd m w) (hl : w.length ≤ B40) : Runs X F.spec_l09Back [lD w] [] (rowR ((w.map opp).reverse)) := by
  refine spec_l09Back_p1 (by unfold B40 at hl; omega) ?_
  have := loop_to (f := F.spec_l09Back) (b := 0) (body := lb Tryd.f54 0) (N := w.length) (o := spec_l09Back_o0_1 (w.map opp).reverse) (st := fun i => spec_l09Back_s0 w ((w.length : Int) - 1 - i) (((w.map opp).reverse).take i)) (fun i hi Q hq => ?_) (fun Q hq => ?_)
  · have e : ((w.length : Int) - 1 - (0 : Nat)) = (w.length : Int) - 1 := by omega
    simp only [List.take_zero] at this
    rw [e] at this
    exact this
  · have hj : w.length - 1 - i < w.length := by omega
    have e1 : ((w.length : Int) - 1 - i).toNat = w.length - 1 - i := by omega
    have hb := Wd.at h hj
    have c1 := run_l09Opposite (a := w.getD (w.length - 1 - i) 0) (by omega)
    rw [← e1] at c1
    have e2 : ((w.map opp).reverse).take (i + 1) = ((w.map opp).reverse).take i ++ [opp (w.getD ((w.length : Int) - 1 - i).toNat 0)] := by
      rw [List.take_succ_eq_append_getElem (by simpa using hi), List.getElem_reverse, List.getElem_map, e1, getD_lt hj]
      simp
    apply spec_l09Back_r0_1
    case hq =>
      rw [← e2]
      have e3 : (w.length : Int) - 1 - i - 1 = (w.length : Int) - 1 - ((i + 1 : Nat) : Int) := by omega
      rw [e3]; exact hq
    all_goals first | exact c1 | (simp only [List.length_map, List.length_take, List.length_reverse]; unfold B40 at hl; omega) | (unfold B40 at hl; omega)
  · apply spec_l09Back_r0_2
    case hq => rw [List.take_of_length_le (by simp)]; exact hq
    all_goals (unfold B40 at hl; omega)

/-! ### tests -/
theorem run_allInk1 (n a b : Int) : Runs X F.impl_allInk1 [iD n, .pim [iD a], .pim [iD b]] [] (boolR (!decide (a ≤ n ∧ n ≤ b))) := impl_allInk1_p1 (run_inRange n a b)

theorem run_allIn (w : List Int) (a b : Int) (hl : w.length ≤ B40) : Runs X F.impl_allIn [lD w, iD a, iD b] [] (boolR (w.all fun x => decide (a ≤ x ∧ x ≤ b))) := by
  let q : Int → Bool := fun x => decide (a ≤ x ∧ x ≤ b)
  by_cases hall : w.all q = true
  · have hq : ∀ j, j < w.length → q (w.getD j 0) = true := fun j hj => by rw [getD_lt hj]; exact List.all_eq_true.1 hall _ (List.getElem_mem hj)
    have h1 : Runs X F.slices_IndexFuncSint64int64 [lD w, .fn F.impl_allInk1 [.pim [iD a], .pim [iD b]]] [] (intR (-1)) := by
      refine slices_IndexFuncSint64int64_allIn_p2 (loop_to (N := w.length) (st := fun i => slices_IndexFuncSint64int64_allIn_s0 w a b i) (fun i hi Q hqq => ?_) (fun Q hqq => ?_))
      · have c1 := run_allInk1 (w.getD i 0) a b
        have hx := hq i hi
        apply slices_IndexFuncSint64int64_allIn_r0_2
        case hq => exact hqq
        all_goals first | exact c1 | (show (!q (w.getD i 0)) = false; rw [hx]; rfl) | (unfold B40 at hl; omega)
      · apply slices_IndexFuncSint64int64_allIn_r0_3
        case hq => exact hqq
        all_goals (unfold B40 at hl; omega)
    have h2 := slices_ContainsFuncSint64int64_allIn_p1 h1
    have h3 := impl_allIn_p1 h2
    rw [hall]
    exact h3
  · -- the first that does not fit
    obtain ⟨k, hk1, hk2, hk3⟩ : ∃ k, k < w.length ∧ q (w.getD k 0) = false ∧ ∀ j, j < k → q (w.getD j 0) = true := by
      have : ∃ k, k < w.length ∧ q (w.getD k 0) = false := by
        rw [← range_all, List.all_eq_true] at hall
        simp only [List.mem_range] at hall
        obtain ⟨k, hk⟩ := Classical.not_forall.1 hall
        obtain ⟨h1, h2⟩ := Classical.not_imp.1 hk
        exact ⟨k, h1, by simpa using h2⟩
      obtain ⟨k, hk⟩ := this
      induction k using Nat.strongRecOn with
      | _ k ih =>
        by_cases h : ∃ j, j < k ∧ q (w.getD j 0) = false
        · obtain ⟨j, hj, hjq⟩ := h; exact ih j hj ⟨by omega, hjq⟩
        · refine ⟨k, hk.1, hk.2, fun j hj => ?_⟩
          cases hh : q (w.getD j 0) with
          | true => rfl
          | false => exact (h ⟨j, hj, hh⟩).elim
    have h1 : Runs X F.slices_IndexFuncSint64int64 [lD w, .fn F.impl_allInk1 [.pim [iD a], .pim [iD b]]] [] (intR k) := by
      refine slices_IndexFuncSint64int64_allIn_p1 (loop_to (N := k) (st := fun i => slices_IndexFuncSint64int64_allIn_s0 w a b i) (fun i hi Q hqq => ?_) (fun Q hqq => ?_))
      · have c1 := run_allInk1 (w.getD i 0) a b
        have hx := hk3 i hi
        apply slices_IndexFuncSint64int64_allIn_r0_2
        case hq => exact hqq
        all_goals first | exact c1 | (show (!q (w.getD i 0)) = false; rw [hx]; rfl) | (unfold B40 at hl; omega)
      · have c1 := run_allInk1 (w.getD k 0) a b
        apply slices_IndexFuncSint64int64_allIn_r0_1
        case hq => exact hqq
        all_goals first | exact c1 | (show (!q (w.getD k 0)) = true; rw [hk2]; rfl) | (unfold B40 at hl; omega)
    have h2 := slices_ContainsFuncSint64int64_allIn_p1 h1
    have h3 := impl_allIn_p1 h2
    have e : w.all q = (!decide ((k : Int) ≥ 0)) := by simp at hall ⊢; simpa using hall
    rw [e]
    exact h3

end Go.PR.S
