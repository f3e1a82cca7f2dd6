/- Both ends functions make the plain passes. -/
import Derived.Test.YtkoednplncfgaaaDoorFwP4
section
/- Both ends functions make the plain passes. -/
set_option linter.unusedVariables false
set_option linter.unusedSimpArgs false
set_option maxRecDepth 20000
namespace Go.PR.S
open Go Go.PR Go.Proofs

structure RowsP (N : List (List Int)) : Prop where
  l16 : N.length ≤ 16
  short : ∀ i, i < N.length → (N.getD i []).length ≤ 8
  below : ∀ i, i < N.length → ∀ a, a < (N.getD i []).length → (N.getD i []).getD a 0 < N.length

end Go.PR.S

end

section
/- Automata: both functions ask the same; the machine of an automaton; the possible letters of a state. -/
set_option linter.unusedVariables false
set_option linter.unusedSimpArgs false
set_option maxRecDepth 20000
namespace Go.PR.S
open Go Go.PR Go.Proofs

theorem run_isautk1 (n s f m : Int) (N : List (List Int)) (row : List Int) (hl : row.length ≤ B40) (h0 : 0 ≤ m) (h1 : m ≤ B40) : Runs X F.impl_IsAutomatonk1 [lD row, .pim [iD n, iD s, iD f, .imm2 .i64 N], .pim [iD m]] [] (boolR (!(rowOK n m row))) := by
  by_cases h : (row.length : Int) = n
  · have c := run_allIn row (-1) (m - 1) hl
    have : (!(rowOK n m row)) = !(row.all fun x => decide (-1 ≤ x ∧ x ≤ m - 1)) := by unfold rowOK; rw [decide_eq_true h, Bool.true_and]
    rw [this]
    unfold B40 at h1
    exact impl_IsAutomatonk1_p2 h (by omega) (by omega) c
  · have : (!(rowOK n m row)) = true := by unfold rowOK; rw [decide_eq_false h]; rfl
    rw [this]
    exact impl_IsAutomatonk1_p1 h

theorem run_CFisaut (n s f m : Int) (N w : List (List Int)) (hl : w.length ≤ B40) (hw : ∀ r ∈ w, r.length ≤ B40) (h0 : 0 ≤ m) (hm : m ≤ B40) : Runs X F.slices_ContainsFuncSSint64Sint64 [.imm2 .i64 w, .fn F.impl_IsAutomatonk1 [.pim [iD n, iD s, iD f, .imm2 .i64 N], .pim [iD m]]] [] (boolR (!(w.all (rowOK n m)))) := by
  let q : List Int → Bool := rowOK n m
  have hmem : ∀ j, j < w.length → (w.getD j []).length ≤ B40 := fun j hj => hw _ (by rw [getR_lt hj]; exact List.getElem_mem hj)
  by_cases hall : w.all q = true
  · have h1 : Runs X F.slices_IndexFuncSSint64Sint64 [.imm2 .i64 w, .fn F.impl_IsAutomatonk1 [.pim [iD n, iD s, iD f, .imm2 .i64 N], .pim [iD m]]] [] (intR (-1)) := by
      refine slices_IndexFuncSSint64Sint64_isaut_p2 (loop_to (N := w.length) (st := fun i => slices_IndexFuncSSint64Sint64_isaut_s0 n s f m N w i) (fun i hi Q hqq => ?_) (fun Q hqq => ?_))
      · have c1 := run_isautk1 n s f m N (w.getD i []) (hmem i hi) h0 hm
        have hx : q (w.getD i []) = true := by rw [getR_lt hi]; exact List.all_eq_true.1 hall _ (List.getElem_mem hi)
        apply slices_IndexFuncSSint64Sint64_isaut_r0_2
        case hq => exact hqq
        all_goals first | exact c1 | (show (!q (w.getD i [])) = false; rw [hx]; rfl) | (unfold B40 at hl; omega)
      · apply slices_IndexFuncSSint64Sint64_isaut_r0_3
        case hq => exact hqq
        all_goals (unfold B40 at hl; omega)
    rw [show (w.all (rowOK n m)) = true from hall]
    exact slices_ContainsFuncSSint64Sint64_isaut_p1 h1
  · rw [← range_allR] at hall
    obtain ⟨k, hk1, hk2, hk3⟩ := first_fail hall
    have h1 : Runs X F.slices_IndexFuncSSint64Sint64 [.imm2 .i64 w, .fn F.impl_IsAutomatonk1 [.pim [iD n, iD s, iD f, .imm2 .i64 N], .pim [iD m]]] [] (intR k) := by
      refine slices_IndexFuncSSint64Sint64_isaut_p1 (loop_to (N := k) (st := fun i => slices_IndexFuncSSint64Sint64_isaut_s0 n s f m N w i) (fun i hi Q hqq => ?_) (fun Q hqq => ?_))
      · have c1 := run_isautk1 n s f m N (w.getD i []) (hmem i (by omega)) h0 hm
        have hx := hk3 i hi
        apply slices_IndexFuncSSint64Sint64_isaut_r0_2
        case hq => exact hqq
        all_goals first | exact c1 | (show (!q (w.getD i [])) = false; rw [hx]; rfl) | (unfold B40 at hl; omega)
      · have c1 := run_isautk1 n s f m N (w.getD k []) (hmem k (by omega)) h0 hm
        apply slices_IndexFuncSSint64Sint64_isaut_r0_1
        case hq => exact hqq
        all_goals first | exact c1 | (show (!q (w.getD k [])) = true; rw [hk2]; rfl) | (unfold B40 at hl; omega)
    have h2 := slices_ContainsFuncSSint64Sint64_isaut_p1 h1
    rw [range_allR] at hall
    have e : (!(w.all (rowOK n m))) = decide ((k : Int) ≥ 0) := by
      have : w.all q = false := by simpa using hall
      rw [show (w.all (rowOK n m)) = false from this]; simp
    rw [e]
    exact h2

theorem run_IsAutomaton (n s f : Int) (N : List (List Int)) (hl : N.length ≤ B40) (hw : ∀ r ∈ N, r.length ≤ B40) : Runs X F.impl_IsAutomaton [auD n s f N] [] (boolR (autOK n s f N)) := by
  have hl' := hl
  unfold B40 at hl'
  have c1 := run_inRange n 0 8
  have c2 := run_inRange (N.length : Int) 1 16
  have c3 := run_inRange s 0 ((N.length : Int) - 1)
  unfold autOK
  by_cases h1 : 0 ≤ n ∧ n ≤ 8
  · rw [decide_eq_true h1] at c1 ⊢
    by_cases h2 : 1 ≤ (N.length : Int) ∧ (N.length : Int) ≤ 16
    · rw [decide_eq_true h2] at c2 ⊢
      by_cases h3 : 0 ≤ s ∧ s ≤ (N.length : Int) - 1
      · rw [decide_eq_true h3] at c3 ⊢
        have c4 := run_IsMask (N := N.length) (by omega) f
        by_cases h4 : 0 ≤ f ∧ f ≤ ((2 ^ N.length : Nat) : Int) - 1
        · rw [decide_eq_true h4] at c4 ⊢
          have c5 := run_CFisaut n s f N.length N N hl hw (by omega) (by unfold B40; omega)
          have := impl_IsAutomaton_p5 c1 rfl c2 rfl (by omega) c3 rfl c4 rfl c5
          rw [Bool.not_not] at this
          exact this
        · rw [decide_eq_false h4] at c4 ⊢
          exact impl_IsAutomaton_p4 c1 rfl c2 rfl (by omega) c3 rfl c4 rfl
      · rw [decide_eq_false h3] at c3 ⊢
        exact impl_IsAutomaton_p3 c1 rfl c2 rfl (by omega) c3 rfl
    · rw [decide_eq_false h2] at c2 ⊢
      exact impl_IsAutomaton_p2 c1 rfl c2 rfl
  · rw [decide_eq_false h1] at c1 ⊢
    exact impl_IsAutomaton_p1 c1 rfl

theorem run_l11Is (n s f : Int) (N : List (List Int)) (hl : N.length ≤ B40) : Runs X F.spec_l11Is [auD n s f N] [] (boolR (autOK n s f N)) := by
  have hl' := hl
  unfold B40 at hl'
  have c1 := run_l01In n 0 8
  have c2 := run_l01In (N.length : Int) 1 16
  have c3 := run_l01In s 0 ((N.length : Int) - 1)
  unfold autOK
  by_cases h1 : 0 ≤ n ∧ n ≤ 8
  · rw [decide_eq_true h1] at c1 ⊢
    by_cases h2 : 1 ≤ (N.length : Int) ∧ (N.length : Int) ≤ 16
    · rw [decide_eq_true h2] at c2 ⊢
      by_cases h3 : 0 ≤ s ∧ s ≤ (N.length : Int) - 1
      · rw [decide_eq_true h3] at c3 ⊢
        have c4 := run_l01Full (i := N.length) (by omega)
        have c5 := run_l01In f 0 (((2 ^ N.length : Nat) : Int) - 1)
        by_cases h4 : 0 ≤ f ∧ f ≤ ((2 ^ N.length : Nat) : Int) - 1
        · rw [decide_eq_true h4] at c5 ⊢
          have hn8 := h1.2
          have hln := h2.2
          let p : Nat → Bool := fun i => rowOK n N.length (N.getD i [])
          have lp : WL F.spec_l11Is 0 Tryd.f53 0 (spec_l11Is_s0 n s f N 0) (if (List.range N.length).all p then spec_l11Is_o0_2 else spec_l11Is_o0_1) := by
            refine loop_all (N := N.length) (p := p) (st := fun i => spec_l11Is_s0 n s f N i) (fun i hi hp Q hqq => ?_) (fun i hi hp Q hqq => ?_) (fun Q hqq => ?_)
            · have hp' : rowOK n N.length (N.getD i []) = true := hp
              unfold rowOK at hp'
              rw [Bool.and_eq_true, decide_eq_true_eq] at hp'
              have l1 : WL F.spec_l11Is 2 Tryd.f53 1 (spec_l11Is_s1 n s f N i 0) (spec_l11Is_o1_2 n s f N i) := by
                refine loop_to (N := (N.getD i []).length) (st := fun j => spec_l11Is_s1 n s f N i j) (fun j hj Q hqq => ?_) (fun Q hqq => ?_)
                · have c := run_l01In ((N.getD i []).getD j 0) (-1) ((N.length : Int) - 1)
                  have hx : decide (-1 ≤ (N.getD i []).getD j 0 ∧ (N.getD i []).getD j 0 ≤ (N.length : Int) - 1) = true := by
                    rw [getD_lt hj]; exact List.all_eq_true.1 hp'.2 _ (List.getElem_mem hj)
                  rw [hx] at c
                  apply spec_l11Is_r1_2
                  case hq => exact hqq
                  all_goals first | exact c | rfl | omega
                · apply spec_l11Is_r1_3
                  case hq => exact hqq
                  all_goals omega
              apply spec_l11Is_r0_3
              case hq => exact hqq
              all_goals first | exact l1 | omega
            · have hp' : rowOK n N.length (N.getD i []) = false := hp
              unfold rowOK at hp'
              by_cases hr : ((N.getD i []).length : Int) = n
              · rw [decide_eq_true hr, Bool.true_and, ← range_all] at hp'
                obtain ⟨k, hk1, hk2, hk3⟩ := first_fail (by rw [hp']; simp)
                have l1 : WL F.spec_l11Is 2 Tryd.f53 1 (spec_l11Is_s1 n s f N i 0) (spec_l11Is_o1_1 n s f N i) := by
                  refine loop_to (N := k) (st := fun j => spec_l11Is_s1 n s f N i j) (fun j hj Q hqq => ?_) (fun Q hqq => ?_)
                  · have c := run_l01In ((N.getD i []).getD j 0) (-1) ((N.length : Int) - 1)
                    rw [hk3 j hj] at c
                    apply spec_l11Is_r1_2
                    case hq => exact hqq
                    all_goals first | exact c | rfl | omega
                  · have c := run_l01In ((N.getD i []).getD k 0) (-1) ((N.length : Int) - 1)
                    rw [hk2] at c
                    apply spec_l11Is_r1_1
                    case hq => exact hqq
                    all_goals first | exact c | rfl | omega
                apply spec_l11Is_r0_2
                case hq => exact hqq
                all_goals first | exact l1 | omega
              · apply spec_l11Is_r0_1
                case hq => exact hqq
                all_goals first | exact hr | omega
            · apply spec_l11Is_r0_4
              case hq => exact hqq
              all_goals omega
          have hrange : (List.range N.length).all p = N.all (rowOK n N.length) := range_allR
          rw [hrange] at lp
          simp only [Bool.true_and]
          cases hr : N.all (rowOK n N.length) with
          | true => rw [hr, if_pos rfl] at lp; exact spec_l11Is_p6 c1 rfl c2 rfl (by omega) c3 rfl c4 c5 rfl lp
          | false => rw [hr, if_neg (by simp)] at lp; exact spec_l11Is_p5 c1 rfl c2 rfl (by omega) c3 rfl c4 c5 rfl lp
        · rw [decide_eq_false h4] at c5 ⊢
          exact spec_l11Is_p4 c1 rfl c2 rfl (by omega) c3 rfl c4 c5 rfl
      · rw [decide_eq_false h3] at c3 ⊢
        exact spec_l11Is_p3 c1 rfl c2 rfl (by omega) c3 rfl
    · rw [decide_eq_false h2] at c2 ⊢
      exact spec_l11Is_p2 c1 rfl c2 rfl
  · rw [decide_eq_false h1] at c1 ⊢
    exact spec_l11Is_p1 c1 rfl

def finals (f : Int) (N : List (List Int)) : List Bool := (List.range N.length).map fun (i : Nat) => tb f i

def possM (N : List (List Int)) (q : Int) : Nat := mkM (fun a => decide ((N.getD q.toNat []).getD a 0 ≥ 0)) (N.getD q.toNat []).length

end Go.PR.S

end
