/- The code of an alphabet, an automaton, a state and a set of letters: both sides ask the same. -/
import Derived.Test.YtkoednplncfgaaaDoorFwP10
import Derived.Test.YtkoednplncfgaaaDoorFwG6
import Derived.Test.YtkoednplncfgaaaDoorFwG7
/- The code of an alphabet, an automaton, a state and a set of letters: both sides ask the same. -/
set_option linter.unusedVariables false
set_option linter.unusedSimpArgs false
set_option maxRecDepth 20000
namespace Go.PR.S
open Go Go.PR Go.Proofs Gp

def nandn (a b : Nat) : Nat := mkM (fun i => a.testBit i && !b.testBit i) 63

structure Ov (m : Int) (d : List Int) (n s f : Int) (N : List (List Int)) : Prop extends AutP n s f N where
  al : Al n.toNat d
  eq : m = n

theorem Ov.dlen {m n s f : Int} {d : List Int} {N : List (List Int)} (h : Ov m d n s f N) : (d.length : Int) = n := by have := h.al.len; have := h.n0; omega

theorem Ov.row {m n s f : Int} {d : List Int} {N : List (List Int)} (h : Ov m d n s f N) {q : Nat} (hq : q < N.length) : (N.getD q []).length = d.length := by
  have := (h.rows q hq).1; have := h.dlen; omega

def overCode (m : Int) (d : List Int) (n s f : Int) (N : List (List Int)) : Int :=
  if alOK m d = true then (if autOK n s f N = true then (if n = m then 0 else 2) else 1) else 1

theorem run_l11Over (m : Int) (d : List Int) (n s f : Int) (N : List (List Int)) (hd : d.length ≤ B40) (hl : N.length ≤ B40) : Runs X F.spec_l11Over [alD m d, auD n s f N] [] (intR (overCode m d n s f N)) := by
  have c1 := run_l02Is m d hd
  have c2 := run_l11Is n s f N hl
  unfold overCode
  cases h1 : alOK m d with
  | false => rw [h1] at c1; exact spec_l11Over_p1 c1 rfl
  | true =>
    rw [h1] at c1
    cases h2 : autOK n s f N with
    | false => rw [h2] at c2; exact spec_l11Over_p2 c1 rfl c2 rfl
    | true =>
      rw [h2] at c2
      by_cases h3 : n = m
      · simp only [if_true, if_pos h3]; exact spec_l11Over_p4 c1 rfl c2 rfl h3
      · simp only [if_true, if_neg h3]; exact spec_l11Over_p3 c1 rfl c2 rfl h3

abbrev SHa : List FK := [.int .i64, .int .i64, .int .i64, .ints2 .i64]
abbrev rcA (n s f : Int) (N : List (List Int)) : Rcd := ⟨[n, s, f], [], [N]⟩

theorem run_CFover1 (n s f : Int) (N : List (List Int)) (hl : N.length ≤ B40) (hw : ∀ r ∈ N, r.length ≤ B40) : Runs X F.slices_ContainsFuncSimpl_Automatonimpl_Automaton [.immR SHa [rcA n s f N], .fn F.impl_checkOverk1 []] [] (boolR (!(autOK n s f N))) := by
  have c1 : Runs X F.impl_checkOverk1 [auD n s f N] [] (boolR (!(autOK n s f N))) := impl_checkOverk1_p1 (run_IsAutomaton n s f N hl hw)
  have hN : ([rcA n s f N]).length = 1 := rfl
  cases h : autOK n s f N with
  | true =>
    rw [h] at c1
    have h1 : Runs X F.slices_IndexFuncSimpl_Automatonimpl_Automaton [.immR SHa [rcA n s f N], .fn F.impl_checkOverk1 []] [] (intR (-1)) := by
      refine slices_IndexFuncSimpl_Automatonimpl_Automaton_k1_p2 (loop_to (N := 1) (st := fun i => slices_IndexFuncSimpl_Automatonimpl_Automaton_k1_s0 [rcA n s f N] i) (fun i hi Q hqq => ?_) (fun Q hqq => ?_))
      · obtain rfl : i = 0 := by omega
        apply slices_IndexFuncSimpl_Automatonimpl_Automaton_k1_r0_2
        case hq => exact hqq
        all_goals first | exact c1 | rfl | (rw [hN]; omega) | omega
      · apply slices_IndexFuncSimpl_Automatonimpl_Automaton_k1_r0_3
        case hq => exact hqq
        all_goals (rw [hN]; omega)
    exact slices_ContainsFuncSimpl_Automatonimpl_Automaton_k1_p1 h1
  | false =>
    rw [h] at c1
    have h1 : Runs X F.slices_IndexFuncSimpl_Automatonimpl_Automaton [.immR SHa [rcA n s f N], .fn F.impl_checkOverk1 []] [] (intR ((0 : Nat) : Int)) := by
      refine slices_IndexFuncSimpl_Automatonimpl_Automaton_k1_p1 (loop_to (N := 0) (st := fun i => slices_IndexFuncSimpl_Automatonimpl_Automaton_k1_s0 [rcA n s f N] i) (fun i hi Q hqq => by omega) (fun Q hqq => ?_))
      apply slices_IndexFuncSimpl_Automatonimpl_Automaton_k1_r0_1
      case hq => exact hqq
      all_goals first | exact c1 | rfl | (rw [hN]; omega) | omega
    exact slices_ContainsFuncSimpl_Automatonimpl_Automaton_k1_p1 h1

theorem run_CFover2 (m : Int) (d : List Int) (n s f : Int) (N : List (List Int)) : Runs X F.slices_ContainsFuncSimpl_Automatonimpl_Automaton [.immR SHa [rcA n s f N], .fn F.impl_checkOverk2 [.pim [.int .i64 m, .immI .i64 d]]] [] (boolR (n != m)) := by
  have c1 : Runs X F.impl_checkOverk2 [auD n s f N, .pim [.int .i64 m, .immI .i64 d]] [] (boolR (n != m)) := impl_checkOverk2_p1
  have hN : ([rcA n s f N]).length = 1 := rfl
  cases h : (n != m) with
  | false =>
    rw [h] at c1
    have h1 : Runs X F.slices_IndexFuncSimpl_Automatonimpl_Automaton [.immR SHa [rcA n s f N], .fn F.impl_checkOverk2 [.pim [.int .i64 m, .immI .i64 d]]] [] (intR (-1)) := by
      refine slices_IndexFuncSimpl_Automatonimpl_Automaton_k2_p2 (loop_to (N := 1) (st := fun i => slices_IndexFuncSimpl_Automatonimpl_Automaton_k2_s0 [rcA n s f N] m d i) (fun i hi Q hqq => ?_) (fun Q hqq => ?_))
      · obtain rfl : i = 0 := by omega
        apply slices_IndexFuncSimpl_Automatonimpl_Automaton_k2_r0_2
        case hq => exact hqq
        all_goals first | exact c1 | rfl | (rw [hN]; omega) | omega
      · apply slices_IndexFuncSimpl_Automatonimpl_Automaton_k2_r0_3
        case hq => exact hqq
        all_goals (rw [hN]; omega)
    exact slices_ContainsFuncSimpl_Automatonimpl_Automaton_k2_p1 h1
  | true =>
    rw [h] at c1
    have h1 : Runs X F.slices_IndexFuncSimpl_Automatonimpl_Automaton [.immR SHa [rcA n s f N], .fn F.impl_checkOverk2 [.pim [.int .i64 m, .immI .i64 d]]] [] (intR ((0 : Nat) : Int)) := by
      refine slices_IndexFuncSimpl_Automatonimpl_Automaton_k2_p1 (loop_to (N := 0) (st := fun i => slices_IndexFuncSimpl_Automatonimpl_Automaton_k2_s0 [rcA n s f N] m d i) (fun i hi Q hqq => by omega) (fun Q hqq => ?_))
      apply slices_IndexFuncSimpl_Automatonimpl_Automaton_k2_r0_1
      case hq => exact hqq
      all_goals first | exact c1 | rfl | (rw [hN]; omega) | omega
    exact slices_ContainsFuncSimpl_Automatonimpl_Automaton_k2_p1 h1

theorem run_checkOver (m : Int) (d : List Int) (n s f : Int) (N : List (List Int)) (hd : d.length ≤ B40) (hl : N.length ≤ B40) (hw : ∀ r ∈ N, r.length ≤ B40) : Runs X F.impl_checkOver [alD m d, .immR SHa [rcA n s f N]] [] (intR (overCode m d n s f N)) := by
  have c1 := run_IsAlphabet m d hd
  have c2 := run_CFover1 n s f N hl hw
  have c3 := run_CFover2 m d n s f N
  unfold overCode
  cases h1 : alOK m d with
  | false => rw [h1] at c1; exact impl_checkOver_p1 c1 rfl
  | true =>
    rw [h1] at c1
    cases h2 : autOK n s f N with
    | false => rw [h2] at c2; exact impl_checkOver_p2 c1 rfl c2 rfl
    | true =>
      rw [h2] at c2
      by_cases h3 : n = m
      · simp only [if_true, if_pos h3]
        rw [show (n != m) = false by simp [h3]] at c3
        exact impl_checkOver_p4 c1 rfl c2 rfl c3 rfl
      · simp only [if_true, if_neg h3]
        rw [show (n != m) = true by simp [h3]] at c3
        exact impl_checkOver_p3 c1 rfl c2 rfl c3 rfl

/-! ### diamonds -/
def step2 (N : List (List Int)) (s a b : Nat) : Int := if (N.getD s []).getD a 0 < 0 then -1 else (N.getD ((N.getD s []).getD a 0).toNat []).getD b 0

def pD (d : List Int) (N : List (List Int)) (s a i : Nat) : Bool := (dm d a).testBit (a + 1 + i) || (step2 N s a (a + 1 + i) == step2 N s (a + 1 + i) a)
def lD2 (d : List Int) (N : List (List Int)) (s a : Nat) : Bool := (List.range (d.length - (a + 1))).all (pD d N s a)
def lD1 (d : List Int) (N : List (List Int)) (s : Nat) : Bool := (List.range d.length).all (lD2 d N s)
def diaB (d : List Int) (N : List (List Int)) : Bool := (List.range N.length).all (lD1 d N)

section
variable {m n s f : Int} {d : List Int} {N : List (List Int)}

theorem Ov.next (h : Ov m d n s f N) {q a : Nat} (hq : q < N.length) (ha : a < d.length) : -1 ≤ (N.getD q []).getD a 0 ∧ (N.getD q []).getD a 0 < N.length := by
  have := (h.rows q hq).2 a (by rw [h.row hq]; exact ha)
  omega

end

end Go.PR.S
