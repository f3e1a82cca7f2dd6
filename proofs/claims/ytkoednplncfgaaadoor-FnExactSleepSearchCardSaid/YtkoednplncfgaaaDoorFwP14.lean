/- The codes of an alphabet, an automaton, a state and a set: both sides come to the same. -/
import Derived.Test.YtkoednplncfgaaaDoorFwP12
import Derived.Test.YtkoednplncfgaaaDoorFwG9
section
/- The codes of an alphabet, an automaton, a state and a set: both sides come to the same. -/
set_option linter.unusedVariables false
set_option linter.unusedSimpArgs false
set_option maxRecDepth 20000
namespace Go.PR.S
open Go Go.PR Go.Proofs Gp

section
variable {m n s f : Int} {d : List Int} {N : List (List Int)}

theorem run_l19Goes (h : Ov m d n s f N) : Runs X F.spec_l19Goes [alD m d, auD n s f N] [] (boolR (goesB d N)) := by
  have hd := h.dlen
  have hs8 := h.al.small
  have hl16 := h.l16
  have in2 : ∀ q a : Nat, q < N.length → a < d.length → WL F.spec_l19Goes 4 Tryd.f121 2 (spec_l19Goes_s2 m d n s f N q a 0) (if lG2 d N q a = true then spec_l19Goes_o2_2 m d n s f N q a else spec_l19Goes_o2_1 m d n s f N q a) := by
    intro q a hq ha
    have hr := h.row hq
    obtain ⟨n1, n2⟩ := h.next hq ha
    refine loop_all (N := d.length) (p := okG d N q a) (st := fun i => spec_l19Goes_s2 m d n s f N q a i) (fun i hi hp Q hqq => ?_) (fun i hi hp Q hqq => ?_) (fun Q hqq => ?_)
    · have c1 := h.dep ha hi
      by_cases e1 : a = i
      · apply spec_l19Goes_r2_6
        case hq => exact hqq
        all_goals omega
      cases hdep : (dm d a).testBit i with
      | true =>
        rw [hdep] at c1
        apply spec_l19Goes_r2_5
        case hq => exact hqq
        all_goals first | omega | exact c1 | rfl
      | false =>
        rw [hdep] at c1
        by_cases h1 : (N.getD q []).getD a 0 ≥ 0
        · by_cases h2 : (N.getD q []).getD i 0 ≥ 0
          · have hr2 := h.row (q := ((N.getD q []).getD a 0).toNat) (by omega)
            have h3 : ¬ (N.getD ((N.getD q []).getD a 0).toNat []).getD i 0 < 0 := by
              unfold okG at hp
              rw [hdep, decide_eq_false e1, decide_eq_false (by omega), decide_eq_false (by omega)] at hp
              simp only [Bool.false_or, decide_eq_true_eq] at hp
              unfold step2 at hp
              rw [if_neg (by omega)] at hp
              omega
            apply spec_l19Goes_r2_2
            case hq => exact hqq
            all_goals first | omega | exact c1 | rfl
          · apply spec_l19Goes_r2_3
            case hq => exact hqq
            all_goals first | omega | exact c1 | rfl
        · apply spec_l19Goes_r2_4
          case hq => exact hqq
          all_goals first | omega | exact c1 | rfl
    · have c1 := h.dep ha hi
      unfold okG at hp
      simp only [Bool.or_eq_false_iff, decide_eq_false_iff_not] at hp
      obtain ⟨⟨⟨⟨p1, p2⟩, p3⟩, p4⟩, p5⟩ := hp
      rw [p2] at c1
      unfold step2 at p5
      rw [if_neg (by omega)] at p5
      have hr2 := h.row (q := ((N.getD q []).getD a 0).toNat) (by omega)
      apply spec_l19Goes_r2_1
      case hq => exact hqq
      all_goals first | omega | exact c1 | rfl
    · apply spec_l19Goes_r2_7
      case hq => exact hqq
      all_goals omega
  have in1 : ∀ q : Nat, q < N.length → WL F.spec_l19Goes 2 Tryd.f121 1 (spec_l19Goes_s1 m d n s f N q 0) (if lG1 d N q = true then spec_l19Goes_o1_2 m d n s f N q else spec_l19Goes_o1_1 m d n s f N q) := by
    intro q hq
    refine loop_all (N := d.length) (p := lG2 d N q) (st := fun i => spec_l19Goes_s1 m d n s f N q i) (fun i hi hp Q hqq => ?_) (fun i hi hp Q hqq => ?_) (fun Q hqq => ?_)
    · have l := in2 q i hq hi
      rw [if_pos hp] at l
      apply spec_l19Goes_r1_2
      case hq => exact hqq
      all_goals first | exact l | omega
    · have l := in2 q i hq hi
      rw [if_neg (by rw [hp]; simp)] at l
      apply spec_l19Goes_r1_1
      case hq => exact hqq
      all_goals first | exact l | omega
    · apply spec_l19Goes_r1_3
      case hq => exact hqq
      all_goals omega
  have lp : WL F.spec_l19Goes 0 Tryd.f121 0 (spec_l19Goes_s0 m d n s f N 0) (if goesB d N = true then spec_l19Goes_o0_2 else spec_l19Goes_o0_1) := by
    refine loop_all (N := N.length) (p := lG1 d N) (st := fun i => spec_l19Goes_s0 m d n s f N i) (fun i hi hp Q hqq => ?_) (fun i hi hp Q hqq => ?_) (fun Q hqq => ?_)
    · have l := in1 i hi
      rw [if_pos hp] at l
      apply spec_l19Goes_r0_2
      case hq => exact hqq
      all_goals first | exact l | omega
    · have l := in1 i hi
      rw [if_neg (by rw [hp]; simp)] at l
      apply spec_l19Goes_r0_1
      case hq => exact hqq
      all_goals first | exact l | omega
    · apply spec_l19Goes_r0_3
      case hq => exact hqq
      all_goals omega
  cases hg : goesB d N with
  | true => rw [hg, if_pos rfl] at lp; exact spec_l19Goes_p2 lp
  | false => rw [hg, if_neg (by simp)] at lp; exact spec_l19Goes_p1 lp
end

def stCode (m : Int) (d : List Int) (n s f : Int) (N : List (List Int)) (q e : Int) : Int :=
  if overCode m d n s f N = 0 then
    (if 0 ≤ q ∧ q ≤ (N.length : Int) - 1 ∧ 0 ≤ e ∧ e ≤ ((2 ^ d.length : Nat) : Int) - 1 then
      (if diaB d N = true ∧ goesB d N = true ∧ endsB N = true then 0 else 5) else 2) else overCode m d n s f N

theorem run_l19Code (m : Int) (d : List Int) (n s f : Int) (N : List (List Int)) (q e : Int) (hd : d.length ≤ B40) (hl : N.length ≤ B40) : Runs X F.spec_l19Code [alD m d, auD n s f N, iD q, iD e] [] (intR (stCode m d n s f N q e)) := by
  have c1 := run_l11Over m d n s f N hd hl
  have hl' := hl
  unfold B40 at hl'
  unfold stCode
  by_cases h0 : overCode m d n s f N = 0
  · rw [if_pos h0]
    rw [h0] at c1
    have h := overCode_ov h0
    have hlen := h.al.len
    have hs8 := h.al.small
    have hdl := h.dlen
    have c2 := run_l01In q 0 ((N.length : Int) - 1)
    have c3 := run_l01Full (i := d.length) (by omega)
    rw [hdl] at c3
    have c4 := run_l01In e 0 (((2 ^ d.length : Nat) : Int) - 1)
    by_cases hq : 0 ≤ q ∧ q ≤ (N.length : Int) - 1
    · rw [decide_eq_true hq] at c2
      by_cases he : 0 ≤ e ∧ e ≤ ((2 ^ d.length : Nat) : Int) - 1
      · rw [decide_eq_true he] at c4
        rw [if_pos ⟨hq.1, hq.2, he.1, he.2⟩]
        obtain ⟨f1, f2⟩ := run_l11Fault h
        cases hdia : diaB d N with
        | false =>
          obtain ⟨x, y, z, f2⟩ := f2 hdia
          rw [if_neg (by simp)]
          exact spec_l19Code_p4 c1 rfl (by omega) c2 rfl c3 c4 rfl f2 (by simp)
        | true =>
          have f1 := f1 hdia
          have g := run_l19Goes h
          cases hg : goesB d N with
          | false =>
            rw [hg] at g
            rw [if_neg (by simp)]
            exact spec_l19Code_p5 c1 rfl (by omega) c2 rfl c3 c4 rfl f1 (by simp) g rfl
          | true =>
            rw [hg] at g
            have en := run_l19Ends h.toAutP
            cases hen : endsB N with
            | false =>
              rw [hen] at en
              rw [if_neg (by simp)]
              exact spec_l19Code_p6 c1 rfl (by omega) c2 rfl c3 c4 rfl f1 (by simp) g rfl en rfl
            | true =>
              rw [hen] at en
              rw [if_pos ⟨rfl, rfl, rfl⟩]
              exact spec_l19Code_p7 c1 rfl (by omega) c2 rfl c3 c4 rfl f1 (by simp) g rfl en rfl
      · rw [decide_eq_false he] at c4
        rw [if_neg (fun hh => he ⟨hh.2.2.1, hh.2.2.2⟩)]
        exact spec_l19Code_p3 c1 rfl (by omega) c2 rfl c3 c4 rfl
    · rw [decide_eq_false hq] at c2
      rw [if_neg (fun hh => hq ⟨hh.1, hh.2.1⟩)]
      exact spec_l19Code_p2 c1 rfl (by omega) c2 rfl
  · rw [if_neg h0]
    exact spec_l19Code_p1 c1 h0

abbrev noMach (r : Int) : Ret := ⟨.tup [.agg [.int .i64 0, .int .i64 0, .nil .unk, .nil .unk], .int .i64 r], [], []⟩
abbrev machR (n s f : Int) (N : List (List Int)) : Ret := ⟨.tup [.agg [.int .i64 n, .int .i64 s, .rsl 600000 0 (finals f N).length, .imm2 .i64 N], .int .i64 0], [], [⟨true, .bools (finals f N)⟩]⟩

def exCode (m : Int) (d : List Int) (n s f : Int) (N : List (List Int)) (ns : List Int) : Int :=
  if overCode m d n s f N = 0 then
    (if (ns.all fun x => decide (0 ≤ x ∧ x ≤ (N.length : Int) - 1)) = true then
      (if diaB d N = true ∧ goesB d N = true ∧ endsB N = true then 0 else 5) else 2) else overCode m d n s f N

end Go.PR.S

end

section
/- Persistent sets: the reference's search. -/
set_option linter.unusedVariables false
set_option linter.unusedSimpArgs false
set_option maxRecDepth 20000
namespace Go.PR.S
open Go Go.PR Go.Proofs Gp

inductive Rch (N : List (List Int)) (E q : Nat) : Nat → Prop where
  | base : Rch N E q q
  | next {t a : Nat} : Rch N E q t → a < (N.getD t []).length → E.testBit a = false → (N.getD t []).getD a 0 ≥ 0 → Rch N E q ((N.getD t []).getD a 0).toNat

def Pers (d : List Int) (N : List (List Int)) (E q : Nat) : Prop := ∀ t, Rch N E q t → ∀ a, a < (N.getD t []).length → E.testBit a = false → (N.getD t []).getD a 0 ≥ 0 → dm d a &&& E = 0

section
variable {m n s f : Int} {d : List Int} {N : List (List Int)}

theorem Rch.lt (h : Ov m d n s f N) {E q : Nat} (hq : q < N.length) {t : Nat} (ht : Rch N E q t) : t < N.length := by
  induction ht with
  | base => exact hq
  | next ht ha he h0 ih =>
    have := h.next ih (by rw [← h.row ih]; exact ha)
    omega

def OKp (d : List Int) (N : List (List Int)) (E : Nat) (R : List Bool) (t x : Nat) : Prop := R.getD t false = true → E.testBit x = false → (N.getD t []).getD x 0 ≥ 0 → dm d x &&& E = 0 ∧ R.getD ((N.getD t []).getD x 0).toNat false = true

structure RI (N : List (List Int)) (E q : Nat) (R : List Bool) : Prop where
  len : R.length = N.length
  rch : ∀ t, R.getD t false = true → Rch N E q t
  base : R.getD q false = true

end

end Go.PR.S

end
