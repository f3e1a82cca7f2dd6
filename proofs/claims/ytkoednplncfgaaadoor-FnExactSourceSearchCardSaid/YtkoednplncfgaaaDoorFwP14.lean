/- The codes of an alphabet, an automaton, a state and a set: both sides come to the same. -/
import Derived.Test.YtkoednplncfgaaaDoorFwP12
import Derived.Test.YtkoednplncfgaaaDoorFwG9
set_option linter.unusedVariables false
set_option linter.unusedSimpArgs false
section
set_option maxRecDepth 20000
namespace Go.PR.S
open Go Go.PR Go.Proofs Gp
section
variable {m n s f : Int} {d : List Int} {N : List (List Int)}
theorem zt9 (h : Ov m d n s f N) : Runs X F.z8 [alD m d, auD n s f N] [] (boolR (goesB d N)) := by
  have hd := h.dlen
  have hs8 := h.al.small
  have hl16 := h.l16
  have in2 : ∀ q a : Nat, q < N.length → a < d.length → WL F.z8 4 Tryd.f121 2 (zy m d n s f N q a 0) (if lG2 d N q a = true then za7 m d n s f N q a else za6 m d n s f N q a) := by
    intro q a hq ha
    have hr := h.row hq
    obtain ⟨n1, n2⟩ := h.next hq ha
    refine z2s (N := d.length) (p := okG d N q a) (st := fun i => zy m d n s f N q a i) (fun i hi hp Q hqq => ?_) (fun i hi hp Q hqq => ?_) (fun Q hqq => ?_)
    · have c1 := h.dep ha hi
      by_cases e1 : a = i
      · apply zxq
        case hq => exact hqq
        all_goals omega
      cases hdep : (dm d a).testBit i with
      | true =>
        rw [hdep] at c1
        apply zxp
        case hq => exact hqq
        all_goals first | omega | exact c1 | rfl
      | false =>
        rw [hdep] at c1
        by_cases h1 : (N.getD q []).getD a 0 ≥ 0
        · by_cases h2 : (N.getD q []).getD i 0 ≥ 0
          · have hr2 := h.row (q := ((N.getD q []).getD a 0).toNat) (by omega)
            have h3 : ¬ (N.getD ((N.getD q []).getD a 0).toNat []).getD i 0 < 0 := by
              unfold okG at hp
              rw [hdep, decide_eq_false e1, decide_eq_false (by omega), decide_eq_false (by omega)] at hp
              simp only [Bool.false_or, decide_eq_true_eq] at hp
              unfold step2 at hp
              rw [if_neg (by omega)] at hp
              omega
            apply zxm
            case hq => exact hqq
            all_goals first | omega | exact c1 | rfl
          · apply zxn
            case hq => exact hqq
            all_goals first | omega | exact c1 | rfl
        · apply zxo
          case hq => exact hqq
          all_goals first | omega | exact c1 | rfl
    · have c1 := h.dep ha hi
      unfold okG at hp
      simp only [Bool.or_eq_false_iff, decide_eq_false_iff_not] at hp
      obtain ⟨⟨⟨⟨p1, p2⟩, p3⟩, p4⟩, p5⟩ := hp
      rw [p2] at c1
      unfold step2 at p5
      rw [if_neg (by omega)] at p5
      have hr2 := h.row (q := ((N.getD q []).getD a 0).toNat) (by omega)
      apply zxl
      case hq => exact hqq
      all_goals first | omega | exact c1 | rfl
    · apply zxr
      case hq => exact hqq
      all_goals omega
  have in1 : ∀ q : Nat, q < N.length → WL F.z8 2 Tryd.f121 1 (z43 m d n s f N q 0) (if lG1 d N q = true then za5 m d n s f N q else za4 m d n s f N q) := by
    intro q hq
    refine z2s (N := d.length) (p := lG2 d N q) (st := fun i => z43 m d n s f N q i) (fun i hi hp Q hqq => ?_) (fun i hi hp Q hqq => ?_) (fun Q hqq => ?_)
    · have l := in2 q i hq hi
      rw [if_pos hp] at l
      apply zxj
      case hq => exact hqq
      all_goals first | exact l | omega
    · have l := in2 q i hq hi
      rw [if_neg (by rw [hp]; simp)] at l
      apply zxi
      case hq => exact hqq
      all_goals first | exact l | omega
    · apply zxk
      case hq => exact hqq
      all_goals omega
  have lp : WL F.z8 0 Tryd.f121 0 (z42 m d n s f N 0) (if goesB d N = true then za3 else za2) := by
    refine z2s (N := N.length) (p := lG1 d N) (st := fun i => z42 m d n s f N i) (fun i hi hp Q hqq => ?_) (fun i hi hp Q hqq => ?_) (fun Q hqq => ?_)
    · have l := in1 i hi
      rw [if_pos hp] at l
      apply zxg
      case hq => exact hqq
      all_goals first | exact l | omega
    · have l := in1 i hi
      rw [if_neg (by rw [hp]; simp)] at l
      apply zxf
      case hq => exact hqq
      all_goals first | exact l | omega
    · apply zxh
      case hq => exact hqq
      all_goals omega
  cases hg : goesB d N with
  | true => rw [hg, if_pos rfl] at lp; exact zxe lp
  | false => rw [hg, if_neg (by simp)] at lp; exact zxd lp
end
def stCode (m : Int) (d : List Int) (n s f : Int) (N : List (List Int)) (q e : Int) : Int :=
  if z1x m d n s f N = 0 then
    (if 0 ≤ q ∧ q ≤ (N.length : Int) - 1 ∧ 0 ≤ e ∧ e ≤ ((2 ^ d.length : Nat) : Int) - 1 then
      (if diaB d N = true ∧ goesB d N = true ∧ endsB N = true then 0 else 5) else 2) else z1x m d n s f N
theorem zt7 (m : Int) (d : List Int) (n s f : Int) (N : List (List Int)) (q e : Int) (hd : d.length ≤ B40) (hl : N.length ≤ B40) : Runs X F.z2j [alD m d, auD n s f N, iD q, iD e] [] (intR (stCode m d n s f N q e)) := by
  have c1 := zt6 m d n s f N hd hl
  have hl' := hl
  unfold B40 at hl'
  unfold stCode
  by_cases h0 : z1x m d n s f N = 0
  · rw [if_pos h0]
    rw [h0] at c1
    have h := z9a h0
    have hlen := h.al.len
    have hs8 := h.al.small
    have hdl := h.dlen
    have c2 := z2e q 0 ((N.length : Int) - 1)
    have c3 := z7c (i := d.length) (by omega)
    rw [hdl] at c3
    have c4 := z2e e 0 (((2 ^ d.length : Nat) : Int) - 1)
    by_cases hq : 0 ≤ q ∧ q ≤ (N.length : Int) - 1
    · rw [decide_eq_true hq] at c2
      by_cases he : 0 ≤ e ∧ e ≤ ((2 ^ d.length : Nat) : Int) - 1
      · rw [decide_eq_true he] at c4
        rw [if_pos ⟨hq.1, hq.2, he.1, he.2⟩]
        obtain ⟨f1, f2⟩ := zt4 h
        cases hdia : diaB d N with
        | false =>
          obtain ⟨x, y, z, f2⟩ := f2 hdia
          rw [if_neg (by simp)]
          exact zwy c1 rfl (by omega) c2 rfl c3 c4 rfl f2 (by simp)
        | true =>
          have f1 := f1 hdia
          have g := zt9 h
          cases hg : goesB d N with
          | false =>
            rw [hg] at g
            rw [if_neg (by simp)]
            exact zwz c1 rfl (by omega) c2 rfl c3 c4 rfl f1 (by simp) g rfl
          | true =>
            rw [hg] at g
            have en := zt8 h.toAutP
            cases hen : endsB N with
            | false =>
              rw [hen] at en
              rw [if_neg (by simp)]
              exact zx0 c1 rfl (by omega) c2 rfl c3 c4 rfl f1 (by simp) g rfl en rfl
            | true =>
              rw [hen] at en
              rw [if_pos ⟨rfl, rfl, rfl⟩]
              exact zx1 c1 rfl (by omega) c2 rfl c3 c4 rfl f1 (by simp) g rfl en rfl
      · rw [decide_eq_false he] at c4
        rw [if_neg (fun hh => he ⟨hh.2.2.1, hh.2.2.2⟩)]
        exact zwx c1 rfl (by omega) c2 rfl c3 c4 rfl
    · rw [decide_eq_false hq] at c2
      rw [if_neg (fun hh => hq ⟨hh.1, hh.2.1⟩)]
      exact zww c1 rfl (by omega) c2 rfl
  · rw [if_neg h0]
    exact zwv c1 h0
abbrev noMach (r : Int) : Ret := ⟨.tup [.agg [.int .i64 0, .int .i64 0, .nil .unk, .nil .unk], .int .i64 r], [], []⟩
abbrev machR (n s f : Int) (N : List (List Int)) : Ret := ⟨.tup [.agg [.int .i64 n, .int .i64 s, .rsl 600000 0 (finals f N).length, .imm2 .i64 N], .int .i64 0], [], [⟨true, .bools (finals f N)⟩]⟩
def exCode (m : Int) (d : List Int) (n s f : Int) (N : List (List Int)) (ns : List Int) : Int :=
  if z1x m d n s f N = 0 then
    (if (ns.all fun x => decide (0 ≤ x ∧ x ≤ (N.length : Int) - 1)) = true then
      (if diaB d N = true ∧ goesB d N = true ∧ endsB N = true then 0 else 5) else 2) else z1x m d n s f N
end Go.PR.S

end

section
set_option maxRecDepth 20000
namespace Go.PR.S
open Go Go.PR Go.Proofs Gp
inductive Rch (N : List (List Int)) (E q : Nat) : Nat → Prop where
  | base : Rch N E q q
  | next {t a : Nat} : Rch N E q t → a < (N.getD t []).length → E.testBit a = false → (N.getD t []).getD a 0 ≥ 0 → Rch N E q ((N.getD t []).getD a 0).toNat
def Pers (d : List Int) (N : List (List Int)) (E q : Nat) : Prop := ∀ t, Rch N E q t → ∀ a, a < (N.getD t []).length → E.testBit a = false → (N.getD t []).getD a 0 ≥ 0 → dm d a &&& E = 0
section
variable {m n s f : Int} {d : List Int} {N : List (List Int)}
theorem Rch.lt (h : Ov m d n s f N) {E q : Nat} (hq : q < N.length) {t : Nat} (ht : Rch N E q t) : t < N.length := by
  induction ht with
  | base => exact hq
  | next ht ha he h0 ih =>
    have := h.next ih (by rw [← h.row ih]; exact ha)
    omega
def OKp (d : List Int) (N : List (List Int)) (E : Nat) (R : List Bool) (t x : Nat) : Prop := R.getD t false = true → E.testBit x = false → (N.getD t []).getD x 0 ≥ 0 → dm d x &&& E = 0 ∧ R.getD ((N.getD t []).getD x 0).toNat false = true
structure RI (N : List (List Int)) (E q : Nat) (R : List Bool) : Prop where
  len : R.length = N.length
  rch : ∀ t, R.getD t false = true → Rch N E q t
  base : R.getD q false = true
end
end Go.PR.S

end
