/- The codes of an alphabet, an automaton, a state and a set: both sides come to the same. -/
import Derived.Test.YtkoednplncfgaaaDoorFwP12
import Derived.Test.YtkoednplncfgaaaDoorFwG9
set_option linter.unusedVariables false
set_option linter.unusedSimpArgs false
section
set_option maxRecDepth 20000
namespace Go.PR.S
open Go Go.PR Go.Proofs Gp
section
variable {m n s f : Int} {d : List Int} {N : List (List Int)}
theorem ztk (h : Ov m d n s f N) : Runs X F.za [alD m d, auD n s f N] [] (boolR (goesB d N)) := by
  have hd := h.dlen
  have hs8 := h.al.small
  have hl16 := h.l16
  have in2 : ∀ q a : Nat, q < N.length → a < d.length → WL F.za 4 Tryd.f121 2 (z10 m d n s f N q a 0) (if lG2 d N q a = true then zad m d n s f N q a else zac m d n s f N q a) := by
    intro q a hq ha
    have hr := h.row hq
    obtain ⟨n1, n2⟩ := h.next hq ha
    refine z2t (N := d.length) (p := okG d N q a) (st := fun i => z10 m d n s f N q a i) (fun i hi hp Q hqq => ?_) (fun i hi hp Q hqq => ?_) (fun Q hqq => ?_)
    · have c1 := h.dep ha hi
      by_cases e1 : a = i
      · apply zy1
        case hq => exact hqq
        all_goals omega
      cases hdep : (dm d a).testBit i with
      | true =>
        rw [hdep] at c1
        apply zy0
        case hq => exact hqq
        all_goals first | omega | exact c1 | rfl
      | false =>
        rw [hdep] at c1
        by_cases h1 : (N.getD q []).getD a 0 ≥ 0
        · by_cases h2 : (N.getD q []).getD i 0 ≥ 0
          · have hr2 := h.row (q := ((N.getD q []).getD a 0).toNat) (by omega)
            have h3 : ¬ (N.getD ((N.getD q []).getD a 0).toNat []).getD i 0 < 0 := by
              unfold okG at hp
              rw [hdep, decide_eq_false e1, decide_eq_false (by omega), decide_eq_false (by omega)] at hp
              simp only [Bool.false_or, decide_eq_true_eq] at hp
              unfold step2 at hp
              rw [if_neg (by omega)] at hp
              omega
            apply zxx
            case hq => exact hqq
            all_goals first | omega | exact c1 | rfl
          · apply zxy
            case hq => exact hqq
            all_goals first | omega | exact c1 | rfl
        · apply zxz
          case hq => exact hqq
          all_goals first | omega | exact c1 | rfl
    · have c1 := h.dep ha hi
      unfold okG at hp
      simp only [Bool.or_eq_false_iff, decide_eq_false_iff_not] at hp
      obtain ⟨⟨⟨⟨p1, p2⟩, p3⟩, p4⟩, p5⟩ := hp
      rw [p2] at c1
      unfold step2 at p5
      rw [if_neg (by omega)] at p5
      have hr2 := h.row (q := ((N.getD q []).getD a 0).toNat) (by omega)
      apply zxw
      case hq => exact hqq
      all_goals first | omega | exact c1 | rfl
    · apply zy2
      case hq => exact hqq
      all_goals omega
  have in1 : ∀ q : Nat, q < N.length → WL F.za 2 Tryd.f121 1 (z47 m d n s f N q 0) (if lG1 d N q = true then zab m d n s f N q else zaa m d n s f N q) := by
    intro q hq
    refine z2t (N := d.length) (p := lG2 d N q) (st := fun i => z47 m d n s f N q i) (fun i hi hp Q hqq => ?_) (fun i hi hp Q hqq => ?_) (fun Q hqq => ?_)
    · have l := in2 q i hq hi
      rw [if_pos hp] at l
      apply zxu
      case hq => exact hqq
      all_goals first | exact l | omega
    · have l := in2 q i hq hi
      rw [if_neg (by rw [hp]; simp)] at l
      apply zxt
      case hq => exact hqq
      all_goals first | exact l | omega
    · apply zxv
      case hq => exact hqq
      all_goals omega
  have lp : WL F.za 0 Tryd.f121 0 (z46 m d n s f N 0) (if goesB d N = true then za9 else za8) := by
    refine z2t (N := N.length) (p := lG1 d N) (st := fun i => z46 m d n s f N i) (fun i hi hp Q hqq => ?_) (fun i hi hp Q hqq => ?_) (fun Q hqq => ?_)
    · have l := in1 i hi
      rw [if_pos hp] at l
      apply zxr
      case hq => exact hqq
      all_goals first | exact l | omega
    · have l := in1 i hi
      rw [if_neg (by rw [hp]; simp)] at l
      apply zxq
      case hq => exact hqq
      all_goals first | exact l | omega
    · apply zxs
      case hq => exact hqq
      all_goals omega
  cases hg : goesB d N with
  | true => rw [hg, if_pos rfl] at lp; exact zxp lp
  | false => rw [hg, if_neg (by simp)] at lp; exact zxo lp
end
def stCode (m : Int) (d : List Int) (n s f : Int) (N : List (List Int)) (q e : Int) : Int :=
  if z1u m d n s f N = 0 then
    (if 0 ≤ q ∧ q ≤ (N.length : Int) - 1 ∧ 0 ≤ e ∧ e ≤ ((2 ^ d.length : Nat) : Int) - 1 then
      (if diaB d N = true ∧ goesB d N = true ∧ endsB N = true then 0 else 5) else 2) else z1u m d n s f N
theorem zti (m : Int) (d : List Int) (n s f : Int) (N : List (List Int)) (q e : Int) (hd : d.length ≤ B40) (hl : N.length ≤ B40) : Runs X F.z2l [alD m d, auD n s f N, iD q, iD e] [] (intR (stCode m d n s f N q e)) := by
  have c1 := zth m d n s f N hd hl
  have hl' := hl
  unfold B40 at hl'
  unfold stCode
  by_cases h0 : z1u m d n s f N = 0
  · rw [if_pos h0]
    rw [h0] at c1
    have h := z9h h0
    have hlen := h.al.len
    have hs8 := h.al.small
    have hdl := h.dlen
    have c2 := z2g q 0 ((N.length : Int) - 1)
    have c3 := z7j (i := d.length) (by omega)
    rw [hdl] at c3
    have c4 := z2g e 0 (((2 ^ d.length : Nat) : Int) - 1)
    by_cases hq : 0 ≤ q ∧ q ≤ (N.length : Int) - 1
    · rw [decide_eq_true hq] at c2
      by_cases he : 0 ≤ e ∧ e ≤ ((2 ^ d.length : Nat) : Int) - 1
      · rw [decide_eq_true he] at c4
        rw [if_pos ⟨hq.1, hq.2, he.1, he.2⟩]
        obtain ⟨f1, f2⟩ := ztf h
        cases hdia : diaB d N with
        | false =>
          obtain ⟨x, y, z, f2⟩ := f2 hdia
          rw [if_neg (by simp)]
          exact zx9 c1 rfl (by omega) c2 rfl c3 c4 rfl f2 (by simp)
        | true =>
          have f1 := f1 hdia
          have g := ztk h
          cases hg : goesB d N with
          | false =>
            rw [hg] at g
            rw [if_neg (by simp)]
            exact zxa c1 rfl (by omega) c2 rfl c3 c4 rfl f1 (by simp) g rfl
          | true =>
            rw [hg] at g
            have en := ztj h.toAutP
            cases hen : endsB N with
            | false =>
              rw [hen] at en
              rw [if_neg (by simp)]
              exact zxb c1 rfl (by omega) c2 rfl c3 c4 rfl f1 (by simp) g rfl en rfl
            | true =>
              rw [hen] at en
              rw [if_pos ⟨rfl, rfl, rfl⟩]
              exact zxc c1 rfl (by omega) c2 rfl c3 c4 rfl f1 (by simp) g rfl en rfl
      · rw [decide_eq_false he] at c4
        rw [if_neg (fun hh => he ⟨hh.2.2.1, hh.2.2.2⟩)]
        exact zx8 c1 rfl (by omega) c2 rfl c3 c4 rfl
    · rw [decide_eq_false hq] at c2
      rw [if_neg (fun hh => hq ⟨hh.1, hh.2.1⟩)]
      exact zx7 c1 rfl (by omega) c2 rfl
  · rw [if_neg h0]
    exact zx6 c1 h0
abbrev noMach (r : Int) : Ret := ⟨.tup [.agg [.int .i64 0, .int .i64 0, .nil .unk, .nil .unk], .int .i64 r], [], []⟩
abbrev machR (n s f : Int) (N : List (List Int)) : Ret := ⟨.tup [.agg [.int .i64 n, .int .i64 s, .rsl 600000 0 (finals f N).length, .imm2 .i64 N], .int .i64 0], [], [⟨true, .bools (finals f N)⟩]⟩
def exCode (m : Int) (d : List Int) (n s f : Int) (N : List (List Int)) (ns : List Int) : Int :=
  if z1u m d n s f N = 0 then
    (if (ns.all fun x => decide (0 ≤ x ∧ x ≤ (N.length : Int) - 1)) = true then
      (if diaB d N = true ∧ goesB d N = true ∧ endsB N = true then 0 else 5) else 2) else z1u m d n s f N
end Go.PR.S

end

section
set_option maxRecDepth 20000
namespace Go.PR.S
open Go Go.PR Go.Proofs Gp
inductive Rch (N : List (List Int)) (E q : Nat) : Nat → Prop where
  | base : Rch N E q q
  | next {t a : Nat} : Rch N E q t → a < (N.getD t []).length → E.testBit a = false → (N.getD t []).getD a 0 ≥ 0 → Rch N E q ((N.getD t []).getD a 0).toNat
def Pers (d : List Int) (N : List (List Int)) (E q : Nat) : Prop := ∀ t, Rch N E q t → ∀ a, a < (N.getD t []).length → E.testBit a = false → (N.getD t []).getD a 0 ≥ 0 → dm d a &&& E = 0
theorem zjc {m i : Nat} : m &&& 2 ^ i = 0 ↔ m.testBit i = false := by
  constructor
  · intro h
    have := congrArg (fun x => x.testBit i) h
    simpa [Nat.testBit_and, Nat.testBit_two_pow] using this
  · intro h
    apply Nat.eq_of_testBit_eq
    intro j
    rw [Nat.testBit_and, Nat.testBit_two_pow]
    by_cases e : i = j
    · subst e; simp [h]
    · simp [e]
section
variable {m n s f : Int} {d : List Int} {N : List (List Int)}
theorem Rch.lt (h : Ov m d n s f N) {E q : Nat} (hq : q < N.length) {t : Nat} (ht : Rch N E q t) : t < N.length := by
  induction ht with
  | base => exact hq
  | next ht ha he h0 ih =>
    have := h.next ih (by rw [← h.row ih]; exact ha)
    omega
def OKp (d : List Int) (N : List (List Int)) (E : Nat) (R : List Bool) (t x : Nat) : Prop := R.getD t false = true → E.testBit x = false → (N.getD t []).getD x 0 ≥ 0 → dm d x &&& E = 0 ∧ R.getD ((N.getD t []).getD x 0).toNat false = true
structure RI (N : List (List Int)) (E q : Nat) (R : List Bool) : Prop where
  len : R.length = N.length
  rch : ∀ t, R.getD t false = true → Rch N E q t
  base : R.getD q false = true
theorem pers_of {E q : Nat} (h : Ov m d n s f N) (hq : q < N.length) {R : List Bool} (hR : RI N E q R) (hok : ∀ t, t < N.length → ∀ x, x < d.length → OKp d N E R t x) : Pers d N E q := by
  have key : ∀ t, Rch N E q t → R.getD t false = true := by
    intro t ht
    induction ht with
    | base => exact hR.base
    | next ht ha he h0 ih =>
      have hlt := ht.lt h hq
      rw [h.row hlt] at ha
      exact (hok _ hlt _ ha ih he h0).2
  intro t ht a ha he h0
  have hlt := ht.lt h hq
  rw [h.row hlt] at ha
  exact (hok t hlt a ha (key t ht) he h0).1
theorem ztm (h : Ov m d n s f N) {E q : Nat} (hq : q < N.length) (hE : E < 2 ^ d.length) : ∃ b : Bool, Runs X F.z5 [alD m d, auD n s f N, iD q, iD E] [] (boolR b) ∧
    (b = true ↔ (nandn E (possM N q) = 0 ∧ ¬ (E = 0 ∧ possM N q ≠ 0)) ∧ Pers d N E q) := by
  have hd := h.dlen
  have hs8 := h.al.small
  have hlen := h.al.len
  have hl16 := h.l16
  have hE63 : E < 2 ^ 63 := Nat.lt_of_lt_of_le hE (Nat.pow_le_pow_right (by omega) (by omega))
  have in2 : ∀ t : Nat, t < N.length → ∀ (k a : Nat), a + k = d.length → ∀ (R : List Bool) (c : Bool), RI N E q R →
      (¬ Pers d N E q ∧ ∃ (R' : List Bool) (c' : Bool), WL F.z5 4 Tryd.f63 2 (zo m d n s f N E t (mOf R) c a) (z7r m d n s f N E t (mOf R') c')) ∨
      (∃ (R' : List Bool) (c' : Bool), RI N E q R' ∧ R'.count false ≤ R.count false ∧ (c' = true → c = true ∨ R'.count false < R.count false) ∧ (c' = false → R' = R ∧ c = false ∧ ∀ x, a ≤ x → x < d.length → OKp d N E R t x) ∧
        WL F.z5 4 Tryd.f63 2 (zo m d n s f N E t (mOf R) c a) (z7s m d n s f N E t (mOf R') c')) := by
    intro t ht k
    have hrow := h.row ht
    induction k with
    | zero =>
      intro a ha R c hR
      refine .inr ⟨R, c, hR, Nat.le_refl _, fun hc => .inl hc, fun hc => ⟨rfl, hc, fun x h1 h2 => by omega⟩, ?_⟩
      apply zyk
      case hq => rfl
      all_goals omega
    | succ k ih =>
      intro a ha R c hR
      have hal : a < d.length := by omega
      obtain ⟨n1, n2⟩ := h.next ht hal
      have hmd := mOf_lt R
      have h62 : (2 : Nat) ^ R.length ≤ 2 ^ 16 := Nat.pow_le_pow_right (by omega) (by rw [hR.len]; exact hl16)
      have c1 := z4i (m := mOf R) (i := t) (by omega) (by omega)
      have hb1 : tb (mOf R) t = R.getD t false := by unfold tb; rw [Int.toNat_natCast, Int.toNat_natCast, mOf_bit]
      rw [hb1] at c1
      have c2 := z4i (m := E) (i := a) hE63 (by omega)
      have hb2 : tb E a = E.testBit a := by unfold tb; rw [Int.toNat_natCast, Int.toNat_natCast]
      rw [hb2] at c2
      -- one round that turns nothing
      have skip : ∀ (hstep : ∀ Q : Out → Prop, WpL X F.z5 4 (lb Tryd.f63 2) (zo m d n s f N E t (mOf R) c (a + 1)).st Q → WpL X F.z5 4 (lb Tryd.f63 2) (zo m d n s f N E t (mOf R) c a).st Q) (hok : OKp d N E R t a),
          (¬ Pers d N E q ∧ ∃ (R' : List Bool) (c' : Bool), WL F.z5 4 Tryd.f63 2 (zo m d n s f N E t (mOf R) c a) (z7r m d n s f N E t (mOf R') c')) ∨
          (∃ (R' : List Bool) (c' : Bool), RI N E q R' ∧ R'.count false ≤ R.count false ∧ (c' = true → c = true ∨ R'.count false < R.count false) ∧ (c' = false → R' = R ∧ c = false ∧ ∀ x, a ≤ x → x < d.length → OKp d N E R t x) ∧
            WL F.z5 4 Tryd.f63 2 (zo m d n s f N E t (mOf R) c a) (z7s m d n s f N E t (mOf R') c')) := by
        intro hstep hok
        rcases ih (a + 1) (by omega) R c hR with ⟨hn, R', c', hw⟩ | ⟨R', c', h1, h2, h3, h4, hw⟩
        · exact .inl ⟨hn, R', c', hstep _ hw⟩
        · refine .inr ⟨R', c', h1, h2, h3, fun hc => ?_, hstep _ hw⟩
          obtain ⟨e1, e2, e3⟩ := h4 hc
          refine ⟨e1, e2, fun x hx hx2 => ?_⟩
          by_cases e : x = a
          · rw [e]; exact hok
          · exact e3 x (by omega) hx2
      cases hRt : R.getD t false with
      | false =>
        rw [hRt] at c1
        refine skip (fun Q hqq => ?_) (fun hh => by rw [hRt] at hh; cases hh)
        apply zye
        case hq => exact hqq
        all_goals first | omega | exact c1 | rfl
      | true =>
        rw [hRt] at c1
        cases hEa : E.testBit a with
        | true =>
          rw [hEa] at c2
          refine skip (fun Q hqq => ?_) (fun _ hh => by rw [hEa] at hh; cases hh)
          apply zyf
          case hq => exact hqq
          all_goals first | omega | exact c1 | exact c2 | rfl
        | false =>
          rw [hEa] at c2
          by_cases hneg : (N.getD t []).getD a 0 < 0
          · refine skip (fun Q hqq => ?_) (fun _ _ hh => by omega)
            apply zyg
            case hq => exact hqq
            all_goals first | omega | exact c1 | exact c2 | rfl
          · have hm := (h.al.mask a (by omega)).1
            have hia : iand (d.getD a 0) (E : Int) = ((dm d a &&& E : Nat) : Int) := by rw [hm]; exact z70 (h.al.small63 (by omega)) hE63
            by_cases hbad : dm d a &&& E = 0
            · have c3 := z5g (i := ((N.getD t []).getD a 0).toNat) (by omega)
              rw [show ((((N.getD t []).getD a 0).toNat : Nat) : Int) = (N.getD t []).getD a 0 by omega] at c3
              have hiR : iand (mOf R : Int) ((2 ^ ((N.getD t []).getD a 0).toNat : Nat) : Int) = ((mOf R &&& 2 ^ ((N.getD t []).getD a 0).toNat : Nat) : Int) := z70 (by omega) (pow62 (by omega))
              have hz : (mOf R &&& 2 ^ ((N.getD t []).getD a 0).toNat = 0) ↔ R.getD ((N.getD t []).getD a 0).toNat false = false := by rw [zjc, mOf_bit]
              cases hseen : R.getD ((N.getD t []).getD a 0).toNat false with
              | true =>
                refine skip (fun Q hqq => ?_) (fun _ _ _ => ⟨hbad, hseen⟩)
                have hnz : ¬ (mOf R &&& 2 ^ ((N.getD t []).getD a 0).toNat = 0) := fun hh => by rw [hz, hseen] at hh; cases hh
                apply zyj
                case hq => exact hqq
                all_goals first | omega | exact c1 | exact c2 | exact c3 | rfl
              | false =>
                have hzz := hz.2 hseen
                have hlt : ((N.getD t []).getD a 0).toNat < R.length := by rw [hR.len]; omega
                have hor : ior (mOf R : Int) ((2 ^ ((N.getD t []).getD a 0).toNat : Nat) : Int) = ((mOf (R.set ((N.getD t []).getD a 0).toNat true) : Nat) : Int) := by
                  rw [ior_nat (by omega) (pow62 (by omega)), mOf_set hlt]
                have hR2 : RI N E q (R.set ((N.getD t []).getD a 0).toNat true) := by
                  refine ⟨by rw [List.length_set]; exact hR.len, fun y hy => ?_, ?_⟩
                  · rw [getD_set_true hlt] at hy
                    split at hy
                    · rename_i e; rw [← e]; exact .next (hR.rch t hRt) (by rw [hrow]; exact hal) hEa (by omega)
                    · exact hR.rch y hy
                  · rw [getD_set_true hlt]
                    split
                    · rfl
                    · exact hR.base
                have hcnt := (zb4 hlt hseen).1
                have hstep : ∀ Q : Out → Prop, WpL X F.z5 4 (lb Tryd.f63 2) (zo m d n s f N E t (mOf (R.set ((N.getD t []).getD a 0).toNat true)) true (a + 1)).st Q → WpL X F.z5 4 (lb Tryd.f63 2) (zo m d n s f N E t (mOf R) c a).st Q := by
                  intro Q hqq
                  apply zyi
                  case hq => rw [hor]; exact hqq
                  all_goals first | omega | exact c1 | exact c2 | exact c3 | rfl
                rcases ih (a + 1) (by omega) _ true hR2 with ⟨hn, R', c', hw⟩ | ⟨R', c', h1, h2, h3, h4, hw⟩
                · exact .inl ⟨hn, R', c', hstep _ hw⟩
                · exact .inr ⟨R', c', h1, by omega, fun _ => .inr (by omega), fun hc => absurd (h4 hc).2.1 (by simp), hstep _ hw⟩
            · refine .inl ⟨fun hp => hbad (hp t (hR.rch t hRt) a (by rw [hrow]; exact hal) hEa (by omega)), R, c, ?_⟩
              apply zyh
              case hq => rfl
              all_goals first | omega | exact c1 | exact c2 | rfl
  have in1 : ∀ (k t : Nat), t + k = N.length → ∀ (R : List Bool) (c : Bool), RI N E q R →
      (¬ Pers d N E q ∧ ∃ (R' : List Bool) (c' : Bool), WL F.z5 2 Tryd.f63 1 (z30 m d n s f N E (mOf R) c t) (zae m d n s f N E (mOf R') c')) ∨
      (∃ (R' : List Bool) (c' : Bool), RI N E q R' ∧ R'.count false ≤ R.count false ∧ (c' = true → c = true ∨ R'.count false < R.count false) ∧ (c' = false → R' = R ∧ c = false ∧ ∀ y, t ≤ y → y < N.length → ∀ x, x < d.length → OKp d N E R y x) ∧
        WL F.z5 2 Tryd.f63 1 (z30 m d n s f N E (mOf R) c t) (zaf m d n s f N E (mOf R') c')) := by
    intro k
    induction k with
    | zero =>
      intro t ht R c hR
      refine .inr ⟨R, c, hR, Nat.le_refl _, fun hc => .inl hc, fun hc => ⟨rfl, hc, fun x h1 h2 => by omega⟩, ?_⟩
      apply zyd
      case hq => rfl
      all_goals omega
    | succ k ih =>
      intro t ht R c hR
      rcases in2 t (by omega) d.length 0 (Nat.zero_add _) R c hR with ⟨hn, R', c', hw⟩ | ⟨R1, c1, h1, h2, h3, h4, hw⟩
      · refine .inl ⟨hn, R', c', ?_⟩
        apply zyb
        case hq => rfl
        all_goals first | exact hw | omega
      · have hstep : ∀ Q : Out → Prop, WpL X F.z5 2 (lb Tryd.f63 1) (z30 m d n s f N E (mOf R1) c1 (t + 1)).st Q → WpL X F.z5 2 (lb Tryd.f63 1) (z30 m d n s f N E (mOf R) c t).st Q := by
          intro Q hqq
          apply zyc
          case hq => exact hqq
          all_goals first | exact hw | omega
        rcases ih (t + 1) (by omega) R1 c1 h1 with ⟨hn, R', c', hw'⟩ | ⟨R2, c2, g1, g2, g3, g4, hw'⟩
        · exact .inl ⟨hn, R', c', hstep _ hw'⟩
        · refine .inr ⟨R2, c2, g1, by omega, fun hc => ?_, fun hc => ?_, hstep _ hw'⟩
          · rcases g3 hc with hc1 | hlt
            · rcases h3 hc1 with hc | hlt
              · exact .inl hc
              · exact .inr (by omega)
            · exact .inr (by omega)
          · obtain ⟨e1, e2, e3⟩ := g4 hc
            obtain ⟨e4, e5, e6⟩ := h4 e2
            subst e4
            refine ⟨e1, e5, fun y hy hy2 x hx => ?_⟩
            by_cases e : y = t
            · rw [e]; exact e6 x (Nat.zero_le _) hx
            · exact e3 y (by omega) hy2 x hx
  have outer : ∀ (k : Nat) (R : List Bool), RI N E q R → R.count false < k →
      (¬ Pers d N E q ∧ WL F.z5 0 Tryd.f63 0 (z2b m d n s f N E (mOf R) true) (z7p)) ∨ (Pers d N E q ∧ WL F.z5 0 Tryd.f63 0 (z2b m d n s f N E (mOf R) true) (z7q)) := by
    intro k
    induction k with
    | zero => intro R _ hk; omega
    | succ k ih =>
      intro R hR hk
      rcases in1 N.length 0 (Nat.zero_add _) R false hR with ⟨hn, R', c', hw⟩ | ⟨R1, c1, h1, h2, h3, h4, hw⟩
      · refine .inl ⟨hn, ?_⟩
        apply zy9
        case hq => rfl
        all_goals first | exact hw | rfl
      · cases hc : c1 with
        | false =>
          obtain ⟨e1, _, e3⟩ := h4 hc
          subst e1
          refine .inr ⟨pers_of h hq hR fun t ht x hx => e3 t (Nat.zero_le _) ht x hx, ?_⟩
          rw [hc] at hw
          apply zio
          case l42 => exact hw
          case hq =>
            apply zya
            case hq => rfl
            all_goals rfl
          all_goals rfl
        | true =>
          have hlt : R1.count false < R.count false := by
            rcases h3 hc with hh | hh
            · cases hh
            · exact hh
          rw [hc] at hw
          have hstep : ∀ Q : Out → Prop, WpL X F.z5 0 (lb Tryd.f63 0) (z2b m d n s f N E (mOf R1) true).st Q → WpL X F.z5 0 (lb Tryd.f63 0) (z2b m d n s f N E (mOf R) true).st Q := by
            intro Q hqq
            apply zio
            case l42 => exact hw
            case hq => exact hqq
            all_goals rfl
          rcases ih R1 h1 (by omega) with ⟨hn, hw'⟩ | ⟨hn, hw'⟩
          · exact .inl ⟨hn, hstep _ hw'⟩
          · exact .inr ⟨hn, hstep _ hw'⟩
  have cp := z9m h.toAutP (q := (q : Int)) (by omega) (by omega)
  have hpl := poss_lt h.rowsP q
  have hnand : iandnot (E : Int) (possM N q : Nat) = (nandn E (possM N q) : Nat) := z22 hE63 hpl
  by_cases h1 : nandn E (possM N q) = 0
  · by_cases h2 : E = 0 ∧ possM N q ≠ 0
    · exact ⟨false, zy4 cp (by rw [hnand]; omega) (by omega) (by omega), ⟨fun hh => by (cases hh), fun hh => absurd h2 hh.1.2⟩⟩
    · have c1 := z5g (i := q) (by omega)
      have hlt : q < (noneE N).length := by simp [noneE]; exact hq
      have hR : RI N E q ((noneE N).set q true) := by
        refine ⟨by simp [noneE], fun y hy => ?_, ?_⟩
        · rw [getD_set_true hlt] at hy
          split at hy
          · rename_i e; rw [← e]; exact .base
          · rw [zc6] at hy; cases hy
        · rw [getD_set_true hlt, if_pos rfl]
      have hm0 : ((2 ^ q : Nat) : Int) = ((mOf ((noneE N).set q true) : Nat) : Int) := by
        rw [← mOf_set hlt, zgb, Nat.zero_or]
      rw [hm0] at c1
      have hcz : ∀ b : Bool, (b = true ↔ Pers d N E q) → (b = true ↔ (nandn E (possM N q) = 0 ∧ ¬ (E = 0 ∧ possM N q ≠ 0)) ∧ Pers d N E q) := fun b hb => by
        rw [hb]; exact ⟨fun hh => ⟨⟨h1, h2⟩, hh⟩, fun hh => hh.2⟩
      by_cases hE0 : E = 0
      · have hp0 : possM N q = 0 := Classical.byContradiction fun hh => h2 ⟨hE0, hh⟩
        rcases outer _ _ hR (Nat.lt_succ_self _) with ⟨hn, hw⟩ | ⟨hn, hw⟩
        · exact ⟨false, zy5 cp (by rw [hnand]; omega) (by omega) (by omega) c1 hw, hcz _ ⟨fun hh => by (cases hh), fun hh => absurd hh hn⟩⟩
        · exact ⟨true, zy6 cp (by rw [hnand]; omega) (by omega) (by omega) c1 hw, hcz _ ⟨fun _ => hn, fun _ => rfl⟩⟩
      · rcases outer _ _ hR (Nat.lt_succ_self _) with ⟨hn, hw⟩ | ⟨hn, hw⟩
        · exact ⟨false, zy7 cp (by rw [hnand]; omega) (by omega) c1 hw, hcz _ ⟨fun hh => by (cases hh), fun hh => absurd hh hn⟩⟩
        · exact ⟨true, zy8 cp (by rw [hnand]; omega) (by omega) c1 hw, hcz _ ⟨fun _ => hn, fun _ => rfl⟩⟩
  · exact ⟨false, zy3 cp (by rw [hnand]; omega), ⟨fun hh => by (cases hh), fun hh => absurd hh.1.1 h1⟩⟩
end
end Go.PR.S

end
