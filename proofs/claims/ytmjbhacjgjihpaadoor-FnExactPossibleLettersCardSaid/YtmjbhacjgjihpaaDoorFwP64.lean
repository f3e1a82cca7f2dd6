/- Asynchronous automata: places, global states, and parts of them; both sides ask the same. -/
import Derived.Test.YtmjbhacjgjihpaaDoorFwP10
import Derived.Test.YtmjbhacjgjihpaaDoorFwG62
import Derived.Test.YtmjbhacjgjihpaaDoorFwG63
set_option linter.unusedVariables false
set_option linter.unusedSimpArgs false
set_option linter.unusedSectionVars false
set_option maxRecDepth 20000
namespace Go.PR.S
open Go Go.PR Go.Proofs Gp
abbrev zD (ps ss st : List Int) (js : List Rcd) (fs : List (List Int)) : D := .agg [.immI .i64 ps, .immI .i64 ss, .immI .i64 st, .immR [.int .i64, .ints .i64, .ints .i64] js, .imm2 .i64 fs]
abbrev jl (j : Rcd) : Int := j.is.headD 0
abbrev jf (j : Rcd) : List Int := j.ls.headD []
abbrev jt (j : Rcd) : List Int := j.ls.tail.headD []
theorem z8x (w : List Int) : Runs X F.zm [lD w] [] (intR w.length) := zhp
theorem zbx {f : FuncId} {b : Nat} {body : Code} {st : Nat → LSt} {p : Nat → Bool} {oF oT : OutL} {N : Nat}
    (hS : ∀ i, i < N → (∀ j, j < i → p j = true) → p i = true → ∀ Q, WpL X f b body (st (i + 1)).st Q → WpL X f b body (st i).st Q)
    (hF : ∀ i, i < N → (∀ j, j < i → p j = true) → p i = false → ∀ Q : Out → Prop, Q oF.out → WpL X f b body (st i).st Q)
    (hE : ∀ Q : Out → Prop, Q oT.out → WpL X f b body (st N).st Q) :
    WpL X f b body (st 0).st (fun o => o = (if (List.range N).all p then oT else oF).out) := by
  have key : ∀ (n i : Nat), i + n = N → (∀ j, j < i → p j = true) → WpL X f b body (st i).st (fun o => o = (if (List.range N).all p then oT else oF).out) := by
    intro n
    induction n with
    | zero =>
      intro i hi hp
      obtain rfl : i = N := by omega
      have : (List.range i).all p = true := List.all_eq_true.2 fun j hj => hp j (List.mem_range.1 hj)
      rw [if_pos this]
      exact hE _ rfl
    | succ n ih =>
      intro i hi hp
      cases hpi : p i with
      | true =>
        refine hS i (by omega) hp hpi _ (ih (i + 1) (by omega) fun j hj => ?_)
        by_cases e : j = i
        · rw [e]; exact hpi
        · exact hp j (by omega)
      | false =>
        have : ¬ (List.range N).all p = true := fun h => by
          have := List.all_eq_true.1 h i (List.mem_range.2 (by omega))
          rw [hpi] at this; cases this
        rw [if_neg this]
        exact hF i (by omega) hp hpi _ rfl
  exact key N 0 (by omega) (fun j hj => by omega)
def gl (ss g : List Int) : Bool := decide (g.length = ss.length) && (List.range g.length).all fun i => decide (0 ≤ g.getD i 0 ∧ g.getD i 0 ≤ ss.getD i 0 - 1)
def Sz (ss : List Int) : Prop := ∀ i, i < ss.length → 1 ≤ ss.getD i 0 ∧ ss.getD i 0 ≤ 4
theorem z4k {ss : List Int} (hs : Sz ss) (g : List Int) (hl : g.length ≤ B40) : Runs X F.z7 [lD ss, lD g] [] (boolR (gl ss g)) := by
  unfold B40 at hl
  unfold gl
  by_cases he : g.length = ss.length
  · rw [decide_eq_true he, Bool.true_and]
    have hlp := z4g (f := F.z7) (b := 0) (body := lb Tryd.f35 0) (N := g.length) (oF := z5n) (oT := z5o) (st := fun i => z2y ss g i)
      (p := fun i => decide (0 ≤ g.getD i 0 ∧ g.getD i 0 ≤ ss.getD i 0 - 1)) (fun i hi hp Q hq => ?_) (fun i hi hp Q hq => ?_) (fun Q hq => ?_)
    · cases hd : (List.range g.length).all fun i => decide (0 ≤ g.getD i 0 ∧ g.getD i 0 ≤ ss.getD i 0 - 1) with
      | true => rw [hd] at hlp; exact zhj (by omega) hlp
      | false => rw [hd] at hlp; exact zhi (by omega) hlp
    · have := hs i (by omega)
      have c := z4j (g.getD i 0) 0 (ss.getD i 0 - 1)
      rw [hp] at c
      exact zhl (by omega) (by omega) (by omega) (by omega) c rfl (by omega) hq
    · have := hs i (by omega)
      have c := z4j (g.getD i 0) 0 (ss.getD i 0 - 1)
      rw [hp] at c
      exact zhk (by omega) (by omega) (by omega) (by omega) c rfl hq
    · exact zhm (by omega) (by omega) hq
  · rw [decide_eq_false he, Bool.false_and]
    exact zhh (by omega)
def pl (n : Nat) (ps : List Int) : Bool := decide (1 ≤ n ∧ n ≤ 4) && (decide (ps.length ≤ 8) && ps.all fun x => decide (1 ≤ x ∧ x ≤ ((2 ^ n : Nat) : Int) - 1))
theorem pl_spec {n : Nat} {ps : List Int} (h : pl n ps = true) : (1 ≤ n ∧ n ≤ 4) ∧ ps.length ≤ 8 ∧ ∀ i, i < ps.length → ∃ m : Nat, ps.getD i 0 = m ∧ 1 ≤ m ∧ m < 2 ^ n := by
  unfold pl at h
  rw [Bool.and_eq_true, Bool.and_eq_true, decide_eq_true_eq, decide_eq_true_eq, List.all_eq_true] at h
  refine ⟨h.1, h.2.1, fun i hi => ?_⟩
  have := h.2.2 ps[i] (List.getElem_mem hi)
  rw [decide_eq_true_eq] at this
  rw [getD_lt hi]
  exact ⟨ps[i].toNat, by omega, by omega, by omega⟩
theorem zlg (n : Nat) (ps : List Int) (hl : ps.length ≤ B40) : Runs X F.z1o [iD n, lD ps] [] (boolR (pl n ps)) := by
  have c := z4j n 1 4
  unfold pl
  by_cases hn : 1 ≤ n ∧ n ≤ 4
  · rw [decide_eq_true (by omega)] at c
    rw [decide_eq_true hn, Bool.true_and]
    by_cases h8 : ps.length ≤ 8
    · rw [decide_eq_true h8, Bool.true_and]
      have h2 := zcv (i := n) (by omega)
      have hp : 2 ^ n ≤ 2 ^ 4 := Nat.pow_le_pow_right (by omega) hn.2
      have hp0 : 0 < 2 ^ n := Nat.pow_pos (by omega)
      exact zh1 c rfl (by omega) h2 (by omega) (by omega) (zcp ps 1 _ hl)
    · rw [decide_eq_false h8, Bool.false_and]
      exact zh2 c rfl (by omega)
  · rw [decide_eq_false (by omega)] at c
    rw [decide_eq_false hn, Bool.false_and]
    exact zh3 c rfl
theorem zg2 (m k : Nat) : evalFn X (k + 20) F.z2r [iD (m : Int)] [] = some (intR (IntKind.i64.wrap (IntKind.i64.wrap (1 * 2 ^ min ((IntKind.u64.wrap (m : Int)).toNat) 64) - 1))) := by kernel_rfl
theorem zg1 (m : Nat) : ∃ r, Runs X F.z2r [iD (m : Int)] [] (intR r) :=
  ⟨_, 20, fun k hk => by obtain ⟨j, rfl⟩ : ∃ j, k = j + 20 := ⟨k - 20, by omega⟩; exact zg2 m j⟩
theorem zlr (n : Nat) (ps : List Int) (hl : ps.length ≤ B40) : Runs X F.zp [iD n, lD ps] [] (boolR (pl n ps)) := by
  unfold B40 at hl
  have key : ∀ r : Int, Runs X F.z2r [iD n] [] (intR r) → WpL X F.zp 0 (lb Tryd.f60 0) (z2f n ps 0).st (fun o => o = (if (List.range ps.length).all (fun i => decide (1 ≤ ps.getD i 0 ∧ ps.getD i 0 ≤ r)) then z5d n ps else z6s n ps).out) := by
    intro r hr
    refine z4g (f := F.zp) (b := 0) (body := lb Tryd.f60 0) (N := ps.length) (st := fun i => z2f n ps i)
      (p := fun i => decide (1 ≤ ps.getD i 0 ∧ ps.getD i 0 ≤ r)) (fun i hi hp Q hq => ?_) (fun i hi hp Q hq => ?_) (fun Q hq => ?_)
    · have c := z35 (ps.getD i 0) 1 r
      rw [hp] at c
      exact zoi (by omega) hr c rfl (by omega) hq
    · have c := z35 (ps.getD i 0) 1 r
      rw [hp] at c
      exact zoh (by omega) hr c rfl hq
    · exact zoj (by omega) hq
  have c := z35 n 1 4
  unfold pl
  by_cases hn : 1 ≤ n ∧ n ≤ 4
  · rw [decide_eq_true (by omega)] at c
    rw [decide_eq_true hn, Bool.true_and]
    have k := key _ (zcr (i := n) (by omega))
    have e : (List.range ps.length).all (fun i => decide (1 ≤ ps.getD i 0 ∧ ps.getD i 0 ≤ ((2 ^ n : Nat) : Int) - 1)) = ps.all fun x => decide (1 ≤ x ∧ x ≤ ((2 ^ n : Nat) : Int) - 1) := by
      rw [Bool.eq_iff_iff, List.all_eq_true, List.all_eq_true]
      constructor
      · intro h x hx
        obtain ⟨i, hi, rfl⟩ := List.getElem_of_mem hx
        have := h i (List.mem_range.2 hi)
        rwa [getD_lt hi] at this
      · intro h i hi
        have hi := List.mem_range.1 hi
        rw [getD_lt hi]
        exact h _ (List.getElem_mem hi)
    rw [e] at k
    cases hd : ps.all fun x => decide (1 ≤ x ∧ x ≤ ((2 ^ n : Nat) : Int) - 1) with
    | true =>
      rw [hd] at k
      have := zof k c rfl
      rw [Bool.and_true]
      have e2 : decide ((ps.length : Int) ≤ 8) = decide (ps.length ≤ 8) := by simp only [decide_eq_decide]; omega
      rw [e2] at this
      exact this
    | false =>
      rw [hd] at k
      rw [Bool.and_false]
      exact zdn k
  · rw [decide_eq_false (by omega)] at c
    rw [decide_eq_false hn, Bool.false_and]
    obtain ⟨r, hr⟩ := zg1 n
    have k := key r hr
    split at k
    · exact zog k c rfl
    · exact zdn k
def part (l : List Int) (m : Nat) : List Int := (bitsN m).map fun i => l.getD i 0
theorem bit_in {m n i : Nat} (hm : m < 2 ^ n) (hi : m.testBit i = true) : i < n := by
  rcases Nat.lt_or_ge i n with h | h
  · exact h
  · have : m < 2 ^ i := Nat.lt_of_lt_of_le hm (Nat.pow_le_pow_right (by omega) h)
    rw [Nat.testBit_lt_two_pow this] at hi; cases hi
theorem zct {l : List Int} {m n : Nat} (hm : m < 2 ^ n) (hn : n ≤ 8) (hl : l.length = n) : Runs X F.zz [lD l, iD m] [] (rowR (part l m)) := by
  have h63 : m < 2 ^ 63 := Nat.lt_of_lt_of_le hm (Nat.pow_le_pow_right (by omega) (by omega))
  have hlen := z9x m
  have hL : (bitsL m).length = (bitsN m).length := by unfold bitsL; rw [List.length_map]
  have lp : WpL X F.zz 0 (lb Tryd.f119 0) (z3g l (bitsL m) 0 (((bitsN m).take 0).map fun i => l.getD i 0)).st (fun o => o = (z5p (part l m)).out) := by
    refine loop_to (N := (bitsN m).length) (st := fun i => z3g l (bitsL m) i (((bitsN m).take i).map fun i => l.getD i 0)) (fun i hi Q hq => ?_) (fun Q hq => ?_)
    · have hg := z9v (m := m) hi
      have hb := bit_in hm ((z8f h63).1 (List.getElem_mem hi))
      refine zhs (by omega) (by rw [Nat.zero_add, hg]; omega) (by rw [Nat.zero_add, hg]; omega) (by rw [List.length_map, List.length_take]; omega) (by omega) ?_
      rw [Nat.zero_add, hg, Int.toNat_natCast]
      rw [List.take_succ_eq_append_getElem hi, List.map_append] at hq
      exact hq
    · rw [List.take_length]
      exact zht (by omega) hq
  exact zhr (zcu h63) lp
def bel (m p : Nat) : List Nat := (List.range p).filter fun i => m.testBit i
theorem z22 (m p : Nat) : bel m (p + 1) = bel m p ++ (if m.testBit p then [p] else []) := by
  unfold bel
  rw [List.range_succ, List.filter_append]
  cases h : m.testBit p <;> simp [h]
theorem z73 {m n : Nat} (hm : m < 2 ^ n) (hn : n ≤ 8) : bel m n = bitsN m := by
  have key : ∀ k, bel m (n + k) = bel m n := by
    intro k
    induction k with
    | zero => rfl
    | succ k ih =>
      rw [show n + (k + 1) = (n + k) + 1 by omega, z22, ih]
      have : m.testBit (n + k) = false := by
        cases h : m.testBit (n + k) with
        | false => rfl
        | true => have := bit_in hm h; omega
      rw [this]; simp
  have := key (63 - n)
  rw [show n + (63 - n) = 63 by omega] at this
  exact this.symm
theorem bel_len (m p : Nat) : (bel m p).length ≤ p := by
  unfold bel
  exact Nat.le_trans (List.length_filter_le _ _) (by simp)
theorem zlq {l : List Int} {m n : Nat} (hm : m < 2 ^ n) (hn : n ≤ 8) (hl : l.length = n) : Runs X F.z16 [lD l, iD m] [] (rowR (part l m)) := by
  have h63 : m < 2 ^ 63 := Nat.lt_of_lt_of_le hm (Nat.pow_le_pow_right (by omega) (by omega))
  have lp : WpL X F.z16 0 (lb Tryd.f114 0) (z2e l m 0 ((bel m 0).map fun i => l.getD i 0)).st (fun o => o = (z6r (part l m)).out) := by
    refine loop_to (N := l.length) (st := fun i => z2e l m i ((bel m i).map fun i => l.getD i 0)) (fun i hi Q hq => ?_) (fun Q hq => ?_)
    · have c := z8v (m := m) (i := i) h63 (by omega)
      have hbl := bel_len m i
      cases hb : tb m i with
      | true =>
        rw [hb] at c
        have hb' : m.testBit i = true := by unfold tb at hb; simpa using hb
        refine zoc (by omega) c rfl (by rw [List.length_map]; omega) (by omega) ?_
        rw [z22, if_pos hb', List.map_append] at hq
        exact hq
      | false =>
        rw [hb] at c
        have hb' : m.testBit i = false := by unfold tb at hb; simpa using hb
        refine zod (by omega) c rfl (by omega) ?_
        rw [z22, hb'] at hq
        simpa using hq
    · refine zoe (by omega) ?_
      rw [hl, z73 hm hn]
      exact hq
  exact zob lp
section
variable {ps ss st : List Int} {js : List Rcd} {fs : List (List Int)}
theorem gl_iff {ss g : List Int} : gl ss g = true ↔ g.length = ss.length ∧ ∀ i, i < g.length → 0 ≤ g.getD i 0 ∧ g.getD i 0 ≤ ss.getD i 0 - 1 := by
  unfold gl
  rw [Bool.and_eq_true, decide_eq_true_eq, List.all_eq_true]
  constructor
  · rintro ⟨h1, h2⟩
    refine ⟨h1, fun i hi => ?_⟩
    have := h2 i (List.mem_range.2 hi)
    rwa [decide_eq_true_eq] at this
  · rintro ⟨h1, h2⟩
    exact ⟨h1, fun i hi => decide_eq_true (h2 i (List.mem_range.1 hi))⟩
theorem zcb {l : List Int} {m i : Nat} (h : i < (bitsN m).length) : (part l m).getD i 0 = l.getD ((bitsN m)[i]) 0 := by
  unfold part
  rw [getD_lt (by rw [List.length_map]; exact h), List.getElem_map]
theorem bel_pre {m n p : Nat} (hm : m < 2 ^ n) (hn : n ≤ 8) (hp : p ≤ n) : ∃ tl, bitsN m = bel m p ++ tl := by
  rw [← z73 hm hn]
  have key : ∀ k, ∃ tl, bel m (p + k) = bel m p ++ tl := by
    intro k
    induction k with
    | zero => exact ⟨[], by simp⟩
    | succ k ih =>
      obtain ⟨tl, e⟩ := ih
      exact ⟨tl ++ _, by rw [show p + (k + 1) = (p + k) + 1 by omega, z22, e, List.append_assoc]⟩
  obtain ⟨tl, e⟩ := key (n - p)
  rw [show p + (n - p) = n by omega] at e
  exact ⟨tl, e⟩
theorem z8w (hs : Sz ss) {m : Nat} (hm : m < 2 ^ ss.length) (hn : ss.length ≤ 8) (l : List Int) (hl : l.length ≤ B40) : Runs X F.z8 [zD ps ss st js fs, iD m, lD l] [] (boolR (gl (part ss m) l)) := by
  unfold B40 at hl
  have h63 : m < 2 ^ 63 := Nat.lt_of_lt_of_le hm (Nat.pow_le_pow_right (by omega) (by omega))
  have hpl : (part ss m).length = (bitsN m).length := by unfold part; rw [List.length_map]
  have key : ∀ (k p at_ : Nat), p + k = ss.length → at_ = (bel m p).length → at_ ≤ l.length → (∀ i, i < at_ → 0 ≤ l.getD i 0 ∧ l.getD i 0 ≤ (part ss m).getD i 0 - 1) →
      (gl (part ss m) l = false ∧ ∃ t, WpL X F.z8 0 (lb Tryd.f63 0) (z1n ps ss st js fs m l at_ p).st (fun o => o = (z4s l t).out)) ∨
      ∃ t : Nat, gl (part ss m) l = ((t : Int) == (l.length : Int)) ∧ WpL X F.z8 0 (lb Tryd.f63 0) (z1n ps ss st js fs m l at_ p).st (fun o => o = (z6q l t).out) := by
    intro k
    induction k with
    | zero =>
      intro p at_ hp ha hle hok
      refine .inr ⟨at_, ?_, zo9 (by omega) rfl⟩
      obtain rfl : p = ss.length := by omega
      rw [z73 hm hn] at ha
      by_cases e : at_ = l.length
      · have : ((at_ : Int) == (l.length : Int)) = true := by simp; omega
        rw [this, gl_iff]
        exact ⟨by omega, fun i hi => hok i (by omega)⟩
      · have : ((at_ : Int) == (l.length : Int)) = false := by simp; omega
        rw [this]
        cases hg : gl (part ss m) l with
        | false => rfl
        | true => have := (gl_iff.1 hg).1; omega
    | succ k ih =>
      intro p at_ hp ha hle hok
      have c := z8v (m := m) (i := p) h63 (by omega)
      cases hb : tb m p with
      | false =>
        rw [hb] at c
        have hb' : m.testBit p = false := by unfold tb at hb; simpa using hb
        rcases ih (p + 1) at_ (by omega) (by rw [z22, hb']; simpa using ha) hle hok with ⟨h1, t, h2⟩ | ⟨t, h1, h2⟩
        · exact .inl ⟨h1, t, zdl (by omega) c rfl (by omega) h2⟩
        · exact .inr ⟨t, h1, zdl (by omega) c rfl (by omega) h2⟩
      | true =>
        rw [hb] at c
        have hb' : m.testBit p = true := by unfold tb at hb; simpa using hb
        obtain ⟨tl, htl⟩ := bel_pre (p := p + 1) hm hn (by omega)
        rw [z22, if_pos hb'] at htl
        have hat : at_ < (bitsN m).length := by rw [htl]; simp; omega
        have hget : (bitsN m)[at_] = p := by
          have e1 : (bitsN m)[at_]? = some p := by rw [htl, ha]; simp
          rw [List.getElem?_eq_getElem hat] at e1
          exact Option.some.inj e1
        have hpg := zcb (l := ss) hat
        rw [hget] at hpg
        have hsz := hs p (by omega)
        by_cases e : at_ = l.length
        · refine .inl ⟨?_, at_, zo7 (by omega) c rfl (by omega) rfl⟩
          cases hg : gl (part ss m) l with
          | false => rfl
          | true => have := (gl_iff.1 hg).1; omega
        · have c2 := z35 (l.getD at_ 0) 0 (ss.getD p 0 - 1)
          by_cases hr : 0 ≤ l.getD at_ 0 ∧ l.getD at_ 0 ≤ ss.getD p 0 - 1
          · rw [decide_eq_true hr] at c2
            have hok' : ∀ i, i < at_ + 1 → 0 ≤ l.getD i 0 ∧ l.getD i 0 ≤ (part ss m).getD i 0 - 1 := fun i hi => by
              by_cases ei : i = at_
              · rw [ei, hpg]; exact hr
              · exact hok i (by omega)
            rcases ih (p + 1) (at_ + 1) (by omega) (by rw [z22, if_pos hb']; simp [ha]) (by omega) hok' with ⟨h1, t, h2⟩ | ⟨t, h1, h2⟩
            · exact .inl ⟨h1, t, zdm (by omega) c rfl (by omega) (by omega) (by omega) (by omega) c2 rfl (by omega) (by omega) h2⟩
            · exact .inr ⟨t, h1, zdm (by omega) c rfl (by omega) (by omega) (by omega) (by omega) c2 rfl (by omega) (by omega) h2⟩
          · rw [decide_eq_false hr] at c2
            refine .inl ⟨?_, at_, zo8 (by omega) c rfl (by omega) (by omega) (by omega) (by omega) c2 rfl rfl⟩
            cases hg : gl (part ss m) l with
            | false => rfl
            | true =>
              have := (gl_iff.1 hg).2 at_ (by omega)
              rw [hpg] at this
              exact absurd this hr
  rcases key ss.length 0 0 (by omega) rfl (by omega) (fun i hi => by omega) with ⟨h1, t, h2⟩ | ⟨t, h1, h2⟩
  · rw [h1]; exact zo5 h2
  · rw [h1]; exact zo6 h2
theorem zkp {ss : List Int} (h : ss.length ≤ 4) : part ss (2 ^ ss.length - 1) = ss := by
  have e : ∀ n : Fin 5, bitsN (2 ^ n.val - 1) = List.range n.val := by decide +kernel
  have := e ⟨ss.length, by omega⟩
  unfold part
  rw [this]
  apply List.ext_getElem
  · simp
  · intro i h1 h2
    rw [List.getElem_map, List.getElem_range, getD_lt h2]
theorem z6h (hs : Sz ss) (h4 : ss.length ≤ 4) (g : List Int) (hl : g.length ≤ B40) : Runs X F.z1m [zD ps ss st js fs, lD g] [] (boolR (gl ss g)) := by
  have hp0 : 0 < 2 ^ ss.length := Nat.pow_pos (by omega)
  have c := zcr (i := ss.length) (by omega)
  rw [show (((2 ^ ss.length : Nat) : Int) - 1) = ((2 ^ ss.length - 1 : Nat) : Int) by omega] at c
  have c2 := z8w (ps := ps) (st := st) (js := js) (fs := fs) hs (m := 2 ^ ss.length - 1) (by omega) (by omega) g hl
  rw [zkp h4] at c2
  exact znt c c2
end
end Go.PR.S
