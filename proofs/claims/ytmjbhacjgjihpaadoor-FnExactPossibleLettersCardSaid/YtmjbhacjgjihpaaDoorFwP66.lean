/- Asynchronous automata: what a letter does, and the possible letters; both sides come to the same. -/
import Derived.Test.YtmjbhacjgjihpaaDoorFwP65
set_option linter.unusedVariables false
set_option linter.unusedSimpArgs false
set_option linter.unusedSectionVars false
set_option maxRecDepth 20000
namespace Go.PR.S
open Go Go.PR Go.Proofs Gp
theorem zmd : X.ft F.z4m = some Tryd.f122 := by kernel_rfl
theorem zmf (w : List Int) : fnV X F.z4m Tryd.f122 [D.immI IntKind.i64 w] [] { ds := [false, true, true], rs := [], lo := [] } = .ok ({ res := D.rsl (600000 : Nat) (0 : Nat) w.length, passed := [], out := [{ wr := true, c := Cont.ints IntKind.i64 w }] }) ⟨[], [], []⟩ ⟨[(0 : Nat) < w.length, false = false, (0 : Nat) = (0 : Nat) ∧ (0 : Nat) + w.length ≤ (1099511627776 : Nat), (0 : Nat) = (0 : Nat) ∧ (0 : Nat) = (0 : Nat)], [], []⟩ := by kernel_rfl
theorem zme {w : List Int} (h1 : (0 : Nat) < w.length) (h2 : (0 : Nat) + w.length ≤ (1099511627776 : Nat)) : Runs X F.z4m [D.immI IntKind.i64 w] [] { res := D.rsl (600000 : Nat) (0 : Nat) w.length, passed := [], out := [{ wr := true, c := Cont.ints IntKind.i64 w }] } :=
  by
  cases w with
  | nil => exact absurd h1 (by simp)
  | cons x l => exact Runs.path (by kernel_rfl) zmd (zmf (x :: l)) (AllP.c h1 (AllP.c rfl (AllP.c ⟨(by omega), h2⟩ (AllP.c ⟨(by omega), (by first | omega | (simp; done) | (simp only [List.length_take, List.length_drop, List.length_append, List.length_set] at *; omega))⟩ trivial)))) trivial trivial
theorem zln (w : List Int) (hl : w.length ≤ B40) : Runs X F.z3y [lD w] [] (rowR w) := znl (by unfold B40 at hl; omega)
theorem zlc {w : List Int} (h0 : 0 < w.length) (hl : w.length ≤ B40) : Runs X F.z4m [lD w] [] (rowR w) := zme h0 (by unfold B40 at hl; omega)
theorem zlo (u v : List Int) (hu : u.length ≤ B40) : Runs X F.z1h [lD u, lD v] [] (boolR (decide (u = v))) := by
  unfold B40 at hu
  by_cases hl : u.length = v.length
  · have hlp := z4g (f := F.z1h) (b := 0) (body := lb Tryd.f115 0) (N := u.length) (oF := z6n) (oT := z6o) (st := fun i => z36 u v i)
      (p := fun i => decide (u.getD i 0 = v.getD i 0)) (fun i hi hp Q hq => ?_) (fun i hi hp Q hq => ?_) (fun Q hq => ?_)
    · have e : (List.range u.length).all (fun i => decide (u.getD i 0 = v.getD i 0)) = decide (u = v) := by
        rw [Bool.eq_iff_iff, List.all_eq_true, decide_eq_true_iff]
        constructor
        · intro h
          apply List.ext_getElem hl
          intro i h1 h2
          have := h i (List.mem_range.2 h1)
          rwa [decide_eq_true_iff, getD_lt h1, getD_lt h2] at this
        · intro h i _; rw [h]; simp
      rw [e] at hlp
      cases hd : decide (u = v) with
      | true => rw [hd] at hlp; exact zno (by omega) hlp
      | false => rw [hd] at hlp; exact znn (by omega) hlp
    · exact znq (by omega) (by omega) (by simpa using hp) (by omega) hq
    · exact znp (by omega) (by omega) (by simpa using hp) hq
    · exact znr (by omega) (by omega) hq
  · have : decide (u = v) = false := decide_eq_false fun e => hl (by rw [e])
    rw [this]
    exact znm (by omega)
section
variable {ps ss st : List Int} {js : List Rcd} {fs : List (List Int)}
theorem gj_spec (h : gj ps ss js = true) : (∀ i, i < js.length → jOK ps ss (rcdAt js i) = true) ∧ (∀ i, 0 < i → i < js.length → cj (rcdAt js (i - 1)) (rcdAt js i) < 0) ∧ js.length ≤ 64 := by
  unfold gj at h
  rw [Bool.and_eq_true, List.all_eq_true, decide_eq_true_eq] at h
  refine ⟨fun i hi => ?_, fun i h0 hi => ?_, h.2⟩
  · have := h.1 i (List.mem_range.2 hi)
    unfold jAt at this
    rw [Bool.and_eq_true] at this
    exact this.1
  · have := h.1 i (List.mem_range.2 hi)
    unfold jAt at this
    rw [Bool.and_eq_true, Bool.or_eq_true, decide_eq_true_eq, decide_eq_true_eq] at this
    exact this.2.resolve_left (by omega)
theorem gj_lt (h : gj ps ss js = true) : ∀ (k i : Nat), i + (k + 1) < js.length → cj (rcdAt js i) (rcdAt js (i + (k + 1))) < 0 := by
  have hs := (gj_spec h).2.1
  intro k
  induction k with
  | zero =>
    intro i hi
    have := hs (i + 1) (by omega) hi
    rwa [show i + 1 - 1 = i by omega] at this
  | succ k ih =>
    intro i hi
    have h1 := ih i (by omega)
    have h2 := hs (i + (k + 1 + 1)) (by omega) hi
    rw [show i + (k + 1 + 1) - 1 = i + (k + 1) by omega] at h2
    exact zf6 h1 h2
theorem gj_lt' (h : gj ps ss js = true) {i j : Nat} (hij : i < j) (hj : j < js.length) : cj (rcdAt js i) (rcdAt js j) < 0 := by
  have := gj_lt h (j - i - 1) i (by omega)
  rwa [show i + (j - i - 1 + 1) = j by omega] at this
theorem jOK_jl {j : Rcd} (h : jOK ps ss j = true) : 0 ≤ jl j ∧ jl j ≤ (ps.length : Int) - 1 := by
  unfold jOK at h
  rw [Bool.and_eq_true, decide_eq_true_eq] at h
  exact h.1
def isJ (js : List Rcd) (a : Int) (u : List Int) (e : Nat) : Prop := e < js.length ∧ jl (rcdAt js e) = a ∧ jf (rcdAt js e) = u
theorem zlh (hL : Lim ps ss st js fs) (hg : gj ps ss js = true) (hp8 : ps.length ≤ 8) {a : Nat} (ha : a < ps.length) (u : List Int) :
    ∃ (r : Nat) (b : Bool), Runs X F.z1g [.immR [.int .i64, .ints .i64, .ints .i64] js, .agg [iD a, lD u, .nil .unk], .fn F.zi []] [] ⟨.tup [iD r, .bool b], [], []⟩ ∧
      (b = true → isJ js a u r) ∧ ((∃ e, isJ js a u e) → b = true) := by
  obtain ⟨hok, _, h64⟩ := gj_spec hg
  have cmp : ∀ i, i < js.length → Runs X F.zi [.agg [iD (jl (rcdAt js i)), lD (jf (rcdAt js i)), lD (jt (rcdAt js i))], .agg [iD a, lD u, .nil .unk]] [] (intR (cjP (jl (rcdAt js i)) (jf (rcdAt js i)) a u)) := by
    intro i hi
    have hr := jOK_jl (hok i hi)
    unfold cjP
    by_cases e : jl (rcdAt js i) = (a : Int)
    · rw [if_pos e]; exact zh5 e (z57 _ _ (hL.hjf i hi))
    · rw [if_neg e]; exact zh4 e (by omega) (by omega)
  have key : ∀ (k lo hi : Nat), hi - lo ≤ k → lo ≤ hi → hi ≤ js.length → ∃ r : Nat, lo ≤ r ∧ r ≤ hi ∧ (∀ e, isJ js a u e → lo ≤ e → e ≤ hi → r = e) ∧
      WpL X F.z1g 0 (lb Tryd.f121 0) (z2c js a u lo hi).st (fun o => o = (z5a js a u r).out) := by
    intro k
    induction k with
    | zero =>
      intro lo hi hk hle hlen
      exact ⟨lo, Nat.le_refl _, hle, fun e _ h1 h2 => by omega, zd8 (by omega) rfl⟩
    | succ k ih =>
      intro lo hi hk hle hlen
      by_cases hlt : lo < hi
      · have hmid : ushr (IntKind.u64.wrap ((lo : Int) + (hi : Int))) 1 = (((lo + hi) / 2 : Nat) : Int) := by
          rw [IntKind.wrap_u64]
          unfold ushr
          rw [show min (1 : Int).toNat 64 = 1 from rfl, Int.fdiv_eq_ediv_of_nonneg _ (by decide)]
          omega
        obtain ⟨m, hm⟩ : ∃ m, m = (lo + hi) / 2 := ⟨_, rfl⟩
        rw [← hm] at hmid
        have hmm : lo ≤ m ∧ m < hi := by omega
        have c := cmp m (by omega)
        by_cases hc : cjP (jl (rcdAt js m)) (jf (rcdAt js m)) a u < 0
        · obtain ⟨r, r1, r2, r3, r4⟩ := ih (m + 1) hi (by omega) (by omega) hlen
          refine ⟨r, by omega, r2, fun e he h1 h2 => r3 e he ?_ h2, ?_⟩
          · rcases Nat.lt_trichotomy e m with h | h | h
            · exfalso
              have h3 := gj_lt' hg h (by omega)
              unfold cj at h3
              rw [he.2.1, he.2.2] at h3
              exact zf5 h3 hc
            · exfalso
              subst h
              have := z7d.2 ⟨he.2.1, he.2.2⟩
              omega
            · omega
          · refine zmb (r8 := cjP (jl (rcdAt js m)) (jf (rcdAt js m)) a u) (by omega) (by omega) (by omega) (by omega) (by omega) (by omega) (by omega) ?_ hc (by omega) ?_
            · rw [hmid, Int.toNat_natCast]; exact c
            · rw [hmid]; exact r4
        · obtain ⟨r, r1, r2, r3, r4⟩ := ih lo m (by omega) (by omega) (by omega)
          refine ⟨r, r1, by omega, fun e he h1 h2 => r3 e he h1 ?_, ?_⟩
          · rcases Nat.lt_or_ge m e with h | h
            · exfalso
              have h3 := gj_lt' hg h he.1
              unfold cj at h3
              rw [he.2.1, he.2.2] at h3
              exact hc h3
            · exact h
          · refine zmc (r8 := cjP (jl (rcdAt js m)) (jf (rcdAt js m)) a u) (by omega) (by omega) (by omega) (by omega) (by omega) (by omega) (by omega) ?_ hc ?_
            · rw [hmid, Int.toNat_natCast]; exact c
            · rw [hmid]; exact r4
      · exact ⟨lo, Nat.le_refl _, hle, fun e _ h1 h2 => by omega, zd8 (by omega) rfl⟩
  obtain ⟨r, _, r2, r3, r4⟩ := key js.length 0 js.length (by omega) (by omega) (Nat.le_refl _)
  by_cases hr : r < js.length
  · have c := cmp r hr
    refine ⟨r, _, zm9 r4 (by omega) (by omega) c, fun hb => ?_, fun ⟨e, he⟩ => ?_⟩
    · have := z7d.1 (beq_iff_eq.1 hb)
      exact ⟨hr, this.1, this.2⟩
    · obtain rfl := r3 e he (by omega) (by have := he.1; omega)
      rw [z7d.2 ⟨he.2.1, he.2.2⟩]; rfl
  · refine ⟨r, false, zma r4 (by omega), fun hb => (by cases hb), fun ⟨e, he⟩ => ?_⟩
    have := r3 e he (by omega) (by have := he.1; omega)
    have := he.1
    omega
def okA (ps : List Int) (js : List Rcd) (g : List Int) (a : Nat) : Bool := (List.range js.length).any fun e => decide (jl (rcdAt js e) = (a : Int) ∧ jf (rcdAt js e) = part g (ps.getD a 0).toNat)
theorem okA_iff {g : List Int} {a : Nat} : okA ps js g a = true ↔ ∃ e, isJ js a (part g (ps.getD a 0).toNat) e := by
  unfold okA isJ
  rw [List.any_eq_true]
  constructor
  · rintro ⟨e, h1, h2⟩
    rw [decide_eq_true_eq] at h2
    exact ⟨e, List.mem_range.1 h1, h2⟩
  · rintro ⟨e, h1, h2⟩
    exact ⟨e, List.mem_range.2 h1, decide_eq_true h2⟩
theorem z4v (h : asy ps ss st js fs = true) : pl ss.length ps = true ∧ Sz ss ∧ gj ps ss js = true := by
  unfold asy at h
  rw [Bool.and_eq_true, Bool.and_eq_true, Bool.and_eq_true, Bool.and_eq_true] at h
  exact ⟨h.1, sz_of h.2.1, h.2.2.2.1⟩
theorem jt_len {j : Rcd} (h : jOK ps ss j = true) {a m : Nat} (hj : jl j = a) (e : ps.getD a 0 = m) : (jt j).length = (bitsN m).length := by
  unfold jOK at h
  rw [Bool.and_eq_true, Bool.and_eq_true, hj, Int.toNat_natCast, e, Int.toNat_natCast] at h
  have := (gl_iff.1 h.2.2).1
  unfold part at this
  rwa [List.length_map] at this
theorem zlu (hL : Lim ps ss st js fs) (h : asy ps ss st js fs = true) {g : List Int} (hg : gl ss g = true) {a : Nat} (ha : a < ps.length) :
    ∃ (xs : List Int), Runs X F.z1y [zD ps ss st js fs, lD g, iD a] [] ⟨.tup [.rsl 600000 0 xs.length, .bool (okA ps js g a)], [], [⟨true, .ints .i64 xs⟩]⟩ := by
  obtain ⟨hp, hs, hj⟩ := z4v h
  obtain ⟨⟨n1, n4⟩, hp8, hpm⟩ := pl_spec hp
  obtain ⟨m, e, _, hm⟩ := hpm a ha
  have hgl := (gl_iff.1 hg).1
  have h63 : m < 2 ^ 63 := Nat.lt_of_lt_of_le hm (Nat.pow_le_pow_right (by omega) (by omega))
  have c4 := zct (l := g) hm (by omega) hgl
  obtain ⟨r, b, c7, hb1, hb2⟩ := zlh hL hj hp8 ha (part g m)
  have hok : okA ps js g a = b := by
    rw [Bool.eq_iff_iff, okA_iff, e, Int.toNat_natCast]
    exact ⟨hb2, fun hb => ⟨r, hb1 hb⟩⟩
  rw [hok]
  have c4' : Runs X F.zz [lD g, iD (ps.getD (a : Int).toNat 0)] [] (rowR (part g m)) := by rw [Int.toNat_natCast, e]; exact c4
  cases b with
  | false => exact ⟨[], zga (by omega) (by omega) c4' c7 rfl⟩
  | true =>
    obtain ⟨hr, hjl, hjf⟩ := hb1 rfl
    have hjt := jt_len ((gj_spec hj).1 r hr) hjl e
    have c11 := zlc (w := g) (by omega) (by unfold B40; omega)
    have c13 : Runs X F.z1z [iD (ps.getD (a : Int).toNat 0)] [] (rowR (bitsL m)) := by rw [Int.toNat_natCast, e]; exact zcu h63
    have hL2 : (bitsL m).length = (bitsN m).length := by unfold bitsL; rw [List.length_map]
    have hlen := z9x m
    have key : ∀ (k i : Nat) (x : List Int), i + k = (bitsN m).length → x.length = g.length → ∃ x', x'.length = g.length ∧
        WpL X F.z1y 0 (lb Tryd.f73 0) (z47 ps ss st js fs r g (bitsL m) i x).st (fun o => o = (z5k g x').out) := by
      intro k
      induction k with
      | zero => intro i x hi hx; exact ⟨x, hx, zgd (by omega) (by omega) rfl⟩
      | succ k ih =>
        intro i x hi hx
        have hget := z9v (m := m) (j := i) (by omega)
        have hbit := bit_in hm ((z8f h63).1 (List.getElem_mem (l := bitsN m) (n := i) (by omega)))
        obtain ⟨x', q1, q2⟩ := ih (i + 1) (x.set (0 + ((bitsL m).getD (0 + i) 0).toNat) ((jt (rcdAt js r)).getD i 0)) (by omega) (by rw [List.length_set]; exact hx)
        exact ⟨x', q1, zgc (by omega) (by omega) (by omega) (by omega) (by rw [Int.toNat_natCast]; show (i : Int) < ((jt (rcdAt js r)).length : Nat); omega) (by rw [Nat.zero_add, hget]; omega) (by rw [Nat.zero_add, hget]; omega) (by omega) q2⟩
    obtain ⟨x', q1, q2⟩ := key (bitsN m).length 0 g (by omega) rfl
    refine ⟨x', ?_⟩
    have := zgb (by omega) (by omega) c4' c7 rfl c11 c13 q2
    rw [q1]
    exact this
theorem zlt (hL : Lim ps ss st js fs) (h : asy ps ss st js fs = true) {g : List Int} (hg : gl ss g = true) {a : Nat} (ha : a < ps.length) :
    ∃ (xs : List Int), Runs X F.zh [zD ps ss st js fs, lD g, iD a] [] ⟨.tup [.rsl 600000 0 xs.length, .bool (okA ps js g a)], [], [⟨true, .ints .i64 xs⟩]⟩ := by
  obtain ⟨hp, hs, hj⟩ := z4v h
  obtain ⟨⟨n1, n4⟩, hp8, hpm⟩ := pl_spec hp
  obtain ⟨m, e, _, hm⟩ := hpm a ha
  have hgl := (gl_iff.1 hg).1
  have h63 : m < 2 ^ 63 := Nat.lt_of_lt_of_le hm (Nat.pow_le_pow_right (by omega) (by omega))
  obtain ⟨hok, _, h64⟩ := gj_spec hj
  have c4 : Runs X F.z16 [lD g, iD (ps.getD (a : Int).toNat 0)] [] (rowR (part g m)) := by rw [Int.toNat_natCast, e]; exact zlq (l := g) hm (by omega) hgl
  have c15 := zln g (by unfold B40; omega)
  have inner : ∀ i, i < js.length → jl (rcdAt js i) = (a : Int) → ∀ (k p at_ : Nat) (x : List Int), p + k = g.length → at_ = (bel m p).length → x.length = g.length → ∃ x', x'.length = g.length ∧
      WpL X F.zh 2 (lb Tryd.f64 1) (z2t ps ss st js fs g a i g at_ p x).st (fun o => o = (z6v g x').out) := by
    intro i hi hji k
    have hjt := jt_len (hok i hi) hji e
    induction k with
    | zero => intro p at_ x hpk hat hx; exact ⟨x, hx, zov (by omega) (by omega) (by omega) hji c15 (by omega) (by omega) rfl⟩
    | succ k ih =>
      intro p at_ x hpk hat hx
      have c : Runs X F.z1s [iD (ps.getD (a : Int).toNat 0), iD p] [] (boolR (tb m p)) := by rw [Int.toNat_natCast, e]; exact z8v (m := m) (i := p) h63 (by omega)
      cases hb : tb m p with
      | false =>
        rw [hb] at c
        have hb' : m.testBit p = false := by unfold tb at hb; simpa using hb
        obtain ⟨x', q1, q2⟩ := ih (p + 1) at_ x (by omega) (by rw [z22, hb']; simpa using hat) hx
        exact ⟨x', q1, zou (by omega) (by omega) (by omega) hji c15 (by omega) (by omega) c rfl (by omega) q2⟩
      | true =>
        rw [hb] at c
        have hb' : m.testBit p = true := by unfold tb at hb; simpa using hb
        obtain ⟨tl, htl⟩ := bel_pre (p := p + 1) hm (by omega) (by omega)
        rw [z22, if_pos hb'] at htl
        have hatl : at_ < (bitsN m).length := by rw [htl]; simp; omega
        have hbl := bel_len m p
        obtain ⟨x', q1, q2⟩ := ih (p + 1) (at_ + 1) (x.set (0 + p) ((jt (rcdAt js i)).getD at_ 0)) (by omega) (by rw [z22, if_pos hb']; simp [hat]) (by rw [List.length_set]; exact hx)
        exact ⟨x', q1, zot (by omega) (by omega) (by omega) hji c15 (by omega) (by omega) c rfl (by show (at_ : Int) < ((jt (rcdAt js i)).length : Nat); omega) (by omega) (by omega) (by omega) q2⟩
  have key : ∀ (k i : Nat), i + k = js.length → (∀ q, q < i → ¬ isJ js a (part g m) q) →
      ((∃ q, isJ js a (part g m) q) ∧ ∃ x' : List Int, x'.length = g.length ∧ WpL X F.zh 0 (lb Tryd.f64 0) (z1u ps ss st js fs g a (part g m) i).st (fun o => o = (z6t g.length x').out)) ∨
      ((¬ ∃ q, isJ js a (part g m) q) ∧ WpL X F.zh 0 (lb Tryd.f64 0) (z1u ps ss st js fs g a (part g m) i).st (fun o => o = z6u.out)) := by
    intro k
    induction k with
    | zero =>
      intro i hi hno
      exact .inr ⟨fun ⟨q, hq⟩ => hno q (by have := hq.1; omega) hq, zos (by omega) (by omega) c4 (by omega) rfl⟩
    | succ k ih =>
      intro i hi hno
      by_cases hl : jl (rcdAt js i) = (a : Int)
      · have cs := zlo (jf (rcdAt js i)) (part g m) (hL.hjf i (by omega))
        by_cases hf : jf (rcdAt js i) = part g m
        · rw [decide_eq_true hf] at cs
          obtain ⟨x', q1, q2⟩ := inner i (by omega) hl g.length 0 0 g (by omega) rfl rfl
          exact .inl ⟨⟨i, by omega, hl, hf⟩, x', q1, zor (by omega) (by omega) c4 (by omega) hl cs rfl c15 q2 rfl⟩
        · rw [decide_eq_false hf] at cs
          have hno' : ∀ q, q < i + 1 → ¬ isJ js a (part g m) q := fun q hq hh => by
            by_cases eq : q = i
            · subst eq; exact hf hh.2.2
            · exact hno q (by omega) hh
          rcases ih (i + 1) (by omega) hno' with ⟨h1, x', q1, q2⟩ | ⟨h1, q2⟩
          · exact .inl ⟨h1, x', q1, zdq (by omega) (by omega) c4 (by omega) hl cs rfl (by omega) q2⟩
          · exact .inr ⟨h1, zdq (by omega) (by omega) c4 (by omega) hl cs rfl (by omega) q2⟩
      · have hno' : ∀ q, q < i + 1 → ¬ isJ js a (part g m) q := fun q hq hh => by
          by_cases eq : q = i
          · subst eq; exact hl hh.2.1
          · exact hno q (by omega) hh
        rcases ih (i + 1) (by omega) hno' with ⟨h1, x', q1, q2⟩ | ⟨h1, q2⟩
        · exact .inl ⟨h1, x', q1, zdp (by omega) (by omega) c4 (by omega) hl (by omega) q2⟩
        · exact .inr ⟨h1, zdp (by omega) (by omega) c4 (by omega) hl (by omega) q2⟩
  rcases key js.length 0 (by omega) (fun q hq => by omega) with ⟨h1, x', q1, q2⟩ | ⟨h1, q2⟩
  · have hb : okA ps js g a = true := by rw [okA_iff, e, Int.toNat_natCast]; exact h1
    rw [hb]
    refine ⟨x', ?_⟩
    rw [q1]
    exact zop (by omega) (by omega) c4 q2
  · have hb : okA ps js g a = false := by
      cases hh : okA ps js g a with
      | false => rfl
      | true => rw [okA_iff, e, Int.toNat_natCast] at hh; exact absurd hh h1
    rw [hb]
    exact ⟨[], zoq (by omega) (by omega) c4 q2⟩
def accA (ok : Nat → Bool) : Nat → Int
  | 0 => 0
  | i + 1 => if ok i then ior (accA ok i) ((2 ^ i : Nat) : Int) else accA ok i
theorem zlv (hL : Lim ps ss st js fs) (h : asy ps ss st js fs = true) {g : List Int} (hg : gl ss g = true) : Runs X F.z23 [zD ps ss st js fs, lD g] [] (intR (accA (okA ps js g) ps.length)) := by
  have hp8 := (pl_spec (z4v h).1).2.1
  have c := z8x ps
  refine zgf c (loop_to (N := ps.length) (st := fun i => z2j ps ss st js fs g ps.length (accA (okA ps js g) i) i) (fun i hi Q hq => ?_) (fun Q hq => ?_))
  · obtain ⟨xs, cm⟩ := zlu hL h hg hi
    unfold accA at hq
    cases hb : okA ps js g i with
    | true =>
      rw [hb] at cm hq
      rw [if_pos rfl] at hq
      exact zgg c (by omega) cm rfl (zcv (i := i) (by omega)) (by omega) hq
    | false =>
      rw [hb] at cm hq
      rw [if_neg (by decide)] at hq
      exact zgh c (by omega) cm rfl (by omega) hq
  · exact zgi c (by omega) hq
theorem zls (hL : Lim ps ss st js fs) (h : asy ps ss st js fs = true) {g : List Int} (hg : gl ss g = true) : Runs X F.z2g [zD ps ss st js fs, lD g] [] (intR (accA (okA ps js g) ps.length)) := by
  have hp8 := (pl_spec (z4v h).1).2.1
  refine zol (loop_to (N := ps.length) (st := fun i => z2s ps ss st js fs g (accA (okA ps js g) i) i) (fun i hi Q hq => ?_) (fun Q hq => ?_))
  · obtain ⟨xs, cm⟩ := zlt hL h hg hi
    unfold accA at hq
    cases hb : okA ps js g i with
    | true =>
      rw [hb] at cm hq
      rw [if_pos rfl] at hq
      exact zom (by omega) cm rfl (zcs (i := i) (by omega)) (by omega) hq
    | false =>
      rw [hb] at cm hq
      rw [if_neg (by decide)] at hq
      exact zon (by omega) cm rfl (by omega) hq
  · exact zoo (by omega) hq
theorem zle (hL : Lim ps ss st js fs) (g : List Int) (hgl : g.length ≤ B40) : ∃ a b : Int, Runs X F.z4q [zD ps ss st js fs, lD g] [] ⟨.tup [iD a, iD b], [], []⟩ ∧ Runs X F.z49 [zD ps ss st js fs, lD g] [] ⟨.tup [iD a, iD b], [], []⟩ := by
  have c1 := zlw hL
  have c2 := zld hL
  cases h : asy ps ss st js fs with
  | false => rw [h] at c1 c2; exact ⟨0, 1, zn4 c1 rfl, zgv c2 rfl⟩
  | true =>
    rw [h] at c1 c2
    obtain ⟨hp, hs, hj⟩ := z4v h
    have n4 := (pl_spec hp).1.2
    have c3 := z6h (ps := ps) (st := st) (js := js) (fs := fs) hs n4 g hgl
    have c4 := z4k hs g hgl
    cases hg : gl ss g with
    | false => rw [hg] at c3 c4; exact ⟨0, 2, zn5 c1 rfl c3 rfl, zgw c2 rfl c4 rfl⟩
    | true =>
      rw [hg] at c3 c4
      exact ⟨_, 0, zn6 c1 rfl c3 rfl (zls hL h hg), zgx c2 rfl c4 rfl (zlv hL h hg)⟩
end
end Go.PR.S
