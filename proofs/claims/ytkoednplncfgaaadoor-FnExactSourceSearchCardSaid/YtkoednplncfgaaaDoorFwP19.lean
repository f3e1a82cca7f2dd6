/- Source sets: the program's search with its memo. -/
import Derived.Test.YtkoednplncfgaaaDoorFwP18
import Derived.Test.YtkoednplncfgaaaDoorFwG13
set_option linter.unusedVariables false
set_option linter.unusedSimpArgs false
set_option maxRecDepth 20000
namespace Go.PR.S
open Go Go.PR Go.Proofs Gp
inductive Esc (d : List Int) (N : List (List Int)) (E : Nat) : Nat → Nat → Prop where
  | dead {t B : Nat} : possM N t = 0 → Esc d N E t B
  | next {t B a : Nat} : a < (N.getD t []).length → (N.getD t []).getD a 0 ≥ 0 → (E.testBit a = true → B.testBit a = true) → Esc d N E ((N.getD t []).getD a 0).toNat (B ||| dm d a) → Esc d N E t B
theorem Esc.congr {d : List Int} {N : List (List Int)} {E t B : Nat} (h : Esc d N E t B) : ∀ {B' : Nat}, (∀ i, E.testBit i = true → B.testBit i = B'.testBit i) → Esc d N E t B' := by
  induction h with
  | dead hp => intro B' _; exact .dead hp
  | next ha h0 hE _ ih =>
    intro B' hB
    refine .next ha h0 (fun hh => by rw [← hB _ hh]; exact hE hh) (ih fun i hi => ?_)
    rw [Nat.testBit_or, Nat.testBit_or, hB i hi]
section
variable {m n s f : Int} {d : List Int} {N : List (List Int)}
def ConS (d : List Int) (N : List (List Int)) (E : Nat) (es : List MEnt) : Prop := ∀ p ∈ es, ∀ t B : Nat, p.1 = ((t : Int), (B : Int)) → ¬ Esc d N E t B
theorem ConS.get {E : Nat} {es : List MEnt} {t B : Nat} (h : ConS d N E es) (hs : ¬ (mget (.two .i64) es ((t : Int), (B : Int))).getD 0 = 0) : ¬ Esc d N E t B := by
  unfold mget at hs
  cases hm : mfind (.two .i64) ((t : Int), (B : Int)) es 0 with
  | none => rw [hm] at hs; exact absurd rfl hs
  | some p =>
    obtain ⟨i, v⟩ := p
    obtain ⟨k, _, hk, h1, _⟩ := z96 hm
    have hkey : es[k].1 = ((t : Int), (B : Int)) := by
      have : (t : Int) = es[k].1.1 ∧ (B : Int) = es[k].1.2 := by simpa [MK.same] using h1
      exact Prod.ext this.1.symm this.2.symm
    exact h _ (List.getElem_mem hk) t B hkey
theorem ConS.set {E : Nat} {es : List MEnt} {t B : Nat} {v : Int} (h : ConS d N E es) (hv : ¬ Esc d N E t B) : ConS d N E (mset (.two .i64) es ((t : Int), (B : Int)) v) := by
  have one : ∀ (t' B' : Nat), (((t : Int), (B : Int)) : Int × Int) = ((t' : Int), (B' : Int)) → ¬ Esc d N E t' B' := by
    intro t' B' e
    have e1 : t = t' := by have := congrArg Prod.fst e; simp only at this; omega
    have e2 : B = B' := by have := congrArg Prod.snd e; simp only at this; omega
    rw [← e1, ← e2]; exact hv
  unfold mset
  intro p hp t' B' e
  split at hp
  · rcases List.mem_or_eq_of_mem_set hp with hp | rfl
    · exact h p hp t' B' e
    · exact one t' B' e
  · rcases List.mem_append.1 hp with hp | hp
    · exact h p hp t' B' e
    · rw [List.mem_singleton] at hp; subst hp; exact one t' B' e
def goL (N : List (List Int)) (E q B : Nat) : List Nat := bitsN (nandn (possM N q) (nandn E B))
theorem mem_goL (h : RowsP N) {E q B a : Nat} (hE : E < 2 ^ 63) : a ∈ goL N E q B ↔ (a < (N.getD q []).length ∧ (N.getD q []).getD a 0 ≥ 0) ∧ (E.testBit a = true → B.testBit a = true) := by
  unfold goL
  rw [z3p (z1e _ _), z27 (poss_lt h q), z9c, z27 hE]
  cases E.testBit a <;> cases B.testBit a <;> simp
theorem zst {fs : List Bool} (h : Ov m d n s f N) {E : Nat} (hE : E < 2 ^ d.length) : ∀ (k q B : Nat) (es : List MEnt), q < N.length → B < 2 ^ d.length → finB N k q = true → ConS d N E es →
    ∃ (b : Bool) (es' : List MEnt), (b = true ↔ Esc d N E q B) ∧ ConS d N E es' ∧ Runs X F.z14 [maD n s fs N, alD m d, iD q, iD E, iD B, .mpr 500000] [⟨true, .mp (.two .i64) .bool es⟩] ⟨.bool b, [some ⟨true, .mp (.two .i64) .bool es'⟩], []⟩ := by
  have hs8 := h.al.small
  have hlen := h.al.len
  have h256 := two_le h
  have hR := h.rowsP
  have hE63 : E < 2 ^ 63 := by omega
  intro k
  induction k with
  | zero => intro q B es _ _ hf; cases hf
  | succ k ih =>
    intro q B es hq hB hf hc
    have hrow := h.row hq
    by_cases hk : (mget (.two .i64) es ((q : Int), (B : Int))).getD 0 = 0
    · have cp := z4c (n := n) (s := s) (fs := fs) hR (q := (q : Int)) (by omega) (by omega)
      by_cases hp : possM N q = 0
      · rw [hp] at cp
        exact ⟨true, es, ⟨fun _ => .dead hp, fun _ => rfl⟩, hc, znr hk cp rfl⟩
      · have hp' : ¬ ((possM N q : Nat) : Int) = 0 := by omega
        have e1 : iandnot (E : Int) (B : Int) = (nandn E B : Nat) := z1q hE63 (by omega)
        have e2 : iandnot (possM N q : Nat) (iandnot (E : Int) (B : Int)) = (nandn (possM N q) (nandn E B) : Nat) := by rw [e1]; exact z1q (poss_lt hR q) (z1e _ _)
        have cm := z4b (z1e (possM N q) (nandn E B))
        rw [← e2] at cm
        have hgl : (bitsL (nandn (possM N q) (nandn E B))).length = (goL N E q B).length := by unfold bitsL goL; rw [List.length_map]
        have hg63 : (goL N E q B).length ≤ 63 := z6o _
        have lp : ∀ (r i : Nat) (es : List MEnt), i + r = (goL N E q B).length → ConS d N E es → (∀ j, j < i → ¬ Esc d N E ((N.getD q []).getD ((goL N E q B).getD j 0) 0).toNat (B ||| dm d ((goL N E q B).getD j 0))) →
            (∃ es', Esc d N E q B ∧ ConS d N E es' ∧ WL F.z14 0 Tryd.f123 0 (z2r n s fs N m d q E B (bitsL (nandn (possM N q) (nandn E B))) i es) (z89 q B es')) ∨
            (∃ es', ¬ Esc d N E q B ∧ ConS d N E es' ∧ WL F.z14 0 Tryd.f123 0 (z2r n s fs N m d q E B (bitsL (nandn (possM N q) (nandn E B))) i es) (z8a q B es')) := by
          intro r
          induction r with
          | zero =>
            intro i es hi hc hno
            refine .inr ⟨es, fun hesc => ?_, hc, ?_⟩
            · cases hesc with
              | dead hd => exact hp hd
              | next ha h0 hEa hesc' =>
                obtain ⟨j, hj, hje⟩ := List.getElem_of_mem ((mem_goL hR hE63).2 ⟨⟨ha, h0⟩, hEa⟩)
                have := hno j (by omega)
                rw [List.getD_eq_getElem?_getD (l := goL N E q B), List.getElem?_eq_getElem hj] at this
                simp only [Option.getD_some, hje] at this
                exact this hesc'
            · apply znw
              case hq => rfl
              all_goals omega
          | succ r ihr =>
            intro i es hi hc hno
            have hi' : i < (goL N E q B).length := by omega
            obtain ⟨⟨ha, h0⟩, hEa⟩ := (mem_goL hR hE63).1 (z4p hi')
            have hel : (bitsL (nandn (possM N q) (nandn E B))).getD (0 + i) 0 = (((goL N E q B).getD i 0 : Nat) : Int) := z4q hi'
            have hal : (goL N E q B).getD i 0 < d.length := by omega
            obtain ⟨n1, n2⟩ := h.next hq hal
            obtain ⟨m1, m2⟩ := h.al.mask ((goL N E q B).getD i 0) (by omega)
            rw [← hlen] at m2
            have hor : ior (B : Int) (d.getD ((bitsL (nandn (possM N q) (nandn E B))).getD (0 + i) 0).toNat 0) = ((B ||| dm d ((goL N E q B).getD i 0) : Nat) : Int) := by
              rw [hel, Int.toNat_natCast, m1]; exact ior_nat (by omega) (by omega)
            have hB2 : B ||| dm d ((goL N E q B).getD i 0) < 2 ^ d.length := Nat.or_lt_two_pow hB m2
            have hfin : finB N k ((N.getD q []).getD ((goL N E q B).getD i 0) 0).toNat = true := by
              rw [finB, List.all_eq_true] at hf
              have := hf ((N.getD q []).getD ((goL N E q B).getD i 0) 0) (by rw [getD_lt ha]; exact List.getElem_mem ha)
              rw [Bool.or_eq_true, decide_eq_true_eq] at this
              exact this.resolve_left (by omega)
            obtain ⟨b1, es1, hb1, hc1, hr1⟩ := ih ((N.getD q []).getD ((goL N E q B).getD i 0) 0).toNat (B ||| dm d ((goL N E q B).getD i 0)) es (by omega) hB2 hfin hc
            rw [show ((((N.getD q []).getD ((goL N E q B).getD i 0) 0).toNat : Nat) : Int) = (N.getD q []).getD ((goL N E q B).getD i 0) 0 from Int.toNat_of_nonneg h0] at hr1
            cases hb : b1 with
            | true =>
              subst hb
              refine .inl ⟨es1, .next ha h0 hEa (hb1.1 rfl), hc1, ?_⟩
              apply znu
              case hq => rfl
              case c19 => rw [hor, hel, Int.toNat_natCast, Int.toNat_natCast]; exact hr1
              all_goals first | rfl | omega | (rw [hel]; omega) | (rw [hel, Int.toNat_natCast]; omega)
            | false =>
              subst hb
              have hno1 : ¬ Esc d N E ((N.getD q []).getD ((goL N E q B).getD i 0) 0).toNat (B ||| dm d ((goL N E q B).getD i 0)) := fun hh => by have := hb1.2 hh; cases this
              have hstep : ∀ Q : Out → Prop, WpL X F.z14 0 (lb Tryd.f123 0) (z2r n s fs N m d q E B (bitsL (nandn (possM N q) (nandn E B))) (i + 1) es1).st Q → WpL X F.z14 0 (lb Tryd.f123 0) (z2r n s fs N m d q E B (bitsL (nandn (possM N q) (nandn E B))) i es).st Q := by
                intro Q hqq
                apply znv
                case hq => exact hqq
                case c19 => rw [hor, hel, Int.toNat_natCast, Int.toNat_natCast]; exact hr1
                all_goals first | rfl | omega | (rw [hel]; omega) | (rw [hel, Int.toNat_natCast]; omega)
              rcases ihr (i + 1) es1 (by omega) hc1 (fun j hj => by
                by_cases e : j = i
                · rw [e]; exact hno1
                · exact hno j (by omega)) with ⟨es', g1, g2, g3⟩ | ⟨es', g1, g2, g3⟩
              · exact .inl ⟨es', g1, g2, hstep _ g3⟩
              · exact .inr ⟨es', g1, g2, hstep _ g3⟩
        rcases lp _ 0 es (Nat.zero_add _) hc (fun j hj => by omega) with ⟨es', g1, g2, g3⟩ | ⟨es', g1, g2, g3⟩
        · exact ⟨true, es', ⟨fun _ => g1, fun _ => rfl⟩, g2, zns hk cp hp' cp cm g3⟩
        · refine ⟨false, mset (.two .i64) es' ((q : Int), (B : Int)) 1, ⟨fun hh => by (cases hh), fun hh => absurd hh g1⟩, g2.set g1, ?_⟩
          have hp4 := znt hk cp hp' cp cm g3
          unfold mset
          cases hmf : mfind (.two .i64) ((q : Int), (B : Int)) es' 0 with
          | none => rw [hmf] at hp4; exact hp4
          | some v => obtain ⟨v1, v2⟩ := v; rw [hmf] at hp4; exact hp4
    · exact ⟨false, es, ⟨fun hh => by (cases hh), fun hh => absurd hh (hc.get hk)⟩, hc, znq hk⟩
def Src (d : List Int) (N : List (List Int)) (E q : Nat) : Prop := nandn E (possM N q) = 0 ∧ (possM N q = 0 ∨ ¬ Esc d N E q 0)
theorem zsy {fs : List Bool} (h : Ov m d n s f N) (hEn : endsB N = true) {E q : Nat} (hq : q < N.length) (hE : E < 2 ^ d.length) : ∃ b : Bool, Runs X F.z4x [maD n s fs N, alD m d, iD q, iD E] [] (boolR b) ∧ (b = true ↔ Src d N E q) := by
  have h256 := two_le h
  have hR := h.rowsP
  have cp := z4c (n := n) (s := s) (fs := fs) hR (q := (q : Int)) (by omega) (by omega)
  have hnand : iandnot (E : Int) (possM N q : Nat) = (nandn E (possM N q) : Nat) := z1q (by omega) (poss_lt hR q)
  by_cases h1 : nandn E (possM N q) = 0
  · by_cases h2 : possM N q = 0
    · exact ⟨true, zo9 cp (by rw [hnand]; omega) cp (by omega), ⟨fun _ => ⟨h1, .inl h2⟩, fun _ => rfl⟩⟩
    · obtain ⟨b, es', hb, _, hr⟩ := zst (fs := fs) h hE N.length q 0 [] hq (Nat.two_pow_pos _) (zb2 hEn q hq) (fun p hp => by cases hp)
      refine ⟨!b, zoa cp (by rw [hnand]; omega) cp (by omega) hr, ⟨fun hh => ⟨h1, .inr fun hesc => ?_⟩, fun hh => ?_⟩⟩
      · rw [hb.2 hesc] at hh; cases hh
      · rcases hh.2 with hh | hh
        · exact absurd hh h2
        · cases hbb : b with
          | false => rfl
          | true => exact absurd (hb.1 hbb) hh
  · exact ⟨false, zo8 cp (by rw [hnand]; omega), ⟨fun hh => by (cases hh), fun hh => absurd hh.1 h1⟩⟩
end
end Go.PR.S
