/- Source sets: the reference's search over pairs. -/
import Derived.Test.YtkoednplncfgaaaDoorFwP19
import Derived.Test.YtkoednplncfgaaaDoorFwG14
set_option linter.unusedVariables false
set_option linter.unusedSimpArgs false
set_option maxRecDepth 20000
namespace Go.PR.S
open Go Go.PR Go.Proofs Gp
inductive SRch (d : List Int) (N : List (List Int)) (E q : Nat) : Nat × Nat → Prop where
  | base : SRch d N E q (q, 0)
  | next {t B a : Nat} : SRch d N E q (t, B) → a < (N.getD t []).length → (N.getD t []).getD a 0 ≥ 0 → (E.testBit a = true → B.testBit a = true) → SRch d N E q (((N.getD t []).getD a 0).toNat, B ||| (dm d a &&& E))
theorem SRch.esc {d : List Int} {N : List (List Int)} {E q : Nat} {p : Nat × Nat} (h : SRch d N E q p) : Esc d N E p.1 p.2 → Esc d N E q 0 := by
  induction h with
  | base => exact id
  | next _ ha h0 hE ih =>
    intro hesc
    refine ih (.next ha h0 hE (hesc.congr fun i hi => ?_))
    simp only [Nat.testBit_or, Nat.testBit_and, hi, Bool.and_true]
def CLs (d : List Int) (N : List (List Int)) (E : Nat) (L : List (Nat × Nat)) (p : Nat × Nat) : Prop := ∀ a, a < (N.getD p.1 []).length → (N.getD p.1 []).getD a 0 ≥ 0 → (E.testBit a = true → p.2.testBit a = true) → (((N.getD p.1 []).getD a 0).toNat, p.2 ||| (dm d a &&& E)) ∈ L
theorem no_esc {d : List Int} {N : List (List Int)} {E : Nat} {L : List (Nat × Nat)} (hc : ∀ p ∈ L, possM N p.1 ≠ 0 ∧ CLs d N E L p) {t B' : Nat} (h : Esc d N E t B') : ∀ B, (t, B) ∈ L → (∀ i, E.testBit i = true → B.testBit i = B'.testBit i) → False := by
  induction h with
  | dead hp => intro B hm _; exact (hc _ hm).1 hp
  | next ha h0 hE _ ih =>
    intro B hm hB
    refine ih _ ((hc _ hm).2 _ ha h0 fun hh => by rw [hB _ hh]; exact hE hh) fun i hi => ?_
    rw [Nat.testBit_or, Nat.testBit_or, Nat.testBit_and, hi, Bool.and_true, hB i hi]
abbrev fstI (L : List (Nat × Nat)) : List Int := L.map fun p => (p.1 : Int)
abbrev sndI (L : List (Nat × Nat)) : List Int := L.map fun p => (p.2 : Int)
theorem z6u {L : List (Nat × Nat)} {i : Nat} (h : i < L.length) : (fstI L).getD (0 + i) 0 = ((L.getD i (0, 0)).1 : Int) := by
  rw [Nat.zero_add, getD_lt (by rw [List.length_map]; exact h)]; simp [List.getD_eq_getElem?_getD, h]
theorem z9j {L : List (Nat × Nat)} {i : Nat} (h : i < L.length) : (sndI L).getD (0 + i) 0 = ((L.getD i (0, 0)).2 : Int) := by
  rw [Nat.zero_add, getD_lt (by rw [List.length_map]; exact h)]; simp [List.getD_eq_getElem?_getD, h]
theorem z45 {L : List (Nat × Nat)} {i : Nat} (h : i < L.length) : L.getD i (0, 0) ∈ L := by
  rw [List.getD_eq_getElem?_getD, List.getElem?_eq_getElem h]; exact List.getElem_mem h
structure PI (d : List Int) (N : List (List Int)) (E q : Nat) (L : List (Nat × Nat)) : Prop where
  nd : L.Nodup
  bd : ∀ p ∈ L, p.1 < N.length ∧ p.2 < 2 ^ d.length
  rch : ∀ p ∈ L, SRch d N E q p
  hd : L.head? = some (q, 0)
section
variable {m n s f : Int} {d : List Int} {N : List (List Int)}
theorem PI.len {E q : Nat} (h : Ov m d n s f N) {L : List (Nat × Nat)} (hL : PI d N E q L) : L.length ≤ 4096 := by
  have h256 := two_le h
  have hl16 := h.l16
  have h1 : (L.map fun p => ((p.1 * 256 + p.2 : Nat) : Int)).Nodup := by
    unfold List.Nodup
    rw [List.pairwise_map]
    refine List.Pairwise.imp_of_mem (R := fun a b => a ≠ b) (fun {a b} ha hb hne e => hne ?_) hL.nd
    have h1 := (hL.bd a ha).2
    have h2 := (hL.bd b hb).2
    have e : a.1 * 256 + a.2 = b.1 * 256 + b.2 := by omega
    exact Prod.ext (by omega) (by omega)
  have h2 := zc2 4096 _ h1 fun x hx => by
    obtain ⟨p, hp, rfl⟩ := List.mem_map.1 hx
    obtain ⟨g1, g2⟩ := hL.bd p hp
    omega
  simpa using h2
theorem ztc (h : Ov m d n s f N) {E q : Nat} (hq : q < N.length) (hE : E < 2 ^ d.length) : ∃ b : Bool, Runs X F.z6 [alD m d, auD n s f N, iD q, iD E] [] (boolR b) ∧ (b = true ↔ Src d N E q) := by
  have hs8 := h.al.small
  have hlen := h.al.len
  have hdl := h.dlen
  have h256 := two_le h
  have hR := h.rowsP
  have hE63 : E < 2 ^ 63 := by omega
  -- what a letter's mask adds
  have hmask : ∀ (B a : Nat), B < 2 ^ d.length → a < d.length → ior (B : Int) (iand (d.getD a 0) (E : Int)) = ((B ||| (dm d a &&& E) : Nat) : Int) ∧ B ||| (dm d a &&& E) < 2 ^ d.length := by
    intro B a hB ha
    obtain ⟨m1, m2⟩ := h.al.mask a (by omega)
    rw [← hlen] at m2
    have h3 : dm d a &&& E < 2 ^ d.length := Nat.and_lt_two_pow _ hE
    rw [m1, zbb (by omega) hE63, ior_nat (by omega) (by omega)]
    exact ⟨rfl, Nat.or_lt_two_pow hB h3⟩
  -- the place of a pair
  have search : ∀ (L : List (Nat × Nat)) (i a : Nat), PI d N E q L → i < L.length → a < d.length → (N.getD (L.getD i (0, 0)).1 []).getD a 0 ≥ 0 →
      (((((N.getD (L.getD i (0, 0)).1 []).getD a 0).toNat, (L.getD i (0, 0)).2 ||| (dm d a &&& E)) ∈ L → ∃ k, k < L.length ∧ WL F.z6 4 Tryd.f66 2 (z1n m d n s f N E i a (fstI L) (sndI L) 0) (z4h m d n s f N E i a (fstI L) (sndI L) k)) ∧
      ((((N.getD (L.getD i (0, 0)).1 []).getD a 0).toNat, (L.getD i (0, 0)).2 ||| (dm d a &&& E)) ∉ L → WL F.z6 4 Tryd.f66 2 (z1n m d n s f N E i a (fstI L) (sndI L) 0) (z4h m d n s f N E i a (fstI L) (sndI L) L.length))) := by
    intro L i a hL hi ha h0
    have hlenL := hL.len h
    obtain ⟨b1, b2⟩ := hL.bd _ (z45 hi)
    have hrow := h.row b1
    obtain ⟨n1, n2⟩ := h.next b1 ha
    obtain ⟨k1, k2⟩ := hmask (L.getD i (0, 0)).2 a b2 ha
    let x := ((N.getD (L.getD i (0, 0)).1 []).getD a 0).toNat
    let y := (L.getD i (0, 0)).2 ||| (dm d a &&& E)
    have hx : ((x : Nat) : Int) = (N.getD (L.getD i (0, 0)).1 []).getD a 0 := Int.toNat_of_nonneg h0
    have hfi := z6u hi
    have hsi := z9j hi
    have hstep : ∀ (j : Nat) (Q : Out → Prop), j < L.length → L.getD j (0, 0) ≠ (x, y) → WpL X F.z6 4 (lb Tryd.f66 2) (z1n m d n s f N E i a (fstI L) (sndI L) (j + 1)).st Q → WpL X F.z6 4 (lb Tryd.f66 2) (z1n m d n s f N E i a (fstI L) (sndI L) j).st Q := by
      intro j Q hj hne hqq
      have hfj := z6u hj
      have hsj := z9j hj
      by_cases e : (L.getD j (0, 0)).1 = x
      · have e2 : (L.getD j (0, 0)).2 ≠ y := fun e2 => hne (Prod.ext e e2)
        apply zz0
        case hq => exact hqq
        case h31 => rw [hsj, hsi, k1]; exact fun hh => e2 (by omega)
        case h29 => rw [hfj, hfi, Int.toNat_natCast, ← hx, e]
        all_goals first | omega | (rw [List.length_map]; omega) | (rw [List.length_map]; done) | (rw [hfi]; omega) | (rw [hfi, Int.toNat_natCast]; omega)
      · apply zyz
        case hq => exact hqq
        case h27 => rw [hfj, hfi, Int.toNat_natCast, ← hx]; omega
        all_goals first | omega | (rw [List.length_map]; omega) | (rw [List.length_map]; done) | (rw [hfi]; omega) | (rw [hfi, Int.toNat_natCast]; omega)
    constructor
    · intro hm
      have hnot : ¬ (List.range L.length).all (fun j => decide (L.getD j (0, 0) ≠ (x, y))) = true := by
        intro hall
        obtain ⟨j, hj, hje⟩ := List.getElem_of_mem hm
        have := List.all_eq_true.1 hall j (List.mem_range.2 hj)
        rw [decide_eq_true_eq, List.getD_eq_getElem?_getD, List.getElem?_eq_getElem hj] at this
        exact this hje
      obtain ⟨k, g1, g2, g3⟩ := z2y hnot
      have g2' : L.getD k (0, 0) = (x, y) := Classical.byContradiction fun hh => by
        have := of_decide_eq_false g2; exact this hh
      refine ⟨k, g1, loop_to (N := k) (st := fun j => z1n m d n s f N E i a (fstI L) (sndI L) j) (fun j hj Q hqq => hstep j Q (by omega) (of_decide_eq_true (g3 j hj)) hqq) (fun Q hqq => ?_)⟩
      have hfk := z6u g1
      have hsk := z9j g1
      apply zz1
      case hq => exact hqq
      case h33 => rw [hsk, hsi, k1, g2']
      case h29 => rw [hfk, hfi, Int.toNat_natCast, ← hx, g2']
      all_goals first | omega | (rw [List.length_map]; omega) | (rw [List.length_map]; done) | (rw [hfi]; omega) | (rw [hfi, Int.toNat_natCast]; omega)
    · intro hm
      refine loop_to (N := L.length) (st := fun j => z1n m d n s f N E i a (fstI L) (sndI L) j) (fun j hj Q hqq => hstep j Q hj (fun e => hm (by
        have := z45 hj
        rw [e] at this
        exact this)) hqq) (fun Q hqq => ?_)
      apply zz2
      case hq => exact hqq
      all_goals first | omega | (rw [List.length_map]; omega) | (rw [List.length_map]; done) | (rw [hfi]; omega) | (rw [hfi, Int.toNat_natCast]; omega)
  -- the letters of one pair
  have in1 : ∀ (i k a : Nat) (L : List (Nat × Nat)), a + k = d.length → PI d N E q L → i < L.length →
      ∃ L' Y, PI d N E q L' ∧ L' = L ++ Y ∧ (∀ x, a ≤ x → x < d.length → (N.getD (L.getD i (0, 0)).1 []).getD x 0 ≥ 0 → (E.testBit x = true → (L.getD i (0, 0)).2.testBit x = true) → (((N.getD (L.getD i (0, 0)).1 []).getD x 0).toNat, (L.getD i (0, 0)).2 ||| (dm d x &&& E)) ∈ L') ∧
        WL F.z6 2 Tryd.f66 1 (z17 m d n s f N E i a (fstI L) (sndI L)) (z6l m d n s f N E i (fstI L') (sndI L')) := by
    intro i k
    induction k with
    | zero =>
      intro a L ha hL hi
      refine ⟨L, [], hL, by simp, fun x h1 h2 => by omega, ?_⟩
      apply zyy
      case hq => rfl
      all_goals omega
    | succ k ih =>
      intro a L ha hL hi
      have hal : a < d.length := by omega
      have hlenL := hL.len h
      obtain ⟨b1, b2⟩ := hL.bd _ (z45 hi)
      have hrow := h.row b1
      obtain ⟨n1, n2⟩ := h.next b1 hal
      have hfi := z6u hi
      have hsi := z9j hi
      have c1 := z5e (m := nandn E (L.getD i (0, 0)).2) (i := a) (z1e _ _) (by omega)
      have hbt : tb (nandn E (L.getD i (0, 0)).2 : Nat) a = (E.testBit a && !(L.getD i (0, 0)).2.testBit a) := by unfold tb; rw [Int.toNat_natCast, Int.toNat_natCast, z27 hE63]
      rw [hbt, ← z1q hE63 (by omega), ← hsi] at c1
      -- nothing new
      have keep : (∀ Q : Out → Prop, WpL X F.z6 2 (lb Tryd.f66 1) (z17 m d n s f N E i (a + 1) (fstI L) (sndI L)).st Q → WpL X F.z6 2 (lb Tryd.f66 1) (z17 m d n s f N E i a (fstI L) (sndI L)).st Q) →
          ((N.getD (L.getD i (0, 0)).1 []).getD a 0 ≥ 0 → (E.testBit a = true → (L.getD i (0, 0)).2.testBit a = true) → (((N.getD (L.getD i (0, 0)).1 []).getD a 0).toNat, (L.getD i (0, 0)).2 ||| (dm d a &&& E)) ∈ L) →
          ∃ L' Y, PI d N E q L' ∧ L' = L ++ Y ∧ (∀ x, a ≤ x → x < d.length → (N.getD (L.getD i (0, 0)).1 []).getD x 0 ≥ 0 → (E.testBit x = true → (L.getD i (0, 0)).2.testBit x = true) → (((N.getD (L.getD i (0, 0)).1 []).getD x 0).toNat, (L.getD i (0, 0)).2 ||| (dm d x &&& E)) ∈ L') ∧
            WL F.z6 2 Tryd.f66 1 (z17 m d n s f N E i a (fstI L) (sndI L)) (z6l m d n s f N E i (fstI L') (sndI L')) := by
        intro hstep hin
        obtain ⟨L', Y, g1, g2, g3, g4⟩ := ih (a + 1) L (by omega) hL hi
        refine ⟨L', Y, g1, g2, fun x hx hx2 hx3 hx4 => ?_, hstep _ g4⟩
        by_cases e : x = a
        · rw [e] at hx3 hx4 ⊢; rw [g2]; exact List.mem_append_left _ (hin hx3 hx4)
        · exact g3 x (by omega) hx2 hx3 hx4
      by_cases h0 : (N.getD (L.getD i (0, 0)).1 []).getD a 0 < 0
      · refine keep (fun Q hqq => ?_) (fun hh _ => by omega)
        apply zyu
        case hq => exact hqq
        all_goals first | omega | (rw [List.length_map]; omega) | (rw [List.length_map]; done) | (rw [hfi]; omega) | (rw [hfi, Int.toNat_natCast]; omega)
      · cases hbit : (E.testBit a && !(L.getD i (0, 0)).2.testBit a) with
        | true =>
          rw [hbit] at c1
          refine keep (fun Q hqq => ?_) (fun _ hh => by
            rw [Bool.and_eq_true] at hbit
            have := hh hbit.1
            rw [this] at hbit; simp at hbit)
          apply zyv
          case hq => exact hqq
          case c21 => exact c1
          all_goals first | rfl | omega | (rw [List.length_map]; omega) | (rw [List.length_map]; done) | (rw [hfi]; omega) | (rw [hfi, Int.toNat_natCast]; omega)
        | false =>
          rw [hbit] at c1
          have hallow : E.testBit a = true → (L.getD i (0, 0)).2.testBit a = true := by
            intro hh; rw [hh] at hbit; simpa using hbit
          obtain ⟨s1, s2⟩ := search L i a hL hi hal (by omega)
          by_cases hm : (((N.getD (L.getD i (0, 0)).1 []).getD a 0).toNat, (L.getD i (0, 0)).2 ||| (dm d a &&& E)) ∈ L
          · obtain ⟨k', hk', hw⟩ := s1 hm
            refine keep (fun Q hqq => ?_) (fun _ _ => hm)
            apply zyx
            case hq => exact hqq
            case c21 => exact c1
            case l35 => exact hw
            all_goals first | rfl | omega | (rw [List.length_map]; omega) | (rw [List.length_map]; done) | (rw [hfi]; omega) | (rw [hfi, Int.toNat_natCast]; omega)
          · have hw := s2 hm
            obtain ⟨k1, k2⟩ := hmask (L.getD i (0, 0)).2 a b2 hal
            have hL2 : PI d N E q (L ++ [(((N.getD (L.getD i (0, 0)).1 []).getD a 0).toNat, (L.getD i (0, 0)).2 ||| (dm d a &&& E))]) := by
              refine ⟨?_, ?_, ?_, ?_⟩
              · rw [List.nodup_append]
                exact ⟨hL.nd, by simp, fun u hu v hv => by rw [List.mem_singleton] at hv; subst hv; exact fun e => hm (e ▸ hu)⟩
              · intro p hp
                rcases List.mem_append.1 hp with hp | hp
                · exact hL.bd p hp
                · rw [List.mem_singleton] at hp; subst hp; exact ⟨by show ((N.getD (L.getD i (0, 0)).1 []).getD a 0).toNat < _; omega, k2⟩
              · intro p hp
                rcases List.mem_append.1 hp with hp | hp
                · exact hL.rch p hp
                · rw [List.mem_singleton] at hp; subst hp
                  exact .next (B := (L.getD i (0, 0)).2) (hL.rch _ (z45 hi)) (by rw [hrow]; exact hal) (by omega) hallow
              · rw [List.head?_append, hL.hd]; rfl
            have hi2 : i < (L ++ [(((N.getD (L.getD i (0, 0)).1 []).getD a 0).toNat, (L.getD i (0, 0)).2 ||| (dm d a &&& E))]).length := by rw [List.length_append]; omega
            have hLi : (L ++ [(((N.getD (L.getD i (0, 0)).1 []).getD a 0).toNat, (L.getD i (0, 0)).2 ||| (dm d a &&& E))]).getD i (0, 0) = L.getD i (0, 0) := by
              rw [List.getD_eq_getElem?_getD, List.getElem?_append_left hi, ← List.getD_eq_getElem?_getD]
            obtain ⟨L', Y, g1, g2, g3, g4⟩ := ih (a + 1) _ (by omega) hL2 hi2
            rw [hLi] at g3
            refine ⟨L', _ :: Y, g1, by rw [g2, List.append_assoc]; rfl, fun x hx hx2 hx3 hx4 => ?_, ?_⟩
            · by_cases e : x = a
              · rw [e, g2]; exact List.mem_append_left _ (by simp)
              · exact g3 x (by omega) hx2 hx3 hx4
            · have e1 : fstI (L ++ [(((N.getD (L.getD i (0, 0)).1 []).getD a 0).toNat, (L.getD i (0, 0)).2 ||| (dm d a &&& E))]) = fstI L ++ [(N.getD (L.getD i (0, 0)).1 []).getD a 0] := by
                unfold fstI; rw [List.map_append, List.map_singleton, Int.toNat_of_nonneg (by omega)]
              have e2 : sndI (L ++ [(((N.getD (L.getD i (0, 0)).1 []).getD a 0).toNat, (L.getD i (0, 0)).2 ||| (dm d a &&& E))]) = sndI L ++ [ior ((L.getD i (0, 0)).2 : Int) (iand (d.getD a 0) (E : Int))] := by
                unfold sndI; rw [List.map_append, List.map_singleton, k1]
              rw [e1, e2] at g4
              apply zyw
              case hq => rw [hfi, hsi, Int.toNat_natCast]; exact g4
              case c21 => exact c1
              case l35 => exact hw
              all_goals first | rfl | omega | (rw [List.length_map]; omega) | (rw [List.length_map]; done) | (rw [hfi]; omega) | (rw [hfi, Int.toNat_natCast]; omega)
  -- if nothing is possible, nothing is reached
  have hone : possM N q = 0 → ∀ p, SRch d N E q p → p = (q, 0) := by
    intro hp0 p hp
    induction hp with
    | base => rfl
    | @next t B a hp' ha h0 _ ih =>
      cases ih
      have := z9c N q a
      rw [hp0, decide_eq_true ha, decide_eq_true h0] at this
      simp at this
  have outer : ∀ (k i : Nat) (L : List (Nat × Nat)), i + k = 4096 → PI d N E q L → i ≤ L.length → (∀ j, j < i → CLs d N E L (L.getD j (0, 0)) ∧ (0 < j → possM N (L.getD j (0, 0)).1 ≠ 0)) →
      ((Esc d N E q 0 ∧ possM N q ≠ 0) ∧ WL F.z6 0 Tryd.f66 0 (z1m m d n s f N E i (fstI L) (sndI L)) (zac)) ∨ ((possM N q = 0 ∨ ¬ Esc d N E q 0) ∧ WL F.z6 0 Tryd.f66 0 (z1m m d n s f N E i (fstI L) (sndI L)) (zad)) := by
    intro k
    have atEnd : ∀ (i : Nat) (L : List (Nat × Nat)), PI d N E q L → i = L.length → (∀ j, j < i → CLs d N E L (L.getD j (0, 0)) ∧ (0 < j → possM N (L.getD j (0, 0)).1 ≠ 0)) → (possM N q = 0 ∨ ¬ Esc d N E q 0) := by
      intro i L hL hi hok
      by_cases hp0 : possM N q = 0
      · exact .inl hp0
      · refine .inr fun hesc => no_esc (L := L) (fun p hp => ?_) hesc 0 ?_ (fun _ _ => rfl)
        · obtain ⟨j, hj, rfl⟩ := List.getElem_of_mem hp
          have e : L[j] = L.getD j (0, 0) := by rw [List.getD_eq_getElem?_getD, List.getElem?_eq_getElem hj]; rfl
          obtain ⟨g1, g2⟩ := hok j (by omega)
          rw [e]
          refine ⟨?_, g1⟩
          by_cases hj0 : j = 0
          · have hh := hL.hd
            cases hLc : L with
            | nil => rw [hLc] at hh; cases hh
            | cons x l =>
              rw [hLc] at hh
              simp only [List.head?_cons, Option.some.injEq] at hh
              rw [hj0, hh]; exact hp0
          · exact g2 (by omega)
        · have hh := hL.hd
          cases hLc : L with
          | nil => rw [hLc] at hh; cases hh
          | cons x l =>
            rw [hLc] at hh
            simp only [List.head?_cons, Option.some.injEq] at hh
            rw [hh]; simp
    induction k with
    | zero =>
      intro i L hi hL hiL hok
      have hlenL := hL.len h
      refine .inr ⟨atEnd i L hL (by omega) hok, ?_⟩
      apply zij
      case hq => rfl
      all_goals first | omega | (rw [List.length_map]; omega) | (rw [List.length_map]; done)
    | succ k ih =>
      intro i L hi hL hiL hok
      have hlenL := hL.len h
      by_cases hlt : i < L.length
      · obtain ⟨b1, b2⟩ := hL.bd _ (z45 hlt)
        have hfi := z6u hlt
        have cp := z7e h.toAutP (q := ((L.getD i (0, 0)).1 : Int)) (by omega) (by omega)
        rw [← hfi] at cp
        obtain ⟨L', Y, g1, g2, g3, g4⟩ := in1 i d.length 0 L (Nat.zero_add _) hL hlt
        have hpre : ∀ j, j < L.length → L'.getD j (0, 0) = L.getD j (0, 0) := fun j hj => by
          rw [g2, List.getD_eq_getElem?_getD, List.getElem?_append_left hj, ← List.getD_eq_getElem?_getD]
        have hlen' : L.length ≤ L'.length := by rw [g2, List.length_append]; omega
        have hok' : (0 < i → possM N (L.getD i (0, 0)).1 ≠ 0) → ∀ j, j < i + 1 → CLs d N E L' (L'.getD j (0, 0)) ∧ (0 < j → possM N (L'.getD j (0, 0)).1 ≠ 0) := by
          intro hnd j hj
          rw [hpre j (by omega)]
          by_cases e : j = i
          · rw [e]
            refine ⟨fun a ha h0 hal => g3 a (Nat.zero_le _) (by rw [← h.row b1]; exact ha) h0 hal, hnd⟩
          · obtain ⟨k1, k2⟩ := hok j (by omega)
            exact ⟨fun a ha h0 hal => by rw [g2]; exact List.mem_append_left _ (k1 a ha h0 hal), k2⟩
        by_cases hi0 : 0 < i
        · by_cases hdead : possM N (L.getD i (0, 0)).1 = 0
          · refine .inl ⟨⟨(hL.rch _ (z45 hlt)).esc (.dead hdead), fun hp0 => ?_⟩, ?_⟩
            · have e1 := hone hp0 _ (hL.rch _ (z45 hlt))
              have e2 := hone hp0 _ (hL.rch _ (z45 (i := 0) (by omega)))
              have e3 : L[i] = L[0] := by
                have h1 : L[i] = L.getD i (0, 0) := by rw [List.getD_eq_getElem?_getD, List.getElem?_eq_getElem hlt]; rfl
                have h2 : L[0] = L.getD 0 (0, 0) := by rw [List.getD_eq_getElem?_getD, List.getElem?_eq_getElem (by omega)]; rfl
                rw [h1, h2, e1, e2]
              exact (List.pairwise_iff_getElem.1 hL.nd) 0 i (by omega) hlt hi0 e3.symm
            · apply zyr
              case hq => rfl
              case c8 => exact cp
              all_goals first | omega | (rw [hfi]; omega) | (rw [List.length_map]; omega) | (rw [List.length_map]; done)
          · have hstep : ∀ Q : Out → Prop, WpL X F.z6 0 (lb Tryd.f66 0) (z1m m d n s f N E (i + 1) (fstI L') (sndI L')).st Q → WpL X F.z6 0 (lb Tryd.f66 0) (z1m m d n s f N E i (fstI L) (sndI L)).st Q := by
              intro Q hqq
              apply zys
              case hq => exact hqq
              case c8 => exact cp
              case l43 => exact g4
              all_goals first | omega | (rw [hfi]; omega) | (rw [List.length_map]; omega) | (rw [List.length_map]; done)
            rcases ih (i + 1) L' (by omega) g1 (by omega) (hok' fun _ => hdead) with ⟨k1, k2⟩ | ⟨k1, k2⟩
            · exact .inl ⟨k1, hstep _ k2⟩
            · exact .inr ⟨k1, hstep _ k2⟩
        · have hstep : ∀ Q : Out → Prop, WpL X F.z6 0 (lb Tryd.f66 0) (z1m m d n s f N E (i + 1) (fstI L') (sndI L')).st Q → WpL X F.z6 0 (lb Tryd.f66 0) (z1m m d n s f N E i (fstI L) (sndI L)).st Q := by
            intro Q hqq
            apply zyt
            case hq => exact hqq
            case l46 => exact g4
            all_goals first | omega | (rw [hfi]; omega) | (rw [List.length_map]; omega) | (rw [List.length_map]; done)
          rcases ih (i + 1) L' (by omega) g1 (by omega) (hok' fun hh => absurd hh hi0) with ⟨k1, k2⟩ | ⟨k1, k2⟩
          · exact .inl ⟨k1, hstep _ k2⟩
          · exact .inr ⟨k1, hstep _ k2⟩
      · refine .inr ⟨atEnd i L hL (by omega) hok, ?_⟩
        apply zij
        case hq => rfl
        all_goals first | omega | (rw [hfi]; omega) | (rw [List.length_map]; omega) | (rw [List.length_map]; done)
  have cp := z7e h.toAutP (q := (q : Int)) (by omega) (by omega)
  have hnand : iandnot (E : Int) (possM N q : Nat) = (nandn E (possM N q) : Nat) := z1q hE63 (poss_lt hR q)
  by_cases h1 : nandn E (possM N q) = 0
  · have hL0 : PI d N E q [(q, 0)] := by
      refine ⟨by simp, fun p hp => ?_, fun p hp => ?_, rfl⟩
      · rw [List.mem_singleton] at hp; subst hp; exact ⟨hq, Nat.two_pow_pos _⟩
      · rw [List.mem_singleton] at hp; subst hp; exact .base
    rcases outer 4096 0 [(q, 0)] (Nat.zero_add _) hL0 (by simp) (fun j hj => by omega) with ⟨g1, g2⟩ | ⟨g1, g2⟩
    · refine ⟨false, zyp cp (by rw [hnand]; omega) g2, ⟨fun hh => by (cases hh), fun hh => ?_⟩⟩
      rcases hh.2 with hh | hh
      · exact absurd hh g1.2
      · exact absurd g1.1 hh
    · exact ⟨true, zyq cp (by rw [hnand]; omega) g2, ⟨fun _ => ⟨h1, g1⟩, fun _ => rfl⟩⟩
  · exact ⟨false, zyo cp (by rw [hnand]; omega), ⟨fun hh => by (cases hh), fun hh => absurd hh.1 h1⟩⟩
end
end Go.PR.S
