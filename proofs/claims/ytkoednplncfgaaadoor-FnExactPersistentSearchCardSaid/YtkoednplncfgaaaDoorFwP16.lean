/- Persistent sets: the program's search, and the law. -/
import Derived.Test.YtkoednplncfgaaaDoorFwP14
import Derived.Test.YtkoednplncfgaaaDoorFwG8
set_option linter.unusedVariables false
set_option linter.unusedSimpArgs false
section
set_option maxRecDepth 20000
namespace Go.PR.S
open Go Go.PR Go.Proofs Gp
theorem zgj (kk : MK) (key key' : Int × Int) (v : Int) : ∀ (es : List MEnt) (j : Nat), mfind kk key (es ++ [(key', v)]) j = match mfind kk key es j with | some p => some p | none => if kk.same key key' then some (j + es.length, v) else none
  | [], j => by simp [mfind]
  | p :: es, j => by
    rw [List.cons_append, mfind, mfind]
    by_cases h : kk.same key p.1 = true
    · rw [if_pos h, if_pos h]
    · rw [if_neg h, if_neg h, zgj kk key key' v es (j + 1), List.length_cons]
      have : j + 1 + es.length = j + (es.length + 1) := by omega
      rw [this]
def Seen (es : List MEnt) (L : List Int) : Prop := ∀ x : Int, mget (.int .i64) es (x, 0) = if x ∈ L then some 1 else none
theorem Seen.none {es : List MEnt} {L : List Int} (h : Seen es L) {x : Int} (hx : x ∉ L) : mfind (.int .i64) (x, 0) es 0 = none := by
  have := h x
  rw [if_neg hx] at this
  unfold mget at this
  cases hm : mfind (.int .i64) (x, 0) es 0 with
  | none => rfl
  | some p => rw [hm] at this; cases this
theorem Seen.add {es : List MEnt} {L : List Int} (h : Seen es L) {x : Int} (hx : x ∉ L) : Seen (es ++ [((x, 0), 1)]) (L ++ [x]) := by
  intro y
  have hy := h y
  unfold mget at hy ⊢
  rw [zgj]
  by_cases hm : y ∈ L
  · rw [if_pos hm] at hy
    rw [if_pos (List.mem_append_left _ hm)]
    cases hf : mfind (.int .i64) (y, 0) es 0 with
    | none => rw [hf] at hy; cases hy
    | some p => rw [hf] at hy; exact hy
  · rw [if_neg hm] at hy
    have hf : mfind (.int .i64) (y, 0) es 0 = .none := h.none hm
    rw [hf]
    by_cases e : y = x
    · subst e; simp [MK.same]
    · have : (MK.int IntKind.i64).same (y, 0) (x, 0) = false := by simp [MK.same, e]
      simp [this, hm, e]
theorem Seen.start (x : Int) : Seen [((x, 0), 1)] [x] := by
  intro y
  unfold mget
  by_cases e : y = x
  · subst e; simp [mfind, MK.same]
  · simp [mfind, MK.same, e]
theorem z6b : ∀ (n : Nat) (L : List Int), L.Nodup → (∀ x ∈ L, 0 ≤ x ∧ x < n) → L.length ≤ n
  | 0, L, _, h => by
    cases L with
    | nil => simp
    | cons x L => have := h x (by simp); omega
  | n + 1, L, hn, h => by
    by_cases hm : (n : Int) ∈ L
    · have := z6b n (L.erase n) (hn.erase _) fun x hx => by
        have h1 := h x (List.mem_of_mem_erase hx)
        have h2 : x ≠ n := fun e => by subst e; exact (List.Nodup.mem_erase_iff hn).1 hx |>.1 rfl
        omega
      rw [List.length_erase_of_mem hm] at this
      omega
    · have := z6b n L hn fun x hx => by
        have h1 := h x hx
        have h2 : x ≠ n := fun e => hm (e ▸ hx)
        omega
      omega
def tiesL (d : List Int) (l : List Nat) : Nat := l.foldl (fun acc a => acc ||| dm d a) 0
theorem zex (d : List Int) (x : Nat) : ∀ (l : List Nat) (acc : Nat), (l.foldl (fun acc a => acc ||| dm d a) acc).testBit x = (acc.testBit x || l.any fun a => (dm d a).testBit x)
  | [], acc => by simp
  | a :: l, acc => by
    rw [List.foldl_cons, zex d x l, Nat.testBit_or, List.any_cons, Bool.or_assoc]
theorem zj4 (d : List Int) (l : List Nat) (x : Nat) : (tiesL d l).testBit x = l.any fun a => (dm d a).testBit x := by
  unfold tiesL; rw [zex]; simp
theorem zzu (d : List Int) (l : List Nat) (a : Nat) : tiesL d (l ++ [a]) = tiesL d l ||| dm d a := by unfold tiesL; rw [List.foldl_append]; rfl
section
variable {m n s f : Int} {d : List Int} {N : List (List Int)}
theorem zj5 (h : Ov m d n s f N) {l : List Nat} (hl : ∀ a ∈ l, a < d.length) : tiesL d l < 2 ^ 63 := by
  refine Nat.lt_of_lt_of_le (Nat.lt_pow_two_of_testBit (n := d.length) _ fun i hi => ?_) (Nat.pow_le_pow_right (by omega) (by have := h.al.small; have := h.al.len; omega))
  rw [zj4]
  rw [List.any_eq_false]
  intro a ha
  have hlen := h.al.len
  have := (h.al.mask a (by have := hl a ha; omega)).2
  rw [Nat.testBit_lt_two_pow (Nat.lt_of_lt_of_le this (Nat.pow_le_pow_right (by omega) (by omega)))]
  simp
structure LI (N : List (List Int)) (E q : Nat) (L : List Int) (es : List MEnt) : Prop where
  nd : L.Nodup
  bd : ∀ x ∈ L, 0 ≤ x ∧ x < N.length
  rch : ∀ x ∈ L, Rch N E q x.toNat
  seen : Seen es L
  base : (q : Int) ∈ L
def CLp (d : List Int) (N : List (List Int)) (E : Nat) (L : List Int) (t : Int) : Prop := ∀ a, a < d.length → E.testBit a = false → (N.getD t.toNat []).getD a 0 ≥ 0 → dm d a &&& E = 0 ∧ (N.getD t.toNat []).getD a 0 ∈ L
theorem zgt {E q : Nat} (h : Ov m d n s f N) (hq : q < N.length) {L : List Int} {es : List MEnt} (hL : LI N E q L es) (hok : ∀ t ∈ L, CLp d N E L t) : Pers d N E q := by
  have key : ∀ t, Rch N E q t → (t : Int) ∈ L := by
    intro t ht
    induction ht with
    | base => exact hL.base
    | next ht ha he h0 ih =>
      have hlt := ht.lt h hq
      rw [h.row hlt] at ha
      have := (hok _ ih _ ha he (by rw [Int.toNat_natCast]; exact h0)).2
      rw [Int.toNat_natCast] at this
      rw [show (((N.getD _ []).getD _ 0).toNat : Int) = (N.getD _ []).getD _ 0 from Int.toNat_of_nonneg h0]
      exact this
  intro t ht a ha he h0
  have hlt := ht.lt h hq
  rw [h.row hlt] at ha
  exact (hok _ (key t ht) a ha he (by rw [Int.toNat_natCast]; exact h0)).1
theorem meets (h : Ov m d n s f N) {E : Nat} (hE : E < 2 ^ d.length) {a : Nat} (ha : a < d.length) : (tiesL d (bitsN E)).testBit a = false ↔ dm d a &&& E = 0 := by
  have hlen := h.al.len
  have hs8 := h.al.small
  have hE63 : E < 2 ^ 63 := Nat.lt_of_lt_of_le hE (Nat.pow_le_pow_right (by omega) (by omega))
  rw [zj4, List.any_eq_false]
  constructor
  · intro hh
    apply Nat.eq_of_testBit_eq
    intro x
    rw [Nat.testBit_and, Nat.zero_testBit]
    cases hx : E.testBit x with
    | false => simp
    | true =>
      have hxl := bit_lt hE hx
      have := hh x ((z2u hE63).2 hx)
      rw [h.al.sym a x (by omega) (by omega)]
      simpa using this
  · intro hh x hx
    have hxE := (z2u hE63).1 hx
    have hxl := bit_lt hE hxE
    have := congrArg (fun z => z.testBit x) hh
    simp only [Nat.testBit_and, Nat.zero_testBit, hxE, Bool.and_true] at this
    rw [h.al.sym x a (by omega) (by omega), this]; simp
theorem ztb {fs : List Bool} (h : Ov m d n s f N) {E q : Nat} (hq : q < N.length) (hE : E < 2 ^ d.length) : ∃ b : Bool, Runs X F.z7 [maD n s fs N, alD m d, iD q, iD E] [] (boolR b) ∧
    (b = true ↔ (nandn E (possM N q) = 0 ∧ ¬ (E = 0 ∧ possM N q ≠ 0)) ∧ Pers d N E q) := by
  have hd := h.dlen
  have hs8 := h.al.small
  have hlen := h.al.len
  have hl16 := h.l16
  have hR := h.rowsP
  have hE63 : E < 2 ^ 63 := Nat.lt_of_lt_of_le hE (Nat.pow_le_pow_right (by omega) (by omega))
  have hmemE : ∀ a ∈ bitsN E, a < d.length := fun a ha => bit_lt hE ((z2u hE63).1 ha)
  have hb63 := z5q E
  have hT := zj5 h hmemE
  let T := tiesL d (bitsN E)
  -- the ties
  have hblen : (bitsL E).length = (bitsN E).length := by unfold bitsL; rw [List.length_map]
  have hbel : ∀ i, i < (bitsN E).length → (bitsL E).getD (0 + i) 0 = (((bitsN E).getD i 0 : Nat) : Int) := fun i hi => z4a hi
  have ties_step : ∀ i, i < (bitsN E).length → ior (tiesL d ((bitsN E).take i) : Nat) (d.getD ((bitsL E).getD (0 + i) 0).toNat 0) = ((tiesL d ((bitsN E).take (i + 1)) : Nat) : Int) ∧ (0 : Int) ≤ (bitsL E).getD (0 + i) 0 ∧ (bitsL E).getD (0 + i) 0 < d.length := by
    intro i hi
    have hmem := hmemE _ (z49 hi)
    have e1 : (bitsN E).take (i + 1) = (bitsN E).take i ++ [(bitsN E).getD i 0] := by
      rw [List.take_add_one, List.getElem?_eq_getElem hi, List.getD_eq_getElem?_getD, List.getElem?_eq_getElem hi]; rfl
    rw [hbel i hi, Int.toNat_natCast, e1, zzu, (h.al.mask _ (by omega)).1]
    exact ⟨ior_nat (zj5 h fun a ha => hmemE a (List.mem_of_mem_take ha)) (h.al.small63 (by omega)), by omega, by omega⟩
  have cmE := z3u hE63
  have ties0 : E = 0 → WL F.z7 0 Tryd.f65 0 (z4e n s fs N m d q E (bitsL E) 0 0) (z2d n s fs N q E T) := by
    intro hE0
    have key := loop_to (f := F.z7) (b := 0) (body := lb Tryd.f65 0) (N := (bitsN E).length) (o := z2d n s fs N q E T) (st := fun i => z4e n s fs N m d q E (bitsL E) (tiesL d ((bitsN E).take i) : Nat) i) (fun i hi Q hqq => ?_) (fun Q hqq => ?_)
    · exact key
    · obtain ⟨e1, e2, e3⟩ := ties_step i hi
      rw [← e1] at hqq
      apply zof
      case hq => exact hqq
      all_goals first | exact cmE | omega
    · rw [List.take_length]
      apply zog
      case hq => exact hqq
      all_goals first | exact cmE | omega
  have ties1 : E ≠ 0 → WL F.z7 0 Tryd.f65 0 (z4f n s fs N m d q E (bitsL E) 0 0) (z2d n s fs N q E T) := by
    intro hE0
    have key := loop_to (f := F.z7) (b := 0) (body := lb Tryd.f65 0) (N := (bitsN E).length) (o := z2d n s fs N q E T) (st := fun i => z4f n s fs N m d q E (bitsL E) (tiesL d ((bitsN E).take i) : Nat) i) (fun i hi Q hqq => ?_) (fun Q hqq => ?_)
    · exact key
    · obtain ⟨e1, e2, e3⟩ := ties_step i hi
      rw [← e1] at hqq
      apply zoh
      case hq => exact hqq
      all_goals first | exact cmE | omega
    · rw [List.take_length]
      apply zoi
      case hq => exact hqq
      all_goals first | exact cmE | omega
  -- the letters of one state
  have in2 : ∀ (t : Nat) (i : Nat), t < N.length → ∀ (k c : Nat) (L : List Int) (es : List MEnt), c + k = (bitsN (nandn (possM N t) E)).length → LI N E q L es → i < L.length → L.getD i 0 = t →
      ∃ L' es' Y, LI N E q L' es' ∧ L' = L ++ Y ∧ (∀ j, c ≤ j → j < (bitsN (nandn (possM N t) E)).length → (N.getD t []).getD ((bitsN (nandn (possM N t) E)).getD j 0) 0 ∈ L') ∧
        WL F.z7 4 Tryd.f65 2 (z3n n s fs N E T i (bitsL (nandn (possM N t) E)) c L es) (z8n n s fs N E T i L' es') := by
    intro t i ht k
    have hrow := h.row ht
    have hol : (bitsL (nandn (possM N t) E)).length = (bitsN (nandn (possM N t) E)).length := by unfold bitsL; rw [List.length_map]
    have ho63 := z5q (nandn (possM N t) E)
    induction k with
    | zero =>
      intro c L es hc hL hi hLi
      refine ⟨L, es, [], hL, by simp, fun j h1 h2 => by omega, ?_⟩
      apply zon
      case hq => rfl
      all_goals omega
    | succ k ih =>
      intro c L es hc hL hi hLi
      have hc' : c < (bitsN (nandn (possM N t) E)).length := by omega
      have hmem := (z2u (z1e _ _)).1 (z49 hc')
      rw [z1y (poss_lt hR t), z6c, hrow] at hmem
      simp only [Bool.and_eq_true, decide_eq_true_eq, Bool.not_eq_true'] at hmem
      obtain ⟨⟨ha, ha0⟩, haE⟩ := hmem
      have hel : (bitsL (nandn (possM N t) E)).getD (0 + c) 0 = (((bitsN (nandn (possM N t) E)).getD c 0 : Nat) : Int) := z4a hc'
      obtain ⟨n1, n2⟩ := h.next ht ha
      have hLi' : L.getD (0 + i) 0 = t := by rw [Nat.zero_add]; exact hLi
      have hlenL := z6b N.length L hL.nd hL.bd
      let r := (N.getD t []).getD ((bitsN (nandn (possM N t) E)).getD c 0) 0
      by_cases hin : r ∈ L
      · have hg : mget (.int .i64) es (r, 0) = some 1 := by rw [hL.seen r, if_pos hin]
        obtain ⟨L', es', Y, h1, h2, h3, h4⟩ := ih (c + 1) L es (by omega) hL hi hLi
        refine ⟨L', es', Y, h1, h2, fun j hj1 hj2 => ?_, ?_⟩
        · by_cases e : j = c
          · rw [e, h2]; exact List.mem_append_left _ hin
          · exact h3 j (by omega) hj2
        · apply zom
          case hq => exact h4
          case h34 => rw [hLi', hel, Int.toNat_natCast, Int.toNat_natCast, hg]; simp
          all_goals first | omega | (rw [hLi']; omega) | (rw [hel]; omega) | (rw [hLi', hel, Int.toNat_natCast, hrow]; omega)
      · have hf := hL.seen.none hin
        have hg : mget (.int .i64) es (r, 0) = none := by rw [hL.seen r, if_neg hin]
        have hL2 : LI N E q (L ++ [r]) (es ++ [((r, 0), 1)]) := by
          refine ⟨?_, ?_, ?_, hL.seen.add hin, List.mem_append_left _ hL.base⟩
          · rw [List.nodup_append]
            exact ⟨hL.nd, by simp, fun a ha b hb => by rw [List.mem_singleton] at hb; subst hb; exact fun e => hin (e ▸ ha)⟩
          · intro x hx
            rcases List.mem_append.1 hx with hx | hx
            · exact hL.bd x hx
            · rw [List.mem_singleton] at hx; subst hx; exact ⟨ha0, n2⟩
          · intro x hx
            rcases List.mem_append.1 hx with hx | hx
            · exact hL.rch x hx
            · rw [List.mem_singleton] at hx; subst hx
              have hti : (t : Int) ∈ L := by rw [← hLi, getD_lt hi]; exact List.getElem_mem hi
              have := hL.rch _ hti
              rw [Int.toNat_natCast] at this
              exact .next this (by rw [hrow]; exact ha) haE ha0
        have hi2 : i < (L ++ [r]).length := by rw [List.length_append]; omega
        have hLi2 : (L ++ [r]).getD i 0 = t := by
          rw [List.getD_eq_getElem?_getD, List.getElem?_append_left hi, ← List.getD_eq_getElem?_getD]; exact hLi
        obtain ⟨L', es', Y, h1, h2, h3, h4⟩ := ih (c + 1) _ _ (by omega) hL2 hi2 hLi2
        refine ⟨L', es', r :: Y, h1, by rw [h2, List.append_assoc]; rfl, fun j hj1 hj2 => ?_, ?_⟩
        · by_cases e : j = c
          · rw [e, h2]; exact List.mem_append_left _ (by simp; exact .inr rfl)
          · exact h3 j (by omega) hj2
        · apply zol
          case hq =>
            simp only [Int.toNat_natCast, hLi', hel]
            rw [show mfind (.int .i64) ((N.getD t []).getD ((bitsN (nandn (possM N t) E)).getD c 0) 0, 0) es 0 = none from hf]
            exact h4
          case h31 => rw [hLi', hel, Int.toNat_natCast, Int.toNat_natCast, hg]; simp
          all_goals first | omega | (rw [hLi']; omega) | (rw [hel]; omega) | (rw [hLi', hel, Int.toNat_natCast, hrow]; omega)
  -- the list
  have outer : ∀ (k i : Nat) (L : List Int) (es : List MEnt), i + k = N.length → LI N E q L es → i ≤ L.length → (∀ j, j < i → CLp d N E L (L.getD j 0)) →
      (¬ Pers d N E q ∧ WL F.z7 2 Tryd.f65 1 (z26 n s fs N E T i L es) (z79)) ∨ (Pers d N E q ∧ WL F.z7 2 Tryd.f65 1 (z26 n s fs N E T i L es) (z7a)) := by
    intro k
    induction k with
    | zero =>
      intro i L es hi hL hiL hok
      have hlenL := z6b N.length L hL.nd hL.bd
      refine .inr ⟨zgt h hq hL fun t ht => ?_, ?_⟩
      · obtain ⟨j, hj, rfl⟩ := List.getElem_of_mem ht
        rw [← getD_lt hj]; exact hok j (by omega)
      · apply zfg
        case hq => rfl
        all_goals omega
    | succ k ih =>
      intro i L es hi hL hiL hok
      have hlenL := z6b N.length L hL.nd hL.bd
      by_cases hlt : i < L.length
      · have hmemL : L.getD i 0 ∈ L := by rw [getD_lt hlt]; exact List.getElem_mem hlt
        obtain ⟨b0, b1⟩ := hL.bd _ hmemL
        obtain ⟨t, ht⟩ : ∃ t : Nat, L.getD i 0 = t := ⟨(L.getD i 0).toNat, by omega⟩
        have htl : t < N.length := by omega
        have hrow := h.row htl
        have hLi' : L.getD (0 + i) 0 = t := by rw [Nat.zero_add]; exact ht
        have cp := z4j (n := n) (s := s) (fs := fs) hR (q := (t : Int)) (by omega) (by omega)
        have hrch : Rch N E q t := by have := hL.rch _ hmemL; rw [ht, Int.toNat_natCast] at this; exact this
        have hnd : iandnot (possM N t : Nat) (E : Int) = (nandn (possM N t) E : Nat) := z22 (poss_lt hR t) hE63
        have hia : iand (nandn (possM N t) E : Nat) (T : Int) = ((nandn (possM N t) E &&& T : Nat) : Int) := z70 (z1e _ _) hT
        by_cases hbad : nandn (possM N t) E &&& T = 0
        · -- none of the letters is tied to the set
          have hgood : ∀ a, a < d.length → E.testBit a = false → (N.getD t []).getD a 0 ≥ 0 → dm d a &&& E = 0 := by
            intro a ha haE ha0
            rw [← meets h hE ha]
            have := congrArg (fun z => z.testBit a) hbad
            simp only [Nat.testBit_and, Nat.zero_testBit, z1y (poss_lt hR t), z6c, hrow, haE] at this
            rw [decide_eq_true ha, decide_eq_true ha0] at this
            have h3 : T.testBit a = false := by simpa using this
            exact h3
          obtain ⟨L', es', Y, h1, h2, h3, h4⟩ := in2 t i htl _ 0 L es (Nat.zero_add _) hL hlt ht
          have hcm := z3u (z1e (possM N t) E)
          have hpre : ∀ j, j < L.length → L'.getD j 0 = L.getD j 0 := fun j hj => by
            rw [h2, List.getD_eq_getElem?_getD, List.getElem?_append_left hj, ← List.getD_eq_getElem?_getD]
          have hlen' : L.length ≤ L'.length := by rw [h2, List.length_append]; omega
          have hmono : ∀ x ∈ L, x ∈ L' := fun x hx => by rw [h2]; exact List.mem_append_left _ hx
          have hok' : ∀ j, j < i + 1 → CLp d N E L' (L'.getD j 0) := by
            intro j hj
            rw [hpre j (by omega)]
            by_cases e : j = i
            · rw [e, ht]
              intro a ha haE ha0
              rw [Int.toNat_natCast] at ha0 ⊢
              refine ⟨hgood a ha haE ha0, ?_⟩
              have hmem : a ∈ bitsN (nandn (possM N t) E) := by
                rw [z2u (z1e _ _), z1y (poss_lt hR t), z6c, hrow, decide_eq_true ha, decide_eq_true ha0, haE]; rfl
              obtain ⟨c, hc, hce⟩ := List.getElem_of_mem hmem
              have := h3 c (Nat.zero_le _) hc
              rw [List.getD_eq_getElem?_getD (l := bitsN _), List.getElem?_eq_getElem hc] at this
              simpa [hce] using this
            · intro a ha haE ha0
              obtain ⟨g1, g2⟩ := hok j (by omega) a ha haE ha0
              exact ⟨g1, hmono _ g2⟩
          have hstep : ∀ Q : Out → Prop, WpL X F.z7 2 (lb Tryd.f65 1) (z26 n s fs N E T (i + 1) L' es').st Q → WpL X F.z7 2 (lb Tryd.f65 1) (z26 n s fs N E T i L es).st Q := by
            intro Q hqq
            apply zok
            case hq => exact hqq
            case c20 => rw [hLi']; exact cp
            case c24 => rw [hnd]; exact hcm
            case l37 => exact h4
            all_goals first | omega | (rw [hnd, hia]; omega)
          rcases ih (i + 1) L' es' (by omega) h1 (by omega) hok' with ⟨g1, g2⟩ | ⟨g1, g2⟩
          · exact .inl ⟨g1, hstep _ g2⟩
          · exact .inr ⟨g1, hstep _ g2⟩
        · refine .inl ⟨fun hp => hbad ?_, ?_⟩
          · apply Nat.eq_of_testBit_eq
            intro a
            rw [Nat.testBit_and, Nat.zero_testBit, z1y (poss_lt hR t), z6c, hrow]
            by_cases ha : a < d.length
            · by_cases ha0 : (N.getD t []).getD a 0 ≥ 0
              · cases haE : E.testBit a with
                | true => simp
                | false =>
                  have h4 : T.testBit a = false := (meets h hE ha).2 (hp t hrch a (by rw [hrow]; exact ha) haE ha0)
                  rw [h4]; simp
              · rw [decide_eq_false ha0]; simp
            · rw [decide_eq_false ha]; simp
          · apply zoj
            case hq => rfl
            case c20 => rw [hLi']; exact cp
            all_goals first | omega | (rw [hnd, hia]; omega)
      · refine .inr ⟨zgt h hq hL fun t ht => ?_, ?_⟩
        · obtain ⟨j, hj, rfl⟩ := List.getElem_of_mem ht
          rw [← getD_lt hj]; exact hok j (by omega)
        · apply zfg
          case hq => rfl
          all_goals omega
  have hL0 : LI N E q [(q : Int)] [(((q : Int), 0), 1)] := by
    refine ⟨by simp, fun x hx => ?_, fun x hx => ?_, Seen.start _, by simp⟩
    · rw [List.mem_singleton] at hx; subst hx; omega
    · rw [List.mem_singleton] at hx; subst hx; rw [Int.toNat_natCast]; exact .base
  have hO := outer N.length 0 [(q : Int)] [(((q : Int), 0), 1)] (Nat.zero_add _) hL0 (by simp) (fun j hj => by omega)
  have cp := z4j (n := n) (s := s) (fs := fs) hR (q := (q : Int)) (by omega) (by omega)
  have hpl := poss_lt hR q
  have hnand : iandnot (E : Int) (possM N q : Nat) = (nandn E (possM N q) : Nat) := z22 hE63 hpl
  by_cases h1 : nandn E (possM N q) = 0
  · have hcz : ∀ b : Bool, ¬ (E = 0 ∧ possM N q ≠ 0) → (b = true ↔ Pers d N E q) → (b = true ↔ (nandn E (possM N q) = 0 ∧ ¬ (E = 0 ∧ possM N q ≠ 0)) ∧ Pers d N E q) := fun b h2 hb => by
      rw [hb]; exact ⟨fun hh => ⟨⟨h1, h2⟩, hh⟩, fun hh => hh.2⟩
    by_cases hE0 : E = 0
    · by_cases hp0 : possM N q = 0
      · have h2 : ¬ (E = 0 ∧ possM N q ≠ 0) := fun hh => hh.2 hp0
        rcases hO with ⟨hn, hw⟩ | ⟨hn, hw⟩
        · exact ⟨false, zob cp (by rw [hnand]; omega) (by omega) cp (by omega) cmE (ties0 hE0) hw, hcz _ h2 ⟨fun hh => by (cases hh), fun hh => absurd hh hn⟩⟩
        · exact ⟨true, zoc cp (by rw [hnand]; omega) (by omega) cp (by omega) cmE (ties0 hE0) hw, hcz _ h2 ⟨fun _ => hn, fun _ => rfl⟩⟩
      · exact ⟨false, zoa cp (by rw [hnand]; omega) (by omega) cp (by omega), ⟨fun hh => by (cases hh), fun hh => absurd ⟨hE0, hp0⟩ hh.1.2⟩⟩
    · have h2 : ¬ (E = 0 ∧ possM N q ≠ 0) := fun hh => hE0 hh.1
      rcases hO with ⟨hn, hw⟩ | ⟨hn, hw⟩
      · exact ⟨false, zod cp (by rw [hnand]; omega) (by omega) cmE (ties1 hE0) hw, hcz _ h2 ⟨fun hh => by (cases hh), fun hh => absurd hh hn⟩⟩
      · exact ⟨true, zoe cp (by rw [hnand]; omega) (by omega) cmE (ties1 hE0) hw, hcz _ h2 ⟨fun _ => hn, fun _ => rfl⟩⟩
  · exact ⟨false, zo9 cp (by rw [hnand]; omega), ⟨fun hh => by (cases hh), fun hh => absurd hh.1.1 h1⟩⟩
end
theorem zd7 {m : Int} {d : List Int} {n s f : Int} {N : List (List Int)} {q e : Int} (h : stCode m d n s f N q e = 0) : Ov m d n s f N ∧ (0 ≤ q ∧ q ≤ (N.length : Int) - 1 ∧ 0 ≤ e ∧ e ≤ ((2 ^ d.length : Nat) : Int) - 1) ∧ diaB d N = true ∧ goesB d N = true ∧ endsB N = true := by
  unfold stCode at h
  by_cases h0 : z1u m d n s f N = 0
  · rw [if_pos h0] at h
    split at h
    · rename_i h1
      split at h
      · rename_i h2; exact ⟨z9h h0, h1, h2⟩
      · omega
    · omega
  · rw [if_neg h0] at h; exact absurd h h0
end Go.PR.S

end

section
namespace Go.PR.S
open Go Go.PR Go.Proofs
theorem zt4 (m : Int) (d : List Int) (hd : d.length ≤ B40) : Runs X F.z8w [alD m d, alD m d] [] (boolR true) := zpo rfl (zhc d hd) rfl
end Go.PR.S

end
