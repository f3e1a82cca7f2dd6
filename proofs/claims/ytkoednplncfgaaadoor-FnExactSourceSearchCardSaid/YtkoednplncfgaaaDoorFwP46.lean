/- The searches: the reference's search. -/
import Derived.Test.YtkoednplncfgaaaDoorFwP44
set_option linter.unusedVariables false
set_option linter.unusedSimpArgs false
section
set_option maxRecDepth 20000
namespace Go.PR.S
open Go Go.PR Go.Proofs Gp
theorem zh3 (w : List Int) (hl : w.length ≤ B40) : Runs X F.z5h [lD w] [] (rowR w) := zvn (by unfold B40 at hl; omega)
theorem tb_bit {m i : Nat} : tb m i = m.testBit i := by unfold tb; simp
section
variable {m n s f s0 : Int} {d : List Int} {N : List (List Int)} {g : Nat → Nat}
theorem ztk (h : Ov m d n s f N) (hG : GoP d N g) : ∀ (k : Nat) (w : List Int) (q sl : Nat) (ws : List (List Int)) (b : Nat), q < N.length → finB N k q = true → w.length + k ≤ 100 → sl < 2 ^ 63 → ws.length ≤ 64 → b + 8 ^ k ≤ 2 ^ 62 →
    Runs X F.zd [alD m d, auD n s f N, .rsl 500000 0 (gL g N.length).length, .rsl 500001 0 w.length, iD q, iD sl, .agg [.nsl 500002 ws.length, iD b]] [⟨true, .ints .i64 (gL g N.length)⟩, ⟨true, .ints .i64 w⟩, ⟨true, .nest .i64 ws⟩]
      ⟨.agg [.nsl 600000 (visF d N g k w q sl (ws, b)).1.length, iD ((visF d N g k w q sl (ws, b)).2 : Nat)], [some ⟨true, .ints .i64 (gL g N.length)⟩, some ⟨true, .ints .i64 w⟩, none], [⟨true, .nest .i64 (visF d N g k w q sl (ws, b)).1⟩]⟩ := by
  intro k
  induction k with
  | zero => intro w q sl ws b _ hf; cases hf
  | succ k ih =>
    intro w q sl ws b hq hf hwk hsl hws hb
    have hs8 := h.al.small
    have hlen := h.al.len
    have hdl := h.dlen
    have hp : 0 < 8 ^ k := Nat.pow_pos (by omega)
    have hp1 : 8 ^ (k + 1) = 8 * 8 ^ k := by rw [Nat.pow_succ, Nat.mul_comm]
    have hLl := z5q g N.length
    rw [visF, if_neg (by show ¬ 64 < ws.length; omega)]
    have cp := z7e h.toAutP (q := (q : Int)) (by omega) (by omega)
    by_cases hz : possM N q = 0
    · rw [if_pos hz]
      rw [hz] at cp
      have := zy9 (m := m) (d := d) (L := gL g N.length) (w := w) (sl := (sl : Int)) (ws := ws) (b := (b : Int)) cp rfl (zh3 w (by unfold B40; omega)) (by omega)
      rw [show (ws ++ [w], b).1.length = ws.length + 1 by simp]
      exact this
    · rw [if_neg hz]
      have hg63 : g q < 2 ^ 63 := Nat.lt_of_lt_of_le (hG.small q) (Nat.pow_le_pow_right (by omega) (by omega))
      have hE : iandnot ((gL g N.length).getD (0 + ((q : Int)).toNat) 0) (sl : Int) = ((nandn (g q) sl : Nat) : Int) := by
        rw [Nat.zero_add, Int.toNat_natCast, gL_getD hq]
        exact z1q hg63 hsl
      by_cases h0 : nandn (g q) sl = 0
      · rw [if_pos h0]
        have := zya (m := m) (d := d) (L := gL g N.length) (w := w) (q := (q : Int)) (sl := (sl : Int)) (ws := ws) (b := (b : Int)) cp (by omega) (by omega) (by omega) (by rw [hE, h0]; rfl) (by omega) (by omega)
        exact this
      · rw [if_neg h0]
        have hEd : nandn (g q) sl < 2 ^ d.length := by
          refine Nat.lt_of_le_of_lt ?_ (hG.small q)
          apply Nat.le_of_testBit
          intro i hi
          rw [z27 hg63, Bool.and_eq_true] at hi
          exact hi.1
        have lp : ∀ (mm a : Nat) (x : Nat × Fnd), a + mm = d.length → x.1 < 2 ^ 63 → x.2.1.length ≤ 65 → x.2.2 + mm * 8 ^ k ≤ 2 ^ 62 →
            WL F.zd 1 Tryd.f154 0 (z2m m d n s f N (gL g N.length) w q sl (x.1 : Nat) a (gL g N.length) (x.2.2 : Nat) x.2.1)
              (zaa w ((((List.range d.length).drop a).foldl (stS d N (visF d N g k) w q (nandn (g q) sl)) x).2.2 : Nat) (((List.range d.length).drop a).foldl (stS d N (visF d N g k) w q (nandn (g q) sl)) x).2.1 (gL g N.length)) := by
          intro mm
          induction mm with
          | zero =>
            intro a x hi hx6 hxl hxb
            have hd : (List.range d.length).drop a = [] := List.drop_of_length_le (by simp; omega)
            rw [hd, List.foldl_nil]
            apply zyf
            case hq => rfl
            all_goals first | rfl | omega | (rw [hE]; omega)
          | succ mm ihm =>
            intro a x hi hx6 hxl hxb
            have ha : a < d.length := by omega
            have hd : (List.range d.length).drop a = a :: (List.range d.length).drop (a + 1) := by
              rw [List.drop_eq_getElem_cons (by simpa using ha), List.getElem_range]
            rw [hd, List.foldl_cons]
            rw [Nat.succ_mul] at hxb
            have cb := z5e (m := nandn (g q) sl) (i := a) (z1e _ _) (by omega)
            rw [tb_bit, ← hE] at cb
            by_cases hbit : (nandn (g q) sl).testBit a = true
            · rw [hbit] at cb
              by_cases hful : 64 < x.2.1.length
              · have e : stS d N (visF d N g k) w q (nandn (g q) sl) x a = x := by unfold stS; rw [if_pos hbit, if_pos hful]
                rw [e]
                have hnext := ihm (a + 1) x (by omega) hx6 hxl (by omega)
                apply zyd
                case hq => exact hnext
                all_goals first | rfl | omega | exact cb | (rw [hE]; omega)
              · have e : stS d N (visF d N g k) w q (nandn (g q) sl) x a = stV d N (visF d N g k) w q x a := by unfold stS; rw [if_pos hbit, if_neg hful]
                rw [e]
                obtain ⟨a1, a2, a3, a4, a5, a6, a7, a8⟩ := hG.at h hq hf hbit
                have hx1 : x.1 ||| 2 ^ a < 2 ^ 63 := or63 hx6 (by omega)
                have hbd := visF_bd (d := d) (N := N) (n := d.length) (by omega) hG.small k (w ++ [(a : Int)]) ((N.getD q []).getD a 0).toNat (nandn x.1 (dm d a)) x.2 hxl
                have hnext := ihm (a + 1) (stV d N (visF d N g k) w q x a) (by omega) hx1 hbd.1 (by
                  have := hbd.2
                  show (visF d N g k (w ++ [(a : Int)]) ((N.getD q []).getD a 0).toNat (nandn x.1 (dm d a)) x.2).2 + mm * 8 ^ k ≤ 2 ^ 62
                  omega)
                have cv := ih (w ++ [(a : Int)]) ((N.getD q []).getD a 0).toNat (nandn x.1 (dm d a)) x.2.1 x.2.2 a4 a5 (by rw [List.length_append, List.length_singleton]; omega) (z1e _ _) (by omega) (by omega)
                have co := z7d (i := a) (by omega)
                have e1 : iandnot (x.1 : Int) (d.getD a 0) = ((nandn x.1 (dm d a) : Nat) : Int) := by
                  rw [a7]; exact z1q hx6 a8
                have e2 : ior (x.1 : Int) (((2 ^ a : Nat)) : Int) = ((x.1 ||| 2 ^ a : Nat) : Int) := ior_nat hx6 (pow62 (by omega))
                have cw := zh3 w (by unfold B40; omega)
                apply zye (r35 := ((2 ^ a : Nat) : Int)) (L32 := gL g N.length) (ws30 := (visF d N g k (w ++ [(a : Int)]) ((N.getD q []).getD a 0).toNat (nandn x.1 (dm d a)) x.2).1) (b31 := (((visF d N g k (w ++ [(a : Int)]) ((N.getD q []).getD a 0).toNat (nandn x.1 (dm d a)) x.2).2 : Nat) : Int)) (w33 := w ++ [(a : Int)])
                case hq => rw [e2]; exact hnext
                case c34 => rw [Int.toNat_natCast, e1, a6]; exact cv
                all_goals first | rfl | exact cw | exact co | omega | exact cb | (rw [hE]; omega) | (rw [Int.toNat_natCast]; omega)
            · have e : stS d N (visF d N g k) w q (nandn (g q) sl) x a = x := by unfold stS; rw [if_neg hbit]
              rw [e]
              have hnext := ihm (a + 1) x (by omega) hx6 hxl (by omega)
              rw [Bool.not_eq_true] at hbit
              rw [hbit] at cb
              apply zyc
              case hq => exact hnext
              all_goals first | rfl | omega | exact cb | (rw [hE]; omega)
        have hl := lp d.length 0 (sl, (ws, b)) (by omega) hsl (by show ws.length ≤ 65; omega) (by
          have h3 : d.length * 8 ^ k ≤ 8 * 8 ^ k := Nat.mul_le_mul_right _ (by omega)
          show b + _ ≤ _
          omega)
        rw [List.drop_zero, foldSV, ← zau hEd (by omega)] at hl
        exact zyb cp (by omega) (by omega) (by omega) (by rw [hE]; omega) hl
theorem ztl (h : Ov m d n s f N) (hG : GoP d N g) (k q sl b : Nat) (hq : q < N.length) (hf : finB N (k + 1) q = true) (hwk : k ≤ 99) (hsl : sl < 2 ^ 63) (hb : b + 8 ^ (k + 1) ≤ 2 ^ 62) :
    Runs X F.zd [alD m d, auD n s f N, .rsl 500000 0 (gL g N.length).length, .nil .unk, iD q, iD sl, .agg [.nil (.nest .i64), iD b]] [⟨true, .ints .i64 (gL g N.length)⟩]
      ⟨.agg [.nsl 600000 (visF d N g (k + 1) [] q sl ([], b)).1.length, iD ((visF d N g (k + 1) [] q sl ([], b)).2 : Nat)], [some ⟨true, .ints .i64 (gL g N.length)⟩], [⟨true, .nest .i64 (visF d N g (k + 1) [] q sl ([], b)).1⟩]⟩ := by
    have ih := ztk h hG k
    have hs8 := h.al.small
    have hlen := h.al.len
    have hdl := h.dlen
    have hp : 0 < 8 ^ k := Nat.pow_pos (by omega)
    have hp1 : 8 ^ (k + 1) = 8 * 8 ^ k := by rw [Nat.pow_succ, Nat.mul_comm]
    have hLl := z5q g N.length
    rw [visF, if_neg (by show ¬ 64 < 0; omega)]
    have cp := z7e h.toAutP (q := (q : Int)) (by omega) (by omega)
    by_cases hz : possM N q = 0
    · rw [if_pos hz]
      rw [hz] at cp
      have := zy2 (m := m) (d := d) (L := gL g N.length) (sl := (sl : Int)) (b := (b : Int)) cp rfl
      exact this
    · rw [if_neg hz]
      have hg63 : g q < 2 ^ 63 := Nat.lt_of_lt_of_le (hG.small q) (Nat.pow_le_pow_right (by omega) (by omega))
      have hE : iandnot ((gL g N.length).getD (0 + ((q : Int)).toNat) 0) (sl : Int) = ((nandn (g q) sl : Nat) : Int) := by
        rw [Nat.zero_add, Int.toNat_natCast, gL_getD hq]
        exact z1q hg63 hsl
      by_cases h0 : nandn (g q) sl = 0
      · rw [if_pos h0]
        have := zy3 (m := m) (d := d) (L := gL g N.length) (q := (q : Int)) (sl := (sl : Int)) (b := (b : Int)) cp (by omega) (by omega) (by omega) (by rw [hE, h0]; rfl) (by omega) (by omega)
        exact this
      · rw [if_neg h0]
        have hEd : nandn (g q) sl < 2 ^ d.length := by
          refine Nat.lt_of_le_of_lt ?_ (hG.small q)
          apply Nat.le_of_testBit
          intro i hi
          rw [z27 hg63, Bool.and_eq_true] at hi
          exact hi.1
        have lp : ∀ (mm a : Nat) (x : Nat × Fnd), a + mm = d.length → x.1 < 2 ^ 63 → x.2.1.length ≤ 65 → x.2.2 + mm * 8 ^ k ≤ 2 ^ 62 →
            WL F.zd 1 Tryd.f154 0 (z2l m d n s f N (gL g N.length) q sl (x.1 : Nat) a (gL g N.length) (x.2.2 : Nat) x.2.1)
              (za9 ((((List.range d.length).drop a).foldl (stS d N (visF d N g k) [] q (nandn (g q) sl)) x).2.2 : Nat) (((List.range d.length).drop a).foldl (stS d N (visF d N g k) [] q (nandn (g q) sl)) x).2.1 (gL g N.length)) := by
          intro mm
          induction mm with
          | zero =>
            intro a x hi hx6 hxl hxb
            have hd : (List.range d.length).drop a = [] := List.drop_of_length_le (by simp; omega)
            rw [hd, List.foldl_nil]
            apply zy8
            case hq => rfl
            all_goals first | rfl | omega | (rw [hE]; omega)
          | succ mm ihm =>
            intro a x hi hx6 hxl hxb
            have ha : a < d.length := by omega
            have hd : (List.range d.length).drop a = a :: (List.range d.length).drop (a + 1) := by
              rw [List.drop_eq_getElem_cons (by simpa using ha), List.getElem_range]
            rw [hd, List.foldl_cons]
            rw [Nat.succ_mul] at hxb
            have cb := z5e (m := nandn (g q) sl) (i := a) (z1e _ _) (by omega)
            rw [tb_bit, ← hE] at cb
            by_cases hbit : (nandn (g q) sl).testBit a = true
            · rw [hbit] at cb
              by_cases hful : 64 < x.2.1.length
              · have e : stS d N (visF d N g k) [] q (nandn (g q) sl) x a = x := by unfold stS; rw [if_pos hbit, if_pos hful]
                rw [e]
                have hnext := ihm (a + 1) x (by omega) hx6 hxl (by omega)
                apply zy6
                case hq => exact hnext
                all_goals first | rfl | omega | exact cb | (rw [hE]; omega)
              · have e : stS d N (visF d N g k) [] q (nandn (g q) sl) x a = stV d N (visF d N g k) [] q x a := by unfold stS; rw [if_pos hbit, if_neg hful]
                rw [e]
                obtain ⟨a1, a2, a3, a4, a5, a6, a7, a8⟩ := hG.at h hq hf hbit
                have hx1 : x.1 ||| 2 ^ a < 2 ^ 63 := or63 hx6 (by omega)
                have hbd := visF_bd (d := d) (N := N) (n := d.length) (by omega) hG.small k [(a : Int)] ((N.getD q []).getD a 0).toNat (nandn x.1 (dm d a)) x.2 hxl
                have hnext := ihm (a + 1) (stV d N (visF d N g k) [] q x a) (by omega) hx1 hbd.1 (by
                  have := hbd.2
                  show (visF d N g k [(a : Int)] ((N.getD q []).getD a 0).toNat (nandn x.1 (dm d a)) x.2).2 + mm * 8 ^ k ≤ 2 ^ 62
                  omega)
                have cv := ih [(a : Int)] ((N.getD q []).getD a 0).toNat (nandn x.1 (dm d a)) x.2.1 x.2.2 a4 a5 (by simp; omega) (z1e _ _) (by omega) (by omega)
                have co := z7d (i := a) (by omega)
                have e1 : iandnot (x.1 : Int) (d.getD a 0) = ((nandn x.1 (dm d a) : Nat) : Int) := by
                  rw [a7]; exact z1q hx6 a8
                have e2 : ior (x.1 : Int) (((2 ^ a : Nat)) : Int) = ((x.1 ||| 2 ^ a : Nat) : Int) := ior_nat hx6 (pow62 (by omega))
                apply zy7 (r29 := ((2 ^ a : Nat) : Int)) (L26 := gL g N.length) (ws24 := (visF d N g k [(a : Int)] ((N.getD q []).getD a 0).toNat (nandn x.1 (dm d a)) x.2).1) (b25 := (((visF d N g k [(a : Int)] ((N.getD q []).getD a 0).toNat (nandn x.1 (dm d a)) x.2).2 : Nat) : Int)) (w27 := [(a : Int)])
                case hq => rw [e2]; exact hnext
                case c28 => rw [Int.toNat_natCast, e1, a6]; exact cv
                all_goals first | rfl | exact co | omega | exact cb | (rw [hE]; omega) | (rw [Int.toNat_natCast]; omega)
            · have e : stS d N (visF d N g k) [] q (nandn (g q) sl) x a = x := by unfold stS; rw [if_neg hbit]
              rw [e]
              have hnext := ihm (a + 1) x (by omega) hx6 hxl (by omega)
              rw [Bool.not_eq_true] at hbit
              rw [hbit] at cb
              apply zy5
              case hq => exact hnext
              all_goals first | rfl | omega | exact cb | (rw [hE]; omega)
        have hl := lp d.length 0 (sl, ([], b)) (by omega) hsl (by simp) (by
          have h3 : d.length * 8 ^ k ≤ 8 * 8 ^ k := Nat.mul_le_mul_right _ (by omega)
          show b + _ ≤ _
          omega)
        rw [List.drop_zero, foldSV, ← zau hEd (by omega)] at hl
        exact zy4 cp (by omega) (by omega) (by omega) (by rw [hE]; omega) hl
end
end Go.PR.S

end

section
set_option maxRecDepth 20000
namespace Go.PR.S
open Go Go.PR Go.Proofs Gp
theorem zsk (a b : Int) : Runs X F.z2b [.nil .unk, iD a, iD b] [] (boolR true) := by
  have c1 : Runs X F.zf [.nil .unk, .fn F.z13 [.pim [iD a], .pim [iD b]]] [] (intR (-1)) :=
    zuq (zur rfl)
  have c2 := zu7 c1
  exact zln c2
abbrev noCode (m : Int) (d : List Int) (n s f : Int) (N : List (List Int)) : Int := stCode m d n s f N 0 0
theorem zrp {m : Int} {d : List Int} {n s f : Int} {N : List (List Int)} (h0 : z1x m d n s f N = 0) : noCode m d n s f N = if diaB d N = true ∧ goesB d N = true ∧ endsB N = true then 0 else 5 := by
  have h := z9a h0
  have h1 := h.l1
  have hp : 0 < 2 ^ d.length := Nat.pow_pos (by omega)
  unfold noCode stCode
  rw [if_pos h0, if_pos ⟨by omega, by omega, by omega, by omega⟩]
theorem zsm (m : Int) (d : List Int) (n s f : Int) (N : List (List Int)) (hd : d.length ≤ B40) (hl : N.length ≤ B40) (hw : ∀ r ∈ N, r.length ≤ B40) :
    Runs X F.z2z [alD m d, auD n s f N, .nil .unk] [] (if noCode m d n s f N = 0 then machR n s f N else noMach (noCode m d n s f N)) := by
  have c1 := zsn m d n s f N hd hl hw
  have hl' := hl
  unfold B40 at hl'
  by_cases h0 : z1x m d n s f N = 0
  · rw [h0] at c1
    have h := z9a h0
    have c2 := zsk 0 ((N.length : Int) - 1)
    have ec := zrp h0
    have m1 := zte h.toAutP
    obtain ⟨f1, f2⟩ := zsp (fs := finals f N) h
    cases hdia : diaB d N with
    | false =>
      obtain ⟨x, y, z, f2⟩ := f2 hdia
      rw [if_neg (fun hh => by rw [hdia] at hh; cases hh.1)] at ec
      rw [ec, if_neg (by omega)]
      exact zls c1 rfl (by omega) c2 rfl m1 f2
    | true =>
      have f1 := f1 hdia
      have g := zsv (fs := finals f N) h
      cases hg : goesB d N with
      | false =>
        rw [hg] at g
        rw [if_neg (fun hh => by rw [hg] at hh; cases hh.2.1)] at ec
        rw [ec, if_neg (by omega)]
        exact zlt c1 rfl (by omega) c2 rfl m1 f1 g rfl
      | true =>
        rw [hg] at g
        have en := zsq (n := n) (s := s) (fs := finals f N) h.rowsP
        cases hen : endsB N with
        | false =>
          rw [hen] at en
          rw [if_neg (fun hh => by rw [hen] at hh; cases hh.2.2)] at ec
          rw [ec, if_neg (by omega)]
          exact zlu c1 rfl (by omega) c2 rfl m1 f1 g rfl en rfl
        | true =>
          rw [hen] at en
          rw [if_pos ⟨hdia, hg, hen⟩] at ec
          rw [ec, if_pos rfl]
          exact zlv c1 rfl (by omega) c2 rfl m1 f1 g rfl en rfl
  · have ec : noCode m d n s f N = z1x m d n s f N := by unfold noCode stCode; rw [if_neg h0]
    rw [ec, if_neg h0]
    exact zlr c1 h0
def seaR (m : Int) (d : List Int) (n s f : Int) (N : List (List Int)) (g : Nat → Nat) : List (List Int) × Int × Int :=
  if noCode m d n s f N = 0 then
    (if 64 < (visF d N g (N.length - 1 + 1) [] s.toNat 0 ([], 0)).1.length then ([], 0, 3)
     else ((visF d N g (N.length - 1 + 1) [] s.toNat 0 ([], 0)).1, ((visF d N g (N.length - 1 + 1) [] s.toNat 0 ([], 0)).2 : Nat), 0))
  else ([], 0, noCode m d n s f N)
abbrev srchR (t : List (List Int) × Int × Int) : Ret := ⟨.tup [.nsl 600000 t.1.length, iD t.2.1, iD t.2.2], [], [⟨true, .nest .i64 t.1⟩]⟩
def gA (N : List (List Int)) (q : Nat) : Nat := possM N q
noncomputable def gS (d : List Int) (N : List (List Int)) (q : Nat) : Nat := bst (possM N q) (sB d N q) (2 ^ d.length)
theorem zdx {P : Nat} {g : Nat → Bool} {K : Nat} (hg : ∀ E, E < K → g E = true → ∀ i, E.testBit i = true → P.testBit i = true) : ∀ j, j ≤ K → ∀ i, (bst P g j).testBit i = true → P.testBit i = true
  | 0, _, i, h => h
  | j + 1, hj, i, h => by
    rw [bst] at h
    split at h
    · rename_i hh
      exact hg j (by omega) hh.2 i h
    · exact zdx hg j (by omega) i h
section
variable {m n s f : Int} {d : List Int} {N : List (List Int)}
theorem zs0 (h : Ov m d n s f N) (q : Nat) : possM N q < 2 ^ d.length := by
  by_cases hq : q < N.length
  · exact zc9 h hq
  · have e : N.getD q [] = [] := by rw [List.getD_eq_getElem?_getD, List.getElem?_eq_none (by omega)]; rfl
    unfold possM
    rw [Int.toNat_natCast, e]
    exact Nat.lt_of_lt_of_le (mkM_lt _ _) (Nat.pow_le_pow_right (by omega) (by simp))
theorem goS (h : Ov m d n s f N) : GoP d N (gS d N) :=
  ⟨fun q => bst_lt (zs0 h q) _ (Nat.le_refl _), fun q _ => zdx (K := 2 ^ d.length) (fun E hE hg => sB_sub (Nat.lt_of_lt_of_le hE (Nat.le_trans (two_le h) (by omega))) hg) _ (Nat.le_refl _)⟩
theorem pow8 {k : Nat} (h : k ≤ 16) : 0 + 8 ^ k ≤ 2 ^ 62 := by
  have : 8 ^ k ≤ 8 ^ 16 := Nat.pow_le_pow_right (by omega) h
  omega
theorem zta (hd : d.length ≤ B40) (hl : N.length ≤ B40) : Runs X F.z2k [alD m d, auD n s f N, iD 2] [] (srchR (seaR m d n s f N (gS d N))) := by
  have c1 := zt7 m d n s f N 0 0 hd hl
  unfold seaR
  by_cases h0 : noCode m d n s f N = 0
  · rw [if_pos h0]
    have h0' : stCode m d n s f N 0 0 = 0 := h0
    rw [h0'] at c1
    obtain ⟨h, _, _, _, hEn⟩ := zd4 h0'
    have hl1 := h.l1
    have hl16 := h.l16
    have hs0 := h.s0
    have hsl := h.sl
    have lp : WL F.z2k 0 Tryd.f95 0 (z4g m d n s f N 0 []) (z7k m d n s f N (gL (gS d N) N.length)) := by
      refine loop_to (N := N.length) (st := fun j => z4g m d n s f N j (gL (gS d N) j)) (fun j hj Q hqq => ?_) (fun Q hqq => ?_)
      · rw [gL_succ] at hqq
        have cl := ztb h hj
        have hgl := z5q (gS d N) j
        apply zy0
        case hq => exact hqq
        all_goals first | exact cl | omega
      · apply zy1
        case hq => exact hqq
        all_goals omega
    have cs := ztl h (goS h) (N.length - 1) s.toNat 0 0 (by omega) (by rw [Nat.sub_add_cancel hl1]; exact zb2 hEn _ (by omega)) (by omega) (by omega) (pow8 (by omega))
    rw [show ((s.toNat : Nat) : Int) = s by omega] at cs
    by_cases hb : 64 < (visF d N (gS d N) (N.length - 1 + 1) [] s.toNat 0 ([], 0)).1.length
    · rw [if_pos hb]
      exact zxy c1 rfl lp cs (Int.ofNat_lt.2 hb)
    · rw [if_neg hb]
      exact zxz c1 rfl lp cs (fun hh => hb (Int.ofNat_lt.1 hh))
  · rw [if_neg h0]
    exact zxx c1 h0
theorem zsu (hd : d.length ≤ B40) (hl : N.length ≤ B40) (hw : ∀ r ∈ N, r.length ≤ B40) : Runs X F.z23 [alD m d, auD n s f N, .fn F.z3g [.pim [iD m, lD d]]] [] (srchR (seaR m d n s f N (gS d N))) := by
  have c1 := zsm m d n s f N hd hl hw
  unfold seaR
  by_cases h0 : noCode m d n s f N = 0
  · rw [if_pos h0] at c1 ⊢
    have h0' : stCode m d n s f N 0 0 = 0 := h0
    obtain ⟨h, _, _, _, hEn⟩ := zd4 h0'
    have hl1 := h.l1
    have hl16 := h.l16
    have hs0 := h.s0
    have hsl := h.sl
    have lp : WL F.z23 0 Tryd.f96 0 (z47 m d n s (finals f N) N 0 []) (z71 m d n s (finals f N) N (gL (gS d N) N.length)) := by
      refine loop_to (N := N.length) (st := fun j => z47 m d n s (finals f N) N j (gL (gS d N) j)) (fun j hj Q hqq => ?_) (fun Q hqq => ?_)
      · rw [gL_succ] at hqq
        have ci := zll (ztm (fs := finals f N) h hEn hj)
        have hgl := z5q (gS d N) j
        apply zmu
        case hq => exact hqq
        all_goals first | exact ci | omega
      · apply zmv
        case hq => exact hqq
        all_goals omega
    have cs := ztw (s0 := s) (fs := finals f N) h (goS h) (N.length - 1) s.toNat 0 [] 0 (by omega) (by rw [Nat.sub_add_cancel hl1]; exact zb2 hEn _ (by omega)) (by omega) (by omega) (by simp) (pow8 (by omega))
    rw [show ((s.toNat : Nat) : Int) = s by omega] at cs
    by_cases hb : 64 < (visF d N (gS d N) (N.length - 1 + 1) [] s.toNat 0 ([], 0)).1.length
    · rw [if_pos hb]
      exact zms c1 rfl lp cs (Int.ofNat_lt.2 hb)
    · rw [if_neg hb]
      exact zmt c1 rfl lp cs (fun hh => hb (Int.ofNat_lt.1 hh))
  · rw [if_neg h0] at c1 ⊢
    exact zmr c1 h0
end
end Go.PR.S

end
