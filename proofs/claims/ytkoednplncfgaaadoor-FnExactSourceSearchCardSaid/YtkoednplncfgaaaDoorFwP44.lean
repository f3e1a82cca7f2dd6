/- The searches: what a visit comes to, in the program and in the reference. -/
import Derived.Test.YtkoednplncfgaaaDoorFwP21
import Derived.Test.YtkoednplncfgaaaDoorFwG41
import Derived.Test.YtkoednplncfgaaaDoorFwG42
import Derived.Test.YtkoednplncfgaaaDoorFwG44
set_option linter.unusedVariables false
set_option linter.unusedSimpArgs false
section
set_option maxRecDepth 20000
namespace Go.PR.S
open Go Go.PR Go.Proofs Gp
abbrev Fnd := List (List Int) × Nat
def stV (d : List Int) (N : List (List Int)) (v : List Int → Nat → Nat → Fnd → Fnd) (w : List Int) (q : Nat) (x : Nat × Fnd) (a : Nat) : Nat × Fnd :=
  (x.1 ||| 2 ^ a, v (w ++ [(a : Int)]) ((N.getD q []).getD a 0).toNat (nandn x.1 (dm d a)) x.2)
def visF (d : List Int) (N : List (List Int)) (g : Nat → Nat) : Nat → List Int → Nat → Nat → Fnd → Fnd
  | 0, _, _, _, r => r
  | k + 1, w, q, sl, r =>
    if 64 < r.1.length then r
    else if possM N q = 0 then (r.1 ++ [w], r.2)
    else if nandn (g q) sl = 0 then (r.1, r.2 + 1)
    else ((bitsN (nandn (g q) sl)).foldl (stV d N (visF d N g k) w q) (sl, r)).2
def stS (d : List Int) (N : List (List Int)) (v : List Int → Nat → Nat → Fnd → Fnd) (w : List Int) (q E : Nat) (x : Nat × Fnd) (a : Nat) : Nat × Fnd :=
  if E.testBit a = true then (if 64 < x.2.1.length then x else stV d N v w q x a) else x
theorem zaf {d : List Int} {N : List (List Int)} {g : Nat → Nat} {k : Nat} {w : List Int} {q sl : Nat} {r : Fnd} (h : 64 < r.1.length) : visF d N g k w q sl r = r := by
  cases k with
  | zero => rfl
  | succ k => rw [visF, if_pos h]
theorem zes {d : List Int} {N : List (List Int)} {g : Nat → Nat} {k : Nat} {w : List Int} {q : Nat} : ∀ (l : List Nat) (x : Nat × Fnd), 64 < x.2.1.length → (l.foldl (stV d N (visF d N g k) w q) x).2 = x.2
  | [], x, _ => rfl
  | a :: l, x, h => by
    rw [List.foldl_cons]
    have e : (stV d N (visF d N g k) w q x a).2 = x.2 := zaf h
    rw [zes l _ (by rw [e]; exact h), e]
theorem zer {d : List Int} {N : List (List Int)} {v : List Int → Nat → Nat → Fnd → Fnd} {w : List Int} {q E : Nat} : ∀ (l : List Nat) (x : Nat × Fnd), 64 < x.2.1.length → l.foldl (stS d N v w q E) x = x
  | [], x, _ => rfl
  | a :: l, x, h => by
    have e : stS d N v w q E x a = x := by
      unfold stS
      rw [if_pos h, ite_self]
    rw [List.foldl_cons, e]
    exact zer l x h
theorem foldSV {d : List Int} {N : List (List Int)} {g : Nat → Nat} {k : Nat} {w : List Int} {q E : Nat} : ∀ (l : List Nat) (x : Nat × Fnd),
    (l.foldl (stS d N (visF d N g k) w q E) x).2 = ((l.filter fun i => E.testBit i).foldl (stV d N (visF d N g k) w q) x).2
  | [], x => rfl
  | a :: l, x => by
    rw [List.foldl_cons, List.filter_cons]
    by_cases hb : E.testBit a = true
    · rw [if_pos hb, List.foldl_cons]
      by_cases hf : 64 < x.2.1.length
      · have e : stS d N (visF d N g k) w q E x a = x := by unfold stS; rw [if_pos hb, if_pos hf]
        have e2 : (stV d N (visF d N g k) w q x a).2 = x.2 := zaf hf
        rw [e, zer l x hf, zes _ _ (by rw [e2]; exact hf), e2]
      · have e : stS d N (visF d N g k) w q E x a = stV d N (visF d N g k) w q x a := by unfold stS; rw [if_pos hb, if_neg hf]
        rw [e]
        exact foldSV l _
    · have e : stS d N (visF d N g k) w q E x a = x := by unfold stS; rw [if_neg hb]
      rw [if_neg hb, e]
      exact foldSV l x
theorem zau {E n : Nat} (hE : E < 2 ^ n) (hn : n ≤ 63) : bitsN E = (List.range n).filter fun i => E.testBit i := by
  have : E = mkM (fun i => E.testBit i) n := by
    apply Nat.eq_of_testBit_eq
    intro i
    rw [mkM_bit]
    by_cases hi : i < n
    · simp [hi]
    · rw [Nat.testBit_lt_two_pow (Nat.lt_of_lt_of_le hE (Nat.pow_le_pow_right (by omega) (by omega)))]; simp
  conv => lhs; rw [this]
  rw [zds hn]
theorem zat {E n : Nat} (hE : E < 2 ^ n) (hn : n ≤ 8) : (bitsN E).length ≤ 8 := by
  rw [zau hE (by omega)]
  have := List.length_filter_le (fun i => E.testBit i) (List.range n)
  rw [List.length_range] at this
  omega
theorem visF_bd {d : List Int} {N : List (List Int)} {g : Nat → Nat} {n : Nat} (hn : n ≤ 8) (hg : ∀ q, g q < 2 ^ n) : ∀ (k : Nat) (w : List Int) (q sl : Nat) (r : Fnd), r.1.length ≤ 65 →
    (visF d N g k w q sl r).1.length ≤ 65 ∧ (visF d N g k w q sl r).2 ≤ r.2 + 8 ^ k := by
  intro k
  induction k with
  | zero => intro w q sl r h; exact ⟨h, by rw [visF]; omega⟩
  | succ k ih =>
    intro w q sl r h
    have hp : 0 < 8 ^ k := Nat.pow_pos (by omega)
    have hp1 : 8 ^ (k + 1) = 8 * 8 ^ k := by rw [Nat.pow_succ, Nat.mul_comm]
    have fold : ∀ (l : List Nat) (x : Nat × Fnd), x.2.1.length ≤ 65 → (l.foldl (stV d N (visF d N g k) w q) x).2.1.length ≤ 65 ∧ (l.foldl (stV d N (visF d N g k) w q) x).2.2 ≤ x.2.2 + l.length * 8 ^ k := by
      intro l
      induction l with
      | nil => intro x hx; exact ⟨hx, by simp⟩
      | cons a l ihl =>
        intro x hx
        have h1 := ih (w ++ [(a : Int)]) ((N.getD q []).getD a 0).toNat (nandn x.1 (dm d a)) x.2 hx
        have h2 := ihl (stV d N (visF d N g k) w q x a) h1.1
        refine ⟨h2.1, ?_⟩
        have h3 := h2.2
        rw [List.foldl_cons, List.length_cons, Nat.succ_mul]
        have h4 : (stV d N (visF d N g k) w q x a).2.2 ≤ x.2.2 + 8 ^ k := h1.2
        omega
    rw [visF]
    split
    · exact ⟨h, by omega⟩
    · rename_i hf
      split
      · refine ⟨?_, by show r.2 ≤ _; omega⟩
        show (r.1 ++ [w]).length ≤ 65
        rw [List.length_append, List.length_singleton]; omega
      · split
        · exact ⟨h, by show r.2 + 1 ≤ _; omega⟩
        · have h1 := fold (bitsN (nandn (g q) sl)) (sl, r) h
          have hb : nandn (g q) sl < 2 ^ n := by
            refine Nat.lt_of_le_of_lt ?_ (hg q)
            apply Nat.le_of_testBit
            intro i hi
            rw [z27 (Nat.lt_of_lt_of_le (hg q) (Nat.pow_le_pow_right (by omega) (by omega)))] at hi
            rw [Bool.and_eq_true] at hi
            exact hi.1
          have h2 := zat hb hn
          refine ⟨h1.1, ?_⟩
          have h3 : (bitsN (nandn (g q) sl)).length * 8 ^ k ≤ 8 * 8 ^ k := Nat.mul_le_mul_right _ h2
          have h4 := h1.2
          have h5 : ((sl, r) : Nat × Fnd).2.2 = r.2 := rfl
          omega
end Go.PR.S

end

section
set_option maxRecDepth 20000
namespace Go.PR.S
open Go Go.PR Go.Proofs Gp
def gL (g : Nat → Nat) (n : Nat) : List Int := (List.range n).map fun q => ((g q : Nat) : Int)
theorem z5q (g : Nat → Nat) (n : Nat) : (gL g n).length = n := by unfold gL; simp
theorem gL_succ (g : Nat → Nat) (n : Nat) : gL g (n + 1) = gL g n ++ [((g n : Nat) : Int)] := by
  unfold gL
  rw [List.range_succ, List.map_append]
  rfl
theorem gL_getD {g : Nat → Nat} {n q : Nat} (h : q < n) : (gL g n).getD q 0 = ((g q : Nat) : Int) := by
  unfold gL
  rw [List.getD_eq_getElem?_getD, List.getElem?_map, List.getElem?_range h]
  rfl
structure GoP (d : List Int) (N : List (List Int)) (g : Nat → Nat) : Prop where
  small : ∀ q, g q < 2 ^ d.length
  sub : ∀ q, q < N.length → ∀ i, (g q).testBit i = true → (possM N q).testBit i = true
theorem GoP.at {m n s f : Int} {d : List Int} {N : List (List Int)} {g : Nat → Nat} (hG : GoP d N g) (h : Ov m d n s f N) {k q sl : Nat} (hq : q < N.length) (hf : finB N (k + 1) q = true) {a : Nat} (ha : (nandn (g q) sl).testBit a = true) :
    a < d.length ∧ a < (N.getD q []).length ∧ 0 ≤ (N.getD q []).getD a 0 ∧ ((N.getD q []).getD a 0).toNat < N.length ∧ finB N k ((N.getD q []).getD a 0).toNat = true ∧ (N.getD q []).getD a 0 = ((((N.getD q []).getD a 0).toNat : Nat) : Int) ∧ d.getD a 0 = ((dm d a : Nat) : Int) ∧ dm d a < 2 ^ 63 := by
  have hs8 := h.al.small
  have hlen := h.al.len
  have hg63 : g q < 2 ^ 63 := Nat.lt_of_lt_of_le (hG.small q) (Nat.pow_le_pow_right (by omega) (by omega))
  rw [z27 hg63, Bool.and_eq_true] at ha
  have hb := hG.sub q hq a ha.1
  rw [z9c, Bool.and_eq_true, decide_eq_true_eq, decide_eq_true_eq] at hb
  have hr := h.row hq
  have hbe := (h.rowsP).below q hq a hb.1
  have hfin : finB N k ((N.getD q []).getD a 0).toNat = true := by
    rw [finB, List.all_eq_true] at hf
    have hmem : (N.getD q []).getD a 0 ∈ N.getD q [] := by rw [getD_lt hb.1]; exact List.getElem_mem hb.1
    have := hf _ hmem
    rw [Bool.or_eq_true, decide_eq_true_eq] at this
    rcases this with h' | h'
    · omega
    · exact h'
  have hm := (h.al.mask a (by omega)).1
  exact ⟨by omega, hb.1, by omega, by omega, hfin, by omega, hm, h.al.small63 (by omega)⟩
theorem or63 {a i : Nat} (ha : a < 2 ^ 63) (hi : i ≤ 62) : a ||| 2 ^ i < 2 ^ 63 := Nat.or_lt_two_pow ha (pow62 hi)
abbrev rowsV (m : Int) (d : List Int) (n s0 : Int) (fs : List Bool) (N : List (List Int)) (L w : List Int) (ws : List (List Int)) (b : Int) : List Row :=
  [⟨true, .var [iD m, lD d, iD n, iD s0, .rsl 500002 0 fs.length, .imm2 .i64 N, .rsl 500003 0 L.length, .nsl 500004 ws.length, iD b]⟩, ⟨true, .ints .i64 w⟩, ⟨true, .bools fs⟩, ⟨true, .ints .i64 L⟩, ⟨true, .nest .i64 ws⟩]
abbrev retV (m : Int) (d : List Int) (n s0 : Int) (fs : List Bool) (N : List (List Int)) (L w : List Int) (ws : List (List Int)) (b : Int) : Ret :=
  ⟨.tup [], [some ⟨true, .var [iD m, lD d, iD n, iD s0, .rsl 500002 0 fs.length, .imm2 .i64 N, .rsl 500003 0 L.length, .nsl 600000 ws.length, iD b]⟩, some ⟨true, .ints .i64 w⟩, some ⟨true, .bools fs⟩, some ⟨true, .ints .i64 L⟩, none], [⟨true, .nest .i64 ws⟩]⟩
section
variable {m n s f s0 : Int} {d : List Int} {N : List (List Int)} {fs : List Bool} {g : Nat → Nat}
theorem ztv (h : Ov m d n s f N) (hG : GoP d N g) : ∀ (k : Nat) (w : List Int) (q sl : Nat) (ws : List (List Int)) (b : Nat), q < N.length → finB N k q = true → 0 < w.length → w.length + k ≤ 100 → sl < 2 ^ 63 → ws.length ≤ 65 → b + 8 ^ k ≤ 2 ^ 62 →
    Runs X F.ze [.ptr 500000 0, .rsl 500001 0 w.length, iD q, iD sl] (rowsV m d n s0 fs N (gL g N.length) w ws b) (retV m d n s0 fs N (gL g N.length) w (visF d N g k w q sl (ws, b)).1 ((visF d N g k w q sl (ws, b)).2 : Nat)) := by
  intro k
  induction k with
  | zero => intro w q sl ws b _ hf; cases hf
  | succ k ih =>
    intro w q sl ws b hq hf hw0 hwk hsl hws hb
    have hs8 := h.al.small
    have hlen := h.al.len
    have hp : 0 < 8 ^ k := Nat.pow_pos (by omega)
    have hp1 : 8 ^ (k + 1) = 8 * 8 ^ k := by rw [Nat.pow_succ, Nat.mul_comm]
    have hLl := z5q g N.length
    by_cases hfull : 64 < ws.length
    · rw [zaf hfull]
      exact zmj (by omega)
    · rw [visF, if_neg hfull]
      have cp := z4c (n := n) (s := s0) (fs := fs) h.rowsP (q := (q : Int)) (by omega) (by omega)
      by_cases hz : possM N q = 0
      · rw [if_pos hz]
        rw [hz] at cp
        have := zmk (m := m) (d := d) (L := gL g N.length) (w := w) (sl := (sl : Int)) (ws := ws) (b := (b : Int)) (by omega) cp rfl hw0 (by omega)
        show Runs _ _ _ _ (retV m d n s0 fs N (gL g N.length) w (ws ++ [w]) (b : Int))
        unfold retV
        rw [List.length_append, List.length_singleton]
        exact this
      · rw [if_neg hz]
        have hg63 : g q < 2 ^ 63 := Nat.lt_of_lt_of_le (hG.small q) (Nat.pow_le_pow_right (by omega) (by omega))
        have hE : iandnot ((gL g N.length).getD (0 + ((q : Int)).toNat) 0) (sl : Int) = ((nandn (g q) sl : Nat) : Int) := by
          rw [Nat.zero_add, Int.toNat_natCast, gL_getD hq]
          exact z1q hg63 hsl
        have cm := z4b (m := nandn (g q) sl) (z1e _ _)
        rw [← hE] at cm
        by_cases h0 : nandn (g q) sl = 0
        · rw [if_pos h0]
          have hb0 : bitsL (nandn (g q) sl) = [] := by rw [h0]; exact z7m
          rw [hb0] at cm
          refine zml (by omega) cp (by omega) (by omega) (by omega) (by rw [hE, h0]; rfl) (by omega) (by omega) cm ?_
          apply zmn
          case hq => rfl
          all_goals first | omega | simp
        · rw [if_neg h0]
          have lp : ∀ (mm i t : Nat) (x : Nat × Fnd), i + mm = (bitsN (nandn (g q) sl)).length → sl ||| t = x.1 → t < 2 ^ 63 → x.1 < 2 ^ 63 → x.2.1.length ≤ 65 → x.2.2 + mm * 8 ^ k ≤ 2 ^ 62 →
              WL F.ze 0 Tryd.f155 0 (z5x w q sl (bitsL (nandn (g q) sl)) t i m d n s0 N (x.2.2 : Nat) fs (gL g N.length) x.2.1)
                (z4t w m d n s0 N ((((bitsN (nandn (g q) sl)).drop i).foldl (stV d N (visF d N g k) w q) x).2.2 : Nat) fs (gL g N.length) (((bitsN (nandn (g q) sl)).drop i).foldl (stV d N (visF d N g k) w q) x).2.1) := by
            intro mm
            induction mm with
            | zero =>
              intro i t x hi ht ht6 hx6 hxl hxb
              have hd : (bitsN (nandn (g q) sl)).drop i = [] := List.drop_of_length_le (by omega)
              rw [hd, List.foldl_nil]
              have hbl : (bitsL (nandn (g q) sl)).length = (bitsN (nandn (g q) sl)).length := by unfold bitsL; simp
              apply zmp
              case hq => rfl
              all_goals omega
            | succ mm ihm =>
              intro i t x hi ht ht6 hx6 hxl hxb
              have hi' : i < (bitsN (nandn (g q) sl)).length := by omega
              have hd : (bitsN (nandn (g q) sl)).drop i = (bitsN (nandn (g q) sl))[i] :: (bitsN (nandn (g q) sl)).drop (i + 1) := List.drop_eq_getElem_cons hi'
              rw [hd, List.foldl_cons]
              have hel : (bitsL (nandn (g q) sl)).getD (0 + i) 0 = (((bitsN (nandn (g q) sl))[i] : Nat) : Int) := by rw [Nat.zero_add]; exact zas hi'
              have hbl : (bitsL (nandn (g q) sl)).length = (bitsN (nandn (g q) sl)).length := by unfold bitsL; simp
              have hmem := (z3p (z1e _ _)).1 (List.getElem_mem hi')
              generalize (bitsN (nandn (g q) sl))[i] = a at hel hmem ⊢
              obtain ⟨a1, a2, a3, a4, a5, a6, a7, a8⟩ := hG.at h hq hf hmem
              have hx1 : x.1 ||| 2 ^ a < 2 ^ 63 := or63 hx6 (by omega)
              have ht1 : t ||| 2 ^ a < 2 ^ 63 := or63 ht6 (by omega)
              rw [Nat.succ_mul] at hxb
              have hbd := visF_bd (d := d) (N := N) (n := d.length) (by omega) hG.small k (w ++ [(a : Int)]) ((N.getD q []).getD a 0).toNat (nandn x.1 (dm d a)) x.2 hxl
              have hnext := ihm (i + 1) (t ||| 2 ^ a) (stV d N (visF d N g k) w q x a) (by omega) (by show sl ||| (t ||| 2 ^ a) = x.1 ||| 2 ^ a; rw [← Nat.or_assoc, ht]) ht1 hx1 hbd.1 (by
                have := hbd.2
                show (visF d N g k (w ++ [(a : Int)]) ((N.getD q []).getD a 0).toNat (nandn x.1 (dm d a)) x.2).2 + mm * 8 ^ k ≤ 2 ^ 62
                omega)
              have cv := ih (w ++ [(a : Int)]) ((N.getD q []).getD a 0).toNat (nandn x.1 (dm d a)) x.2.1 x.2.2 a4 a5 (by rw [List.length_append, List.length_singleton]; omega) (by rw [List.length_append, List.length_singleton]; omega) (z1e _ _) hxl (by omega)
              have co := z5f (i := a) (by omega)
              have hb63 := z6o (nandn (g q) sl)
              have e1 : iandnot (ior (sl : Int) (t : Int)) (d.getD a 0) = ((nandn x.1 (dm d a) : Nat) : Int) := by
                rw [ior_nat hsl ht6, ht, a7]; exact z1q hx6 a8
              have e2 : ior (t : Int) (((2 ^ a : Nat)) : Int) = ((t ||| 2 ^ a : Nat) : Int) := ior_nat ht6 (pow62 (by omega))
              apply zmo (r62 := ((2 ^ a : Nat) : Int)) (m51 := m) (d52 := d) (n53 := n) (s54 := s0) (fs55 := fs) (xss56 := N) (L57 := gL g N.length) (ws58 := (visF d N g k (w ++ [(a : Int)]) ((N.getD q []).getD a 0).toNat (nandn x.1 (dm d a)) x.2).1) (b59 := (((visF d N g k (w ++ [(a : Int)]) ((N.getD q []).getD a 0).toNat (nandn x.1 (dm d a)) x.2).2 : Nat) : Int)) (w60 := w ++ [(a : Int)])
              case hq => rw [e2]; exact hnext
              case c61 => rw [hel, Int.toNat_natCast, Int.toNat_natCast, e1, a6]; exact cv
              case c63 => rw [hel]; exact co
              all_goals first | omega | (rw [hel]; omega) | (rw [hel, Int.toNat_natCast]; omega)
          have hl := lp (bitsN (nandn (g q) sl)).length 0 0 (sl, (ws, b)) (by omega) (by simp) (by omega) hsl hws (by
            have h2 := zat (E := nandn (g q) sl) (n := d.length) (by
              refine Nat.lt_of_le_of_lt ?_ (hG.small q)
              apply Nat.le_of_testBit
              intro i hi
              rw [z27 hg63, Bool.and_eq_true] at hi
              exact hi.1) (by omega)
            have h3 : (bitsN (nandn (g q) sl)).length * 8 ^ k ≤ 8 * 8 ^ k := Nat.mul_le_mul_right _ h2
            show b + _ ≤ _
            omega)
          rw [List.drop_zero] at hl
          exact zmm (by omega) cp (by omega) (by omega) (by omega) (by rw [hE]; omega) cm hl
abbrev rowsW (m : Int) (d : List Int) (n s0 : Int) (fs : List Bool) (N : List (List Int)) (L : List Int) (ws : List (List Int)) (b : Int) : List Row :=
  [⟨true, .var [iD m, lD d, iD n, iD s0, .rsl 500001 0 fs.length, .imm2 .i64 N, .rsl 500002 0 L.length, .nsl 500003 ws.length, iD b]⟩, ⟨true, .bools fs⟩, ⟨true, .ints .i64 L⟩, ⟨true, .nest .i64 ws⟩]
abbrev retW (m : Int) (d : List Int) (n s0 : Int) (fs : List Bool) (N : List (List Int)) (L : List Int) (ws : List (List Int)) (b : Int) : Ret :=
  ⟨.tup [], [some ⟨true, .var [iD m, lD d, iD n, iD s0, .rsl 500001 0 fs.length, .imm2 .i64 N, .rsl 500002 0 L.length, .nsl 600000 ws.length, iD b]⟩, some ⟨true, .bools fs⟩, some ⟨true, .ints .i64 L⟩, none], [⟨true, .nest .i64 ws⟩]⟩
theorem ztw (h : Ov m d n s f N) (hG : GoP d N g) (k q sl : Nat) (ws : List (List Int)) (b : Nat) (hq : q < N.length) (hf : finB N (k + 1) q = true) (hwk : k ≤ 99) (hsl : sl < 2 ^ 63) (hws : ws.length ≤ 65) (hb : b + 8 ^ (k + 1) ≤ 2 ^ 62) :
    Runs X F.ze [.ptr 500000 0, .nil .unk, iD q, iD sl] (rowsW m d n s0 fs N (gL g N.length) ws b) (retW m d n s0 fs N (gL g N.length) (visF d N g (k + 1) [] q sl (ws, b)).1 ((visF d N g (k + 1) [] q sl (ws, b)).2 : Nat)) := by
    have ih := ztv (s0 := s0) (fs := fs) h hG k
    have hs8 := h.al.small
    have hlen := h.al.len
    have hp : 0 < 8 ^ k := Nat.pow_pos (by omega)
    have hp1 : 8 ^ (k + 1) = 8 * 8 ^ k := by rw [Nat.pow_succ, Nat.mul_comm]
    have hLl := z5q g N.length
    by_cases hfull : 64 < ws.length
    · rw [zaf hfull]
      exact zmc (by omega)
    · rw [visF, if_neg hfull]
      have cp := z4c (n := n) (s := s0) (fs := fs) h.rowsP (q := (q : Int)) (by omega) (by omega)
      by_cases hz : possM N q = 0
      · rw [if_pos hz]
        rw [hz] at cp
        have := zmd (m := m) (d := d) (L := gL g N.length) (sl := (sl : Int)) (ws := ws) (b := (b : Int)) (by omega) cp rfl
        show Runs _ _ _ _ (retW m d n s0 fs N (gL g N.length) (ws ++ [[]]) (b : Int))
        unfold retW
        rw [List.length_append, List.length_singleton]
        exact this
      · rw [if_neg hz]
        have hg63 : g q < 2 ^ 63 := Nat.lt_of_lt_of_le (hG.small q) (Nat.pow_le_pow_right (by omega) (by omega))
        have hE : iandnot ((gL g N.length).getD (0 + ((q : Int)).toNat) 0) (sl : Int) = ((nandn (g q) sl : Nat) : Int) := by
          rw [Nat.zero_add, Int.toNat_natCast, gL_getD hq]
          exact z1q hg63 hsl
        have cm := z4b (m := nandn (g q) sl) (z1e _ _)
        rw [← hE] at cm
        by_cases h0 : nandn (g q) sl = 0
        · rw [if_pos h0]
          have hb0 : bitsL (nandn (g q) sl) = [] := by rw [h0]; exact z7m
          rw [hb0] at cm
          refine zme (by omega) cp (by omega) (by omega) (by omega) (by rw [hE, h0]; rfl) (by omega) (by omega) cm ?_
          apply zmg
          case hq => rfl
          all_goals first | omega | simp
        · rw [if_neg h0]
          have lp : ∀ (mm i t : Nat) (x : Nat × Fnd), i + mm = (bitsN (nandn (g q) sl)).length → sl ||| t = x.1 → t < 2 ^ 63 → x.1 < 2 ^ 63 → x.2.1.length ≤ 65 → x.2.2 + mm * 8 ^ k ≤ 2 ^ 62 →
              WL F.ze 0 Tryd.f155 0 (z5w q sl (bitsL (nandn (g q) sl)) t i m d n s0 N (x.2.2 : Nat) fs (gL g N.length) x.2.1)
                (z4s m d n s0 N ((((bitsN (nandn (g q) sl)).drop i).foldl (stV d N (visF d N g k) [] q) x).2.2 : Nat) fs (gL g N.length) (((bitsN (nandn (g q) sl)).drop i).foldl (stV d N (visF d N g k) [] q) x).2.1) := by
            intro mm
            induction mm with
            | zero =>
              intro i t x hi ht ht6 hx6 hxl hxb
              have hd : (bitsN (nandn (g q) sl)).drop i = [] := List.drop_of_length_le (by omega)
              rw [hd, List.foldl_nil]
              have hbl : (bitsL (nandn (g q) sl)).length = (bitsN (nandn (g q) sl)).length := by unfold bitsL; simp
              apply zmi
              case hq => rfl
              all_goals omega
            | succ mm ihm =>
              intro i t x hi ht ht6 hx6 hxl hxb
              have hi' : i < (bitsN (nandn (g q) sl)).length := by omega
              have hd : (bitsN (nandn (g q) sl)).drop i = (bitsN (nandn (g q) sl))[i] :: (bitsN (nandn (g q) sl)).drop (i + 1) := List.drop_eq_getElem_cons hi'
              rw [hd, List.foldl_cons]
              have hel : (bitsL (nandn (g q) sl)).getD (0 + i) 0 = (((bitsN (nandn (g q) sl))[i] : Nat) : Int) := by rw [Nat.zero_add]; exact zas hi'
              have hbl : (bitsL (nandn (g q) sl)).length = (bitsN (nandn (g q) sl)).length := by unfold bitsL; simp
              have hmem := (z3p (z1e _ _)).1 (List.getElem_mem hi')
              generalize (bitsN (nandn (g q) sl))[i] = a at hel hmem ⊢
              obtain ⟨a1, a2, a3, a4, a5, a6, a7, a8⟩ := hG.at h hq hf hmem
              have hx1 : x.1 ||| 2 ^ a < 2 ^ 63 := or63 hx6 (by omega)
              have ht1 : t ||| 2 ^ a < 2 ^ 63 := or63 ht6 (by omega)
              rw [Nat.succ_mul] at hxb
              have hbd := visF_bd (d := d) (N := N) (n := d.length) (by omega) hG.small k [(a : Int)] ((N.getD q []).getD a 0).toNat (nandn x.1 (dm d a)) x.2 hxl
              have hnext := ihm (i + 1) (t ||| 2 ^ a) (stV d N (visF d N g k) [] q x a) (by omega) (by show sl ||| (t ||| 2 ^ a) = x.1 ||| 2 ^ a; rw [← Nat.or_assoc, ht]) ht1 hx1 hbd.1 (by
                have := hbd.2
                show (visF d N g k [(a : Int)] ((N.getD q []).getD a 0).toNat (nandn x.1 (dm d a)) x.2).2 + mm * 8 ^ k ≤ 2 ^ 62
                omega)
              have cv := ih [(a : Int)] ((N.getD q []).getD a 0).toNat (nandn x.1 (dm d a)) x.2.1 x.2.2 a4 a5 (by simp) (by simp; omega) (z1e _ _) hxl (by omega)
              have co := z5f (i := a) (by omega)
              have hb63 := z6o (nandn (g q) sl)
              have e1 : iandnot (ior (sl : Int) (t : Int)) (d.getD a 0) = ((nandn x.1 (dm d a) : Nat) : Int) := by
                rw [ior_nat hsl ht6, ht, a7]; exact z1q hx6 a8
              have e2 : ior (t : Int) (((2 ^ a : Nat)) : Int) = ((t ||| 2 ^ a : Nat) : Int) := ior_nat ht6 (pow62 (by omega))
              apply zmh (r54 := ((2 ^ a : Nat) : Int)) (m43 := m) (d44 := d) (n45 := n) (s46 := s0) (fs47 := fs) (xss48 := N) (L49 := gL g N.length) (ws50 := (visF d N g k [(a : Int)] ((N.getD q []).getD a 0).toNat (nandn x.1 (dm d a)) x.2).1) (b51 := (((visF d N g k [(a : Int)] ((N.getD q []).getD a 0).toNat (nandn x.1 (dm d a)) x.2).2 : Nat) : Int)) (w52 := [(a : Int)])
              case hq => rw [e2]; exact hnext
              case c53 => rw [hel, Int.toNat_natCast, Int.toNat_natCast, e1, a6]; exact cv
              case c55 => rw [hel]; exact co
              all_goals first | omega | (rw [hel]; omega) | (rw [hel, Int.toNat_natCast]; omega)
          have hl := lp (bitsN (nandn (g q) sl)).length 0 0 (sl, (ws, b)) (by omega) (by simp) (by omega) hsl hws (by
            have h2 := zat (E := nandn (g q) sl) (n := d.length) (by
              refine Nat.lt_of_le_of_lt ?_ (hG.small q)
              apply Nat.le_of_testBit
              intro i hi
              rw [z27 hg63, Bool.and_eq_true] at hi
              exact hi.1) (by omega)
            have h3 : (bitsN (nandn (g q) sl)).length * 8 ^ k ≤ 8 * 8 ^ k := Nat.mul_le_mul_right _ h2
            show b + _ ≤ _
            omega)
          rw [List.drop_zero] at hl
          exact zmf (by omega) cp (by omega) (by omega) (by omega) (by rw [hE]; omega) cm hl
end
end Go.PR.S

end
