/- What the program's functions come to, eighth part: the double alphabet, the normal form in the group. -/
import Derived.Test.YtdheehhnpjkdbaaDoorFwP7
set_option linter.unusedVariables false
set_option linter.unusedSimpArgs false
set_option maxRecDepth 20000
namespace Go.PR.S
open Go Go.PR Go.Proofs Gp

/-! ### the double alphabet -/
def dblM (d : List Int) (m i : Nat) : Nat := mkM (fun b => (dm d i).testBit (b / 2)) m
def dblL (n : Nat) (d : List Int) : List Int := (List.range (2 * n)).map fun a => ((dblM d (2 * n) (a / 2) : Nat) : Int)

theorem three {k b : Nat} : (3 * 2 ^ (2 * k)).testBit b = decide (b / 2 = k) := by
  have e : 3 * 2 ^ (2 * k) = 2 ^ (2 * k + 1) ||| 2 ^ (2 * k) := by
    have := Nat.two_pow_add_eq_or_of_lt (i := 2 * k + 1) (b := 2 ^ (2 * k)) (Nat.pow_lt_pow_right (by omega) (by omega)) 1
    rw [Nat.mul_one] at this
    rw [← this, Nat.pow_succ]; omega
  rw [e, Nat.testBit_or, Nat.testBit_two_pow, Nat.testBit_two_pow]
  rw [Bool.eq_iff_iff]
  simp only [Bool.or_eq_true, decide_eq_true_eq]
  omega

theorem mkM_congr {f g : Nat → Bool} {m : Nat} (h : ∀ i, i < m → f i = g i) : mkM f m = mkM g m := by
  apply Nat.eq_of_testBit_eq
  intro i
  rw [mkM_bit, mkM_bit]
  by_cases hi : i < m
  · rw [h i hi]
  · simp [hi]

theorem run_signedTies {n : Nat} {d : List Int} (h : Al n d) : Runs X F.impl_signedTies [alD n d] [] (rowR (dblL n d)) := by
  have hs := h.small
  have hl := h.len
  have dlen : (dblL n d).length = 2 * n := by simp [dblL]
  refine impl_signedTies_p1 (loop_to (N := n) (st := fun i => impl_signedTies_s0 d i ((dblL n d).take (2 * i))) (fun i hi Q hq => ?_) (fun Q hq => ?_))
  · obtain ⟨hm1, hm2⟩ := h.mask i hi
    have h63 := h.small63 hi
    have c1 := run_members h63
    rw [← hm1] at c1
    have hlen : (bitsN (dm d i)).length = (bitsL (dm d i)).length := by simp [bitsL]
    have hb63 := bitsN_len (dm d i)
    let fm : Nat → Nat := fun j => mkM (fun b => decide (b / 2 ∈ (bitsN (dm d i)).take j)) (2 * n)
    have hfm : ∀ j, fm j < 2 ^ 63 := fun j => Nat.lt_of_lt_of_le (mkM_lt _ _) (Nat.pow_le_pow_right (by omega) (by omega))
    have hin : WL F.impl_signedTies 2 Tryd.f56 1 (impl_signedTies_s1 d i ((dblL n d).take (2 * i)) (bitsL (dm d i)) 0 0) (impl_signedTies_o1_1 d i ((dblL n d).take (2 * i)) (dblM d (2 * n) i)) := by
      have e0 : ((fm 0 : Nat) : Int) = 0 := by
        have : fm 0 = 0 := by
          apply Nat.eq_of_testBit_eq; intro b; show (mkM _ _).testBit b = _; rw [mkM_bit]; simp
        rw [this]; rfl
      have eN : fm (bitsN (dm d i)).length = dblM d (2 * n) i := by
        apply mkM_congr
        intro b hb
        rw [List.take_length, Bool.eq_iff_iff, decide_eq_true_eq]
        exact mem_bitsN h63
      have key := loop_to (f := F.impl_signedTies) (b := 2) (body := lb Tryd.f56 1) (N := (bitsN (dm d i)).length) (o := impl_signedTies_o1_1 d i ((dblL n d).take (2 * i)) (dblM d (2 * n) i)) (st := fun j => impl_signedTies_s1 d i ((dblL n d).take (2 * i)) (bitsL (dm d i)) (fm j) j) (fun j hj Q hq => ?_) (fun Q hq => ?_)
      · simp only [e0] at key; exact key
      · have hg := bitsL_get hj
        have hbit := (mem_bitsN h63).1 (List.getElem_mem hj)
        have hklt : (bitsN (dm d i))[j] < n := bit_lt hm2 hbit
        have e3 : ishl 3 (2 * (bitsL (dm d i)).getD (0 + j) 0) = ((3 * 2 ^ (2 * (bitsN (dm d i))[j]) : Nat) : Int) := by
          rw [Nat.zero_add, hg]
          have : (2 : Int) * (((bitsN (dm d i))[j] : Nat) : Int) = ((2 * (bitsN (dm d i))[j] : Nat) : Int) := by omega
          rw [this]
          have := ishl_nat 3 (2 * (bitsN (dm d i))[j])
          rw [Nat.min_eq_left (by omega)] at this
          exact this
        have e4 : 3 * 2 ^ (2 * (bitsN (dm d i))[j]) < 2 ^ 63 := by
          have : 2 ^ (2 * (bitsN (dm d i))[j]) ≤ 2 ^ 14 := Nat.pow_le_pow_right (by omega) (by omega)
          omega
        have e5 : ior (fm j) (ishl 3 (2 * (bitsL (dm d i)).getD (0 + j) 0)) = fm (j + 1) := by
          rw [e3, ior_nat (hfm j) e4]
          congr 1
          apply Nat.eq_of_testBit_eq
          intro b
          show (mkM _ _ ||| _).testBit b = (mkM _ _).testBit b
          rw [Nat.testBit_or, mkM_bit, mkM_bit, three, List.take_succ_eq_append_getElem hj, Bool.eq_iff_iff]
          simp only [Bool.or_eq_true, Bool.and_eq_true, decide_eq_true_eq, List.mem_append, List.mem_singleton]
          constructor
          · rintro (⟨h1, h2⟩ | h1)
            · exact ⟨h1, .inl h2⟩
            · exact ⟨by omega, .inr h1⟩
          · rintro ⟨h1, h2 | h2⟩
            · exact .inl ⟨h1, h2⟩
            · exact .inr h2
        have e6 : (0 : Int) ≤ ((3 * 2 ^ (2 * (bitsN (dm d i))[j]) : Nat) : Int) := Int.natCast_nonneg _
        have e7 : ((3 * 2 ^ (2 * (bitsN (dm d i))[j]) : Nat) : Int) < ((2 ^ 63 : Nat) : Int) := Int.ofNat_lt.2 e4
        apply impl_signedTies_r1_1
        case hq => rw [e5]; exact hq
        all_goals first | exact c1 | (rw [e3]; omega) | (rw [Nat.zero_add, hg]; omega) | (rw [← hlen]; omega) | omega
      · rw [eN]
        apply impl_signedTies_r1_2
        case hq => exact hq
        all_goals first | exact c1 | (rw [← hlen]; omega) | omega
    have e8 : (dblL n d).take (2 * (i + 1)) = (dblL n d).take (2 * i) ++ ([((dblM d (2 * n) i : Nat) : Int)] ++ [((dblM d (2 * n) i : Nat) : Int)]) := by
      have g : ∀ k, k < 2 * n → ∀ hk, (dblL n d)[k]'hk = ((dblM d (2 * n) (k / 2) : Nat) : Int) := fun k hk hk' => by simp [dblL]
      rw [show 2 * (i + 1) = 2 * i + 1 + 1 by omega, List.take_succ_eq_append_getElem (by omega), List.take_succ_eq_append_getElem (by omega), List.append_assoc]
      rw [g _ (by omega), g _ (by omega), show (2 * i) / 2 = i by omega, show (2 * i + 1) / 2 = i by omega]
    apply impl_signedTies_r0_1
    case hq => rw [← e8]; exact hq
    all_goals first | exact c1 | exact hin | (simp only [List.length_take, List.length_append, List.length_singleton]; omega) | omega
  · apply impl_signedTies_r0_2
    case hq => rw [List.take_of_length_le (by omega)]; exact hq
    all_goals omega

theorem run_l02Dep {n : Int} {d : List Int} {a b : Nat} (ha : a < d.length) (h : ∃ k : Nat, d.getD a 0 = k ∧ k < 2 ^ 63) (hb : b < 2 ^ 63) : Runs X F.spec_l02Dep [alD n d, iD a, iD b] [] (boolR ((dm d a).testBit b)) := by
  obtain ⟨k, hk, hlt⟩ := h
  have e : dm d a = k := by unfold dm; rw [hk]; rfl
  have c := run_l01Bit (m := k) (i := b) hlt hb
  have e2 : tb (k : Int) b = (dm d a).testBit b := by rw [e]; unfold tb; simp
  rw [e2, ← hk] at c
  have := spec_l02Dep_p1 (n := n) (d := d) (a := (a : Int)) (b := (b : Int)) (b3 := (dm d a).testBit b) (by omega) (by omega) (by rw [Int.toNat_natCast]; exact c)
  exact this

theorem run_l09Double {n : Nat} {d : List Int} (h : Al n d) : Runs X F.spec_l09Double [alD n d] [] ⟨.agg [.int .i64 (2 * (n : Int)), .rsl 600000 0 (dblL n d).length], [], [⟨true, .ints .i64 (dblL n d)⟩]⟩ := by
  have hs := h.small
  have hl := h.len
  have dlen : (dblL n d).length = 2 * n := by simp [dblL]
  refine spec_l09Double_p1 (by omega) (by omega) (loop_to (N := 2 * n) (st := fun i => spec_l09Double_s0 n d i ((dblL n d).take i)) (fun i hi Q hq => ?_) (fun Q hq => ?_))
  · have hi2 : i / 2 < n := by omega
    obtain ⟨hm1, hm2⟩ := h.mask (i / 2) hi2
    have h63 := h.small63 hi2
    let fm : Nat → Nat := fun j => mkM (fun b => (dm d (i / 2)).testBit (b / 2)) j
    have hfm : ∀ j, j ≤ 62 → fm j < 2 ^ 63 := fun j hj => Nat.lt_of_lt_of_le (mkM_lt _ _) (Nat.pow_le_pow_right (by omega) (by omega))
    have td : ∀ j : Nat, (j : Int).tdiv 2 = ((j / 2 : Nat) : Int) := fun j => by rw [(tm2 (by omega)).2]; omega
    have hin : WL F.spec_l09Double 2 Tryd.f52 1 (spec_l09Double_s1 n d i ((dblL n d).take i) 0 0) (spec_l09Double_o1_1 n d i ((dblL n d).take i) (dblM d (2 * n) (i / 2))) := by
      have key := loop_to (f := F.spec_l09Double) (b := 2) (body := lb Tryd.f52 1) (N := 2 * n) (o := spec_l09Double_o1_1 n d i ((dblL n d).take i) (dblM d (2 * n) (i / 2))) (st := fun j => spec_l09Double_s1 n d i ((dblL n d).take i) (fm j) j) (fun j hj Q hq => ?_) (fun Q hq => ?_)
      · have e0 : ((fm 0 : Nat) : Int) = 0 := rfl
        simp only [e0] at key; exact key
      · have c1 := run_l02Dep (n := (n : Int)) (d := d) (a := i / 2) (b := j / 2) (by omega) ⟨_, hm1, h63⟩ (by omega)
        rw [← td i, ← td j] at c1
        have hti := td i
        have htj := td j
        cases hb : (dm d (i / 2)).testBit (j / 2) with
        | true =>
          have c2 := run_l01One (i := j) (by omega)
          have e5 : ior (fm j) ((2 ^ j : Nat) : Int) = fm (j + 1) := by
            rw [ior_nat (hfm j (by omega)) (pow62 (by omega))]
            have e : fm (j + 1) = fm j ||| (if (dm d (i / 2)).testBit (j / 2) then 2 ^ j else 0) := rfl
            rw [e, if_pos hb]
          apply spec_l09Double_r1_1
          case hq => rw [e5]; exact hq
          all_goals first | exact c1 | exact c2 | exact hb | omega
        | false =>
          have e5 : fm (j + 1) = fm j := by
            have e : fm (j + 1) = fm j ||| (if (dm d (i / 2)).testBit (j / 2) then 2 ^ j else 0) := rfl
            rw [e, if_neg (by rw [hb]; simp), Nat.or_zero]
          apply spec_l09Double_r1_2
          case hq => rw [← e5]; exact hq
          all_goals first | exact c1 | exact hb | omega
      · apply spec_l09Double_r1_3
        case hq => exact hq
        all_goals omega
    have e8 : (dblL n d).take (i + 1) = (dblL n d).take i ++ [((dblM d (2 * n) (i / 2) : Nat) : Int)] := by
      rw [List.take_succ_eq_append_getElem (by omega)]
      congr 2
      simp [dblL]
    apply spec_l09Double_r0_1
    case hq => rw [← e8]; exact hq
    all_goals first | exact hin | (simp only [List.length_take]; omega) | omega
  · apply spec_l09Double_r0_2
    case hq => rw [List.take_of_length_le (by omega)]; exact hq
    all_goals omega

/-! ### its group -/
def depZ (n : Nat) (d : List Int) (a b : Int) : Bool := decide (a = b) || (decide (0 ≤ a ∧ a < n ∧ 0 ≤ b ∧ b < n) && (dm d a.toNat).testBit b.toNat)

theorem depZ_sym {n : Nat} {d : List Int} (h : Al n d) (a b : Int) : depZ n d a b = depZ n d b a := by
  unfold depZ
  by_cases hr : 0 ≤ a ∧ a < n ∧ 0 ≤ b ∧ b < n
  · have hr' : 0 ≤ b ∧ b < n ∧ 0 ≤ a ∧ a < n := by omega
    rw [h.sym a.toNat b.toNat (by omega) (by omega)]
    have e : decide (a = b) = decide (b = a) := by rw [Bool.eq_iff_iff]; simp; omega
    simp [hr, hr', e]
  · have hr' : ¬ (0 ≤ b ∧ b < n ∧ 0 ≤ a ∧ a < n) := by omega
    have e : decide (a = b) = decide (b = a) := by rw [Bool.eq_iff_iff]; simp; omega
    simp only [hr, hr', decide_false, Bool.false_and, Bool.or_false, e]

theorem opp_div (a : Int) : opp a / 2 = a / 2 := by unfold opp; split <;> omega
theorem opp_opp (a : Int) : opp (opp a) = a := by unfold opp; split <;> split <;> omega

def grp {n : Nat} {d : List Int} (h : Al n d) : Grp Int where
  d := fun a b => depZ n d (a / 2) (b / 2)
  sym := fun a b => depZ_sym h _ _
  refl := fun a => by simp [depZ]
  inv := opp
  inv2 := opp_opp
  dinv := fun a b => by show depZ n d (opp a / 2) (b / 2) = _; rw [opp_div]

theorem grp_bit {n : Nat} {d : List Int} (h : Al n d) {a b : Nat} (ha : a < 2 * n) (hb : b < 2 * n) : (grp h).d a b = (dm d (a / 2)).testBit (b / 2) := by
  show depZ n d ((a : Int) / 2) ((b : Int) / 2) = _
  have e1 : (a : Int) / 2 = ((a / 2 : Nat) : Int) := by omega
  have e2 : (b : Int) / 2 = ((b / 2 : Nat) : Int) := by omega
  rw [e1, e2]
  unfold depZ
  have hr : (0 : Int) ≤ ((a / 2 : Nat) : Int) ∧ ((a / 2 : Nat) : Int) < n ∧ (0 : Int) ≤ ((b / 2 : Nat) : Int) ∧ ((b / 2 : Nat) : Int) < n := by omega
  simp only [hr, and_self, decide_true, Bool.true_and, Int.toNat_natCast]
  by_cases e : a / 2 = b / 2
  · rw [e, h.refl _ (by omega)]; simp
  · have : decide (((a / 2 : Nat) : Int) = ((b / 2 : Nat) : Int)) = false := by simp; omega
    rw [this, Bool.false_or]

theorem dblL_get {n : Nat} {d : List Int} {a : Nat} (ha : a < 2 * n) : (dblL n d).getD a 0 = ((dblM d (2 * n) (a / 2) : Nat) : Int) := by
  unfold dblL; rw [getD_lt (by simpa using ha)]; simp

theorem tab_dbl {n : Nat} {d : List Int} (h : Al n d) : Tab (grp h).toDep (2 * n) (dblL n d) where
  len := by simp [dblL]
  small := by have := h.small; omega
  mask := fun a ha => ⟨dblM d (2 * n) (a / 2), mkM_lt _ _, dblL_get ha, fun b hb => by
    unfold dblM
    rw [mkM_bit]
    have := grp_bit h ha hb
    rw [this]
    simp [hb]⟩

theorem opp_xor {s : Nat} (h : s < 2 ^ 62) : ixor (s : Int) 1 = opp s := by
  have e : ixor (s : Int) 1 = ((s ^^^ 1 : Nat) : Int) := ixor_nat (b := 1) (by omega) (by omega)
  rw [e]
  unfold opp
  have h2 := Nat.xor_mod_two_eq_one (a := s) (b := 1)
  have h3 : (s ^^^ 1) / 2 = s / 2 := by rw [Nat.xor_div_two]; simp
  split <;> omega

section
variable {n : Nat} {d : List Int}

theorem Wd_opp {m : Nat} {w : List Int} (h : Wd (2 * m) w) {x : Int} (hx : x ∈ w) : 0 ≤ opp x ∧ opp x < (2 * m : Nat) := by
  have := h x hx
  unfold opp
  split <;> omega

/-- The normal form of a word's element. -/
def gnf (h : Al n d) (w : List Int) : List Int := nform (grp h).toDep (2 * n) (fold (grp h) w []).reverse

theorem push_mem {G : Grp Int} {s x : Int} {R : List Int} (h : x ∈ push G s R) : x = s ∨ x ∈ R := by
  unfold push at h
  split at h
  · exact .inr (List.mem_of_mem_erase h)
  · rcases List.mem_cons.1 h with h | h
    · exact .inl h
    · exact .inr h

theorem fold_mem {G : Grp Int} : ∀ {w R : List Int} {x : Int}, x ∈ fold G w R → x ∈ w ∨ x ∈ R
  | [], R, x, h => .inr h
  | s :: w, R, x, h => by
    rw [fold_cons] at h
    rcases fold_mem h with h | h
    · exact .inl (by simp [h])
    · rcases push_mem h with h | h
      · exact .inl (by simp [h])
      · exact .inr h

theorem fold_Wd {G : Grp Int} {m : Nat} {w : List Int} (h : Wd m w) : Wd m (fold G w []).reverse := fun x hx => by
  rcases fold_mem (List.mem_reverse.1 hx) with h1 | h1
  · exact h x h1
  · cases h1

theorem push_len {G : Grp Int} {s : Int} {R : List Int} : (push G s R).length ≤ R.length + 1 := by
  unfold push
  split
  · have := List.length_erase_le (a := G.inv s) (l := R); omega
  · simp

theorem fold_len {G : Grp Int} : ∀ {w R : List Int}, (fold G w R).length ≤ w.length + R.length
  | [], R => by simp [fold]
  | s :: w, R => by
    rw [fold_cons]
    have h1 := fold_len (G := G) (w := w) (R := push G s R)
    have h2 := push_len (G := G) (s := s) (R := R)
    simp only [List.length_cons]
    omega

theorem run_group (h : Al n d) {w : List Int} (hw : Wd (2 * n) w) (hl : w.length ≤ B40) : Runs X F.impl_ties_group [lD (dblL n d), lD w] [] (rowR (gnf h w)) := by
  have hs := h.small
  have ht := tab_dbl h
  have tlen := ht.len
  let out : Nat → List Int := fun i => (fold (grp h) (w.take i) []).reverse
  have outW : ∀ i, Wd (2 * n) (out i) := fun i => fold_Wd fun x hx => hw x (List.mem_of_mem_take hx)
  have outL : ∀ i, (out i).length ≤ i := fun i => by
    show (List.reverse _).length ≤ _
    rw [List.length_reverse]
    have := fold_len (G := grp h) (w := w.take i) (R := [])
    simp only [List.length_take, List.length_nil] at this
    omega
  have key := loop_to (f := F.impl_ties_group) (b := 0) (body := lb Tryd.f58 0) (N := w.length) (o := impl_ties_group_o0_1 (dblL n d) (out w.length)) (st := fun i => impl_ties_group_s0 (dblL n d) w i (out i)) (fun i hi Q hq => ?_) (fun Q hq => ?_)
  · have c1 := run_normal ht (outW w.length) (by have := outL w.length; omega)
    have e0 : out 0 = [] := rfl
    simp only [e0] at key
    have := impl_ties_group_p1 key c1
    have e1 : out w.length = (fold (grp h) w []).reverse := by show (fold (grp h) (w.take w.length) []).reverse = _; rw [List.take_length]
    rw [e1] at this
    exact this
  · -- a round
    have hx := Wd.at hw hi
    obtain ⟨s, hse⟩ : ∃ s : Nat, w.getD i 0 = (s : Int) := ⟨(w.getD i 0).toNat, by omega⟩
    have hsm : s < 2 * n := by omega
    obtain ⟨k, hk, hke, hkb⟩ := ht.mask s hsm
    have hk63 : k < 2 ^ 63 := Nat.lt_of_lt_of_le hk (Nat.pow_le_pow_right (by omega) (by omega))
    have hx1 : ixor (w.getD i 0) 1 = opp s := by rw [hse]; exact opp_xor (by omega)
    have hstep : out (i + 1) = (push (grp h) (s : Int) (out i).reverse).reverse := by
      show (fold (grp h) (w.take (i + 1)) []).reverse = _
      rw [List.take_succ_eq_append_getElem hi, fold_append, fold_cons, fold_nil, ← getD_lt hi, hse]
      simp [out]
    have hol := outL i
    have c1 : ∀ y : Nat, y < 2 * n → Runs X F.impl_has [iD ((dblL n d).getD (w.getD i 0).toNat 0), iD y] [] (boolR ((grp h).d s y)) := fun y hy => by
      have c := run_has (i := y) hk63
      have e : tb (k : Int) y = (grp h).d s y := by rw [← hkb y hy]; unfold tb; simp
      rw [e, ← hke] at c
      rw [hse, Int.toNat_natCast]
      exact c
    -- the inner loop
    have inner : ∀ (q : Nat), q ≤ (out i).length → (∀ j, q ≤ j → (hj : j < (out i).length) → (grp h).d s (out i)[j] = false) →
        ∃ r : Int, WL F.impl_ties_group 2 Tryd.f58 1 (impl_ties_group_s1 (dblL n d) w i (out i) ((q : Int) - 1)) (impl_ties_group_o1_1 (dblL n d) w i (out i) r) ∧
          ((r = -1 ∧ ∀ x ∈ out i, (grp h).d s x = false) ∨ ∃ p : Nat, r = p ∧ ∃ hp : p < (out i).length, (grp h).d s (out i)[p] = true ∧ ∀ j, p < j → (hj : j < (out i).length) → (grp h).d s (out i)[j] = false) := by
      intro q
      induction q with
      | zero =>
        intro hq0 hall
        refine ⟨-1, ?_, .inl ⟨rfl, fun x hx => ?_⟩⟩
        · apply impl_ties_group_r1_3
          case hq => rfl
          all_goals (unfold B40 at hl; omega)
        · obtain ⟨j, hj, rfl⟩ := List.getElem_of_mem hx
          exact hall j (by omega) hj
      | succ q ih =>
        intro hq0 hall
        have hqlt : q < (out i).length := by omega
        have hy := outW i (out i)[q] (List.getElem_mem hqlt)
        obtain ⟨y, hye⟩ : ∃ y : Nat, (out i)[q] = (y : Int) := ⟨(out i)[q].toNat, by omega⟩
        have e1 : ((q + 1 : Nat) : Int) - 1 = (q : Int) := by omega
        rw [e1]
        have c2 := c1 y (by omega)
        have e2 : (out i).getD (0 + (q : Int).toNat) 0 = (y : Int) := by rw [Nat.zero_add, Int.toNat_natCast, getD_lt hqlt, hye]
        rw [← e2] at c2
        cases hd : (grp h).d s (out i)[q] with
        | true =>
          refine ⟨q, ?_, .inr ⟨q, rfl, hqlt, hd, fun j h1 h2 => hall j (by omega) h2⟩⟩
          apply impl_ties_group_r1_2
          case hq => rfl
          all_goals first | exact c2 | (rw [e2, ← hye]; exact hd) | (unfold B40 at hl; omega)
        | false =>
          obtain ⟨r, h1, h2⟩ := ih (by omega) (fun j h1 h2 => by
            by_cases e : j = q
            · subst e; exact hd
            · exact hall j (by omega) h2)
          refine ⟨r, ?_, h2⟩
          apply impl_ties_group_r1_1
          case hq => exact h1
          all_goals first | exact c2 | (rw [e2, ← hye]; exact hd) | (unfold B40 at hl; omega)
    obtain ⟨r, hr1, hr2⟩ := inner (out i).length (Nat.le_refl _) (fun j h1 h2 => by omega)
    have hin : WpL X F.impl_ties_group 2 (lb Tryd.f58 1) (impl_ties_group_s1 (dblL n d) w i (out i) (((out i).length : Int) - 1)).st (fun o => o = (impl_ties_group_o1_1 (dblL n d) w i (out i) r).out) := hr1
    rcases hr2 with ⟨rfl, hnone⟩ | ⟨p, rfl, hp, hdp, hlater⟩
    · have hf : isFirst (grp h).toDep (out i).reverse ((grp h).inv s) = false := first_none hnone
      have e1 : out (i + 1) = out i ++ [w.getD i 0] := by
        rw [hstep, hse]; unfold push; rw [if_neg (by rw [hf]; simp)]; simp
      apply impl_ties_group_r0_3
      case hq => rw [← e1]; exact hq
      all_goals first | exact hin | (unfold B40 at hl; omega)
    · have hsplit : out i = (out i).take p ++ (out i)[p] :: (out i).drop (p + 1) := by simp
      have hB : ∀ x ∈ (out i).drop (p + 1), (grp h).d s x = false := fun x hx => by
        obtain ⟨j, hj, rfl⟩ := List.getElem_of_mem hx
        rw [List.getElem_drop]
        exact hlater _ (by omega) _
      have hfr := first_rev (G := grp h) (s := s) (A := (out i).take p) hB hdp
      rw [← hsplit] at hfr
      have e2 : (out i).getD (0 + (p : Int).toNat) 0 = (out i)[p] := by rw [Nat.zero_add, Int.toNat_natCast, getD_lt hp]
      by_cases hinv : (out i)[p] = opp s
      · have hinv' : (out i)[p] = (grp h).inv s := hinv
        rw [if_pos hinv'] at hfr
        have e1 : out (i + 1) = (out i).eraseIdx p := by
          rw [hstep]; unfold push; rw [if_pos hfr.1, hfr.2, List.reverse_reverse, List.eraseIdx_eq_take_drop_succ]
        have c3 := run_Delete (out i) p hp
        rw [e1] at hq
        apply impl_ties_group_r0_1
        case hq => exact hq
        all_goals first | exact hin | exact c3 | (rw [e2, hx1]; exact hinv) | (unfold B40 at hl; omega)
      · have hinv' : ¬ (out i)[p] = (grp h).inv s := hinv
        rw [if_neg hinv'] at hfr
        have e1 : out (i + 1) = out i ++ [w.getD i 0] := by
          rw [hstep, hse]; unfold push; rw [if_neg (by rw [hfr]; simp)]; simp
        apply impl_ties_group_r0_2
        case hq => rw [← e1]; exact hq
        all_goals first | exact hin | (rw [e2, hx1]; exact hinv) | (unfold B40 at hl; omega)
  · apply impl_ties_group_r0_4
    case hq => exact hq
    all_goals (unfold B40 at hl; omega)

end
end Go.PR.S
