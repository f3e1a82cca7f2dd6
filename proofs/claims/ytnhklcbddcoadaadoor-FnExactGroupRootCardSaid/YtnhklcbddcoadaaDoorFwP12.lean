/- Path lemmas (written by Vc.lean). -/
import Derived.Test.YtnhklcbddcoadaaDoorFwMk
import Derived.Test.YtnhklcbddcoadaaDoorFwP10
section
/- Path lemmas (written by Vc.lean). -/
set_option linter.unusedVariables false
set_option linter.unusedSimpArgs false
set_option maxRecDepth 20000
open Go Go.PR Go.Proofs Go.PR.S
namespace Go.PR.S
theorem laws_markInt64S_ft : X.ft F.laws_markInt64S = some Tryd.f15 := by kernel_rfl
def laws_markInt64S_s0 (xs : List Int) (t1a : Int) (t5a : Nat) (r500000a : List Int) : LSt := ⟨mkE 19 0 [(0, .rsl 500000 0 xs.length), (1, iD t1a), (5, iD (↑t5a : Int))], [(500000, ⟨true, .ints .i64 r500000a⟩)]⟩
def laws_markInt64S_o0_1 (t1az : Int) (r500000az : List Int) : OutL := .exit 0 ⟨mkE 19 0 [(1, iD t1az)], [(500000, ⟨true, .ints .i64 r500000az⟩)]⟩
theorem laws_markInt64S_r0_1 {Q : Out → Prop} {xs : List Int} {t1a : Int} {t5a : Nat} {r500000a : List Int} (e1 : r500000a.length = xs.length) (h2 : (↑t5a : Int) < (↑xs.length : Int)) (h3 : (-9223372036854775808 : Int) ≤ t1a + (1 : Int)) (h4 : t1a + (1 : Int) ≤ (9223372036854775807 : Int)) (h5 : (↑t5a : Int) + (1 : Int) ≤ (9223372036854775807 : Int)) (hq : wq F.laws_markInt64S 0 Tryd.f15 0 (laws_markInt64S_s0 xs (t1a + (1 : Int)) (t5a + 1) (r500000a.set (0 + t5a) t1a)) Q) : wq F.laws_markInt64S 0 Tryd.f15 0 (laws_markInt64S_s0 xs t1a t5a r500000a) Q :=
  RQ ⟨[true], [], []⟩ (.normal (laws_markInt64S_s0 xs (t1a + (1 : Int)) (t5a + 1) (r500000a.set (0 + t5a) t1a))) ⟨[decide ((↑t5a : Int) < (↑xs.length : Int)) = true, (0 : Int) ≤ (↑t5a : Int) ∧ (↑t5a : Int) < (↑xs.length : Int), 0 + t5a < r500000a.length, inR (t1a + (1 : Int)), inR ((↑t5a : Int) + (1 : Int))], [], []⟩ (by kernel_rfl) (AllP.c (decide_eq_true h2) (AllP.c ⟨(by omega), h2⟩ (AllP.c (by first | omega | (simp; done) | (simp at *; omega)) (AllP.c ⟨h3, h4⟩ (AllP.c ⟨(by omega), h5⟩ trivial))))) trivial trivial hq
theorem laws_markInt64S_r0_2 {Q : Out → Prop} {xs : List Int} {t1a : Int} {t5a : Nat} {r500000a : List Int} (e1 : r500000a.length = xs.length) (h6 : ¬(↑t5a : Int) < (↑xs.length : Int)) (hq : Q (laws_markInt64S_o0_1 t1a r500000a).out) : wq F.laws_markInt64S 0 Tryd.f15 0 (laws_markInt64S_s0 xs t1a t5a r500000a) Q :=
  RQ ⟨[false], [], []⟩ (laws_markInt64S_o0_1 t1a r500000a) ⟨[decide ((↑t5a : Int) < (↑xs.length : Int)) = false], [], []⟩ (by kernel_rfl) (AllP.c (decide_eq_false h6) trivial) trivial trivial hq
theorem laws_markInt64S_p1 {xs : List Int} {k t1az : Int} {r500000az : List Int} (l7 : wl F.laws_markInt64S 0 Tryd.f15 0 (laws_markInt64S_s0 xs k 0 xs) (laws_markInt64S_o0_1 t1az r500000az)) : Runs X F.laws_markInt64S [.rsl 500000 0 xs.length, iD k] [⟨true, .ints .i64 xs⟩] ⟨iD t1az, [some ⟨true, .ints .i64 r500000az⟩], []⟩ :=
  RF (by kernel_rfl) laws_markInt64S_ft ⟨[], [], [laws_markInt64S_o0_1 t1az r500000az]⟩ ⟨[], [], [⟨0, lb Tryd.f15 0, laws_markInt64S_s0 xs k 0 xs, laws_markInt64S_o0_1 t1az r500000az⟩]⟩ (by kernel_rfl) trivial trivial (AllL.c l7 trivial)
theorem laws_markAlphabet_ft : X.ft F.laws_markAlphabet = some Tryd.f14 := by kernel_rfl
theorem laws_markAlphabet_p1 {n : Int} {xs : List Int} {k r1 : Int} {xs2 : List Int} (c3 : Runs X F.laws_markInt64S [.rsl 500000 0 xs.length, iD k] [⟨true, .ints .i64 xs⟩] ⟨iD r1, [some ⟨true, .ints .i64 xs2⟩], []⟩) : Runs X F.laws_markAlphabet [.agg [iD n, .rsl 500000 0 xs.length], iD k] [⟨true, .ints .i64 xs⟩] ⟨iD r1, [some ⟨true, .ints .i64 xs2⟩], []⟩ :=
  RF (by kernel_rfl) laws_markAlphabet_ft ⟨[], [⟨iD r1, [some ⟨true, .ints .i64 xs2⟩], []⟩], []⟩ ⟨[], [⟨F.laws_markInt64S, [.rsl 500000 0 xs.length, iD k], [⟨true, .ints .i64 xs⟩], ⟨iD r1, [some ⟨true, .ints .i64 xs2⟩], []⟩⟩], []⟩ (by kernel_rfl) trivial (AllC.c c3 trivial) trivial
theorem laws_heldInt64S_ft : X.ft F.laws_heldInt64S = some Tryd.f16 := by kernel_rfl
def laws_heldInt64S_s0 (w : List Int) (t1a : Int) (t5a : Nat) : LSt := ⟨mkE 21 0 [(0, .immI .i64 w), (1, iD t1a), (5, iD (↑t5a : Int))], []⟩
def laws_heldInt64S_o0_2 (t1az : Int) : OutL := .exit 0 ⟨mkE 21 0 [(1, iD t1az)], []⟩
theorem laws_heldInt64S_r0_2 {Q : Out → Prop} {w : List Int} {t1a : Int} {t5a : Nat} (h1 : (↑t5a : Int) < (↑w.length : Int)) (h3 : w.getD t5a 0 = t1a) (h4 : (-9223372036854775808 : Int) ≤ t1a + (1 : Int)) (h5 : t1a + (1 : Int) ≤ (9223372036854775807 : Int)) (h6 : (↑t5a : Int) + (1 : Int) ≤ (9223372036854775807 : Int)) (hq : wq F.laws_heldInt64S 0 Tryd.f16 0 (laws_heldInt64S_s0 w (t1a + (1 : Int)) (t5a + 1)) Q) : wq F.laws_heldInt64S 0 Tryd.f16 0 (laws_heldInt64S_s0 w t1a t5a) Q :=
  RQ ⟨[true, false], [], []⟩ (.normal (laws_heldInt64S_s0 w (t1a + (1 : Int)) (t5a + 1))) ⟨[decide ((↑t5a : Int) < (↑w.length : Int)) = true, (0 : Int) ≤ (↑t5a : Int) ∧ (↑t5a : Int) < (↑w.length : Int), (w.getD t5a 0 != t1a) = false, inR (t1a + (1 : Int)), inR ((↑t5a : Int) + (1 : Int))], [], []⟩ (by kernel_rfl) (AllP.c (decide_eq_true h1) (AllP.c ⟨(by omega), h1⟩ (AllP.c (bne_eq_false_iff_eq.2 h3) (AllP.c ⟨h4, h5⟩ (AllP.c ⟨(by omega), h6⟩ trivial))))) trivial trivial hq
theorem laws_heldInt64S_r0_3 {Q : Out → Prop} {w : List Int} {t1a : Int} {t5a : Nat} (h7 : ¬(↑t5a : Int) < (↑w.length : Int)) (hq : Q (laws_heldInt64S_o0_2 t1a).out) : wq F.laws_heldInt64S 0 Tryd.f16 0 (laws_heldInt64S_s0 w t1a t5a) Q :=
  RQ ⟨[false], [], []⟩ (laws_heldInt64S_o0_2 t1a) ⟨[decide ((↑t5a : Int) < (↑w.length : Int)) = false], [], []⟩ (by kernel_rfl) (AllP.c (decide_eq_false h7) trivial) trivial trivial hq
theorem laws_heldInt64S_p2 {w : List Int} {k t1az : Int} (l9 : wl F.laws_heldInt64S 0 Tryd.f16 0 (laws_heldInt64S_s0 w k 0) (laws_heldInt64S_o0_2 t1az)) : Runs X F.laws_heldInt64S [.immI .i64 w, iD k] [] (intR t1az) :=
  RF (by kernel_rfl) laws_heldInt64S_ft ⟨[], [], [laws_heldInt64S_o0_2 t1az]⟩ ⟨[], [], [⟨0, lb Tryd.f16 0, laws_heldInt64S_s0 w k 0, laws_heldInt64S_o0_2 t1az⟩]⟩ (by kernel_rfl) trivial trivial (AllL.c l9 trivial)
end Go.PR.S

end

section
/- What the program's functions come to, twelfth part: marks, elements of the group. -/
set_option linter.unusedVariables false
set_option linter.unusedSimpArgs false
set_option maxRecDepth 20000
namespace Go.PR.S
open Go Go.PR Go.Proofs Gp

def marks (k : Int) (n : Nat) : List Int := (List.range n).map fun i : Nat => k + (i : Int)

theorem marks_length (k : Int) (n : Nat) : (marks k n).length = n := by unfold marks; simp
theorem marks_succ (k : Int) (n : Nat) : marks k (n + 1) = marks k n ++ [k + n] := by
  unfold marks
  rw [List.range_succ, List.map_append]
  rfl
theorem marks_getD (k : Int) {n i : Nat} (h : i < n) : (marks k n).getD i 0 = k + i := by
  unfold marks
  rw [List.getD_eq_getElem?_getD, List.getElem?_map, List.getElem?_range h]
  rfl

abbrev passR (r : Int) (xs : List Int) : Ret := ⟨.int .i64 r, [some ⟨true, .ints .i64 xs⟩], []⟩

theorem run_markInt64S (xs : List Int) (k : Int) (hl : xs.length ≤ B40) (h0 : 0 ≤ k) (hk : k ≤ 4 * B40) :
    Runs X F.laws_markInt64S [.rsl 500000 0 xs.length, iD k] [⟨true, .ints .i64 xs⟩] (passR (k + xs.length) (marks k xs.length)) := by
  unfold B40 at hl hk
  refine laws_markInt64S_p1 ?_
  have key := loop_to (f := F.laws_markInt64S) (b := 0) (body := lb Tryd.f15 0) (N := xs.length) (o := laws_markInt64S_o0_1 (k + xs.length) (marks k xs.length)) (st := fun i => laws_markInt64S_s0 xs (k + i) i (marks k i ++ xs.drop i)) (fun i hi Q hq => ?_) (fun Q hq => ?_)
  · simpa [marks] using key
  · have e : (marks k i ++ xs.drop i).set (0 + i) (k + i) = marks k (i + 1) ++ xs.drop (i + 1) := by
      rw [Nat.zero_add, List.set_append_right _ _ (by rw [marks_length]; exact Nat.le_refl _), marks_length, Nat.sub_self, marks_succ, List.drop_eq_getElem_cons hi, List.set_cons_zero, List.append_assoc]
      rfl
    apply laws_markInt64S_r0_1
    case hq => rw [e, show k + (i : Int) + 1 = k + ((i + 1 : Nat) : Int) by omega]; exact hq
    all_goals first | (rw [List.length_append, marks_length, List.length_drop]; omega) | omega
  · apply laws_markInt64S_r0_2
    case hq => simpa using hq
    all_goals first | (rw [List.length_append, marks_length, List.length_drop]; omega) | omega

theorem run_markAlphabet (n : Int) (xs : List Int) (k : Int) (hl : xs.length ≤ B40) (h0 : 0 ≤ k) (hk : k ≤ 4 * B40) :
    Runs X F.laws_markAlphabet [.agg [iD n, .rsl 500000 0 xs.length], iD k] [⟨true, .ints .i64 xs⟩] (passR (k + xs.length) (marks k xs.length)) :=
  laws_markAlphabet_p1 (run_markInt64S xs k hl h0 hk)

theorem run_heldInt64S (k : Int) (n : Nat) (hl : n ≤ B40) (h0 : 0 ≤ k) (hk : k ≤ 4 * B40) :
    Runs X F.laws_heldInt64S [lD (marks k n), iD k] [] (intR (k + n)) := by
  unfold B40 at hl hk
  refine laws_heldInt64S_p2 ?_
  have key := loop_to (f := F.laws_heldInt64S) (b := 0) (body := lb Tryd.f16 0) (N := n) (o := laws_heldInt64S_o0_2 (k + n)) (st := fun i => laws_heldInt64S_s0 (marks k n) (k + i) i) (fun i hi Q hq => ?_) (fun Q hq => ?_)
  · simpa using key
  · apply laws_heldInt64S_r0_2
    case hq => rw [show k + (i : Int) + 1 = k + ((i + 1 : Nat) : Int) by omega]; exact hq
    all_goals first | exact marks_getD k hi | (rw [marks_length]; omega) | omega
  · apply laws_heldInt64S_r0_3
    case hq => exact hq
    all_goals (rw [marks_length]; omega)

abbrev pairR (xs : List Int) (r : Int) : Ret := ⟨.tup [.rsl 600000 0 xs.length, .int .i64 r], [], [⟨true, .ints .i64 xs⟩]⟩

theorem run_element {m : Nat} (hm : m ≤ 62) {w : List Int} (h : Wd m w) (hl : w.length ≤ B40) :
    Runs X F.impl_element [lD w] [] (if w.length ≤ 24 then pairR (w.map sign) 0 else pairR [] 3) := by
  split
  · exact impl_element_p2 (by omega) (run_signsOf hm h hl)
  · exact impl_element_p1 (by omega)

theorem ixor_one {m : Nat} (hm : m ≤ 62) {c : Int} (h0 : 0 ≤ c) (h1 : c < m) : ixor c 1 = opp c := by
  have key : ∀ k : Fin 64, ixor (k.val : Int) 1 = opp (k.val : Int) := by decide
  have := key ⟨c.toNat, by omega⟩
  simpa [Int.toNat_of_nonneg h0] using this

theorem run_inverted {m : Nat} (hm : m ≤ 62) {w : List Int} (h : Wd m w) (hl : w.length ≤ B40) : Runs X F.impl_inverted [lD w] [] (rowR ((w.map opp).reverse)) := by
  have c2 := run_reversed w (by omega)
  unfold B40 at hl
  have e0 : (w.map opp).reverse = w.reverse.map opp := by rw [List.map_reverse]
  have hr : ∀ i, i < w.reverse.length → 0 ≤ w.reverse.getD i 0 ∧ w.reverse.getD i 0 < m := fun i hi => by
    rw [getD_lt hi]
    exact h _ (List.mem_reverse.1 (List.getElem_mem hi))
  rw [e0]
  have e2 : w.reverse.length = (w.reverse.map opp).length := by simp
  have hll : w.reverse.length ≤ 1048576 := by rw [List.length_reverse]; exact hl
  generalize w.reverse = v at *
  have key := loop_to (f := F.impl_inverted) (b := 0) (body := lb Tryd.f46 0) (N := v.length) (o := impl_inverted_o0_1 v (v.map opp)) (st := fun i => impl_inverted_s0 v i ((v.take i).map opp ++ v.drop i)) (fun i hi Q hq => ?_) (fun Q hq => ?_)
  · have hk := impl_inverted_p1 c2 (r3az := v.map opp) (by simpa using key)
    rw [show v.length = (v.map opp).length by simp] at hk
    exact hk
  · have hv := hr i hi
    have hd : ((v.take i).map opp ++ v.drop i).getD (0 + i) 0 = v.getD i 0 := by
      rw [Nat.zero_add, List.getD_eq_getElem?_getD, List.getElem?_append_right (by rw [List.length_map, List.length_take]; omega), List.length_map, List.length_take, Nat.min_eq_left (by omega), Nat.sub_self, List.getElem?_drop, Nat.add_zero, ← List.getD_eq_getElem?_getD]
    have e : ((v.take i).map opp ++ v.drop i).set (0 + i) (ixor (((v.take i).map opp ++ v.drop i).getD (0 + i) 0) 1) = (v.take (i + 1)).map opp ++ v.drop (i + 1) := by
      rw [hd, ixor_one hm hv.1 hv.2, Nat.zero_add, List.set_append_right _ _ (by rw [List.length_map, List.length_take]; omega), List.length_map, List.length_take, Nat.min_eq_left (by omega), Nat.sub_self, List.drop_eq_getElem_cons hi, List.set_cons_zero, List.take_succ_eq_append_getElem hi, List.map_append, List.append_assoc, getD_lt hi]
      rfl
    apply impl_inverted_r0_1
    case hq => rw [e]; exact hq
    all_goals first | (simp only [List.length_append, List.length_map, List.length_take, List.length_drop]; omega) | omega
  · apply impl_inverted_r0_2
    case hq => simpa using hq
    all_goals first | (simp; done) | omega

theorem sg_twice (n : Int) (d w : List Int) : sgCode n d [w, w] = sgCode n d [w] := by
  unfold sgCode
  simp

theorem sg_one {n : Int} {d w : List Int} (h : sgCode n d [w] = 0) : ∃ (N : Nat) (ha : Al N d), n = (N : Int) ∧ 2 * N ≤ 62 ∧ w.length ≤ 24 ∧ Bd w ∧ (∀ x ∈ w, x ≠ 0) ∧ Wd (2 * N) (w.map code) := by
  have hal : alOK n d = true := by
    unfold sgCode at h
    cases h1 : alOK n d with
    | true => rfl
    | false => rw [h1] at h; simp at h
  have hws : sgOK n w = true := by
    unfold sgCode at h
    rw [hal] at h
    cases h1 : sgOK n w with
    | true => rfl
    | false => simp [h1] at h
  obtain ⟨hn, ha⟩ := Al.of hal
  generalize hN : n.toNat = N at *
  subst hn
  have hN8 := ha.small
  obtain ⟨b1, b2, b3⟩ := sgOK_bd (by omega) hws
  exact ⟨N, ha, rfl, by omega, by simpa using b1, b2, fun x hx => (b3 x hx).1, code_Wd b3⟩

theorem gnf_Wd {N : Nat} {d : List Int} (h : Al N d) {w : List Int} (hw : Wd (2 * N) w) : Wd (2 * N) (gnf h w) := fun x hx => by
  unfold gnf at hx
  exact fold_Wd hw x (((nform_same (fold_Wd hw)).mem x).1 hx)

end Go.PR.S

end
