/- Path lemmas (written by Vc.lean). -/
import Derived.Test.YtnhklcbddcoadaaDoorFwMk
import Derived.Test.YtnhklcbddcoadaaDoorFwP10
set_option linter.unusedVariables false
set_option linter.unusedSimpArgs false
set_option linter.unusedSectionVars false
section
set_option maxRecDepth 20000
open Go Go.PR Go.Proofs Go.PR.S
namespace Go.PR.S
theorem zqh : X.ft F.z25 = some Tryd.f15 := by kernel_rfl
def z5u (xs : List Int) (t1a : Int) (t5a : Nat) (r500000a : List Int) : LSt := ⟨mkE 19 0 [(0, .rsl 500000 0 xs.length), (1, iD t1a), (5, iD (↑t5a : Int))], [(500000, ⟨true, .ints .i64 r500000a⟩)]⟩
def z8n (t1az : Int) (r500000az : List Int) : OutL := .exit 0 ⟨mkE 19 0 [(1, iD t1az)], [(500000, ⟨true, .ints .i64 r500000az⟩)]⟩
theorem zqj {Q : Out → Prop} {xs : List Int} {t1a : Int} {t5a : Nat} {r500000a : List Int} (e1 : r500000a.length = xs.length) (h2 : (↑t5a : Int) < (↑xs.length : Int)) (h3 : (-9223372036854775808 : Int) ≤ t1a + (1 : Int)) (h4 : t1a + (1 : Int) ≤ (9223372036854775807 : Int)) (h5 : (↑t5a : Int) + (1 : Int) ≤ (9223372036854775807 : Int)) (hq : wq F.z25 0 Tryd.f15 0 (z5u xs (t1a + (1 : Int)) (t5a + 1) (r500000a.set (0 + t5a) t1a)) Q) : wq F.z25 0 Tryd.f15 0 (z5u xs t1a t5a r500000a) Q :=
  RS [true] (.normal (z5u xs (t1a + (1 : Int)) (t5a + 1) (r500000a.set (0 + t5a) t1a))) [decide ((↑t5a : Int) < (↑xs.length : Int)) = true, (0 : Int) ≤ (↑t5a : Int) ∧ (↑t5a : Int) < (↑xs.length : Int), 0 + t5a < r500000a.length, inR (t1a + (1 : Int)), inR ((↑t5a : Int) + (1 : Int))] (PA (decide_eq_true h2) (PA ⟨(by omega), h2⟩ (PO (PA ⟨h3, h4⟩ (PA ⟨(by omega), h5⟩ trivial))))) PN LN hq
theorem zqk {Q : Out → Prop} {xs : List Int} {t1a : Int} {t5a : Nat} {r500000a : List Int} (e1 : r500000a.length = xs.length) (h6 : ¬(↑t5a : Int) < (↑xs.length : Int)) (hq : Q (z8n t1a r500000a).out) : wq F.z25 0 Tryd.f15 0 (z5u xs t1a t5a r500000a) Q :=
  RS [false] (z8n t1a r500000a) [decide ((↑t5a : Int) < (↑xs.length : Int)) = false] (PA (decide_eq_false h6) trivial) PN LN hq
theorem zqi {xs : List Int} {k t1az : Int} {r500000az : List Int} (l7 : wl F.z25 0 Tryd.f15 0 (z5u xs k 0 xs) (z8n t1az r500000az)) : Runs X F.z25 [.rsl 500000 0 xs.length, iD k] [⟨true, .ints .i64 xs⟩] ⟨iD t1az, [some ⟨true, .ints .i64 r500000az⟩], []⟩ :=
  RG zqh [] [] trivial PN (LC l7 LN)
theorem zqf : X.ft F.z8m = some Tryd.f14 := by kernel_rfl
theorem zqg {n : Int} {xs : List Int} {k r1 : Int} {xs2 : List Int} (c3 : Runs X F.z25 [.rsl 500000 0 xs.length, iD k] [⟨true, .ints .i64 xs⟩] ⟨iD r1, [some ⟨true, .ints .i64 xs2⟩], []⟩) : Runs X F.z8m [.agg [iD n, .rsl 500000 0 xs.length], iD k] [⟨true, .ints .i64 xs⟩] ⟨iD r1, [some ⟨true, .ints .i64 xs2⟩], []⟩ :=
  RG zqf [] [] trivial (PC c3 PN) LN
theorem zqb : X.ft F.z2l = some Tryd.f16 := by kernel_rfl
def z5t (w : List Int) (t1a : Int) (t5a : Nat) : LSt := ⟨mkE 21 0 [(0, .immI .i64 w), (1, iD t1a), (5, iD (↑t5a : Int))], []⟩
def z8l (t1az : Int) : OutL := .exit 0 ⟨mkE 21 0 [(1, iD t1az)], []⟩
theorem zqd {Q : Out → Prop} {w : List Int} {t1a : Int} {t5a : Nat} (h1 : (↑t5a : Int) < (↑w.length : Int)) (h3 : w.getD t5a 0 = t1a) (h4 : (-9223372036854775808 : Int) ≤ t1a + (1 : Int)) (h5 : t1a + (1 : Int) ≤ (9223372036854775807 : Int)) (h6 : (↑t5a : Int) + (1 : Int) ≤ (9223372036854775807 : Int)) (hq : wq F.z2l 0 Tryd.f16 0 (z5t w (t1a + (1 : Int)) (t5a + 1)) Q) : wq F.z2l 0 Tryd.f16 0 (z5t w t1a t5a) Q :=
  RS [true, false] (.normal (z5t w (t1a + (1 : Int)) (t5a + 1))) [decide ((↑t5a : Int) < (↑w.length : Int)) = true, (0 : Int) ≤ (↑t5a : Int) ∧ (↑t5a : Int) < (↑w.length : Int), (w.getD t5a 0 != t1a) = false, inR (t1a + (1 : Int)), inR ((↑t5a : Int) + (1 : Int))] (PA (decide_eq_true h1) (PA ⟨(by omega), h1⟩ (PA (bne_eq_false_iff_eq.2 h3) (PA ⟨h4, h5⟩ (PA ⟨(by omega), h6⟩ trivial))))) PN LN hq
theorem zqe {Q : Out → Prop} {w : List Int} {t1a : Int} {t5a : Nat} (h7 : ¬(↑t5a : Int) < (↑w.length : Int)) (hq : Q (z8l t1a).out) : wq F.z2l 0 Tryd.f16 0 (z5t w t1a t5a) Q :=
  RS [false] (z8l t1a) [decide ((↑t5a : Int) < (↑w.length : Int)) = false] (PA (decide_eq_false h7) trivial) PN LN hq
theorem zqc {w : List Int} {k t1az : Int} (l9 : wl F.z2l 0 Tryd.f16 0 (z5t w k 0) (z8l t1az)) : Runs X F.z2l [.immI .i64 w, iD k] [] (intR t1az) :=
  RG zqb [] [] trivial PN (LC l9 LN)
end Go.PR.S

end

section
set_option maxRecDepth 20000
namespace Go.PR.S
open Go Go.PR Go.Proofs Gp
def marks (k : Int) (n : Nat) : List Int := (List.range n).map fun i : Nat => k + (i : Int)
theorem z3w (k : Int) (n : Nat) : (marks k n).length = n := by unfold marks; simp
theorem zr9 (k : Int) (n : Nat) : marks k (n + 1) = marks k n ++ [k + n] := by
  unfold marks
  rw [List.range_succ, List.map_append]
  rfl
theorem zr8 (k : Int) {n i : Nat} (h : i < n) : (marks k n).getD i 0 = k + i := by
  unfold marks
  rw [List.getD_eq_getElem?_getD, List.getElem?_map, List.getElem?_range h]
  rfl
abbrev passR (r : Int) (xs : List Int) : Ret := ⟨.int .i64 r, [some ⟨true, .ints .i64 xs⟩], []⟩
theorem z98 (xs : List Int) (k : Int) (hl : xs.length ≤ B40) (h0 : 0 ≤ k) (hk : k ≤ 4 * B40) :
    Runs X F.z25 [.rsl 500000 0 xs.length, iD k] [⟨true, .ints .i64 xs⟩] (passR (k + xs.length) (marks k xs.length)) := by
  unfold B40 at hl hk
  refine zqi ?_
  have key := loop_to (f := F.z25) (b := 0) (body := lb Tryd.f15 0) (N := xs.length) (o := z8n (k + xs.length) (marks k xs.length)) (st := fun i => z5u xs (k + i) i (marks k i ++ xs.drop i)) (fun i hi Q hq => ?_) (fun Q hq => ?_)
  · simpa [marks] using key
  · have e : (marks k i ++ xs.drop i).set (0 + i) (k + i) = marks k (i + 1) ++ xs.drop (i + 1) := by
      rw [Nat.zero_add, List.set_append_right _ _ (by rw [z3w]; exact Nat.le_refl _), z3w, Nat.sub_self, zr9, List.drop_eq_getElem_cons hi, List.set_cons_zero, List.append_assoc]
      rfl
    apply zqj
    case hq => rw [e, show k + (i : Int) + 1 = k + ((i + 1 : Nat) : Int) by omega]; exact hq
    all_goals first | (rw [List.length_append, z3w, List.length_drop]; omega) | omega
  · apply zqk
    case hq => simpa using hq
    all_goals first | (rw [List.length_append, z3w, List.length_drop]; omega) | omega
theorem ztg (n : Int) (xs : List Int) (k : Int) (hl : xs.length ≤ B40) (h0 : 0 ≤ k) (hk : k ≤ 4 * B40) :
    Runs X F.z8m [.agg [iD n, .rsl 500000 0 xs.length], iD k] [⟨true, .ints .i64 xs⟩] (passR (k + xs.length) (marks k xs.length)) :=
  zqg (z98 xs k hl h0 hk)
theorem zt3 (k : Int) (n : Nat) (hl : n ≤ B40) (h0 : 0 ≤ k) (hk : k ≤ 4 * B40) :
    Runs X F.z2l [lD (marks k n), iD k] [] (intR (k + n)) := by
  unfold B40 at hl hk
  refine zqc ?_
  have key := loop_to (f := F.z2l) (b := 0) (body := lb Tryd.f16 0) (N := n) (o := z8l (k + n)) (st := fun i => z5t (marks k n) (k + i) i) (fun i hi Q hq => ?_) (fun Q hq => ?_)
  · simpa using key
  · apply zqd
    case hq => rw [show k + (i : Int) + 1 = k + ((i + 1 : Nat) : Int) by omega]; exact hq
    all_goals first | exact zr8 k hi | (rw [z3w]; omega) | omega
  · apply zqe
    case hq => exact hq
    all_goals (rw [z3w]; omega)
abbrev pairR (xs : List Int) (r : Int) : Ret := ⟨.tup [.rsl 600000 0 xs.length, .int .i64 r], [], [⟨true, .ints .i64 xs⟩]⟩
theorem zt1 {m : Nat} (hm : m ≤ 62) {w : List Int} (h : Wd m w) (hl : w.length ≤ B40) :
    Runs X F.z6s [lD w] [] (if w.length ≤ 24 then pairR (w.map sign) 0 else pairR [] 3) := by
  split
  · exact znm (by omega) (ztk hm h hl)
  · exact znl (by omega)
theorem zpu {m : Nat} (hm : m ≤ 62) {c : Int} (h0 : 0 ≤ c) (h1 : c < m) : ixor c 1 = opp c := by
  have key : ∀ k : Fin 64, ixor (k.val : Int) 1 = opp (k.val : Int) := by decide
  have := key ⟨c.toNat, by omega⟩
  simpa [Int.toNat_of_nonneg h0] using this
theorem zt5 {m : Nat} (hm : m ≤ 62) {w : List Int} (h : Wd m w) (hl : w.length ≤ B40) : Runs X F.z2z [lD w] [] (rowR ((w.map opp).reverse)) := by
  have c2 := z79 w (by omega)
  unfold B40 at hl
  have e0 : (w.map opp).reverse = w.reverse.map opp := by rw [List.map_reverse]
  have hr : ∀ i, i < w.reverse.length → 0 ≤ w.reverse.getD i 0 ∧ w.reverse.getD i 0 < m := fun i hi => by
    rw [getD_lt hi]
    exact h _ (List.mem_reverse.1 (List.getElem_mem hi))
  rw [e0]
  have e2 : w.reverse.length = (w.reverse.map opp).length := by simp
  have hll : w.reverse.length ≤ 1048576 := by rw [List.length_reverse]; exact hl
  generalize w.reverse = v at *
  have key := loop_to (f := F.z2z) (b := 0) (body := lb Tryd.f46 0) (N := v.length) (o := z7y v (v.map opp)) (st := fun i => z5i v i ((v.take i).map opp ++ v.drop i)) (fun i hi Q hq => ?_) (fun Q hq => ?_)
  · have hk := zns c2 (r3az := v.map opp) (by simpa using key)
    rw [show v.length = (v.map opp).length by simp] at hk
    exact hk
  · have hv := hr i hi
    have hd : ((v.take i).map opp ++ v.drop i).getD (0 + i) 0 = v.getD i 0 := by
      rw [Nat.zero_add, List.getD_eq_getElem?_getD, List.getElem?_append_right (by rw [List.length_map, List.length_take]; omega), List.length_map, List.length_take, Nat.min_eq_left (by omega), Nat.sub_self, List.getElem?_drop, Nat.add_zero, ← List.getD_eq_getElem?_getD]
    have e : ((v.take i).map opp ++ v.drop i).set (0 + i) (ixor (((v.take i).map opp ++ v.drop i).getD (0 + i) 0) 1) = (v.take (i + 1)).map opp ++ v.drop (i + 1) := by
      rw [hd, zpu hm hv.1 hv.2, Nat.zero_add, List.set_append_right _ _ (by rw [List.length_map, List.length_take]; omega), List.length_map, List.length_take, Nat.min_eq_left (by omega), Nat.sub_self, List.drop_eq_getElem_cons hi, List.set_cons_zero, List.take_succ_eq_append_getElem hi, List.map_append, List.append_assoc, getD_lt hi]
      rfl
    apply znt
    case hq => rw [e]; exact hq
    all_goals first | (simp only [List.length_append, List.length_map, List.length_take, List.length_drop]; omega) | omega
  · apply znu
    case hq => simpa using hq
    all_goals first | (simp; done) | omega
theorem sg_one {n : Int} {d w : List Int} (h : sgCode n d [w] = 0) : ∃ (N : Nat) (ha : Al N d), n = (N : Int) ∧ 2 * N ≤ 62 ∧ w.length ≤ 24 ∧ Bd w ∧ (∀ x ∈ w, x ≠ 0) ∧ Wd (2 * N) (w.map code) := by
  have hal : alOK n d = true := by
    unfold sgCode at h
    cases h1 : alOK n d with
    | true => rfl
    | false => rw [h1] at h; simp at h
  have hws : sgOK n w = true := by
    unfold sgCode at h
    rw [hal] at h
    cases h1 : sgOK n w with
    | true => rfl
    | false => simp [h1] at h
  obtain ⟨hn, ha⟩ := Al.of hal
  generalize hN : n.toNat = N at *
  subst hn
  have hN8 := ha.small
  obtain ⟨b1, b2, b3⟩ := sgOK_bd (by omega) hws
  exact ⟨N, ha, rfl, by omega, by simpa using b1, b2, fun x hx => (b3 x hx).1, code_Wd b3⟩
theorem gnf_Wd {N : Nat} {d : List Int} (h : Al N d) {w : List Int} (hw : Wd (2 * N) w) : Wd (2 * N) (gnf h w) := fun x hx => by
  unfold gnf at hx
  exact fold_Wd hw x (((z33 (fold_Wd hw)).mem x).1 hx)
end Go.PR.S

end
