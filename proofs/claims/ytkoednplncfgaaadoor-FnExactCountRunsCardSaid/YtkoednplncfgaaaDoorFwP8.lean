/- Numbers of maximal runs: the plain count, and both functions. -/
import Derived.Test.YtkoednplncfgaaaDoorFwP6
section
/- Numbers of maximal runs: the plain count, and both functions. -/
set_option linter.unusedVariables false
set_option linter.unusedSimpArgs false
set_option maxRecDepth 20000
namespace Go.PR.S
open Go Go.PR Go.Proofs Gp

def posN (N : List (List Int)) (s : Nat) : List Nat := (List.range (N.getD s []).length).filter fun a => decide ((N.getD s []).getD a 0 ≥ 0)

def cntF (N : List (List Int)) : Nat → Nat → Nat
  | 0, _ => 0
  | k + 1, s => if possM N s = 0 then 1 else ((posN N s).map fun a => cntF N k ((N.getD s []).getD a 0).toNat).sum

def cnt (N : List (List Int)) (s : Nat) : Nat := cntF N N.length s

theorem mem_posN {N : List (List Int)} {s a : Nat} (h : a ∈ posN N s) : a < (N.getD s []).length ∧ (N.getD s []).getD a 0 ≥ 0 := by
  unfold posN at h
  rw [List.mem_filter, List.mem_range, decide_eq_true_eq] at h
  exact h

theorem cntF_stable {N : List (List Int)} : ∀ (k s : Nat), finB N k s = true → cntF N (k + 1) s = cntF N k s
  | 0, _, h => by cases h
  | k + 1, s, h => by
    rw [cntF, cntF]
    split
    · rfl
    · congr 1
      apply List.map_congr_left
      intro a ha
      obtain ⟨h1, h2⟩ := mem_posN ha
      rw [finB, List.all_eq_true] at h
      have := h ((N.getD s []).getD a 0) (by rw [getD_lt h1]; exact List.getElem_mem h1)
      rw [Bool.or_eq_true, decide_eq_true_eq] at this
      rcases this with h3 | h3
      · omega
      · exact cntF_stable k _ h3

theorem sum_le {l : List Nat} {B : Nat} (h : ∀ x ∈ l, x ≤ B) : l.sum ≤ l.length * B := by
  induction l with
  | nil => simp
  | cons x l ih =>
    have h1 := h x (by simp)
    have h2 := ih fun y hy => h y (by simp [hy])
    rw [List.sum_cons, List.length_cons, Nat.succ_mul]
    omega

theorem posN_length (N : List (List Int)) (s : Nat) : (posN N s).length ≤ (N.getD s []).length := by
  unfold posN
  exact Nat.le_trans (List.length_filter_le _ _) (by simp)

theorem cntF_le {N : List (List Int)} (h : ∀ i, (N.getD i []).length ≤ 8) : ∀ (k s : Nat), cntF N k s ≤ 8 ^ k
  | 0, _ => by simp [cntF]
  | k + 1, s => by
    rw [cntF]
    split
    · exact Nat.one_le_pow _ _ (by omega)
    · refine Nat.le_trans (sum_le (B := 8 ^ k) ?_) ?_
      · intro x hx
        obtain ⟨a, _, rfl⟩ := List.mem_map.1 hx
        exact cntF_le h k _
      · rw [List.length_map, Nat.pow_succ, Nat.mul_comm (8 ^ k) 8]
        exact Nat.mul_le_mul_right _ (Nat.le_trans (posN_length N s) (h s))

theorem RowsP.short' {N : List (List Int)} (h : RowsP N) (i : Nat) : (N.getD i []).length ≤ 8 := by
  by_cases hi : i < N.length
  · exact h.short i hi
  · rw [List.getD_eq_getElem?_getD, List.getElem?_eq_none (by omega)]; simp

theorem cnt_le {N : List (List Int)} (h : RowsP N) (s : Nat) : cnt N s ≤ 281474976710656 := by
  refine Nat.le_trans (cntF_le h.short' _ s) ?_
  exact Nat.le_trans (Nat.pow_le_pow_right (by omega) h.l16) (by decide)

theorem cnt_eq {N : List (List Int)} {s : Nat} (hf : finB N N.length s = true) : cnt N s = if possM N s = 0 then 1 else ((posN N s).map fun a => cnt N ((N.getD s []).getD a 0).toNat).sum := by
  unfold cnt
  rw [← cntF_stable _ _ hf, cntF]

theorem bitsN_mkM {f : Nat → Bool} {n : Nat} (hn : n ≤ 63) : bitsN (mkM f n) = (List.range n).filter f := by
  unfold bitsN
  have e : (63 : Nat) = n + (63 - n) := by omega
  rw [e, List.range_add, List.filter_append]
  have h1 : (List.range n).filter (fun i => (mkM f n).testBit i) = (List.range n).filter f := by
    apply List.filter_congr
    intro i hi
    rw [mkM_bit]; simp [List.mem_range.1 hi]
  have h2 : ((List.range (63 - n)).map (n + ·)).filter (fun i => (mkM f n).testBit i) = [] := by
    rw [List.filter_eq_nil_iff]
    intro i hi
    obtain ⟨j, _, rfl⟩ := List.mem_map.1 hi
    rw [mkM_bit, decide_eq_false (by omega)]; simp
  rw [h1, h2, List.append_nil]

theorem bits_poss {N : List (List Int)} (h : RowsP N) (s : Nat) : bitsL (possM N s) = (posN N s).map fun (i : Nat) => (i : Int) := by
  have := h.short' s
  unfold bitsL possM posN
  rw [bitsN_mkM (by simpa using (by omega : (N.getD s []).length ≤ 63))]
  rfl

theorem poss_lt {N : List (List Int)} (h : RowsP N) (s : Int) : possM N s < 2 ^ 63 := by
  have := h.short' s.toNat
  refine Nat.lt_of_lt_of_le (mkM_lt _ _) (Nat.pow_le_pow_right (by omega) (by omega))

def Con (N : List (List Int)) (es : List MEnt) : Prop := ∀ p ∈ es, p.2 = ((cnt N p.1.1.toNat : Nat) : Int)

theorem Con.get {N : List (List Int)} {es : List MEnt} {q : Int} (h : Con N es) (hs : (mget (.int .i64) es (q, 0)).isSome = true) : (mget (.int .i64) es (q, 0)).getD 0 = ((cnt N q.toNat : Nat) : Int) := by
  unfold mget at hs ⊢
  cases hm : mfind (.int .i64) (q, 0) es 0 with
  | none => rw [hm] at hs; cases hs
  | some p =>
    obtain ⟨i, v⟩ := p
    obtain ⟨n, _, hn, h1, h2⟩ := mfind_spec hm
    have hk : q = es[n].1.1 := by simpa [MK.same] using h1
    have := h _ (List.getElem_mem hn)
    show v = _
    rw [h2, this, hk]

theorem Con.set {N : List (List Int)} {es : List MEnt} {q v : Int} (h : Con N es) (hv : v = ((cnt N q.toNat : Nat) : Int)) : Con N (mset (.int .i64) es (q, 0) v) := by
  unfold mset
  intro p hp
  split at hp
  · rcases List.mem_or_eq_of_mem_set hp with hp | rfl
    · exact h p hp
    · exact hv
  · rcases List.mem_append.1 hp with hp | hp
    · exact h p hp
    · rw [List.mem_singleton] at hp; subst hp; exact hv

theorem sum_take_succ {l : List Nat} {i : Nat} (h : i < l.length) : (l.take (i + 1)).sum = (l.take i).sum + l[i] := by
  rw [List.take_add_one, List.sum_append, List.getElem?_eq_getElem h]; simp

theorem take_sum_le {l : List Nat} {B : Nat} (i : Nat) (h : ∀ x ∈ l, x ≤ B) : (l.take i).sum ≤ l.length * B := by
  refine Nat.le_trans (sum_le fun x hx => h x (List.mem_of_mem_take hx)) ?_
  exact Nat.mul_le_mul_right _ (by rw [List.length_take]; omega)

theorem run_countRuns {n s : Int} {fs : List Bool} {N : List (List Int)} (h : RowsP N) (hE : endsB N = true) : ∀ (k : Nat) (q : Int) (es : List MEnt), 0 ≤ q → q < N.length → finB N k q.toNat = true → Con N es →
    ∃ es', Con N es' ∧ Runs X F.impl_machine_countRuns [.agg [.int .i64 n, .int .i64 s, .rsl 500000 0 fs.length, .imm2 .i64 N], iD q, .mpr 500001] [⟨true, .bools fs⟩, ⟨true, .mp (.int .i64) (.int .i64) es⟩] ⟨.int .i64 ((cnt N q.toNat : Nat) : Int), [some ⟨true, .bools fs⟩, some ⟨true, .mp (.int .i64) (.int .i64) es'⟩], []⟩ := by
  intro k
  induction k with
  | zero => intro q es _ _ hf; cases hf
  | succ k ih =>
    intro q es h0 hq hf hc
    have hfN := ends_fin hE q.toNat (by omega)
    have heq := cnt_eq hfN
    rw [show ((q.toNat : Nat) : Int) = q by omega] at heq
    have cp := run_possible (n := n) (s := s) (fs := fs) h h0 hq
    by_cases hp : possM N q = 0
    · rw [if_pos hp] at heq
      rw [hp] at cp
      refine ⟨es, hc, ?_⟩
      rw [heq]
      exact impl_machine_countRuns_p1 cp rfl
    · rw [if_neg hp] at heq
      have hp' : ¬ ((possM N q : Nat) : Int) = 0 := by omega
      cases hm : (mget (.int .i64) es (q, 0)).isSome with
      | true =>
        refine ⟨es, hc, ?_⟩
        rw [← hc.get hm]
        exact impl_machine_countRuns_p2 cp hp' hm
      | false =>
        have cm := run_members (poss_lt h q)
        have hb : bitsL (possM N q) = (posN N q.toNat).map fun (i : Nat) => (i : Int) := by
          have := bits_poss h q.toNat
          rw [show ((q.toNat : Nat) : Int) = q by omega] at this
          exact this
        rw [hb] at cm
        let row := N.getD q.toNat []
        let cs : List Nat := (posN N q.toNat).map fun a => cnt N (row.getD a 0).toNat
        have hcs : cs.sum = cnt N q.toNat := heq.symm
        have hrow := h.short' q.toNat
        have hpl := posN_length N q.toNat
        have hbound : ∀ i, (cs.take i).sum ≤ cs.length * 281474976710656 := fun i => take_sum_le i fun x hx => by
          obtain ⟨a, _, rfl⟩ := List.mem_map.1 hx
          exact cnt_le h _
        have hcl : cs.length = (posN N q.toNat).length := List.length_map _
        have lp : ∀ (m i : Nat) (es : List MEnt), i + m = (posN N q.toNat).length → Con N es →
            ∃ es', Con N es' ∧ WL F.impl_machine_countRuns 0 Tryd.f60 0 (impl_machine_countRuns_s0 n s fs N q ((posN N q.toNat).map fun (i : Nat) => (i : Int)) ((cs.take i).sum : Nat) i es fs) (impl_machine_countRuns_o0_1 q ((cs.sum : Nat) : Int) es' fs) := by
          intro m
          induction m with
          | zero =>
            intro i es hi hc
            refine ⟨es, hc, ?_⟩
            have : cs.take i = cs := List.take_of_length_le (by omega)
            rw [this]
            apply impl_machine_countRuns_r0_2
            case hq => rfl
            all_goals first | rfl | (simp; omega)
          | succ m ihm =>
            intro i es hi hc
            have hi' : i < (posN N q.toNat).length := by omega
            have hmem : (posN N q.toNat)[i] ∈ posN N q.toNat := List.getElem_mem hi'
            obtain ⟨ha1, ha2⟩ := mem_posN hmem
            have hel : ((posN N q.toNat).map fun (i : Nat) => (i : Int)).getD (0 + i) 0 = (((posN N q.toNat)[i] : Nat) : Int) := by
              rw [Nat.zero_add, getD_lt (by rw [List.length_map]; exact hi')]; simp
            have hr1 := h.below q.toNat (by omega) _ ha1
            have hfin : finB N k (row.getD (posN N q.toNat)[i] 0).toNat = true := by
              rw [finB, List.all_eq_true] at hf
              have := hf (row.getD (posN N q.toNat)[i] 0) (by show (N.getD q.toNat []).getD _ 0 ∈ _; rw [getD_lt ha1]; exact List.getElem_mem ha1)
              rw [Bool.or_eq_true, decide_eq_true_eq] at this
              rcases this with h3 | h3
              · exact absurd h3 (by show ¬ (N.getD q.toNat []).getD _ 0 < 0; omega)
              · exact h3
            obtain ⟨es1, hc1, hrun⟩ := ih (row.getD (posN N q.toNat)[i] 0) es ha2 hr1 hfin hc
            obtain ⟨es2, hc2, hl⟩ := ihm (i + 1) es1 (by omega) hc1
            refine ⟨es2, hc2, ?_⟩
            have hci : i < cs.length := by omega
            have hstep : (((cs.take (i + 1)).sum : Nat) : Int) = ((cs.take i).sum : Nat) + ((cnt N (row.getD (posN N q.toNat)[i] 0).toNat : Nat) : Int) := by
              rw [sum_take_succ hci]
              have : cs[i] = cnt N (row.getD (posN N q.toNat)[i] 0).toNat := by simp [cs]
              rw [this]; simp
            rw [hstep] at hl
            have hb1 := hbound i
            have hb2 := hbound (i + 1)
            have hrun' := hrun
            apply impl_machine_countRuns_r0_1
            case hq => exact hl
            case c20 => rw [hel, Int.toNat_natCast]; exact hrun
            case h21 => omega
            case h22 => rw [← hstep]; omega
            all_goals first | rfl | (rw [hel]; omega) | (rw [List.length_map]; omega) | (rw [hel]; show (((posN N q.toNat)[i] : Nat) : Int) < ((N.getD q.toNat []).length : Int); omega) | omega
        obtain ⟨es1, hc1, hl⟩ := lp _ 0 es (Nat.zero_add _) hc
        refine ⟨mset (.int .i64) es1 (q, 0) ((cs.sum : Nat) : Int), hc1.set (by rw [hcs]), ?_⟩
        rw [← hcs]
        have hp3 := impl_machine_countRuns_p3 cp hp' hm cp cm hl
        unfold mset
        cases hmf : mfind (.int .i64) (q, 0) es1 0 with
        | none => rw [hmf] at hp3; exact hp3
        | some v => obtain ⟨v1, v2⟩ := v; rw [hmf] at hp3; exact hp3

def valsE (N : List (List Int)) (d : List Bool) : List Int := (List.range N.length).map fun t => if d.getD t false = true then ((cnt N t : Nat) : Int) else 0

theorem valsE_length (N : List (List Int)) (d : List Bool) : (valsE N d).length = N.length := by unfold valsE; simp

theorem valsE_getD {N : List (List Int)} {d : List Bool} {t : Nat} (h : t < N.length) : (valsE N d).getD t 0 = if d.getD t false = true then ((cnt N t : Nat) : Int) else 0 := by
  rw [getD_lt (by rw [valsE_length]; exact h)]; simp [valsE]

theorem valsE_none (N : List (List Int)) : valsE N (noneE N) = List.replicate N.length 0 := by
  apply List.ext_getElem
  · rw [valsE_length]; simp
  · intro i h1 h2
    rw [valsE_length] at h1
    have := valsE_getD (d := noneE N) h1
    rw [getD_lt (by rw [valsE_length]; exact h1), noneE_getD] at this
    rw [this]; simp

theorem valsE_set {N : List (List Int)} {d : List Bool} {s : Nat} (hs : s < d.length) (hd : d.length = N.length) : valsE N (d.set s true) = (valsE N d).set s ((cnt N s : Nat) : Int) := by
  apply List.ext_getElem
  · rw [List.length_set, valsE_length, valsE_length]
  · intro i h1 h2
    rw [valsE_length] at h1
    have e := valsE_getD (d := d.set s true) h1
    rw [getD_lt (by rw [valsE_length]; exact h1), getD_set_true hs] at e
    rw [e, List.getElem_set]
    by_cases he : s = i
    · rw [if_pos he, if_pos rfl, if_pos he, he]
    · rw [if_neg he, if_neg he]
      have := valsE_getD (d := d) h1
      rw [getD_lt (by rw [valsE_length]; exact h1)] at this
      rw [this]

def sumTo (N : List (List Int)) (d : List Bool) (s : Nat) : Nat → Int
  | 0 => 0
  | a + 1 => if (N.getD s []).getD a 0 ≥ 0 then sumTo N d s a + (valsE N d).getD ((N.getD s []).getD a 0).toNat 0 else sumTo N d s a

end Go.PR.S

end

section
/- The reference's counts, both functions CountRuns, and the law. -/
set_option linter.unusedVariables false
set_option linter.unusedSimpArgs false
set_option maxRecDepth 20000
namespace Go.PR.S
open Go Go.PR Go.Proofs Gp

theorem valsE_bound {N : List (List Int)} (h : RowsP N) (d : List Bool) (t : Nat) : 0 ≤ (valsE N d).getD t 0 ∧ (valsE N d).getD t 0 ≤ 281474976710656 := by
  by_cases ht : t < N.length
  · rw [valsE_getD ht]
    have := cnt_le h t
    split <;> omega
  · rw [List.getD_eq_getElem?_getD, List.getElem?_eq_none (by rw [valsE_length]; omega)]; simp

theorem sumTo_bound {N : List (List Int)} (h : RowsP N) (d : List Bool) (s : Nat) : ∀ a : Nat, 0 ≤ sumTo N d s a ∧ sumTo N d s a ≤ a * 281474976710656
  | 0 => by simp [sumTo]
  | a + 1 => by
    have h1 := sumTo_bound h d s a
    have h2 := valsE_bound h d ((N.getD s []).getD a 0).toNat
    rw [sumTo]
    split
    · omega
    · omega

theorem sumTo_all {N : List (List Int)} {d : List Bool} {s : Nat} (h : RowsP N) (hs : s < N.length) : ∀ a : Nat, a ≤ (N.getD s []).length → (∀ x, x < a → (decide ((N.getD s []).getD x 0 < 0) || d.getD ((N.getD s []).getD x 0).toNat false) = true) →
    sumTo N d s a = (((((List.range a).filter fun a => decide ((N.getD s []).getD a 0 ≥ 0)).map fun a => cnt N ((N.getD s []).getD a 0).toNat).sum : Nat) : Int)
  | 0, _, _ => by simp [sumTo]
  | a + 1, hl, ha => by
    have ih := sumTo_all h hs a (by omega) fun x hx => ha x (by omega)
    have hb := h.below s hs a (by omega)
    rw [sumTo, List.range_succ, List.filter_append]
    by_cases h0 : (N.getD s []).getD a 0 ≥ 0
    · rw [if_pos h0, ih]
      have hd := ha a (by omega)
      rw [Bool.or_eq_true, decide_eq_true_eq] at hd
      have hd : d.getD ((N.getD s []).getD a 0).toNat false = true := by rcases hd with h1 | h1; omega; exact h1
      rw [valsE_getD (by omega), if_pos hd]
      have : [a].filter (fun a => decide ((N.getD s []).getD a 0 ≥ 0)) = [a] := by rw [List.filter_cons, if_pos (decide_eq_true h0)]; rfl
      rw [this, List.map_append, List.sum_append]
      simp
    · rw [if_neg h0, ih]
      have : [a].filter (fun a => decide ((N.getD s []).getD a 0 ≥ 0)) = [] := by rw [List.filter_cons, if_neg (by rw [decide_eq_true_eq]; exact h0)]; rfl
      rw [this, List.append_nil]

theorem run_l19Counts {n s f : Int} {N : List (List Int)} (h : AutP n s f N) (hE : endsB N = true) : Runs X F.spec_l19Counts [auD n s f N] [] ⟨.rsl 600000 0 N.length, [], [⟨true, .ints .i64 (valsE N (lastE N))⟩]⟩ := by
  have hl := h.l16
  have hR := h.rowsP
  have inner2 : ∀ (d : List Bool) (j : Nat), d.length = N.length → j < N.length → ∃ t b, b = (!(d.getD j false) && okE N d j) ∧ (b = true → possM N j = 0 ∨ t = ((cnt N j : Nat) : Int)) ∧ 0 ≤ t ∧
      WL F.spec_l19Counts 4 Tryd.f55 2 (spec_l19Counts_s2 n s f N (mOf d) j (valsE N d) 0 (!(d.getD j false)) 0) (spec_l19Counts_o2_1 n s f N (mOf d) j (valsE N d) t b) := by
    intro d j hd hj
    obtain ⟨hr, hb⟩ := h.rows j hj
    have hn8 := h.n8
    have hmd := mOf_lt d
    have h62 : (2 : Nat) ^ d.length ≤ 2 ^ 16 := Nat.pow_le_pow_right (by omega) (by omega)
    have hvl := valsE_length N d
    have hsb := fun a => sumTo_bound hR d j a
    let p : Nat → Bool := fun a => decide ((N.getD j []).getD a 0 < 0) || d.getD ((N.getD j []).getD a 0).toNat false
    have he : okE N d j = (List.range (N.getD j []).length).all p := by unfold okE; rw [← range_all]
    have hexit : ∀ (t : Int) (a : Nat) (Q : Out → Prop), Q (spec_l19Counts_o2_1 n s f N (mOf d) j (valsE N d) t false).out → WpL X F.spec_l19Counts 4 (lb Tryd.f55 2) (spec_l19Counts_s2 n s f N (mOf d) j (valsE N d) t false a).st Q := by
      intro t a Q hq
      by_cases ha : (a : Int) < n
      · apply spec_l19Counts_r2_3
        case hq => exact hq
        all_goals first | rfl | exact hvl | omega
      · apply spec_l19Counts_r2_4
        case hq => exact hq
        all_goals first | exact hvl | omega
    -- one more letter while all are ready
    have hstep : ∀ (a : Nat) (Q : Out → Prop), a < (N.getD j []).length → WpL X F.spec_l19Counts 4 (lb Tryd.f55 2) (spec_l19Counts_s2 n s f N (mOf d) j (valsE N d) (sumTo N d j (a + 1)) (p a) (a + 1)).st Q → WpL X F.spec_l19Counts 4 (lb Tryd.f55 2) (spec_l19Counts_s2 n s f N (mOf d) j (valsE N d) (sumTo N d j a) true a).st Q := by
      intro a Q ha hq
      have hba := hb a ha
      have h1 := hsb a
      have h2 := hsb (a + 1)
      by_cases h0 : (N.getD j []).getD a 0 ≥ 0
      · have c1 := run_l01Bit (m := mOf d) (i := ((N.getD j []).getD a 0).toNat) (by omega) (by omega)
        rw [show (((N.getD j []).getD a 0).toNat : Int) = (N.getD j []).getD a 0 by omega] at c1
        have hp : p a = tb (mOf d) ((N.getD j []).getD a 0) := by
          show (decide ((N.getD j []).getD a 0 < 0) || d.getD ((N.getD j []).getD a 0).toNat false) = _
          rw [decide_eq_false (by omega), Bool.false_or]
          unfold tb
          rw [Int.toNat_natCast, mOf_bit]
        have hs : sumTo N d j (a + 1) = sumTo N d j a + (valsE N d).getD (0 + ((N.getD j []).getD a 0).toNat) 0 := by rw [sumTo, if_pos h0, Nat.zero_add]
        rw [hs] at h2
        rw [hs, hp] at hq
        apply spec_l19Counts_r2_1
        case hq => exact hq
        all_goals first | omega | exact c1 | exact hvl | rfl
      · have hp : p a = true := by
          show (decide ((N.getD j []).getD a 0 < 0) || d.getD ((N.getD j []).getD a 0).toNat false) = _
          rw [decide_eq_true (by omega)]; rfl
        have hs : sumTo N d j (a + 1) = sumTo N d j a := by rw [sumTo, if_neg h0]
        rw [hs, hp] at hq
        apply spec_l19Counts_r2_2
        case hq => exact hq
        all_goals first | omega | exact hvl | rfl
    cases hdj : d.getD j false with
    | true =>
      refine ⟨0, false, by simp, by simp, by omega, ?_⟩
      exact hexit 0 0 _ rfl
    | false =>
      by_cases hall : (List.range (N.getD j []).length).all p = true
      · refine ⟨sumTo N d j (N.getD j []).length, true, by rw [he, hall]; rfl, fun _ => ?_, (hsb _).1, ?_⟩
        · by_cases hp : possM N j = 0
          · exact .inl hp
          · right
            have hfin := ends_fin hE j hj
            rw [cnt_eq hfin, if_neg hp]
            exact sumTo_all hR hj _ (Nat.le_refl _) fun x hx => List.all_eq_true.1 hall x (List.mem_range.2 hx)
        · refine loop_to (N := (N.getD j []).length) (st := fun a => spec_l19Counts_s2 n s f N (mOf d) j (valsE N d) (sumTo N d j a) true a) (fun a ha Q hqq => ?_) (fun Q hqq => ?_)
          · refine hstep a Q ha ?_
            rw [List.all_eq_true.1 hall a (List.mem_range.2 ha)]
            exact hqq
          · apply spec_l19Counts_r2_4
            case hq => exact hqq
            all_goals first | exact hvl | omega
      · obtain ⟨k, hk1, hk2, hk3⟩ := first_fail hall
        have hnot : false = (!false && okE N d j) := by rw [he, Bool.eq_false_iff.2 hall]; rfl
        refine ⟨sumTo N d j (k + 1), false, hnot, by simp, (hsb _).1, ?_⟩
        refine loop_to (N := k) (st := fun a => spec_l19Counts_s2 n s f N (mOf d) j (valsE N d) (sumTo N d j a) true a) (fun a ha Q hqq => ?_) (fun Q hqq => ?_)
        · refine hstep a Q (by omega) ?_
          rw [hk3 a ha]
          exact hqq
        · refine hstep k Q hk1 ?_
          rw [hk2]
          exact hexit _ _ _ hqq
  have inner : ∀ d : List Bool, d.length = N.length → WL F.spec_l19Counts 2 Tryd.f55 1 (spec_l19Counts_s1 n s f N (mOf d) 0 (valsE N d)) (spec_l19Counts_o1_1 n s f N (mOf (passE N d).1) (valsE N (passE N d).1)) := by
    intro d hd
    refine loop_to (N := N.length) (st := fun j => spec_l19Counts_s1 n s f N (mOf (foldE N d j).1) j (valsE N (foldE N d j).1)) (fun j hj Q hqq => ?_) (fun Q hqq => ?_)
    · have hlen : (foldE N d j).1.length = N.length := by rw [foldE_length, hd]
      have hvl := valsE_length N (foldE N d j).1
      have hmd := mOf_lt (foldE N d j).1
      have h62 : (2 : Nat) ^ (foldE N d j).1.length ≤ 2 ^ 16 := Nat.pow_le_pow_right (by omega) (by omega)
      have c1 := run_l01Bit (m := mOf (foldE N d j).1) (i := j) (by omega) (by omega)
      have hbit : tb (mOf (foldE N d j).1) j = (foldE N d j).1.getD j false := by unfold tb; rw [Int.toNat_natCast, Int.toNat_natCast, mOf_bit]
      rw [hbit] at c1
      obtain ⟨t, b, hb, ht, ht0, l1⟩ := inner2 (foldE N d j).1 j hlen hj
      rw [foldE_succ] at hqq
      unfold stepE at hqq
      by_cases hc : (foldE N d j).1.getD j false = false ∧ okE N (foldE N d j).1 j = true
      · rw [if_pos hc] at hqq
        rw [hc.1, hc.2] at hb
        have hb : b = true := hb
        have c2 := run_l01One (i := j) (by omega)
        have c3 := run_l19Possible h (q := (j : Int)) (by omega) (by omega)
        have hor : ior (mOf (foldE N d j).1 : Int) ((2 ^ j : Nat) : Int) = ((mOf ((foldE N d j).1.set j true) : Nat) : Int) := by
          rw [ior_nat (by omega) (pow62 (by omega)), mOf_set (by omega)]
        have hfin := ends_fin hE j hj
        have hset := valsE_set (N := N) (d := (foldE N d j).1) (s := j) (by omega) hlen
        simp only at hqq
        rw [hset] at hqq
        by_cases hp : possM N j = 0
        · rw [cnt_eq hfin, if_pos hp] at hqq
          apply spec_l19Counts_r1_2
          case hq => rw [hor, Nat.zero_add]; exact hqq
          all_goals first | exact c1 | exact l1 | exact c2 | exact c3 | exact hvl | exact hb | (rw [hp]; rfl) | omega
        · have ht' := (ht hb).resolve_left hp
          rw [← ht'] at hqq
          apply spec_l19Counts_r1_3
          case hq => rw [hor, Nat.zero_add]; exact hqq
          all_goals first | exact c1 | exact l1 | exact c2 | exact c3 | exact hvl | exact hb | omega
      · rw [if_neg hc] at hqq
        have hv : b = false := by
          rw [hb]
          cases h1 : (foldE N d j).1.getD j false
          · cases h2 : okE N (foldE N d j).1 j
            · rfl
            · exact (hc ⟨h1, h2⟩).elim
          · rfl
        apply spec_l19Counts_r1_1
        case hq => exact hqq
        all_goals first | exact c1 | exact l1 | exact hvl | exact hv | omega
    · have hvl := valsE_length N (foldE N d N.length).1
      apply spec_l19Counts_r1_4
      case hq => exact hqq
      all_goals first | exact hvl | omega
  have c4 := run_l01Full (i := N.length) (by omega)
  have hfull : ∀ d : List Bool, d.length = N.length → (((mOf d : Nat) : Int) = ((2 ^ N.length : Nat) : Int) - 1 ↔ d.all id = true) := by
    intro d hd
    rw [← mOf_full, hd]
    have := Nat.two_pow_pos N.length
    omega
  have htrue : ∀ d : List Bool, d.length = N.length → d.all id = true → d = List.replicate N.length true := by
    intro d hd ha
    apply List.eq_replicate_iff.2 ⟨hd, fun b hb => ?_⟩
    exact List.all_eq_true.1 ha b hb
  have outer : ∀ (k : Nat) (d : List Bool), d.length = N.length → d.count false < k → (fixE N k d).all id = true → WL F.spec_l19Counts 0 Tryd.f55 0 (spec_l19Counts_s0 n s f N (mOf d) (valsE N d)) (spec_l19Counts_o0_1 N (valsE N (fixE N k d))) := by
    intro k
    induction k with
    | zero => intro d hd hk; omega
    | succ k ih =>
      intro d hd hk hfix
      have hlen : (passE N d).1.length = N.length := by rw [passE_length, hd]
      have hvl := valsE_length N d
      have hc := foldE_count N d hd N.length (Nat.le_refl _)
      by_cases hfd : d.all id = true
      · have e : valsE N (fixE N (k + 1) d) = valsE N d := by
          rw [htrue (fixE N (k + 1) d) (by rw [fixE_length]; exact hd) hfix, ← htrue d hd hfd]
        rw [e]
        apply spec_l19Counts_r0_2
        case hq => rfl
        case c4 => exact c4
        all_goals first | exact hvl | exact (hfull d hd).2 hfd | omega
      · apply spec_l19Counts_r0_1
        case l37 => exact inner d hd
        case c4 => exact c4
        case hq =>
          unfold fixE at hfix ⊢
          cases hp : (passE N d).2 with
          | true =>
            rw [hp, if_pos rfl] at hfix
            rw [if_pos rfl]
            refine ih _ hlen ?_ hfix
            unfold passE at hp
            rw [hp, if_pos rfl] at hc
            unfold passE; omega
          | false =>
            exfalso
            rw [hp, if_neg (by simp)] at hfix
            unfold passE at hp hfix
            rw [foldE_same N d _ hp] at hfix
            exact hfd hfix
        all_goals first | exact hvl | (intro hh; exact hfd ((hfull d hd).1 hh)) | omega
  have ho := outer (N.length + 1) (noneE N) (by simp [noneE]) (by unfold noneE; rw [List.count_replicate]; simp) hE
  rw [mOf_none, valsE_none] at ho
  exact spec_l19Counts_p1 (by omega) ho

theorem run_CountRuns (n s f : Int) (N : List (List Int)) (hl : N.length ≤ B40) (hw : ∀ r ∈ N, r.length ≤ B40) : ∃ a b : Int, Runs X F.spec_CountRuns [auD n s f N] [] ⟨.tup [.int .i64 a, .int .i64 b], [], []⟩ ∧ Runs X F.impl_CountRuns [auD n s f N] [] ⟨.tup [.int .i64 a, .int .i64 b], [], []⟩ := by
  have c1 := run_l11Is n s f N hl
  have c2 := run_IsAutomaton n s f N hl hw
  cases hA : autOK n s f N with
  | false =>
    rw [hA] at c1 c2
    exact ⟨0, 1, spec_CountRuns_p1 c1 rfl, impl_CountRuns_p1 c2 rfl⟩
  | true =>
    rw [hA] at c1 c2
    have h := autP_of hA
    have e1 := run_l19Ends h
    have e2 := run_ends (n := n) (s := s) (fs := finals f N) h.rowsP
    have m1 := run_machineOf h
    cases hE : endsB N with
    | false =>
      rw [hE] at e1 e2
      exact ⟨0, 5, spec_CountRuns_p2 c1 rfl e1 rfl, impl_CountRuns_p2 c2 rfl m1 e2 rfl⟩
    | true =>
      rw [hE] at e1 e2
      have hs0 := h.s0
      have hsl := h.sl
      have k1 := run_l19Counts h hE
      have hvl := valsE_length N (lastE N)
      rw [← hvl] at k1
      obtain ⟨es, _, k2⟩ := run_countRuns (n := n) (s := s) (fs := finals f N) h.rowsP hE N.length s [] hs0 hsl (ends_fin hE s.toNat (by omega)) (fun p hp => by cases hp)
      have hv : (valsE N (lastE N)).getD (0 + s.toNat) 0 = ((cnt N s.toNat : Nat) : Int) := by
        rw [Nat.zero_add, valsE_getD (by omega), if_pos (all_getD.1 hE _ (by unfold lastE; rw [fixE_length]; simp [noneE]; omega))]
      refine ⟨(cnt N s.toNat : Nat), 0, ?_, impl_CountRuns_p3 c2 rfl m1 e2 rfl k2⟩
      rw [← hv]
      exact spec_CountRuns_p3 c1 rfl e1 rfl k1 hs0 (by omega)

end Go.PR.S

end
