/- slices.Repeat, at short words and few times. -/
import Derived.Test.YtnhklcbddcoadaaDoorFwP12
import Derived.Test.YtnhklcbddcoadaaDoorFwMk
set_option linter.unusedVariables false
set_option linter.unusedSimpArgs false
set_option linter.unusedSectionVars false
section
set_option maxRecDepth 20000
namespace Go.PR.S
open Go Go.PR Go.Proofs Gp
def hiE (l k : Int) : Int := IntKind.u64.wrap (IntKind.u64.wrap (IntKind.u64.wrap ((IntKind.u64.wrap l).fdiv ((2 : Int) ^ (32 : Nat)) * (IntKind.u64.wrap k).fdiv ((2 : Int) ^ (32 : Nat))) + (IntKind.u64.wrap (IntKind.u64.wrap ((IntKind.u64.wrap l).fdiv ((2 : Int) ^ (32 : Nat)) * IntKind.u64.wrap (↑(BitVec.ofInt (64 : Nat) (IntKind.u64.wrap k) &&& BitVec.ofInt (64 : Nat) (4294967295 : Int)).toNat : Int)) + (IntKind.u64.wrap (IntKind.u64.wrap (↑(BitVec.ofInt (64 : Nat) (IntKind.u64.wrap l) &&& BitVec.ofInt (64 : Nat) (4294967295 : Int)).toNat : Int) * IntKind.u64.wrap (↑(BitVec.ofInt (64 : Nat) (IntKind.u64.wrap k) &&& BitVec.ofInt (64 : Nat) (4294967295 : Int)).toNat : Int))).fdiv ((2 : Int) ^ (32 : Nat)))).fdiv ((2 : Int) ^ (32 : Nat))) + (IntKind.u64.wrap (IntKind.u64.wrap (↑(BitVec.ofInt (64 : Nat) (IntKind.u64.wrap (IntKind.u64.wrap ((IntKind.u64.wrap l).fdiv ((2 : Int) ^ (32 : Nat)) * IntKind.u64.wrap (↑(BitVec.ofInt (64 : Nat) (IntKind.u64.wrap k) &&& BitVec.ofInt (64 : Nat) (4294967295 : Int)).toNat : Int)) + (IntKind.u64.wrap (IntKind.u64.wrap (↑(BitVec.ofInt (64 : Nat) (IntKind.u64.wrap l) &&& BitVec.ofInt (64 : Nat) (4294967295 : Int)).toNat : Int) * IntKind.u64.wrap (↑(BitVec.ofInt (64 : Nat) (IntKind.u64.wrap k) &&& BitVec.ofInt (64 : Nat) (4294967295 : Int)).toNat : Int))).fdiv ((2 : Int) ^ (32 : Nat)))) &&& BitVec.ofInt (64 : Nat) (4294967295 : Int)).toNat : Int) + IntKind.u64.wrap (IntKind.u64.wrap (↑(BitVec.ofInt (64 : Nat) (IntKind.u64.wrap l) &&& BitVec.ofInt (64 : Nat) (4294967295 : Int)).toNat : Int) * (IntKind.u64.wrap k).fdiv ((2 : Int) ^ (32 : Nat))))).fdiv ((2 : Int) ^ (32 : Nat)))
theorem zgk : ∀ l k : Fin 32, ¬ hiE (l.val : Int) (k.val : Int) > 0 := by decide +kernel
def rep (w : List Int) (k : Nat) : List Int := (List.replicate k w).flatten
theorem rep_len (w : List Int) (k : Nat) : (rep w k).length = k * w.length := by
  unfold rep
  induction k with
  | zero => simp
  | succ k ih => rw [List.replicate_succ, List.flatten_cons, List.length_append, ih, Nat.succ_mul, Nat.add_comm]
theorem rep_add (w : List Int) (a b : Nat) : rep w (a + b) = rep w a ++ rep w b := by
  unfold rep
  rw [← List.replicate_append_replicate, List.flatten_append]
theorem zvz (w : List Int) (k : Int) (t8a : Nat) (r7a : List Int) : roundV X F.z1c (0 : Nat) (lb Tryd.f53 (0 : Nat)) (z32 w k t8a r7a) { ds := [true, true, true, false, false, false], rs := [], lo := [] } = .ok (OutL.normal (z32 w k (t8a + min (List.take (t8a - (0 : Nat)) (List.drop (0 : Nat) r7a)).length ((IntKind.u64.wrap (IntKind.u64.wrap (↑w.length : Int) * IntKind.u64.wrap k)).toNat - t8a)) (List.take ((0 : Nat) + t8a) r7a ++ List.take (min (List.take (t8a - (0 : Nat)) (List.drop (0 : Nat) r7a)).length ((IntKind.u64.wrap (IntKind.u64.wrap (↑w.length : Int) * IntKind.u64.wrap k)).toNat - t8a)) (List.drop (0 : Nat) (List.take (t8a - (0 : Nat)) (List.drop (0 : Nat) r7a))) ++ List.drop ((0 : Nat) + t8a + (List.take (min (List.take (t8a - (0 : Nat)) (List.drop (0 : Nat) r7a)).length ((IntKind.u64.wrap (IntKind.u64.wrap (↑w.length : Int) * IntKind.u64.wrap k)).toNat - t8a)) (List.drop (0 : Nat) (List.take (t8a - (0 : Nat)) (List.drop (0 : Nat) r7a)))).length) r7a))) ⟨[], [], []⟩ ⟨[decide ((↑t8a : Int) < (↑(IntKind.u64.wrap (IntKind.u64.wrap (↑w.length : Int) * IntKind.u64.wrap k)).toNat : Int)) = true, (0 : Int) ≤ (↑t8a : Int), t8a ≤ (IntKind.u64.wrap (IntKind.u64.wrap (↑w.length : Int) * IntKind.u64.wrap k)).toNat ∧ (IntKind.u64.wrap (IntKind.u64.wrap (↑w.length : Int) * IntKind.u64.wrap k)).toNat ≤ (IntKind.u64.wrap (IntKind.u64.wrap (↑w.length : Int) * IntKind.u64.wrap k)).toNat, (0 : Int) ≤ (↑t8a : Int), (0 : Nat) ≤ t8a ∧ t8a ≤ (IntKind.u64.wrap (IntKind.u64.wrap (↑w.length : Int) * IntKind.u64.wrap k)).toNat, (0 : Nat) + (t8a - (0 : Nat)) ≤ r7a.length, (0 : Nat) + (t8a - (0 : Nat)) ≤ r7a.length, min (List.take (t8a - (0 : Nat)) (List.drop (0 : Nat) r7a)).length ((IntKind.u64.wrap (IntKind.u64.wrap (↑w.length : Int) * IntKind.u64.wrap k)).toNat - t8a) ≠ (0 : Nat), (0 : Nat) + t8a + ((IntKind.u64.wrap (IntKind.u64.wrap (↑w.length : Int) * IntKind.u64.wrap k)).toNat - t8a) ≤ r7a.length, (0 : Nat) + min (List.take (t8a - (0 : Nat)) (List.drop (0 : Nat) r7a)).length ((IntKind.u64.wrap (IntKind.u64.wrap (↑w.length : Int) * IntKind.u64.wrap k)).toNat - t8a) ≤ (List.take (t8a - (0 : Nat)) (List.drop (0 : Nat) r7a)).length, inR ((↑t8a : Int) + (↑(min (List.take (t8a - (0 : Nat)) (List.drop (0 : Nat) r7a)).length ((IntKind.u64.wrap (IntKind.u64.wrap (↑w.length : Int) * IntKind.u64.wrap k)).toNat - t8a)) : Int))], [], []⟩ := by kernel_rfl
theorem zvy {Q : Out → Prop} {w : List Int} {k : Int} (h2 : ¬k < (0 : Int)) (h4 : ¬IntKind.u64.wrap (IntKind.u64.wrap (IntKind.u64.wrap ((IntKind.u64.wrap (↑w.length : Int)).fdiv ((2 : Int) ^ (32 : Nat)) * (IntKind.u64.wrap k).fdiv ((2 : Int) ^ (32 : Nat))) + (IntKind.u64.wrap (IntKind.u64.wrap ((IntKind.u64.wrap (↑w.length : Int)).fdiv ((2 : Int) ^ (32 : Nat)) * IntKind.u64.wrap (↑(BitVec.ofInt (64 : Nat) (IntKind.u64.wrap k) &&& BitVec.ofInt (64 : Nat) (4294967295 : Int)).toNat : Int)) + (IntKind.u64.wrap (IntKind.u64.wrap (↑(BitVec.ofInt (64 : Nat) (IntKind.u64.wrap (↑w.length : Int)) &&& BitVec.ofInt (64 : Nat) (4294967295 : Int)).toNat : Int) * IntKind.u64.wrap (↑(BitVec.ofInt (64 : Nat) (IntKind.u64.wrap k) &&& BitVec.ofInt (64 : Nat) (4294967295 : Int)).toNat : Int))).fdiv ((2 : Int) ^ (32 : Nat)))).fdiv ((2 : Int) ^ (32 : Nat))) + (IntKind.u64.wrap (IntKind.u64.wrap (↑(BitVec.ofInt (64 : Nat) (IntKind.u64.wrap (IntKind.u64.wrap ((IntKind.u64.wrap (↑w.length : Int)).fdiv ((2 : Int) ^ (32 : Nat)) * IntKind.u64.wrap (↑(BitVec.ofInt (64 : Nat) (IntKind.u64.wrap k) &&& BitVec.ofInt (64 : Nat) (4294967295 : Int)).toNat : Int)) + (IntKind.u64.wrap (IntKind.u64.wrap (↑(BitVec.ofInt (64 : Nat) (IntKind.u64.wrap (↑w.length : Int)) &&& BitVec.ofInt (64 : Nat) (4294967295 : Int)).toNat : Int) * IntKind.u64.wrap (↑(BitVec.ofInt (64 : Nat) (IntKind.u64.wrap k) &&& BitVec.ofInt (64 : Nat) (4294967295 : Int)).toNat : Int))).fdiv ((2 : Int) ^ (32 : Nat)))) &&& BitVec.ofInt (64 : Nat) (4294967295 : Int)).toNat : Int) + IntKind.u64.wrap (IntKind.u64.wrap (↑(BitVec.ofInt (64 : Nat) (IntKind.u64.wrap (↑w.length : Int)) &&& BitVec.ofInt (64 : Nat) (4294967295 : Int)).toNat : Int) * (IntKind.u64.wrap k).fdiv ((2 : Int) ^ (32 : Nat))))).fdiv ((2 : Int) ^ (32 : Nat))) > (0 : Int)) (h6 : ¬IntKind.u64.wrap (IntKind.u64.wrap (↑w.length : Int) * IntKind.u64.wrap k) > (9223372036854775807 : Int)) (h7 : (-9223372036854775808 : Int) ≤ IntKind.u64.wrap (IntKind.u64.wrap (↑w.length : Int) * IntKind.u64.wrap k)) (h8 : (0 : Int) ≤ IntKind.u64.wrap (IntKind.u64.wrap (↑w.length : Int) * IntKind.u64.wrap k)) (h9 : IntKind.u64.wrap (IntKind.u64.wrap (↑w.length : Int) * IntKind.u64.wrap k) ≤ (↑(1099511627776 : Nat) : Int))  {t8a : Nat} {r7a : List Int} (e11 : r7a.length = (IntKind.u64.wrap (IntKind.u64.wrap (↑w.length : Int) * IntKind.u64.wrap k)).toNat) (h12 : (↑t8a : Int) < (↑(IntKind.u64.wrap (IntKind.u64.wrap (↑w.length : Int) * IntKind.u64.wrap k)).toNat : Int)) (h14 : ¬min (List.take (t8a - (0 : Nat)) (List.drop (0 : Nat) r7a)).length ((IntKind.u64.wrap (IntKind.u64.wrap (↑w.length : Int) * IntKind.u64.wrap k)).toNat - t8a) = (0 : Nat)) (hq : WpL X F.z1c 0 (lb Tryd.f53 (0 : Nat)) (z32 w k (t8a + min (List.take (t8a - (0 : Nat)) (List.drop (0 : Nat) r7a)).length ((IntKind.u64.wrap (IntKind.u64.wrap (↑w.length : Int) * IntKind.u64.wrap k)).toNat - t8a)) (List.take ((0 : Nat) + t8a) r7a ++ List.take (min (List.take (t8a - (0 : Nat)) (List.drop (0 : Nat) r7a)).length ((IntKind.u64.wrap (IntKind.u64.wrap (↑w.length : Int) * IntKind.u64.wrap k)).toNat - t8a)) (List.drop (0 : Nat) (List.take (t8a - (0 : Nat)) (List.drop (0 : Nat) r7a))) ++ List.drop ((0 : Nat) + t8a + (List.take (min (List.take (t8a - (0 : Nat)) (List.drop (0 : Nat) r7a)).length ((IntKind.u64.wrap (IntKind.u64.wrap (↑w.length : Int) * IntKind.u64.wrap k)).toNat - t8a)) (List.drop (0 : Nat) (List.take (t8a - (0 : Nat)) (List.drop (0 : Nat) r7a)))).length) r7a)).st Q) : WpL X F.z1c 0 (lb Tryd.f53 (0 : Nat)) (z32 w k t8a r7a).st Q :=
  zdm (zvz w k t8a r7a) (AllP.c (decide_eq_true h12) (AllP.c (by omega) (AllP.c ⟨(by omega), (by omega)⟩ (AllP.c (by omega) (AllP.c ⟨(by omega), (by omega)⟩ (AllP.c (by first | omega | (simp; done) | (simp only [List.length_take, List.length_drop, List.length_append, List.length_set] at *; omega)) (AllP.c (by first | omega | (simp; done) | (simp only [List.length_take, List.length_drop, List.length_append, List.length_set] at *; omega)) (AllP.c h14 (AllP.c (by first | omega | (simp; done) | (simp only [List.length_take, List.length_drop, List.length_append, List.length_set] at *; omega)) (AllP.c (by omega) (AllP.c ⟨(by omega), (by omega)⟩ trivial))))))))))) trivial trivial hq
theorem zw1 (w : List Int) (k : Int) (t8a : Nat) (r7a : List Int) : roundV X F.z1c (0 : Nat) (lb Tryd.f53 (0 : Nat)) (z32 w k t8a r7a) { ds := [false], rs := [], lo := [] } = .ok (z5c w k r7a) ⟨[], [], []⟩ ⟨[decide ((↑t8a : Int) < (↑(IntKind.u64.wrap (IntKind.u64.wrap (↑w.length : Int) * IntKind.u64.wrap k)).toNat : Int)) = false], [], []⟩ := by kernel_rfl
theorem zw0 {Q : Out → Prop} {w : List Int} {k : Int} (h2 : ¬k < (0 : Int)) (h4 : ¬IntKind.u64.wrap (IntKind.u64.wrap (IntKind.u64.wrap ((IntKind.u64.wrap (↑w.length : Int)).fdiv ((2 : Int) ^ (32 : Nat)) * (IntKind.u64.wrap k).fdiv ((2 : Int) ^ (32 : Nat))) + (IntKind.u64.wrap (IntKind.u64.wrap ((IntKind.u64.wrap (↑w.length : Int)).fdiv ((2 : Int) ^ (32 : Nat)) * IntKind.u64.wrap (↑(BitVec.ofInt (64 : Nat) (IntKind.u64.wrap k) &&& BitVec.ofInt (64 : Nat) (4294967295 : Int)).toNat : Int)) + (IntKind.u64.wrap (IntKind.u64.wrap (↑(BitVec.ofInt (64 : Nat) (IntKind.u64.wrap (↑w.length : Int)) &&& BitVec.ofInt (64 : Nat) (4294967295 : Int)).toNat : Int) * IntKind.u64.wrap (↑(BitVec.ofInt (64 : Nat) (IntKind.u64.wrap k) &&& BitVec.ofInt (64 : Nat) (4294967295 : Int)).toNat : Int))).fdiv ((2 : Int) ^ (32 : Nat)))).fdiv ((2 : Int) ^ (32 : Nat))) + (IntKind.u64.wrap (IntKind.u64.wrap (↑(BitVec.ofInt (64 : Nat) (IntKind.u64.wrap (IntKind.u64.wrap ((IntKind.u64.wrap (↑w.length : Int)).fdiv ((2 : Int) ^ (32 : Nat)) * IntKind.u64.wrap (↑(BitVec.ofInt (64 : Nat) (IntKind.u64.wrap k) &&& BitVec.ofInt (64 : Nat) (4294967295 : Int)).toNat : Int)) + (IntKind.u64.wrap (IntKind.u64.wrap (↑(BitVec.ofInt (64 : Nat) (IntKind.u64.wrap (↑w.length : Int)) &&& BitVec.ofInt (64 : Nat) (4294967295 : Int)).toNat : Int) * IntKind.u64.wrap (↑(BitVec.ofInt (64 : Nat) (IntKind.u64.wrap k) &&& BitVec.ofInt (64 : Nat) (4294967295 : Int)).toNat : Int))).fdiv ((2 : Int) ^ (32 : Nat)))) &&& BitVec.ofInt (64 : Nat) (4294967295 : Int)).toNat : Int) + IntKind.u64.wrap (IntKind.u64.wrap (↑(BitVec.ofInt (64 : Nat) (IntKind.u64.wrap (↑w.length : Int)) &&& BitVec.ofInt (64 : Nat) (4294967295 : Int)).toNat : Int) * (IntKind.u64.wrap k).fdiv ((2 : Int) ^ (32 : Nat))))).fdiv ((2 : Int) ^ (32 : Nat))) > (0 : Int)) (h6 : ¬IntKind.u64.wrap (IntKind.u64.wrap (↑w.length : Int) * IntKind.u64.wrap k) > (9223372036854775807 : Int)) (h7 : (-9223372036854775808 : Int) ≤ IntKind.u64.wrap (IntKind.u64.wrap (↑w.length : Int) * IntKind.u64.wrap k)) (h8 : (0 : Int) ≤ IntKind.u64.wrap (IntKind.u64.wrap (↑w.length : Int) * IntKind.u64.wrap k)) (h9 : IntKind.u64.wrap (IntKind.u64.wrap (↑w.length : Int) * IntKind.u64.wrap k) ≤ (↑(1099511627776 : Nat) : Int))  {t8a : Nat} {r7a : List Int} (e11 : r7a.length = (IntKind.u64.wrap (IntKind.u64.wrap (↑w.length : Int) * IntKind.u64.wrap k)).toNat) (h15 : ¬(↑t8a : Int) < (↑(IntKind.u64.wrap (IntKind.u64.wrap (↑w.length : Int) * IntKind.u64.wrap k)).toNat : Int)) (hq : Q (z5c w k r7a).out) : WpL X F.z1c 0 (lb Tryd.f53 (0 : Nat)) (z32 w k t8a r7a).st Q :=
  zdm (zw1 w k t8a r7a) (AllP.c (decide_eq_false h15) trivial) trivial trivial hq
section
variable {w : List Int} {K : Nat}
theorem lo_eq (hl : w.length ≤ 24) (hk : K ≤ 24) : IntKind.u64.wrap (IntKind.u64.wrap (w.length : Int) * IntKind.u64.wrap (K : Int)) = ((K * w.length : Nat) : Int) := by
  have h1 := Nat.mul_le_mul hk hl
  rw [z8j (i := w.length) (by omega), z8j (i := K) (by omega), ← Int.natCast_mul, Nat.mul_comm, z8j (by omega)]
theorem zth (hl : w.length ≤ 24) (h0 : w.length ≠ 0) (hk : K ≤ 24) (m : Nat) : ∀ j, K - j ≤ m → j ≤ K → 1 ≤ j →
    WpL X F.z1c 0 (lb Tryd.f53 0) (z32 w K (j * w.length) (rep w j ++ List.replicate ((K - j) * w.length) 0)).st (fun o => o = (z5c w K (rep w K)).out) := by
  have hLO := lo_eq hl hk
  have hmul := Nat.mul_le_mul hk hl
  have hKk : ¬ hiE (w.length : Int) (K : Int) > 0 := zgk ⟨w.length, by omega⟩ ⟨K, by omega⟩
  have hmin : min w.length (K * w.length) = w.length ∨ K = 0 := by
    cases K with
    | zero => exact .inr rfl
    | succ K => exact .inl (Nat.min_eq_left (by rw [Nat.succ_mul]; omega))
  induction m with
  | zero =>
    intro j h1 h2 h3
    obtain rfl : j = K := by omega
    have hm : min w.length (j * w.length) = w.length := by rcases hmin with h | h; exact h; omega
    rw [Nat.sub_self, Nat.zero_mul, List.replicate_zero, List.append_nil]
    apply zw0
    case hq => rfl
    all_goals first | exact hKk | (rw [hLO, Int.toNat_natCast, rep_len]) | (rw [hLO, Int.toNat_natCast]; omega) | (rw [hLO]; omega) | omega
  | succ m ih =>
    intro j h1 h2 h3
    by_cases hj : j = K
    · exact ih j (by omega) h2 h3
    · have hm : min w.length (K * w.length) = w.length := by rcases hmin with h | h; exact h; omega
      obtain ⟨c, hc, hc1, hcj, hcK⟩ : ∃ c, min (j * w.length) (K * w.length - j * w.length) = c * w.length ∧ 1 ≤ c ∧ c ≤ j ∧ j + c ≤ K := by
        rw [← Nat.sub_mul]
        by_cases hh : j ≤ K - j
        · exact ⟨j, Nat.min_eq_left (Nat.mul_le_mul_right _ hh), h3, Nat.le_refl _, by omega⟩
        · exact ⟨K - j, Nat.min_eq_right (Nat.mul_le_mul_right _ (by omega)), by omega, by omega, by omega⟩
      have hpos : w.length ≤ c * w.length := by
        have := Nat.mul_le_mul_right w.length hc1
        omega
      have hjK : (j + c) * w.length ≤ K * w.length := Nat.mul_le_mul_right _ hcK
      have hjl := rep_len w j
      have hrj : List.take (j * w.length - 0) (List.drop 0 (rep w j ++ List.replicate ((K - j) * w.length) 0)) = rep w j := by
        rw [List.drop_zero, Nat.sub_zero, ← hjl, List.take_left']
        rfl
      have e1 : min (rep w j).length (K * w.length - j * w.length) = c * w.length := by rw [hjl]; exact hc
      have e2 : List.take (c * w.length) (List.drop 0 (rep w j)) = rep w c := by
        rw [List.drop_zero, show j = c + (j - c) by omega, rep_add, ← rep_len w c, List.take_left']
        rfl
      have e3 : List.take (0 + j * w.length) (rep w j ++ List.replicate ((K - j) * w.length) 0) = rep w j := by
        rw [Nat.zero_add, ← hjl, List.take_left']
        rfl
      have e4 : List.drop (0 + j * w.length + (rep w c).length) (rep w j ++ List.replicate ((K - j) * w.length) 0) = List.replicate ((K - (j + c)) * w.length) 0 := by
        rw [Nat.zero_add, ← List.drop_drop, ← hjl, List.drop_left', List.drop_replicate, rep_len, ← Nat.sub_mul, Nat.sub_sub]
        rfl
      have hnext := ih (j + c) (by omega) hcK (by omega)
      have hlt : j * w.length < K * w.length := by rw [Nat.add_mul] at hjK; omega
      apply zvy
      case hq => rw [hLO, Int.toNat_natCast, hrj, e1, e2, e3, e4, ← rep_add, ← Nat.add_mul]; exact hnext
      all_goals first | exact hKk | (rw [hLO, Int.toNat_natCast, List.length_append, List.length_replicate, rep_len, ← Nat.add_mul, Nat.add_sub_cancel' h2]) | (rw [hLO, Int.toNat_natCast, hrj, e1]; omega) | (rw [hLO, Int.toNat_natCast]; omega) | (rw [hLO]; omega) | omega
theorem zdn (hl : w.length ≤ 24) (hk : K ≤ 24) : Runs X F.z1c [lD w, iD K] [] (rowR (rep w K)) := by
  have hLO := lo_eq hl hk
  have hmul := Nat.mul_le_mul hk hl
  have hKk : ¬ hiE (w.length : Int) (K : Int) > 0 := zgk ⟨w.length, by omega⟩ ⟨K, by omega⟩
  by_cases hz : K * w.length = 0
  · have hr : rep w K = [] := List.eq_nil_of_length_eq_zero (by rw [rep_len]; exact hz)
    have h := zvv (w := w) (k := (K : Int)) (r7az := []) (by omega) hKk (by rw [hLO]; omega) (by rw [hLO]; omega) (by rw [hLO]; omega) (by rw [hLO]; omega) (by rw [hLO, Int.toNat_natCast]; omega) (by
      rw [hLO, Int.toNat_natCast, hz]
      apply zvx
      case hq => rfl
      all_goals first | exact hKk | (rw [hLO, Int.toNat_natCast]; simp [hz]; done) | (rw [hLO, Int.toNat_natCast]; omega) | (rw [hLO]; omega) | omega)
    rw [hLO, Int.toNat_natCast, hz] at h
    rw [hr]
    exact h
  · have h0 : w.length ≠ 0 := fun h => hz (by rw [h, Nat.mul_zero])
    have hK : K ≠ 0 := fun h => hz (by rw [h, Nat.zero_mul])
    have hm : min w.length (K * w.length) = w.length := Nat.min_eq_left (by
      have := Nat.mul_le_mul_right w.length (show 1 ≤ K by omega)
      omega)
    have hloop := zth hl h0 hk K 1 (by omega) (by omega) (Nat.le_refl _)
    have e0 : rep w 1 = w := by unfold rep; simp
    have h := zvw (w := w) (k := (K : Int)) (r7az := rep w K) (by omega) hKk (by rw [hLO]; omega) (by rw [hLO]; omega) (by rw [hLO]; omega) (by rw [hLO]; omega) (by rw [hLO, Int.toNat_natCast, hm]; exact h0) (by
      rw [hLO, Int.toNat_natCast, hm]
      rw [e0, Nat.one_mul] at hloop
      have e5 : List.take 0 (List.replicate (K * w.length) (0 : Int)) ++ List.take w.length (List.drop 0 w) ++ List.drop (0 + (List.take w.length (List.drop 0 w)).length) (List.replicate (K * w.length) 0) = w ++ List.replicate ((K - 1) * w.length) 0 := by
        rw [List.take_zero, List.nil_append, List.drop_zero, List.take_length, List.drop_replicate, Nat.zero_add, Nat.sub_mul, Nat.one_mul]
      rw [e5]
      exact hloop)
    rw [hLO, Int.toNat_natCast, ← rep_len] at h
    exact h
end
end Go.PR.S

end

section
set_option maxRecDepth 20000
open Go Go.PR Go.Proofs Go.PR.S
namespace Go.PR.S
theorem zgq : X.ft F.z4o = some Tryd.f20 := by kernel_rfl
theorem zgr {n : Int} {d w : List Int} {m r1 : Int} (c2 : Runs X F.zk [alD n d, .imm2 .i64 [w]] [] (intR r1)) (h4 : r1 = 0) {b5 : Bool} (c6 : Runs X F.z27 [iD m, iD (-24 : Int), iD 24] [] (boolR b5)) (h8 : b5 = true) {xs9 : List Int} (c10 : Runs X F.z1q [.immI .i64 w] [] (rowR xs9)) (h11 : m < (0 : Int)) {xs12 : List Int} (c13 : Runs X F.z2k [.immI .i64 xs9] [] (rowR xs12)) (h14 : -m ≤ (9223372036854775807 : Int)) {xs15 : List Int} (c16 : Runs X F.zq [alD n d] [] (rowR xs15)) {xs17 : List Int} (c18 : Runs X F.z1c [.immI .i64 xs12, iD (-m)] [] (rowR xs17)) {xs19 : List Int} (c20 : Runs X F.z9 [.immI .i64 xs15, .immI .i64 xs17] [] (rowR xs19)) {xs21 : List Int} {r22 : Int} (c23 : Runs X F.z2u [.immI .i64 xs19] [] ⟨.tup [.rsl 600000 0 xs21.length, iD r22], [], [⟨true, .ints .i64 xs21⟩]⟩) : Runs X F.z4o [alD n d, .immI .i64 w, iD m] [] ⟨.tup [.rsl 600000 0 xs21.length, iD r22], [], [⟨true, .ints .i64 xs21⟩]⟩ :=
  RG zgq [true, false, false, true, true, true, true, true, true] [1 ≤ 1, 0 = 0 ∧ 1 = 1, (r1 != (0 : Int)) = false, (!b5) = false, decide (m < (0 : Int)) = true, 0 + xs9.length ≤ xs9.length, 0 = 0 ∧ xs9.length = xs9.length, inR (-m), 0 + xs12.length ≤ xs12.length, 0 = 0 ∧ xs12.length = xs12.length, 0 + xs15.length ≤ xs15.length, 0 = 0 ∧ xs15.length = xs15.length, 0 + xs17.length ≤ xs17.length, 0 = 0 ∧ xs17.length = xs17.length, 0 + xs19.length ≤ xs19.length, 0 = 0 ∧ xs19.length = xs19.length] (PO (PA ⟨(by omega), (by first | omega | (simp; done) | (simp at *; omega))⟩ (PA (bne_eq_false_iff_eq.2 h4) (PA (not_f h8) (PA (decide_eq_true h11) (PO (PA ⟨(by first | omega | (simp; done) | (simp at *; omega)), (by omega)⟩ (PA ⟨(by omega), h14⟩ (PO (PA ⟨(by first | omega | (simp; done) | (simp at *; omega)), (by omega)⟩ (PO (PA ⟨(by first | omega | (simp; done) | (simp at *; omega)), (by omega)⟩ (PO (PA ⟨(by first | omega | (simp; done) | (simp at *; omega)), (by omega)⟩ (PO (PA ⟨(by first | omega | (simp; done) | (simp at *; omega)), (by omega)⟩ trivial)))))))))))))))) (PC c2 (PC c6 (PC c10 (PC c13 (PC c16 (PC c18 (PC c20 (PC c23 PN)))))))) LN
theorem zgs {n : Int} {d w : List Int} {m r1 : Int} (c2 : Runs X F.zk [alD n d, .imm2 .i64 [w]] [] (intR r1)) (h4 : r1 = 0) {b5 : Bool} (c6 : Runs X F.z27 [iD m, iD (-24 : Int), iD 24] [] (boolR b5)) (h8 : b5 = true) {xs9 : List Int} (c10 : Runs X F.z1q [.immI .i64 w] [] (rowR xs9)) (h24 : ¬m < (0 : Int)) {xs25 : List Int} (c26 : Runs X F.zq [alD n d] [] (rowR xs25)) {xs27 : List Int} (c28 : Runs X F.z1c [.immI .i64 xs9, iD m] [] (rowR xs27)) {xs29 : List Int} (c30 : Runs X F.z9 [.immI .i64 xs25, .immI .i64 xs27] [] (rowR xs29)) {xs31 : List Int} {r32 : Int} (c33 : Runs X F.z2u [.immI .i64 xs29] [] ⟨.tup [.rsl 600000 0 xs31.length, iD r32], [], [⟨true, .ints .i64 xs31⟩]⟩) : Runs X F.z4o [alD n d, .immI .i64 w, iD m] [] ⟨.tup [.rsl 600000 0 xs31.length, iD r32], [], [⟨true, .ints .i64 xs31⟩]⟩ :=
  RG zgq [true, false, false, false, true, true, true, true] [1 ≤ 1, 0 = 0 ∧ 1 = 1, (r1 != (0 : Int)) = false, (!b5) = false, decide (m < (0 : Int)) = false, 0 + xs9.length ≤ xs9.length, 0 = 0 ∧ xs9.length = xs9.length, 0 + xs25.length ≤ xs25.length, 0 = 0 ∧ xs25.length = xs25.length, 0 + xs27.length ≤ xs27.length, 0 = 0 ∧ xs27.length = xs27.length, 0 + xs29.length ≤ xs29.length, 0 = 0 ∧ xs29.length = xs29.length] (PO (PA ⟨(by omega), (by first | omega | (simp; done) | (simp at *; omega))⟩ (PA (bne_eq_false_iff_eq.2 h4) (PA (not_f h8) (PA (decide_eq_false h24) (PO (PA ⟨(by first | omega | (simp; done) | (simp at *; omega)), (by omega)⟩ (PO (PA ⟨(by first | omega | (simp; done) | (simp at *; omega)), (by omega)⟩ (PO (PA ⟨(by first | omega | (simp; done) | (simp at *; omega)), (by omega)⟩ (PO (PA ⟨(by first | omega | (simp; done) | (simp at *; omega)), (by omega)⟩ trivial))))))))))))) (PC c2 (PC c6 (PC c10 (PC c26 (PC c28 (PC c30 (PC c33 PN))))))) LN
end Go.PR.S

end

section
set_option maxRecDepth 20000
namespace Go.PR.S
open Go Go.PR Go.Proofs Gp
theorem zij (w : List Int) (k : Nat) : rep w (k + 1) = rep w k ++ w := by
  rw [rep_add]
  unfold rep
  simp
theorem zj3 {w : List Int} {K : Nat} (hl : w.length ≤ 24) (hk : K ≤ 24) : Runs X F.z2f [lD w, iD K] [] (rowR (rep w K)) := by
  refine zyn ?_
  have key := loop_to (f := F.z2f) (b := 0) (body := lb Tryd.f51 0) (N := K) (o := zay (rep w K)) (st := fun i => z6y w ((K : Int) - i) (rep w i)) (fun i hi Q hq => ?_) (fun Q hq => ?_)
  · have e : rep w 0 = [] := by unfold rep; simp
    simpa [e] using key
  · have hm := Nat.mul_le_mul (show i ≤ 24 by omega) hl
    apply zyo
    case hq => rw [← zij, show (K : Int) - i - 1 = (K : Int) - ((i + 1 : Nat) : Int) by omega]; exact hq
    all_goals first | (rw [rep_len]; omega) | omega
  · apply zyp
    case hq => exact hq
    all_goals omega
theorem rep_Wd {m : Nat} {w : List Int} (h : Wd m w) (k : Nat) : Wd m (rep w k) := fun x hx => by
  unfold rep at hx
  obtain ⟨l, hl, hx⟩ := List.mem_flatten.1 hx
  rw [List.eq_of_mem_replicate hl] at hx
  exact h x hx
end Go.PR.S

end
