/- slices.Repeat, at short words and few times. -/
import Derived.Test.YtnhklcbddcoadaaDoorFwP12
import Derived.Test.YtnhklcbddcoadaaDoorFwMk
section
/- slices.Repeat, at short words and few times. -/
set_option linter.unusedVariables false
set_option linter.unusedSimpArgs false
set_option maxRecDepth 20000
namespace Go.PR.S
open Go Go.PR Go.Proofs Gp

def hiE (l k : Int) : Int := IntKind.u64.wrap (IntKind.u64.wrap (IntKind.u64.wrap ((IntKind.u64.wrap l).fdiv ((2 : Int) ^ (32 : Nat)) * (IntKind.u64.wrap k).fdiv ((2 : Int) ^ (32 : Nat))) + (IntKind.u64.wrap (IntKind.u64.wrap ((IntKind.u64.wrap l).fdiv ((2 : Int) ^ (32 : Nat)) * IntKind.u64.wrap (↑(BitVec.ofInt (64 : Nat) (IntKind.u64.wrap k) &&& BitVec.ofInt (64 : Nat) (4294967295 : Int)).toNat : Int)) + (IntKind.u64.wrap (IntKind.u64.wrap (↑(BitVec.ofInt (64 : Nat) (IntKind.u64.wrap l) &&& BitVec.ofInt (64 : Nat) (4294967295 : Int)).toNat : Int) * IntKind.u64.wrap (↑(BitVec.ofInt (64 : Nat) (IntKind.u64.wrap k) &&& BitVec.ofInt (64 : Nat) (4294967295 : Int)).toNat : Int))).fdiv ((2 : Int) ^ (32 : Nat)))).fdiv ((2 : Int) ^ (32 : Nat))) + (IntKind.u64.wrap (IntKind.u64.wrap (↑(BitVec.ofInt (64 : Nat) (IntKind.u64.wrap (IntKind.u64.wrap ((IntKind.u64.wrap l).fdiv ((2 : Int) ^ (32 : Nat)) * IntKind.u64.wrap (↑(BitVec.ofInt (64 : Nat) (IntKind.u64.wrap k) &&& BitVec.ofInt (64 : Nat) (4294967295 : Int)).toNat : Int)) + (IntKind.u64.wrap (IntKind.u64.wrap (↑(BitVec.ofInt (64 : Nat) (IntKind.u64.wrap l) &&& BitVec.ofInt (64 : Nat) (4294967295 : Int)).toNat : Int) * IntKind.u64.wrap (↑(BitVec.ofInt (64 : Nat) (IntKind.u64.wrap k) &&& BitVec.ofInt (64 : Nat) (4294967295 : Int)).toNat : Int))).fdiv ((2 : Int) ^ (32 : Nat)))) &&& BitVec.ofInt (64 : Nat) (4294967295 : Int)).toNat : Int) + IntKind.u64.wrap (IntKind.u64.wrap (↑(BitVec.ofInt (64 : Nat) (IntKind.u64.wrap l) &&& BitVec.ofInt (64 : Nat) (4294967295 : Int)).toNat : Int) * (IntKind.u64.wrap k).fdiv ((2 : Int) ^ (32 : Nat))))).fdiv ((2 : Int) ^ (32 : Nat)))

theorem hiE_small : ∀ l k : Fin 32, ¬ hiE (l.val : Int) (k.val : Int) > 0 := by decide +kernel

def rep (w : List Int) (k : Nat) : List Int := (List.replicate k w).flatten

theorem rep_len (w : List Int) (k : Nat) : (rep w k).length = k * w.length := by
  unfold rep
  induction k with
  | zero => simp
  | succ k ih => rw [List.replicate_succ, List.flatten_cons, List.length_append, ih, Nat.succ_mul, Nat.add_comm]

theorem rep_add (w : List Int) (a b : Nat) : rep w (a + b) = rep w a ++ rep w b := by
  unfold rep
  rw [← List.replicate_append_replicate, List.flatten_append]


theorem slices_RepeatSint64int64_r0_5_e (w : List Int) (k : Int) (t8a : Nat) (r7a : List Int) : roundV X F.slices_RepeatSint64int64 (0 : Nat) (lb Tryd.f53 (0 : Nat)) (slices_RepeatSint64int64_s0 w k t8a r7a) { ds := [true, true, true, false, false, false], rs := [], lo := [] } = .ok (OutL.normal (slices_RepeatSint64int64_s0 w k (t8a + min (List.take (t8a - (0 : Nat)) (List.drop (0 : Nat) r7a)).length ((IntKind.u64.wrap (IntKind.u64.wrap (↑w.length : Int) * IntKind.u64.wrap k)).toNat - t8a)) (List.take ((0 : Nat) + t8a) r7a ++ List.take (min (List.take (t8a - (0 : Nat)) (List.drop (0 : Nat) r7a)).length ((IntKind.u64.wrap (IntKind.u64.wrap (↑w.length : Int) * IntKind.u64.wrap k)).toNat - t8a)) (List.drop (0 : Nat) (List.take (t8a - (0 : Nat)) (List.drop (0 : Nat) r7a))) ++ List.drop ((0 : Nat) + t8a + (List.take (min (List.take (t8a - (0 : Nat)) (List.drop (0 : Nat) r7a)).length ((IntKind.u64.wrap (IntKind.u64.wrap (↑w.length : Int) * IntKind.u64.wrap k)).toNat - t8a)) (List.drop (0 : Nat) (List.take (t8a - (0 : Nat)) (List.drop (0 : Nat) r7a)))).length) r7a))) ⟨[], [], []⟩ ⟨[decide ((↑t8a : Int) < (↑(IntKind.u64.wrap (IntKind.u64.wrap (↑w.length : Int) * IntKind.u64.wrap k)).toNat : Int)) = true, (0 : Int) ≤ (↑t8a : Int), t8a ≤ (IntKind.u64.wrap (IntKind.u64.wrap (↑w.length : Int) * IntKind.u64.wrap k)).toNat ∧ (IntKind.u64.wrap (IntKind.u64.wrap (↑w.length : Int) * IntKind.u64.wrap k)).toNat ≤ (IntKind.u64.wrap (IntKind.u64.wrap (↑w.length : Int) * IntKind.u64.wrap k)).toNat, (0 : Int) ≤ (↑t8a : Int), (0 : Nat) ≤ t8a ∧ t8a ≤ (IntKind.u64.wrap (IntKind.u64.wrap (↑w.length : Int) * IntKind.u64.wrap k)).toNat, (0 : Nat) + (t8a - (0 : Nat)) ≤ r7a.length, (0 : Nat) + (t8a - (0 : Nat)) ≤ r7a.length, min (List.take (t8a - (0 : Nat)) (List.drop (0 : Nat) r7a)).length ((IntKind.u64.wrap (IntKind.u64.wrap (↑w.length : Int) * IntKind.u64.wrap k)).toNat - t8a) ≠ (0 : Nat), (0 : Nat) + t8a + ((IntKind.u64.wrap (IntKind.u64.wrap (↑w.length : Int) * IntKind.u64.wrap k)).toNat - t8a) ≤ r7a.length, (0 : Nat) + min (List.take (t8a - (0 : Nat)) (List.drop (0 : Nat) r7a)).length ((IntKind.u64.wrap (IntKind.u64.wrap (↑w.length : Int) * IntKind.u64.wrap k)).toNat - t8a) ≤ (List.take (t8a - (0 : Nat)) (List.drop (0 : Nat) r7a)).length, inR ((↑t8a : Int) + (↑(min (List.take (t8a - (0 : Nat)) (List.drop (0 : Nat) r7a)).length ((IntKind.u64.wrap (IntKind.u64.wrap (↑w.length : Int) * IntKind.u64.wrap k)).toNat - t8a)) : Int))], [], []⟩ := by kernel_rfl
theorem slices_RepeatSint64int64_r0_5 {Q : Out → Prop} {w : List Int} {k : Int} (h2 : ¬k < (0 : Int)) (h4 : ¬IntKind.u64.wrap (IntKind.u64.wrap (IntKind.u64.wrap ((IntKind.u64.wrap (↑w.length : Int)).fdiv ((2 : Int) ^ (32 : Nat)) * (IntKind.u64.wrap k).fdiv ((2 : Int) ^ (32 : Nat))) + (IntKind.u64.wrap (IntKind.u64.wrap ((IntKind.u64.wrap (↑w.length : Int)).fdiv ((2 : Int) ^ (32 : Nat)) * IntKind.u64.wrap (↑(BitVec.ofInt (64 : Nat) (IntKind.u64.wrap k) &&& BitVec.ofInt (64 : Nat) (4294967295 : Int)).toNat : Int)) + (IntKind.u64.wrap (IntKind.u64.wrap (↑(BitVec.ofInt (64 : Nat) (IntKind.u64.wrap (↑w.length : Int)) &&& BitVec.ofInt (64 : Nat) (4294967295 : Int)).toNat : Int) * IntKind.u64.wrap (↑(BitVec.ofInt (64 : Nat) (IntKind.u64.wrap k) &&& BitVec.ofInt (64 : Nat) (4294967295 : Int)).toNat : Int))).fdiv ((2 : Int) ^ (32 : Nat)))).fdiv ((2 : Int) ^ (32 : Nat))) + (IntKind.u64.wrap (IntKind.u64.wrap (↑(BitVec.ofInt (64 : Nat) (IntKind.u64.wrap (IntKind.u64.wrap ((IntKind.u64.wrap (↑w.length : Int)).fdiv ((2 : Int) ^ (32 : Nat)) * IntKind.u64.wrap (↑(BitVec.ofInt (64 : Nat) (IntKind.u64.wrap k) &&& BitVec.ofInt (64 : Nat) (4294967295 : Int)).toNat : Int)) + (IntKind.u64.wrap (IntKind.u64.wrap (↑(BitVec.ofInt (64 : Nat) (IntKind.u64.wrap (↑w.length : Int)) &&& BitVec.ofInt (64 : Nat) (4294967295 : Int)).toNat : Int) * IntKind.u64.wrap (↑(BitVec.ofInt (64 : Nat) (IntKind.u64.wrap k) &&& BitVec.ofInt (64 : Nat) (4294967295 : Int)).toNat : Int))).fdiv ((2 : Int) ^ (32 : Nat)))) &&& BitVec.ofInt (64 : Nat) (4294967295 : Int)).toNat : Int) + IntKind.u64.wrap (IntKind.u64.wrap (↑(BitVec.ofInt (64 : Nat) (IntKind.u64.wrap (↑w.length : Int)) &&& BitVec.ofInt (64 : Nat) (4294967295 : Int)).toNat : Int) * (IntKind.u64.wrap k).fdiv ((2 : Int) ^ (32 : Nat))))).fdiv ((2 : Int) ^ (32 : Nat))) > (0 : Int)) (h6 : ¬IntKind.u64.wrap (IntKind.u64.wrap (↑w.length : Int) * IntKind.u64.wrap k) > (9223372036854775807 : Int)) (h7 : (-9223372036854775808 : Int) ≤ IntKind.u64.wrap (IntKind.u64.wrap (↑w.length : Int) * IntKind.u64.wrap k)) (h8 : (0 : Int) ≤ IntKind.u64.wrap (IntKind.u64.wrap (↑w.length : Int) * IntKind.u64.wrap k)) (h9 : IntKind.u64.wrap (IntKind.u64.wrap (↑w.length : Int) * IntKind.u64.wrap k) ≤ (↑(1099511627776 : Nat) : Int))  {t8a : Nat} {r7a : List Int} (e11 : r7a.length = (IntKind.u64.wrap (IntKind.u64.wrap (↑w.length : Int) * IntKind.u64.wrap k)).toNat) (h12 : (↑t8a : Int) < (↑(IntKind.u64.wrap (IntKind.u64.wrap (↑w.length : Int) * IntKind.u64.wrap k)).toNat : Int)) (h14 : ¬min (List.take (t8a - (0 : Nat)) (List.drop (0 : Nat) r7a)).length ((IntKind.u64.wrap (IntKind.u64.wrap (↑w.length : Int) * IntKind.u64.wrap k)).toNat - t8a) = (0 : Nat)) (hq : WpL X F.slices_RepeatSint64int64 0 (lb Tryd.f53 (0 : Nat)) (slices_RepeatSint64int64_s0 w k (t8a + min (List.take (t8a - (0 : Nat)) (List.drop (0 : Nat) r7a)).length ((IntKind.u64.wrap (IntKind.u64.wrap (↑w.length : Int) * IntKind.u64.wrap k)).toNat - t8a)) (List.take ((0 : Nat) + t8a) r7a ++ List.take (min (List.take (t8a - (0 : Nat)) (List.drop (0 : Nat) r7a)).length ((IntKind.u64.wrap (IntKind.u64.wrap (↑w.length : Int) * IntKind.u64.wrap k)).toNat - t8a)) (List.drop (0 : Nat) (List.take (t8a - (0 : Nat)) (List.drop (0 : Nat) r7a))) ++ List.drop ((0 : Nat) + t8a + (List.take (min (List.take (t8a - (0 : Nat)) (List.drop (0 : Nat) r7a)).length ((IntKind.u64.wrap (IntKind.u64.wrap (↑w.length : Int) * IntKind.u64.wrap k)).toNat - t8a)) (List.drop (0 : Nat) (List.take (t8a - (0 : Nat)) (List.drop (0 : Nat) r7a)))).length) r7a)).st Q) : WpL X F.slices_RepeatSint64int64 0 (lb Tryd.f53 (0 : Nat)) (slices_RepeatSint64int64_s0 w k t8a r7a).st Q :=
  roundV_path (slices_RepeatSint64int64_r0_5_e w k t8a r7a) (AllP.c (decide_eq_true h12) (AllP.c (by omega) (AllP.c ⟨(by omega), (by omega)⟩ (AllP.c (by omega) (AllP.c ⟨(by omega), (by omega)⟩ (AllP.c (by first | omega | (simp; done) | (simp only [List.length_take, List.length_drop, List.length_append, List.length_set] at *; omega)) (AllP.c (by first | omega | (simp; done) | (simp only [List.length_take, List.length_drop, List.length_append, List.length_set] at *; omega)) (AllP.c h14 (AllP.c (by first | omega | (simp; done) | (simp only [List.length_take, List.length_drop, List.length_append, List.length_set] at *; omega)) (AllP.c (by omega) (AllP.c ⟨(by omega), (by omega)⟩ trivial))))))))))) trivial trivial hq
theorem slices_RepeatSint64int64_r0_6_e (w : List Int) (k : Int) (t8a : Nat) (r7a : List Int) : roundV X F.slices_RepeatSint64int64 (0 : Nat) (lb Tryd.f53 (0 : Nat)) (slices_RepeatSint64int64_s0 w k t8a r7a) { ds := [false], rs := [], lo := [] } = .ok (slices_RepeatSint64int64_o0_1 w k r7a) ⟨[], [], []⟩ ⟨[decide ((↑t8a : Int) < (↑(IntKind.u64.wrap (IntKind.u64.wrap (↑w.length : Int) * IntKind.u64.wrap k)).toNat : Int)) = false], [], []⟩ := by kernel_rfl
theorem slices_RepeatSint64int64_r0_6 {Q : Out → Prop} {w : List Int} {k : Int} (h2 : ¬k < (0 : Int)) (h4 : ¬IntKind.u64.wrap (IntKind.u64.wrap (IntKind.u64.wrap ((IntKind.u64.wrap (↑w.length : Int)).fdiv ((2 : Int) ^ (32 : Nat)) * (IntKind.u64.wrap k).fdiv ((2 : Int) ^ (32 : Nat))) + (IntKind.u64.wrap (IntKind.u64.wrap ((IntKind.u64.wrap (↑w.length : Int)).fdiv ((2 : Int) ^ (32 : Nat)) * IntKind.u64.wrap (↑(BitVec.ofInt (64 : Nat) (IntKind.u64.wrap k) &&& BitVec.ofInt (64 : Nat) (4294967295 : Int)).toNat : Int)) + (IntKind.u64.wrap (IntKind.u64.wrap (↑(BitVec.ofInt (64 : Nat) (IntKind.u64.wrap (↑w.length : Int)) &&& BitVec.ofInt (64 : Nat) (4294967295 : Int)).toNat : Int) * IntKind.u64.wrap (↑(BitVec.ofInt (64 : Nat) (IntKind.u64.wrap k) &&& BitVec.ofInt (64 : Nat) (4294967295 : Int)).toNat : Int))).fdiv ((2 : Int) ^ (32 : Nat)))).fdiv ((2 : Int) ^ (32 : Nat))) + (IntKind.u64.wrap (IntKind.u64.wrap (↑(BitVec.ofInt (64 : Nat) (IntKind.u64.wrap (IntKind.u64.wrap ((IntKind.u64.wrap (↑w.length : Int)).fdiv ((2 : Int) ^ (32 : Nat)) * IntKind.u64.wrap (↑(BitVec.ofInt (64 : Nat) (IntKind.u64.wrap k) &&& BitVec.ofInt (64 : Nat) (4294967295 : Int)).toNat : Int)) + (IntKind.u64.wrap (IntKind.u64.wrap (↑(BitVec.ofInt (64 : Nat) (IntKind.u64.wrap (↑w.length : Int)) &&& BitVec.ofInt (64 : Nat) (4294967295 : Int)).toNat : Int) * IntKind.u64.wrap (↑(BitVec.ofInt (64 : Nat) (IntKind.u64.wrap k) &&& BitVec.ofInt (64 : Nat) (4294967295 : Int)).toNat : Int))).fdiv ((2 : Int) ^ (32 : Nat)))) &&& BitVec.ofInt (64 : Nat) (4294967295 : Int)).toNat : Int) + IntKind.u64.wrap (IntKind.u64.wrap (↑(BitVec.ofInt (64 : Nat) (IntKind.u64.wrap (↑w.length : Int)) &&& BitVec.ofInt (64 : Nat) (4294967295 : Int)).toNat : Int) * (IntKind.u64.wrap k).fdiv ((2 : Int) ^ (32 : Nat))))).fdiv ((2 : Int) ^ (32 : Nat))) > (0 : Int)) (h6 : ¬IntKind.u64.wrap (IntKind.u64.wrap (↑w.length : Int) * IntKind.u64.wrap k) > (9223372036854775807 : Int)) (h7 : (-9223372036854775808 : Int) ≤ IntKind.u64.wrap (IntKind.u64.wrap (↑w.length : Int) * IntKind.u64.wrap k)) (h8 : (0 : Int) ≤ IntKind.u64.wrap (IntKind.u64.wrap (↑w.length : Int) * IntKind.u64.wrap k)) (h9 : IntKind.u64.wrap (IntKind.u64.wrap (↑w.length : Int) * IntKind.u64.wrap k) ≤ (↑(1099511627776 : Nat) : Int))  {t8a : Nat} {r7a : List Int} (e11 : r7a.length = (IntKind.u64.wrap (IntKind.u64.wrap (↑w.length : Int) * IntKind.u64.wrap k)).toNat) (h15 : ¬(↑t8a : Int) < (↑(IntKind.u64.wrap (IntKind.u64.wrap (↑w.length : Int) * IntKind.u64.wrap k)).toNat : Int)) (hq : Q (slices_RepeatSint64int64_o0_1 w k r7a).out) : WpL X F.slices_RepeatSint64int64 0 (lb Tryd.f53 (0 : Nat)) (slices_RepeatSint64int64_s0 w k t8a r7a).st Q :=
  roundV_path (slices_RepeatSint64int64_r0_6_e w k t8a r7a) (AllP.c (decide_eq_false h15) trivial) trivial trivial hq

section
variable {w : List Int} {K : Nat}

theorem lo_eq (hl : w.length ≤ 24) (hk : K ≤ 24) : IntKind.u64.wrap (IntKind.u64.wrap (w.length : Int) * IntKind.u64.wrap (K : Int)) = ((K * w.length : Nat) : Int) := by
  have h1 := Nat.mul_le_mul hk hl
  rw [wrap_u64_nat (i := w.length) (by omega), wrap_u64_nat (i := K) (by omega), ← Int.natCast_mul, Nat.mul_comm, wrap_u64_nat (by omega)]

theorem repeat_loop (hl : w.length ≤ 24) (h0 : w.length ≠ 0) (hk : K ≤ 24) (m : Nat) : ∀ j, K - j ≤ m → j ≤ K → 1 ≤ j →
    WpL X F.slices_RepeatSint64int64 0 (lb Tryd.f53 0) (slices_RepeatSint64int64_s0 w K (j * w.length) (rep w j ++ List.replicate ((K - j) * w.length) 0)).st (fun o => o = (slices_RepeatSint64int64_o0_1 w K (rep w K)).out) := by
  have hLO := lo_eq hl hk
  have hmul := Nat.mul_le_mul hk hl
  have hKk : ¬ hiE (w.length : Int) (K : Int) > 0 := hiE_small ⟨w.length, by omega⟩ ⟨K, by omega⟩
  have hmin : min w.length (K * w.length) = w.length ∨ K = 0 := by
    cases K with
    | zero => exact .inr rfl
    | succ K => exact .inl (Nat.min_eq_left (by rw [Nat.succ_mul]; omega))
  induction m with
  | zero =>
    intro j h1 h2 h3
    obtain rfl : j = K := by omega
    have hm : min w.length (j * w.length) = w.length := by rcases hmin with h | h; exact h; omega
    rw [Nat.sub_self, Nat.zero_mul, List.replicate_zero, List.append_nil]
    apply slices_RepeatSint64int64_r0_6
    case hq => rfl
    all_goals first | exact hKk | (rw [hLO, Int.toNat_natCast, rep_len]) | (rw [hLO, Int.toNat_natCast]; omega) | (rw [hLO]; omega) | omega
  | succ m ih =>
    intro j h1 h2 h3
    by_cases hj : j = K
    · exact ih j (by omega) h2 h3
    · have hm : min w.length (K * w.length) = w.length := by rcases hmin with h | h; exact h; omega
      obtain ⟨c, hc, hc1, hcj, hcK⟩ : ∃ c, min (j * w.length) (K * w.length - j * w.length) = c * w.length ∧ 1 ≤ c ∧ c ≤ j ∧ j + c ≤ K := by
        rw [← Nat.sub_mul]
        by_cases hh : j ≤ K - j
        · exact ⟨j, Nat.min_eq_left (Nat.mul_le_mul_right _ hh), h3, Nat.le_refl _, by omega⟩
        · exact ⟨K - j, Nat.min_eq_right (Nat.mul_le_mul_right _ (by omega)), by omega, by omega, by omega⟩
      have hpos : w.length ≤ c * w.length := by
        have := Nat.mul_le_mul_right w.length hc1
        omega
      have hjK : (j + c) * w.length ≤ K * w.length := Nat.mul_le_mul_right _ hcK
      have hjl := rep_len w j
      have hrj : List.take (j * w.length - 0) (List.drop 0 (rep w j ++ List.replicate ((K - j) * w.length) 0)) = rep w j := by
        rw [List.drop_zero, Nat.sub_zero, ← hjl, List.take_left']
        rfl
      have e1 : min (rep w j).length (K * w.length - j * w.length) = c * w.length := by rw [hjl]; exact hc
      have e2 : List.take (c * w.length) (List.drop 0 (rep w j)) = rep w c := by
        rw [List.drop_zero, show j = c + (j - c) by omega, rep_add, ← rep_len w c, List.take_left']
        rfl
      have e3 : List.take (0 + j * w.length) (rep w j ++ List.replicate ((K - j) * w.length) 0) = rep w j := by
        rw [Nat.zero_add, ← hjl, List.take_left']
        rfl
      have e4 : List.drop (0 + j * w.length + (rep w c).length) (rep w j ++ List.replicate ((K - j) * w.length) 0) = List.replicate ((K - (j + c)) * w.length) 0 := by
        rw [Nat.zero_add, ← List.drop_drop, ← hjl, List.drop_left', List.drop_replicate, rep_len, ← Nat.sub_mul, Nat.sub_sub]
        rfl
      have hnext := ih (j + c) (by omega) hcK (by omega)
      have hlt : j * w.length < K * w.length := by rw [Nat.add_mul] at hjK; omega
      apply slices_RepeatSint64int64_r0_5
      case hq => rw [hLO, Int.toNat_natCast, hrj, e1, e2, e3, e4, ← rep_add, ← Nat.add_mul]; exact hnext
      all_goals first | exact hKk | (rw [hLO, Int.toNat_natCast, List.length_append, List.length_replicate, rep_len, ← Nat.add_mul, Nat.add_sub_cancel' h2]) | (rw [hLO, Int.toNat_natCast, hrj, e1]; omega) | (rw [hLO, Int.toNat_natCast]; omega) | (rw [hLO]; omega) | omega

theorem run_Repeat (hl : w.length ≤ 24) (hk : K ≤ 24) : Runs X F.slices_RepeatSint64int64 [lD w, iD K] [] (rowR (rep w K)) := by
  have hLO := lo_eq hl hk
  have hmul := Nat.mul_le_mul hk hl
  have hKk : ¬ hiE (w.length : Int) (K : Int) > 0 := hiE_small ⟨w.length, by omega⟩ ⟨K, by omega⟩
  by_cases hz : K * w.length = 0
  · have hr : rep w K = [] := List.eq_nil_of_length_eq_zero (by rw [rep_len]; exact hz)
    have h := slices_RepeatSint64int64_p1 (w := w) (k := (K : Int)) (r7az := []) (by omega) hKk (by rw [hLO]; omega) (by rw [hLO]; omega) (by rw [hLO]; omega) (by rw [hLO]; omega) (by rw [hLO, Int.toNat_natCast]; omega) (by
      rw [hLO, Int.toNat_natCast, hz]
      apply slices_RepeatSint64int64_r0_3
      case hq => rfl
      all_goals first | exact hKk | (rw [hLO, Int.toNat_natCast]; simp [hz]; done) | (rw [hLO, Int.toNat_natCast]; omega) | (rw [hLO]; omega) | omega)
    rw [hLO, Int.toNat_natCast, hz] at h
    rw [hr]
    exact h
  · have h0 : w.length ≠ 0 := fun h => hz (by rw [h, Nat.mul_zero])
    have hK : K ≠ 0 := fun h => hz (by rw [h, Nat.zero_mul])
    have hm : min w.length (K * w.length) = w.length := Nat.min_eq_left (by
      have := Nat.mul_le_mul_right w.length (show 1 ≤ K by omega)
      omega)
    have hloop := repeat_loop hl h0 hk K 1 (by omega) (by omega) (Nat.le_refl _)
    have e0 : rep w 1 = w := by unfold rep; simp
    have h := slices_RepeatSint64int64_p2 (w := w) (k := (K : Int)) (r7az := rep w K) (by omega) hKk (by rw [hLO]; omega) (by rw [hLO]; omega) (by rw [hLO]; omega) (by rw [hLO]; omega) (by rw [hLO, Int.toNat_natCast, hm]; exact h0) (by
      rw [hLO, Int.toNat_natCast, hm]
      rw [e0, Nat.one_mul] at hloop
      have e5 : List.take 0 (List.replicate (K * w.length) (0 : Int)) ++ List.take w.length (List.drop 0 w) ++ List.drop (0 + (List.take w.length (List.drop 0 w)).length) (List.replicate (K * w.length) 0) = w ++ List.replicate ((K - 1) * w.length) 0 := by
        rw [List.take_zero, List.nil_append, List.drop_zero, List.take_length, List.drop_replicate, Nat.zero_add, Nat.sub_mul, Nat.one_mul]
      rw [e5]
      exact hloop)
    rw [hLO, Int.toNat_natCast, ← rep_len] at h
    exact h
end

end Go.PR.S

end

section
/- Path lemmas (written by Vc.lean). -/
set_option linter.unusedVariables false
set_option linter.unusedSimpArgs false
set_option maxRecDepth 20000
open Go Go.PR Go.Proofs Go.PR.S
namespace Go.PR.S
end Go.PR.S

end

section
/- Powers in the group: the reference and the implementation answer alike; the law comes to true. -/
set_option linter.unusedVariables false
set_option linter.unusedSimpArgs false
set_option maxRecDepth 20000
namespace Go.PR.S
open Go Go.PR Go.Proofs Gp

theorem rep_succ (w : List Int) (k : Nat) : rep w (k + 1) = rep w k ++ w := by
  rw [rep_add]
  unfold rep
  simp

theorem run_l07Power {w : List Int} {K : Nat} (hl : w.length ≤ 24) (hk : K ≤ 24) : Runs X F.spec_l07Power [lD w, iD K] [] (rowR (rep w K)) := by
  refine spec_l07Power_p1 ?_
  have key := loop_to (f := F.spec_l07Power) (b := 0) (body := lb Tryd.f51 0) (N := K) (o := spec_l07Power_o0_1 (rep w K)) (st := fun i => spec_l07Power_s0 w ((K : Int) - i) (rep w i)) (fun i hi Q hq => ?_) (fun Q hq => ?_)
  · have e : rep w 0 = [] := by unfold rep; simp
    simpa [e] using key
  · have hm := Nat.mul_le_mul (show i ≤ 24 by omega) hl
    apply spec_l07Power_r0_1
    case hq => rw [← rep_succ, show (K : Int) - i - 1 = (K : Int) - ((i + 1 : Nat) : Int) by omega]; exact hq
    all_goals first | (rw [rep_len]; omega) | omega
  · apply spec_l07Power_r0_2
    case hq => exact hq
    all_goals omega

end Go.PR.S

end
