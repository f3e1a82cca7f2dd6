/- Alphabets: both sides ask the same. -/
import Derived.Test.YtkoednplncfgaaaDoorFwP9
import Derived.Test.YtkoednplncfgaaaDoorFwG5
set_option linter.unusedVariables false
set_option linter.unusedSimpArgs false
set_option maxRecDepth 20000
namespace Go.PR.S
open Go Go.PR Go.Proofs Gp
abbrev alR (n : Int) (d : List Int) : Ret := ⟨.agg [.int .i64 n, .rsl 600000 0 d.length], [], [⟨true, .ints .i64 d⟩]⟩
def dm (d : List Int) (a : Nat) : Nat := (d.getD a 0).toNat
def alOK (n : Int) (d : List Int) : Bool :=
  decide (0 ≤ n ∧ n ≤ 8) && decide ((d.length : Int) = n) && (d.all fun x => decide (0 ≤ x ∧ x ≤ ((2 ^ d.length : Nat) : Int) - 1)) &&
    (List.range d.length).all fun a => (dm d a).testBit a && (List.range d.length).all fun b => (dm d a).testBit b == (dm d b).testBit a
structure Al (n : Nat) (d : List Int) : Prop where
  small : n ≤ 8
  len : d.length = n
  mask : ∀ a, a < n → d.getD a 0 = dm d a ∧ dm d a < 2 ^ n
  refl : ∀ a, a < n → (dm d a).testBit a = true
  sym : ∀ a b, a < n → b < n → (dm d a).testBit b = (dm d b).testBit a
theorem Al.of {n : Int} {d : List Int} (h : alOK n d = true) : n = (n.toNat : Nat) ∧ Al n.toNat d := by
  unfold alOK at h
  simp only [Bool.and_eq_true, decide_eq_true_eq, List.all_eq_true, List.mem_range, beq_iff_eq] at h
  obtain ⟨⟨⟨h1, h2⟩, h3⟩, h4⟩ := h
  have hn : d.length = n.toNat := by omega
  refine ⟨by omega, ⟨by omega, hn, fun a ha => ?_, fun a ha => (h4 a (by omega)).1, fun a b ha hb => (h4 a (by omega)).2 b (by omega)⟩⟩
  have hl : a < d.length := by omega
  have := h3 d[a] (List.getElem_mem hl)
  unfold dm
  rw [getD_lt hl, ← hn]
  have hp := Nat.two_pow_pos d.length
  constructor
  · omega
  · omega
theorem Al.small63 {n : Nat} {d : List Int} (h : Al n d) {a : Nat} (ha : a < n) : dm d a < 2 ^ 63 :=
  Nat.lt_of_lt_of_le (h.mask a ha).2 (Nat.pow_le_pow_right (by omega) (by have := h.small; omega))
theorem zsj (d : List Int) (hd : d.length ≤ 8) : Runs X F.z5t [lD d] [] (boolR (d.all fun x => decide (0 ≤ x ∧ x ≤ ((2 ^ d.length : Nat) : Int) - 1))) := by
  have h1 : (2 ^ d.length : Nat) ≤ 2 ^ 8 := Nat.pow_le_pow_right (by omega) hd
  have hp := Nat.two_pow_pos d.length
  have h2 := zh4 d 0 (((2 ^ d.length : Nat) : Int) - 1) (by unfold B40; omega)
  exact zlh (by omega) (z5f (by omega)) (by omega) (by omega) h2
def col (d : List Int) (i k : Nat) : Nat := mkM (fun a => (dm d a).testBit k) i
def cvL (d : List Int) : List Int := (List.range d.length).map fun k => ((col d d.length k : Nat) : Int)
theorem col_lt (d : List Int) (i k : Nat) : col d i k < 2 ^ i := mkM_lt _ _
def cvI (d : List Int) (i j : Nat) : List Int := (List.range d.length).map fun k => ((col d i k ||| (if k ∈ (bitsN (dm d i)).take j then 2 ^ i else 0) : Nat) : Int)
theorem cvI_get {d : List Int} {i j k : Nat} (hk : k < d.length) : (cvI d i j).getD k 0 = ((col d i k ||| (if k ∈ (bitsN (dm d i)).take j then 2 ^ i else 0) : Nat) : Int) := by
  unfold cvI
  rw [getD_lt (by simpa using hk)]
  simp
theorem zk4 {d : List Int} {i : Nat} (h : dm d i < 2 ^ 63) : cvI d i (bitsN (dm d i)).length = cvI d (i + 1) 0 := by
  unfold cvI
  apply List.map_congr_left
  intro k hk
  rw [List.take_length, List.take_zero]
  simp only [List.not_mem_nil, if_false, Nat.or_zero]
  congr 1
  show _ = mkM _ i ||| _
  by_cases hb : (dm d i).testBit k = true
  · rw [if_pos ((z3p h).2 hb), if_pos hb]; rfl
  · rw [if_neg (fun hm => hb ((z3p h).1 hm)), if_neg hb]; rfl
theorem cvI_set {d : List Int} {i j : Nat} (hi : i ≤ 61) (hj : j < (bitsN (dm d i)).length) (hk : (bitsN (dm d i))[j] < d.length) :
    (cvI d i j).set (bitsN (dm d i))[j] (ior ((cvI d i j).getD (bitsN (dm d i))[j] 0) ((2 ^ i : Nat) : Int)) = cvI d i (j + 1) := by
  have b1 : ∀ k, (col d i k ||| (if k ∈ (bitsN (dm d i)).take j then 2 ^ i else 0)) < 2 ^ 63 := fun k => by
    refine Nat.or_lt_two_pow ?_ ?_
    · exact Nat.lt_of_lt_of_le (col_lt d i k) (Nat.pow_le_pow_right (by omega) (by omega))
    · split
      · exact pow62 (by omega)
      · omega
  apply List.ext_getElem
  · simp [cvI]
  · intro k h1 h2
    have hkd : k < d.length := by simpa [cvI] using h2
    rw [List.getElem_set]
    have e2 : (cvI d i (j + 1))[k] = ((col d i k ||| (if k ∈ (bitsN (dm d i)).take (j + 1) then 2 ^ i else 0) : Nat) : Int) := by
      rw [← getD_lt h2]; exact cvI_get hkd
    rw [e2, List.take_succ_eq_append_getElem hj]
    split
    · rename_i e
      subst e
      rw [cvI_get hk, ior_nat (b1 _) (pow62 (by omega))]
      congr 1
      apply Nat.eq_of_testBit_eq
      intro q
      simp only [Nat.testBit_or, List.mem_append, List.mem_singleton, or_true, if_true]
      split <;> simp
    · rename_i e
      have e3 : (cvI d i j)[k]'(by simpa [cvI] using hkd) = ((col d i k ||| (if k ∈ (bitsN (dm d i)).take j then 2 ^ i else 0) : Nat) : Int) := by
        rw [← getD_lt (by simpa [cvI] using hkd)]; exact cvI_get hkd
      rw [e3]
      have : (k ∈ (bitsN (dm d i)).take j ++ [(bitsN (dm d i))[j]]) ↔ k ∈ (bitsN (dm d i)).take j := by
        rw [List.mem_append, List.mem_singleton]
        exact ⟨fun h => h.resolve_right (fun e' => e e'.symm), .inl⟩
      simp only [this]
theorem zas {m j : Nat} (h : j < (bitsN m).length) : (bitsL m).getD j 0 = (((bitsN m)[j] : Nat) : Int) := by
  unfold bitsL
  rw [getD_lt (by simpa using h)]; simp
theorem z6o (m : Nat) : (bitsN m).length ≤ 63 := by
  unfold bitsN
  exact Nat.le_trans (List.length_filter_le _ _) (by simp)
theorem zso {d : List Int} (hl : d.length ≤ 24) (hd : ∀ x ∈ d, 0 ≤ x ∧ x ≤ ((2 ^ d.length : Nat) : Int) - 1) : Runs X F.z1a [lD d] [] (rowR (cvL d)) := by
  have hdm : ∀ a, a < d.length → d.getD a 0 = dm d a ∧ dm d a < 2 ^ d.length := fun a ha => by
    have := hd d[a] (List.getElem_mem ha)
    unfold dm
    rw [getD_lt ha]
    have hp := Nat.two_pow_pos d.length
    constructor <;> omega
  have clen : ∀ i j, (cvI d i j).length = d.length := fun i j => by simp [cvI]
  have e0 : List.replicate d.length 0 = cvI d 0 0 := by
    apply List.ext_getElem
    · simp [cvI]
    · intro k h1 h2
      have hk : k < d.length := by simpa using h1
      rw [← getD_lt h2, cvI_get hk]
      simp [col, mkM]
  have eN : cvI d d.length 0 = cvL d := by
    unfold cvI cvL
    apply List.map_congr_left
    intro k hk
    simp
  have hres := zm5 (d := d) (r3az := cvL d) (by omega) (by
    rw [e0]
    refine loop_to (N := d.length) (st := fun i => z5u d i (cvI d i 0)) (fun i hi Q hq => ?_) (fun Q hq => ?_)
    · obtain ⟨hm1, hm2⟩ := hdm i hi
      have h63 : dm d i < 2 ^ 63 := Nat.lt_of_lt_of_le hm2 (Nat.pow_le_pow_right (by omega) (by omega))
      have c1 := z4b h63
      rw [← hm1] at c1
      have hlen : (bitsN (dm d i)).length = (bitsL (dm d i)).length := by simp [bitsL]
      have hb63 := z6o (dm d i)
      have hin : WL F.z1a 2 Tryd.f165 1 (z4r d i (bitsL (dm d i)) 0 (cvI d i 0)) (z7y d i (cvI d (i + 1) 0)) := by
        refine loop_to (N := (bitsN (dm d i)).length) (st := fun j => z4r d i (bitsL (dm d i)) j (cvI d i j)) (fun j hj Q hq => ?_) (fun Q hq => ?_)
        · have hg := zas hj
          have hbit := (z3p h63).1 (List.getElem_mem hj)
          have hklt : (bitsN (dm d i))[j] < d.length := bit_lt hm2 hbit
          have c2 := z5f (i := i) (by omega)
          apply zm8
          case hq =>
            simp only [Nat.zero_add, hg, Int.toNat_natCast]
            rw [cvI_set (by omega) hj hklt]
            exact hq
          all_goals first | exact c1 | exact c2 | exact clen i j | (rw [Nat.zero_add, hg]; omega) | (rw [← hlen]; omega) | omega
        · rw [zk4 h63]
          apply zm9
          case hq => exact hq
          all_goals first | exact c1 | exact clen _ _ | (rw [← hlen]; omega) | omega
      apply zm6
      case hq => exact hq
      all_goals first | exact c1 | exact hin | exact clen _ _ | omega
    · rw [eN]
      apply zm7
      case hq => exact hq
      all_goals first | (rw [← eN]; exact clen _ _) | omega)
  have : d.length = (cvL d).length := by simp [cvL]
  unfold rowR
  rw [← this]
  exact hres
theorem zee {d : List Int} {k : Nat} (hk : k < d.length) (hm : d.getD k 0 = dm d k) (hlt : dm d k < 2 ^ d.length) :
    (cvL d).getD k 0 = d.getD k 0 ↔ ((List.range d.length).all fun b => (dm d k).testBit b == (dm d b).testBit k) = true := by
  have e1 : (cvL d).getD k 0 = ((col d d.length k : Nat) : Int) := by
    unfold cvL; rw [getD_lt (by simpa using hk)]; simp
  rw [e1, hm, List.all_eq_true]
  constructor
  · intro h b hb
    have h' : col d d.length k = dm d k := by omega
    have := congrArg (fun x => x.testBit b) h'
    simp only [col, mkM_bit] at this
    rw [← this]
    simp [List.mem_range.1 hb]
  · intro h
    congr 1
    apply Nat.eq_of_testBit_eq
    intro b
    rw [col, mkM_bit]
    by_cases hb : b < d.length
    · have := h b (List.mem_range.2 hb)
      simp only [beq_iff_eq] at this
      simp [hb, this]
    · rw [Nat.testBit_lt_two_pow (Nat.lt_of_lt_of_le hlt (Nat.pow_le_pow_right (by omega) (by omega)))]
      simp [hb]
theorem zsg (n : Int) (d : List Int) (hl : d.length ≤ B40) : Runs X F.z12 [alD n d] [] (boolR (alOK n d)) := by
  have c1 := z5d n 0 8
  by_cases h1 : 0 ≤ n ∧ n ≤ 8
  · by_cases h2 : (d.length : Int) = n
    · have c3 := zsj d (by omega)
      cases h3 : (d.all fun x => decide (0 ≤ x ∧ x ≤ ((2 ^ d.length : Nat) : Int) - 1)) with
      | false =>
        have : alOK n d = false := by unfold alOK; rw [h3]; simp
        rw [this]
        rw [h3] at c3
        exact zl0 c1 (by simpa using h1) h2 c3 rfl
      | true =>
        rw [h3] at c3
        have hd : ∀ x ∈ d, 0 ≤ x ∧ x ≤ ((2 ^ d.length : Nat) : Int) - 1 := fun x hx => by simpa using List.all_eq_true.1 h3 x hx
        have hdm : ∀ a, a < d.length → d.getD a 0 = dm d a ∧ dm d a < 2 ^ d.length := fun a ha => by
          have := hd d[a] (List.getElem_mem ha)
          unfold dm
          rw [getD_lt ha]
          have hp := Nat.two_pow_pos d.length
          constructor <;> omega
        have c4 := zso (by omega) hd
        have clen : (cvL d).length = d.length := by simp [cvL]
        have hlp := z2s (f := F.z12) (b := 0) (body := lb Tryd.f129 0) (N := d.length) (oF := z5s) (oT := z7v) (st := fun i => z3f n d (cvL d) i)
          (p := fun a => (dm d a).testBit a && (List.range d.length).all fun b => (dm d a).testBit b == (dm d b).testBit a)
          (fun i hi hp Q hq => ?_) (fun i hi hp Q hq => ?_) (fun Q hq => ?_)
        · have e : alOK n d = ((List.range d.length).all fun a => (dm d a).testBit a && (List.range d.length).all fun b => (dm d a).testBit b == (dm d b).testBit a) := by
            unfold alOK; rw [h3]; simp [h1, h2]
          rw [e]
          cases hb : ((List.range d.length).all fun a => (dm d a).testBit a && (List.range d.length).all fun b => (dm d a).testBit b == (dm d b).testBit a) with
          | true => rw [hb] at hlp; exact zl2 c1 (by simpa using h1) h2 c3 rfl c4 hlp
          | false => rw [hb] at hlp; exact zl1 c1 (by simpa using h1) h2 c3 rfl c4 hlp
        · obtain ⟨m1, m2⟩ := hdm i hi
          have h63 : dm d i < 2 ^ 63 := Nat.lt_of_lt_of_le m2 (Nat.pow_le_pow_right (by omega) (by omega))
          simp only [Bool.and_eq_true] at hp
          have hcv := (zee hi m1 m2).2 hp.2
          have c5 := z7b (i := i) h63
          rw [← m1, ← hcv] at c5
          have hbt : tb ((cvL d).getD i 0) i = true := by rw [hcv, m1]; unfold tb; simpa using hp.1
          apply zl5
          case hq => exact hq
          all_goals first | exact c4 | (rw [Nat.zero_add]; first | exact c5 | exact hcv) | exact hbt | (unfold B40 at hl; omega)
        · obtain ⟨m1, m2⟩ := hdm i hi
          have h63 : dm d i < 2 ^ 63 := Nat.lt_of_lt_of_le m2 (Nat.pow_le_pow_right (by omega) (by omega))
          by_cases hcv : (cvL d).getD i 0 = d.getD i 0
          · have hp2 := (zee hi m1 m2).1 hcv
            have hp1 : (dm d i).testBit i = false := by
              cases hh : (dm d i).testBit i with
              | false => rfl
              | true => simp only [hh, hp2, Bool.and_self] at hp; cases hp
            have c5 := z7b (i := i) h63
            rw [← m1, ← hcv] at c5
            have hbt : tb ((cvL d).getD i 0) i = false := by rw [hcv, m1]; unfold tb; simpa using hp1
            apply zl4
            case hq => exact hq
            all_goals first | exact c4 | (rw [Nat.zero_add]; first | exact c5 | exact hcv) | exact hbt | (unfold B40 at hl; omega)
          · apply zl3
            case hq => exact hq
            all_goals first | exact c4 | (rw [Nat.zero_add]; exact hcv) | (unfold B40 at hl; omega)
        · apply zl6
          case hq => exact hq
          all_goals first | exact c4 | (unfold B40 at hl; omega)
    · have : alOK n d = false := by unfold alOK; simp [h2]
      rw [this]
      exact zkz c1 (by simpa using h1) h2
  · have : alOK n d = false := by unfold alOK; simp [h1]
    rw [this]
    exact zky c1 (by simpa using h1)
theorem zt1 {n : Nat} (hn : n ≤ 62) (d : List Int) (hl : d.length ≤ B40) : Runs X F.z22 [iD n, lD d] [] (boolR (d.all fun x => decide (0 ≤ x ∧ x ≤ ((2 ^ n : Nat) : Int) - 1))) := by
  have c1 := z7c hn
  have hlp := z2s (f := F.z22) (b := 0) (body := lb Tryd.f124 0) (N := d.length) (oF := z9l) (oT := z9m) (st := fun i => z4e n d i)
    (p := fun i => decide (0 ≤ d.getD i 0 ∧ d.getD i 0 ≤ ((2 ^ n : Nat) : Int) - 1)) (fun i hi hp Q hq => ?_) (fun i hi hp Q hq => ?_) (fun Q hq => ?_)
  · rw [z67 (l := d) (q := fun x => decide (0 ≤ x ∧ x ≤ ((2 ^ n : Nat) : Int) - 1))] at hlp
    cases hb : (d.all fun x => decide (0 ≤ x ∧ x ≤ ((2 ^ n : Nat) : Int) - 1)) with
    | true => rw [hb] at hlp; exact zvg hlp
    | false => rw [hb] at hlp; exact zvf hlp
  · have c2 := z2e (d.getD i 0) 0 (((2 ^ n : Nat) : Int) - 1)
    apply zvi
    case hq => exact hq
    all_goals first | exact c1 | exact c2 | exact hp | (unfold B40 at hl; omega)
  · have c2 := z2e (d.getD i 0) 0 (((2 ^ n : Nat) : Int) - 1)
    apply zvh
    case hq => exact hq
    all_goals first | exact c1 | exact c2 | exact hp | (unfold B40 at hl; omega)
  · apply zvj
    case hq => exact hq
    all_goals (unfold B40 at hl; omega)
theorem zt3 (n : Int) (d : List Int) (hl : d.length ≤ B40) : Runs X F.zj [alD n d] [] (boolR (alOK n d)) := by
  have c1 := z2e n 0 8
  by_cases h1 : 0 ≤ n ∧ n ≤ 8
  · by_cases h2 : (d.length : Int) = n
    · have c3 := zt1 (n := d.length) (by omega) d hl
      rw [h2] at c3
      cases h3 : (d.all fun x => decide (0 ≤ x ∧ x ≤ ((2 ^ d.length : Nat) : Int) - 1)) with
      | false =>
        have : alOK n d = false := by unfold alOK; rw [h3]; simp
        rw [this]
        rw [h3] at c3
        exact zvs c1 (by simpa using h1) h2 c3 rfl
      | true =>
        rw [h3] at c3
        have hd : ∀ x ∈ d, 0 ≤ x ∧ x ≤ ((2 ^ d.length : Nat) : Int) - 1 := fun x hx => by simpa using List.all_eq_true.1 h3 x hx
        have hdm : ∀ a, a < d.length → d.getD a 0 = dm d a ∧ dm d a < 2 ^ 63 := fun a ha => by
          have := hd d[a] (List.getElem_mem ha)
          have hpw : (2 ^ d.length : Nat) ≤ 2 ^ 63 := Nat.pow_le_pow_right (by omega) (by omega)
          unfold dm
          rw [getD_lt ha]
          have hp := Nat.two_pow_pos d.length
          constructor <;> omega
        have cb : ∀ a b, a < d.length → b < d.length → Runs X F.zo [iD (d.getD a 0), iD b] [] (boolR ((dm d a).testBit b)) := fun a b ha hb => by
          have := z5e (hdm a ha).2 (i := b) (by omega)
          rw [← (hdm a ha).1] at this
          have e : tb (d.getD a 0) b = (dm d a).testBit b := by rw [(hdm a ha).1]; unfold tb; simp
          rw [e] at this
          exact this
        have hin : ∀ a, a < d.length → WpL X F.zj 2 (lb Tryd.f69 1) (z40 n d a 0).st (fun o => o = (if ((List.range d.length).all fun b => (dm d a).testBit b == (dm d b).testBit a) then z9p n d a else z9o n d a).out) := by
          intro a ha
          refine z2s (N := d.length) (st := fun j => z40 n d a j) (fun i hi hp Q hq => ?_) (fun i hi hp Q hq => ?_) (fun Q hq => ?_)
          · have c4 := cb a i ha hi
            have c5 := cb i a hi ha
            apply zw0
            case hq => exact hq
            all_goals first | exact c4 | exact c5 | exact (beq_iff_eq.1 hp) | (unfold B40 at hl; omega)
          · have c4 := cb a i ha hi
            have c5 := cb i a hi ha
            apply zvz
            case hq => exact hq
            all_goals first | exact c4 | exact c5 | (intro e; rw [e] at hp; simp at hp; done) | (unfold B40 at hl; omega)
          · apply zw1
            case hq => exact hq
            all_goals (unfold B40 at hl; omega)
        have hlp := z2s (f := F.zj) (b := 0) (body := lb Tryd.f69 0) (N := d.length) (oF := z6g) (oT := z9n) (st := fun i => z3z n d i)
          (p := fun a => (dm d a).testBit a && (List.range d.length).all fun b => (dm d a).testBit b == (dm d b).testBit a)
          (fun i hi hp Q hq => ?_) (fun i hi hp Q hq => ?_) (fun Q hq => ?_)
        · have e : alOK n d = ((List.range d.length).all fun a => (dm d a).testBit a && (List.range d.length).all fun b => (dm d a).testBit b == (dm d b).testBit a) := by
            unfold alOK; rw [h3]; simp [h1, h2]
          rw [e]
          cases hb : ((List.range d.length).all fun a => (dm d a).testBit a && (List.range d.length).all fun b => (dm d a).testBit b == (dm d b).testBit a) with
          | true => rw [hb] at hlp; exact zvu c1 (by simpa using h1) h2 c3 rfl hlp
          | false => rw [hb] at hlp; exact zvt c1 (by simpa using h1) h2 c3 rfl hlp
        · simp only [Bool.and_eq_true] at hp
          have c4 := cb i i hi hi
          have hi' := hin i hi
          rw [if_pos hp.2] at hi'
          apply zvx
          case hq => exact hq
          all_goals first | exact c4 | exact hi' | exact hp.1 | (unfold B40 at hl; omega)
        · have c4 := cb i i hi hi
          cases hd1 : (dm d i).testBit i with
          | false =>
            apply zvv
            case hq => exact hq
            all_goals first | exact c4 | exact hd1 | (unfold B40 at hl; omega)
          | true =>
            have hp2 : ¬ ((List.range d.length).all fun b => (dm d i).testBit b == (dm d b).testBit i) = true := fun h => by
              simp only [hd1, h, Bool.and_self] at hp; cases hp
            have hi' := hin i hi
            rw [if_neg hp2] at hi'
            apply zvw
            case hq => exact hq
            all_goals first | exact c4 | exact hi' | exact hd1 | (unfold B40 at hl; omega)
        · apply zvy
          case hq => exact hq
          all_goals (unfold B40 at hl; omega)
    · have : alOK n d = false := by unfold alOK; simp [h2]
      rw [this]
      exact zvr c1 (by simpa using h1) h2
  · have : alOK n d = false := by unfold alOK; simp [h1]
    rw [this]
    exact zvq c1 (by simpa using h1)
theorem zt2 {n : Int} {d : List Int} {a b : Nat} (ha : a < d.length) (h : ∃ k : Nat, d.getD a 0 = k ∧ k < 2 ^ 63) (hb : b < 2 ^ 63) : Runs X F.z2h [alD n d, iD a, iD b] [] (boolR ((dm d a).testBit b)) := by
  obtain ⟨k, hk, hlt⟩ := h
  have e : dm d a = k := by unfold dm; rw [hk]; rfl
  have c := z5e (m := k) (i := b) hlt hb
  have e2 : tb (k : Int) b = (dm d a).testBit b := by rw [e]; unfold tb; simp
  rw [e2, ← hk] at c
  have := zvp (n := n) (d := d) (a := (a : Int)) (b := (b : Int)) (b3 := (dm d a).testBit b) (by omega) (by omega) (by rw [Int.toNat_natCast]; exact c)
  exact this
theorem ztr (n : Int) (d : List Int) (hl : d.length ≤ B40) : Runs X F.z54 [alD n d] [] (alR n d) := zqj (zhd d hl)
theorem ztn (n : Int) (d : List Int) (hd : d.length ≤ 9223372036854775807) : Runs X F.z53 [alD n d, iD 1048576] [] (intR (if d.length ≤ B40 then 1048576 - d.length else -1)) := by
  by_cases h : d.length ≤ B40
  · rw [if_pos h]
    exact zqb (zfx (by omega) (by omega) (by unfold B40 at h; omega)) (by unfold B40 at h; omega)
  · rw [if_neg h]
    exact zqa (zfw (by omega) (by omega) (by unfold B40 at h; omega)) (by omega)
end Go.PR.S
