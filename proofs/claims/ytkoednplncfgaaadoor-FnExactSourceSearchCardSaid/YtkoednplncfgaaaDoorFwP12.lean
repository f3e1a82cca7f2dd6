/- The code of an alphabet, an automaton, a state and a set of letters: both sides ask the same. -/
import Derived.Test.YtkoednplncfgaaaDoorFwP10
import Derived.Test.YtkoednplncfgaaaDoorFwG6
import Derived.Test.YtkoednplncfgaaaDoorFwG7
set_option linter.unusedVariables false
set_option linter.unusedSimpArgs false
section
set_option maxRecDepth 20000
namespace Go.PR.S
open Go Go.PR Go.Proofs Gp
theorem zg4 {f : FuncId} {b : Nat} {body : Code} {st : Nat → LSt} {p : Nat → Bool} {oF : Nat → OutL} {oT : OutL} {N : Nat}
    (hS : ∀ i, i < N → p i = true → ∀ Q, WpL X f b body (st (i + 1)).st Q → WpL X f b body (st i).st Q)
    (hF : ∀ i, i < N → p i = false → ∀ Q : Out → Prop, Q (oF i).out → WpL X f b body (st i).st Q)
    (hE : ∀ Q : Out → Prop, Q oT.out → WpL X f b body (st N).st Q) :
    if (List.range N).all p = true then WpL X f b body (st 0).st (fun o => o = oT.out) else ∃ k, k < N ∧ p k = false ∧ WpL X f b body (st 0).st (fun o => o = (oF k).out) := by
  split
  · rename_i hall
    exact loop_to (N := N) (st := st) (fun i hi => hS i hi (List.all_eq_true.1 hall i (List.mem_range.2 hi))) hE
  · rename_i hall
    obtain ⟨k, h1, h2, h3⟩ := z2y hall
    exact ⟨k, h1, h2, loop_to (N := k) (st := st) (fun i hi => hS i (by omega) (h3 i hi)) (hF k h1 h2)⟩
theorem zgk {a : Nat} (h : a < 2 ^ 63) : (BitVec.ofInt 64 (a : Int)) = BitVec.ofNat 64 a := by
  apply BitVec.eq_of_toNat_eq
  rw [z78 h, BitVec.toNat_ofNat, Nat.mod_eq_of_lt (by omega)]
def nandn (a b : Nat) : Nat := mkM (fun i => a.testBit i && !b.testBit i) 63
theorem z27 {a b : Nat} (ha : a < 2 ^ 63) (i : Nat) : (nandn a b).testBit i = (a.testBit i && !b.testBit i) := by
  unfold nandn
  rw [mkM_bit]
  by_cases hi : i < 63
  · simp [hi]
  · rw [Nat.testBit_lt_two_pow (Nat.lt_of_lt_of_le ha (Nat.pow_le_pow_right (by omega) (by omega)))]; simp
theorem z1e (a b : Nat) : nandn a b < 2 ^ 63 := mkM_lt _ _
theorem z1q {a b : Nat} (ha : a < 2 ^ 63) (hb : b < 2 ^ 63) : iandnot a b = (nandn a b : Nat) := by
  show IntKind.i64.wrap (BitVec.ofInt 64 (a : Int) &&& ~~~ BitVec.ofInt 64 (b : Int)).toNat = _
  have e : (BitVec.ofInt 64 (a : Int) &&& ~~~ BitVec.ofInt 64 (b : Int)).toNat = nandn a b := by
    apply Nat.eq_of_testBit_eq
    intro i
    rw [zgk ha, zgk hb, z27 ha, BitVec.testBit_toNat, BitVec.getLsbD_and, BitVec.getLsbD_not, BitVec.getLsbD_ofNat, BitVec.getLsbD_ofNat]
    by_cases hi : i < 64
    · simp [hi]
    · rw [Nat.testBit_lt_two_pow (Nat.lt_of_lt_of_le ha (Nat.pow_le_pow_right (by omega) (by omega)))]; simp
  rw [e]
  exact zdc (z1e a b)
theorem zgf {a b : Nat} (ha : a < 2 ^ 63) : nandn a b = 0 ↔ ∀ i, a.testBit i = true → b.testBit i = true := by
  constructor
  · intro h i hi
    have := z27 (b := b) ha i
    rw [h, hi] at this
    simp at this
    exact this
  · intro h
    apply Nat.eq_of_testBit_eq
    intro i
    rw [z27 ha]
    cases hi : a.testBit i with
    | false => simp
    | true => rw [h i hi]; simp
structure Ov (m : Int) (d : List Int) (n s f : Int) (N : List (List Int)) : Prop extends AutP n s f N where
  al : Al n.toNat d
  eq : m = n
theorem Ov.dlen {m n s f : Int} {d : List Int} {N : List (List Int)} (h : Ov m d n s f N) : (d.length : Int) = n := by have := h.al.len; have := h.n0; omega
theorem Ov.row {m n s f : Int} {d : List Int} {N : List (List Int)} (h : Ov m d n s f N) {q : Nat} (hq : q < N.length) : (N.getD q []).length = d.length := by
  have := (h.rows q hq).1; have := h.dlen; omega
def z1x (m : Int) (d : List Int) (n s f : Int) (N : List (List Int)) : Int :=
  if alOK m d = true then (if autOK n s f N = true then (if n = m then 0 else 2) else 1) else 1
theorem z9a {m n s f : Int} {d : List Int} {N : List (List Int)} (h : z1x m d n s f N = 0) : Ov m d n s f N := by
  unfold z1x at h
  split at h
  · rename_i h1
    split at h
    · rename_i h2
      split at h
      · rename_i h3
        subst h3
        exact { autP_of h2 with al := (Al.of h1).2, eq := rfl }
      · omega
    · omega
  · omega
theorem zt6 (m : Int) (d : List Int) (n s f : Int) (N : List (List Int)) (hd : d.length ≤ B40) (hl : N.length ≤ B40) : Runs X F.z2a [alD m d, auD n s f N] [] (intR (z1x m d n s f N)) := by
  have c1 := zt3 m d hd
  have c2 := zt5 n s f N hl
  unfold z1x
  cases h1 : alOK m d with
  | false => rw [h1] at c1; exact zwo c1 rfl
  | true =>
    rw [h1] at c1
    cases h2 : autOK n s f N with
    | false => rw [h2] at c2; exact zwp c1 rfl c2 rfl
    | true =>
      rw [h2] at c2
      by_cases h3 : n = m
      · simp only [if_true, if_pos h3]; exact zwr c1 rfl c2 rfl h3
      · simp only [if_true, if_neg h3]; exact zwq c1 rfl c2 rfl h3
abbrev SHa : List FK := [.int .i64, .int .i64, .int .i64, .ints2 .i64]
abbrev rcA (n s f : Int) (N : List (List Int)) : Rcd := ⟨[n, s, f], [], [N]⟩
theorem zsd (n s f : Int) (N : List (List Int)) (hl : N.length ≤ B40) (hw : ∀ r ∈ N, r.length ≤ B40) : Runs X F.z2t [.immR SHa [rcA n s f N], .fn F.z1i []] [] (boolR (!(autOK n s f N))) := by
  have c1 : Runs X F.z1i [auD n s f N] [] (boolR (!(autOK n s f N))) := zm1 (zsh n s f N hl hw)
  have hN : ([rcA n s f N]).length = 1 := rfl
  cases h : autOK n s f N with
  | true =>
    rw [h] at c1
    have h1 : Runs X F.zn [.immR SHa [rcA n s f N], .fn F.z1i []] [] (intR (-1)) := by
      refine zug (loop_to (N := 1) (st := fun i => z3u [rcA n s f N] i) (fun i hi Q hqq => ?_) (fun Q hqq => ?_))
      · obtain rfl : i = 0 := by omega
        apply zui
        case hq => exact hqq
        all_goals first | exact c1 | rfl | (rw [hN]; omega) | omega
      · apply zuj
        case hq => exact hqq
        all_goals (rw [hN]; omega)
    exact zhs h1
  | false =>
    rw [h] at c1
    have h1 : Runs X F.zn [.immR SHa [rcA n s f N], .fn F.z1i []] [] (intR ((0 : Nat) : Int)) := by
      refine zuf (loop_to (N := 0) (st := fun i => z3u [rcA n s f N] i) (fun i hi Q hqq => by omega) (fun Q hqq => ?_))
      apply zuh
      case hq => exact hqq
      all_goals first | exact c1 | rfl | (rw [hN]; omega) | omega
    exact zhs h1
theorem zse (m : Int) (d : List Int) (n s f : Int) (N : List (List Int)) : Runs X F.z2t [.immR SHa [rcA n s f N], .fn F.z1s [.pim [.int .i64 m, .immI .i64 d]]] [] (boolR (n != m)) := by
  have c1 : Runs X F.z1s [auD n s f N, .pim [.int .i64 m, .immI .i64 d]] [] (boolR (n != m)) := zm3
  have hN : ([rcA n s f N]).length = 1 := rfl
  cases h : (n != m) with
  | false =>
    rw [h] at c1
    have h1 : Runs X F.zn [.immR SHa [rcA n s f N], .fn F.z1s [.pim [.int .i64 m, .immI .i64 d]]] [] (intR (-1)) := by
      refine zul (loop_to (N := 1) (st := fun i => z3v [rcA n s f N] m d i) (fun i hi Q hqq => ?_) (fun Q hqq => ?_))
      · obtain rfl : i = 0 := by omega
        apply zun
        case hq => exact hqq
        all_goals first | exact c1 | rfl | (rw [hN]; omega) | omega
      · apply zuo
        case hq => exact hqq
        all_goals (rw [hN]; omega)
    exact zht h1
  | true =>
    rw [h] at c1
    have h1 : Runs X F.zn [.immR SHa [rcA n s f N], .fn F.z1s [.pim [.int .i64 m, .immI .i64 d]]] [] (intR ((0 : Nat) : Int)) := by
      refine zuk (loop_to (N := 0) (st := fun i => z3v [rcA n s f N] m d i) (fun i hi Q hqq => by omega) (fun Q hqq => ?_))
      apply zum
      case hq => exact hqq
      all_goals first | exact c1 | rfl | (rw [hN]; omega) | omega
    exact zht h1
theorem zsn (m : Int) (d : List Int) (n s f : Int) (N : List (List Int)) (hd : d.length ≤ B40) (hl : N.length ≤ B40) (hw : ∀ r ∈ N, r.length ≤ B40) : Runs X F.z2o [alD m d, .immR SHa [rcA n s f N]] [] (intR (z1x m d n s f N)) := by
  have c1 := zsg m d hd
  have c2 := zsd n s f N hl hw
  have c3 := zse m d n s f N
  unfold z1x
  cases h1 : alOK m d with
  | false => rw [h1] at c1; exact zlw c1 rfl
  | true =>
    rw [h1] at c1
    cases h2 : autOK n s f N with
    | false => rw [h2] at c2; exact zlx c1 rfl c2 rfl
    | true =>
      rw [h2] at c2
      by_cases h3 : n = m
      · simp only [if_true, if_pos h3]
        rw [show (n != m) = false by simp [h3]] at c3
        exact zlz c1 rfl c2 rfl c3 rfl
      · simp only [if_true, if_neg h3]
        rw [show (n != m) = true by simp [h3]] at c3
        exact zly c1 rfl c2 rfl c3 rfl
def step2 (N : List (List Int)) (s a b : Nat) : Int := if (N.getD s []).getD a 0 < 0 then -1 else (N.getD ((N.getD s []).getD a 0).toNat []).getD b 0
def pD (d : List Int) (N : List (List Int)) (s a i : Nat) : Bool := (dm d a).testBit (a + 1 + i) || (step2 N s a (a + 1 + i) == step2 N s (a + 1 + i) a)
def lD2 (d : List Int) (N : List (List Int)) (s a : Nat) : Bool := (List.range (d.length - (a + 1))).all (pD d N s a)
def lD1 (d : List Int) (N : List (List Int)) (s : Nat) : Bool := (List.range d.length).all (lD2 d N s)
def diaB (d : List Int) (N : List (List Int)) : Bool := (List.range N.length).all (lD1 d N)
section
variable {m n s f : Int} {d : List Int} {N : List (List Int)}
theorem Ov.next (h : Ov m d n s f N) {q a : Nat} (hq : q < N.length) (ha : a < d.length) : -1 ≤ (N.getD q []).getD a 0 ∧ (N.getD q []).getD a 0 < N.length := by
  have := (h.rows q hq).2 a (by rw [h.row hq]; exact ha)
  omega
theorem Ov.dep (h : Ov m d n s f N) {a b : Nat} (ha : a < d.length) (hb : b < d.length) : Runs X F.z2h [alD m d, iD a, iD b] [] (boolR ((dm d a).testBit b)) := by
  have hl := h.al.len
  have hs := h.al.small
  exact zt2 ha ⟨_, (h.al.mask a (by omega)).1, h.al.small63 (by omega)⟩ (by omega)
theorem z9g (h : Ov m d n s f N) {q a b : Nat} (hq : q < N.length) (ha : a < d.length) (hb : b < d.length) : Runs X F.z2i [auD n s f N, iD q, lD [(a : Int), (b : Int)]] [] (intR (step2 N q a b)) := by
  obtain ⟨h1, h2⟩ := h.next hq ha
  have hr := h.row hq
  have hs := h.al.small
  have hlen := h.al.len
  unfold step2
  by_cases h0 : (N.getD q []).getD a 0 < 0
  · rw [if_pos h0]
    have e : (N.getD q []).getD a 0 = -1 := by omega
    refine zih ?_
    apply zcz
    case hq =>
      rw [Int.toNat_natCast]
      show WpL _ _ _ _ (z41 n s f N [(a : Int), (b : Int)] ((N.getD q []).getD a 0) 1).st _
      rw [e]
      apply zwt
      case hq => rfl
      all_goals first | omega | (show ((1 : Nat) : Int) < ((2 : Nat) : Int); omega)
    all_goals first | omega | (show ((0 : Nat) : Int) < ((2 : Nat) : Int); omega) | (show (0 : Int) ≤ (a : Int); omega) | (rw [Int.toNat_natCast, hr]; show (a : Int) < _; omega)
  · rw [if_neg h0]
    have hr2 := h.row (q := ((N.getD q []).getD a 0).toNat) (by omega)
    refine zih ?_
    apply zcz
    case hq =>
      rw [Int.toNat_natCast]
      show WpL _ _ _ _ (z41 n s f N [(a : Int), (b : Int)] ((N.getD q []).getD a 0) 1).st _
      apply zcz
      case hq =>
        show WpL _ _ _ _ (z41 n s f N [(a : Int), (b : Int)] ((N.getD ((N.getD q []).getD a 0).toNat []).getD b 0) 2).st _
        apply zwu
        case hq => rfl
        all_goals first | omega | (show ¬ ((2 : Nat) : Int) < ((2 : Nat) : Int); omega)
      all_goals first | omega | (show ((1 : Nat) : Int) < ((2 : Nat) : Int); omega) | (show (0 : Int) ≤ (b : Int); omega) | (rw [hr2]; show (b : Int) < _; omega)
    all_goals first | omega | (show ((0 : Nat) : Int) < ((2 : Nat) : Int); omega) | (show (0 : Int) ≤ (a : Int); omega) | (rw [Int.toNat_natCast, hr]; show (a : Int) < _; omega)
theorem zt4 (h : Ov m d n s f N) : (diaB d N = true → Runs X F.zb [alD m d, auD n s f N] [] (rowR [])) ∧ (diaB d N = false → ∃ x y z : Int, Runs X F.zb [alD m d, auD n s f N] [] (rowR [x, y, z])) := by
  have hd := h.dlen
  have hs8 := h.al.small
  have hlen := h.al.len
  have hl16 := h.l16
  have in2 : ∀ q a : Nat, q < N.length → a < d.length → if lD2 d N q a = true then WL F.zb 4 Tryd.f120 2 (z29 m d n s f N q a (a + 1)) (z9v m d n s f N q a) else ∃ k, k < d.length - (a + 1) ∧ pD d N q a k = false ∧ WL F.zb 4 Tryd.f120 2 (z29 m d n s f N q a (a + 1)) (z9u m d n s f N q a [(q : Int), (a : Int), ((a + 1 + k : Nat) : Int)]) := by
    intro q a hq ha
    refine zg4 (N := d.length - (a + 1)) (p := pD d N q a) (st := fun i => z29 m d n s f N q a (a + 1 + i)) (fun i hi hp Q hqq => ?_) (fun i hi hp Q hqq => ?_) (fun Q hqq => ?_)
    · have c1 := h.dep ha (show a + 1 + i < d.length by omega)
      unfold pD at hp
      cases hdep : (dm d a).testBit (a + 1 + i) with
      | true =>
        rw [hdep] at c1
        apply zwa
        case hq => exact hqq
        all_goals first | exact c1 | rfl | omega
      | false =>
        rw [hdep] at c1 hp
        rw [Bool.false_or, beq_iff_eq] at hp
        have c2 := z9g h hq ha (show a + 1 + i < d.length by omega)
        have c3 := z9g h hq (show a + 1 + i < d.length by omega) ha
        apply zw9
        case hq => exact hqq
        all_goals first | exact c1 | exact c2 | exact c3 | exact hp | rfl | omega
    · have c1 := h.dep ha (show a + 1 + i < d.length by omega)
      unfold pD at hp
      rw [Bool.or_eq_false_iff] at hp
      rw [hp.1] at c1
      have c2 := z9g h hq ha (show a + 1 + i < d.length by omega)
      have c3 := z9g h hq (show a + 1 + i < d.length by omega) ha
      apply zw8
      case hq => exact hqq
      all_goals first | exact c1 | exact c2 | exact c3 | exact (beq_eq_false_iff_ne.1 hp.2) | rfl | omega
    · have e : a + 1 + (d.length - (a + 1)) = d.length := by omega
      simp only [e]
      apply zwb
      case hq => exact hqq
      all_goals omega
  have in1 : ∀ q : Nat, q < N.length → if lD1 d N q = true then WL F.zb 2 Tryd.f120 1 (z2w m d n s f N q 0) (z9t m d n s f N q) else ∃ y z : Int, WL F.zb 2 Tryd.f120 1 (z2w m d n s f N q 0) (z9s m d n s f N q [(q : Int), y, z]) := by
    intro q hq
    unfold lD1
    split
    · rename_i hall
      refine loop_to (N := d.length) (st := fun i => z2w m d n s f N q i) (fun i hi Q hqq => ?_) (fun Q hqq => ?_)
      · have l := in2 q i hq hi
        rw [if_pos (List.all_eq_true.1 hall i (List.mem_range.2 hi))] at l
        apply zif
        case hq => exact hqq
        all_goals first | exact l | omega
      · apply zw7
        case hq => exact hqq
        all_goals omega
    · rename_i hall
      obtain ⟨k, hk1, hk2, hk3⟩ := z2y hall
      have lk := in2 q k hq hk1
      rw [if_neg (by rw [hk2]; simp)] at lk
      obtain ⟨z, _, _, lk⟩ := lk
      refine ⟨(k : Int), ((k + 1 + z : Nat) : Int), loop_to (N := k) (st := fun i => z2w m d n s f N q i) (fun i hi Q hqq => ?_) (fun Q hqq => ?_)⟩
      · have l := in2 q i hq (by omega)
        rw [if_pos (hk3 i hi)] at l
        apply zif
        case hq => exact hqq
        all_goals first | exact l | omega
      · apply zw6
        case l18 => exact lk
        case hq => exact hqq
        all_goals omega
  constructor
  · intro hall
    have lp : WL F.zb 0 Tryd.f120 0 (z2v m d n s f N 0) (z9r) := by
      refine loop_to (N := N.length) (st := fun i => z2v m d n s f N i) (fun i hi Q hqq => ?_) (fun Q hqq => ?_)
      · have l := in1 i hi
        rw [if_pos (List.all_eq_true.1 hall i (List.mem_range.2 hi))] at l
        apply zie
        case hq => exact hqq
        all_goals first | exact l | omega
      · apply zw5
        case hq => exact hqq
        all_goals omega
    exact zw3 lp
  · intro hall
    obtain ⟨k, hk1, hk2, hk3⟩ := z2y (n := N.length) (q := lD1 d N) (by unfold diaB at hall; rw [hall]; simp)
    have lk := in1 k hk1
    rw [if_neg (by rw [hk2]; simp)] at lk
    obtain ⟨y, z, lk⟩ := lk
    have lp : WL F.zb 0 Tryd.f120 0 (z2v m d n s f N 0) (z9q [(k : Int), y, z]) := by
      refine loop_to (N := k) (st := fun i => z2v m d n s f N i) (fun i hi Q hqq => ?_) (fun Q hqq => ?_)
      · have l := in1 i (by omega)
        rw [if_pos (hk3 i hi)] at l
        apply zie
        case hq => exact hqq
        all_goals first | exact l | omega
      · apply zw4
        case l21 => exact lk
        case hq => exact hqq
        all_goals omega
    exact ⟨_, _, _, zw2 lp⟩
theorem zh6 (h : Ov m d n s f N) {a b : Nat} (ha : a < d.length) (hb : b < d.length) : Runs X F.z5v [alD m d, iD a, iD b] [] (boolR ((dm d a).testBit b)) := by
  have hlen := h.al.len
  have hm := (h.al.mask a (by omega)).1
  have c := z7b (i := b) (h.al.small63 (a := a) (by omega))
  rw [← hm] at c
  have e : tb (d.getD a 0) b = (dm d a).testBit b := by rw [hm]; unfold tb; simp
  rw [e] at c
  exact zmb (by omega) (by omega) (by rw [Int.toNat_natCast]; exact c)
theorem zhc {fs : List Bool} (h : Ov m d n s f N) {q : Int} {a : Nat} (hq : q < N.length) (ha : a < d.length) : Runs X F.z1b [maD n s fs N, iD q, iD a] [] (intR (if q < 0 then -1 else (N.getD q.toNat []).getD a 0)) := by
  by_cases h0 : q < 0
  · rw [if_pos h0]; exact zor h0
  · rw [if_neg h0]
    have hr := h.row (q := q.toNat) (by omega)
    have := zos (n := n) (s := s) (fs := fs) (xss := N) (q := q) (x := (a : Int)) h0 hq (by omega) (by omega)
    rw [Int.toNat_natCast] at this
    exact this
theorem z6c {fs : List Bool} (h : Ov m d n s f N) {q a b : Nat} (hq : q < N.length) (ha : a < d.length) (hb : b < d.length) :
    Runs X F.z1b [maD n s fs N, iD q, iD a] [] (intR ((N.getD q []).getD a 0)) ∧ Runs X F.z1b [maD n s fs N, iD ((N.getD q []).getD a 0), iD b] [] (intR (step2 N q a b)) := by
  have h1 := h.next hq ha
  have c1 := zhc (fs := fs) h (q := (q : Int)) (by omega) ha
  rw [if_neg (by omega), Int.toNat_natCast] at c1
  exact ⟨c1, zhc h h1.2 hb⟩
theorem zsp {fs : List Bool} (h : Ov m d n s f N) : (diaB d N = true → Runs X F.z9 [maD n s fs N, alD m d] [] ⟨.nil .unk, [], []⟩) ∧ (diaB d N = false → ∃ x y z : Int, Runs X F.z9 [maD n s fs N, alD m d] [] ⟨.rsl 600000 0 3, [], [⟨true, .ints .i64 [x, y, z]⟩]⟩) := by
  have hd := h.dlen
  have hmn := h.eq
  have hs8 := h.al.small
  have hlen := h.al.len
  have hl16 := h.l16
  have in2 : ∀ q a : Nat, q < N.length → a < d.length → if lD2 d N q a = true then WL F.z9 4 Tryd.f162 2 (z24 n s fs N m d q a (a + 1)) (z86 n s fs N m d q a) else ∃ k, k < d.length - (a + 1) ∧ pD d N q a k = false ∧ WL F.z9 4 Tryd.f162 2 (z24 n s fs N m d q a (a + 1)) (z85 n s fs N m d q a [(q : Int), (a : Int), ((a + 1 + k : Nat) : Int)]) := by
    intro q a hq ha
    refine zg4 (N := d.length - (a + 1)) (p := pD d N q a) (st := fun i => z24 n s fs N m d q a (a + 1 + i)) (fun i hi hp Q hqq => ?_) (fun i hi hp Q hqq => ?_) (fun Q hqq => ?_)
    · have c1 := zh6 h ha (show a + 1 + i < d.length by omega)
      unfold pD at hp
      cases hdep : (dm d a).testBit (a + 1 + i) with
      | true =>
        rw [hdep] at c1
        apply zne
        case hq => exact hqq
        all_goals first | exact c1 | rfl | omega
      | false =>
        rw [hdep] at c1 hp
        rw [Bool.false_or, beq_iff_eq] at hp
        obtain ⟨c2, c3⟩ := z6c (fs := fs) h hq ha (show a + 1 + i < d.length by omega)
        obtain ⟨c4, c5⟩ := z6c (fs := fs) h hq (show a + 1 + i < d.length by omega) ha
        apply znd
        case hq => exact hqq
        case c9 => exact c2
        case c11 => exact c3
        case c13 => exact c4
        case c15 => exact c5
        all_goals first | exact c1 | exact hp | rfl | omega
    · have c1 := zh6 h ha (show a + 1 + i < d.length by omega)
      unfold pD at hp
      rw [Bool.or_eq_false_iff] at hp
      rw [hp.1] at c1
      obtain ⟨c2, c3⟩ := z6c (fs := fs) h hq ha (show a + 1 + i < d.length by omega)
      obtain ⟨c4, c5⟩ := z6c (fs := fs) h hq (show a + 1 + i < d.length by omega) ha
      apply znc
      case hq => exact hqq
      case c9 => exact c2
      case c11 => exact c3
      case c13 => exact c4
      case c15 => exact c5
      all_goals first | exact c1 | exact (beq_eq_false_iff_ne.1 hp.2) | rfl | omega
    · have e : a + 1 + (d.length - (a + 1)) = d.length := by omega
      simp only [e]
      apply znf
      case hq => exact hqq
      all_goals omega
  have in1 : ∀ q : Nat, q < N.length → if lD1 d N q = true then WL F.z9 2 Tryd.f162 1 (z2q n s fs N m d q 0) (z84 n s fs N m d q) else ∃ y z : Int, WL F.z9 2 Tryd.f162 1 (z2q n s fs N m d q 0) (z83 n s fs N m d q [(q : Int), y, z]) := by
    intro q hq
    unfold lD1
    split
    · rename_i hall
      refine loop_to (N := d.length) (st := fun i => z2q n s fs N m d q i) (fun i hi Q hqq => ?_) (fun Q hqq => ?_)
      · have l := in2 q i hq hi
        rw [if_pos (List.all_eq_true.1 hall i (List.mem_range.2 hi))] at l
        apply zfa
        case hq => exact hqq
        all_goals first | exact l | omega
      · apply znb
        case hq => exact hqq
        all_goals omega
    · rename_i hall
      obtain ⟨k, hk1, hk2, hk3⟩ := z2y hall
      have lk := in2 q k hq hk1
      rw [if_neg (by rw [hk2]; simp)] at lk
      obtain ⟨z, _, _, lk⟩ := lk
      refine ⟨(k : Int), ((k + 1 + z : Nat) : Int), loop_to (N := k) (st := fun i => z2q n s fs N m d q i) (fun i hi Q hqq => ?_) (fun Q hqq => ?_)⟩
      · have l := in2 q i hq (by omega)
        rw [if_pos (hk3 i hi)] at l
        apply zfa
        case hq => exact hqq
        all_goals first | exact l | omega
      · apply zna
        case l22 => exact lk
        case hq => exact hqq
        all_goals omega
  constructor
  · intro hall
    have lp : WL F.z9 0 Tryd.f162 0 (z2p n s fs N m d 0) (z82) := by
      refine loop_to (N := N.length) (st := fun i => z2p n s fs N m d i) (fun i hi Q hqq => ?_) (fun Q hqq => ?_)
      · have l := in1 i hi
        rw [if_pos (List.all_eq_true.1 hall i (List.mem_range.2 hi))] at l
        apply zf9
        case hq => exact hqq
        all_goals first | exact l | omega
      · apply zn9
        case hq => exact hqq
        all_goals omega
    exact zn7 lp
  · intro hall
    obtain ⟨k, hk1, hk2, hk3⟩ := z2y (n := N.length) (q := lD1 d N) (by unfold diaB at hall; rw [hall]; simp)
    have lk := in1 k hk1
    rw [if_neg (by rw [hk2]; simp)] at lk
    obtain ⟨y, z, lk⟩ := lk
    have lp : WL F.z9 0 Tryd.f162 0 (z2p n s fs N m d 0) (z81 [(k : Int), y, z]) := by
      refine loop_to (N := k) (st := fun i => z2p n s fs N m d i) (fun i hi Q hqq => ?_) (fun Q hqq => ?_)
      · have l := in1 i (by omega)
        rw [if_pos (hk3 i hi)] at l
        apply zf9
        case hq => exact hqq
        all_goals first | exact l | omega
      · apply zn8
        case l25 => exact lk
        case hq => exact hqq
        all_goals omega
    exact ⟨_, _, _, zn6 lp⟩
end
end Go.PR.S

end

section
set_option maxRecDepth 20000
namespace Go.PR.S
open Go Go.PR Go.Proofs Gp
def okG (d : List Int) (N : List (List Int)) (s a b : Nat) : Bool := decide (a = b) || (dm d a).testBit b || decide ((N.getD s []).getD a 0 < 0) || decide ((N.getD s []).getD b 0 < 0) || decide (step2 N s a b ≥ 0)
def lG2 (d : List Int) (N : List (List Int)) (s a : Nat) : Bool := (List.range d.length).all (okG d N s a)
def lG1 (d : List Int) (N : List (List Int)) (s : Nat) : Bool := (List.range d.length).all (lG2 d N s)
def goesB (d : List Int) (N : List (List Int)) : Bool := (List.range N.length).all (lG1 d N)
section
variable {m n s f : Int} {d : List Int} {N : List (List Int)}
theorem z76 {q a : Nat} : a ∈ posN N q ↔ a < (N.getD q []).length ∧ (N.getD q []).getD a 0 ≥ 0 := by
  unfold posN
  rw [List.mem_filter, List.mem_range, decide_eq_true_eq]
theorem z9c (N : List (List Int)) (q : Nat) (a : Nat) : (possM N q).testBit a = (decide (a < (N.getD q []).length) && decide ((N.getD q []).getD a 0 ≥ 0)) := by
  unfold possM; rw [mkM_bit, Int.toNat_natCast]
def indL (d : List Int) (N : List (List Int)) (q a : Nat) : List Nat := bitsN (nandn (possM N q) (dm d a))
theorem zbv (h : RowsP N) {q a b : Nat} : b ∈ indL d N q a ↔ (b < (N.getD q []).length ∧ (N.getD q []).getD b 0 ≥ 0) ∧ (dm d a).testBit b = false := by
  unfold indL
  rw [z3p (z1e _ _), z27 (poss_lt h q), z9c]
  simp [and_assoc]
theorem lG1_iff (h : Ov m d n s f N) {q : Nat} (hq : q < N.length) : lG1 d N q = (posN N q).all fun a => (indL d N q a).all fun b => decide (step2 N q a b ≥ 0) := by
  have hr := h.row hq
  rw [Bool.eq_iff_iff]
  unfold lG1 lG2
  simp only [List.all_eq_true, List.mem_range, decide_eq_true_eq, z76, zbv h.rowsP, hr]
  constructor
  · rintro hh a ⟨ha, ha0⟩ b ⟨⟨hb, hb0⟩, hdep⟩
    have := hh a ha b hb
    unfold okG at this
    simp only [Bool.or_eq_true, decide_eq_true_eq] at this
    rcases this with (((h1 | h1) | h1) | h1) | h1
    · subst h1
      have hlen := h.al.len
      rw [h.al.refl a (by omega)] at hdep; cases hdep
    · rw [h1] at hdep; cases hdep
    · omega
    · omega
    · exact h1
  · intro hh a ha b hb
    unfold okG
    simp only [Bool.or_eq_true, decide_eq_true_eq]
    by_cases ha0 : (N.getD q []).getD a 0 < 0
    · exact .inl (.inl (.inr ha0))
    by_cases hb0 : (N.getD q []).getD b 0 < 0
    · exact .inl (.inr hb0)
    cases hdep : (dm d a).testBit b with
    | true => exact .inl (.inl (.inl (.inr rfl)))
    | false => exact .inr (hh a ⟨ha, by omega⟩ b ⟨⟨hb, by omega⟩, hdep⟩)
theorem allL {l : List Nat} {q : Nat → Bool} : (List.range l.length).all (fun i => q (l.getD i 0)) = l.all q := by
  rw [Bool.eq_iff_iff, List.all_eq_true, List.all_eq_true]
  constructor
  · intro h x hx
    obtain ⟨i, hi, rfl⟩ := List.getElem_of_mem hx
    have := h i (List.mem_range.2 hi)
    rwa [List.getD_eq_getElem?_getD, List.getElem?_eq_getElem hi] at this
  · intro h i hi
    have hi := List.mem_range.1 hi
    rw [List.getD_eq_getElem?_getD, List.getElem?_eq_getElem hi]
    exact h _ (List.getElem_mem hi)
theorem z4q {l : List Nat} {i : Nat} (h : i < l.length) : (l.map fun (i : Nat) => (i : Int)).getD (0 + i) 0 = ((l.getD i 0 : Nat) : Int) := by
  rw [Nat.zero_add, getD_lt (by rw [List.length_map]; exact h)]
  simp [List.getD_eq_getElem?_getD, h]
theorem z4p {l : List Nat} {i : Nat} (h : i < l.length) : l.getD i 0 ∈ l := by
  rw [List.getD_eq_getElem?_getD, List.getElem?_eq_getElem h]
  exact List.getElem_mem h
theorem zsv {fs : List Bool} (h : Ov m d n s f N) : Runs X F.zg [maD n s fs N, alD m d] [] (boolR (goesB d N)) := by
  have hd := h.dlen
  have hs8 := h.al.small
  have hlen := h.al.len
  have hl16 := h.l16
  have hR := h.rowsP
  have in2 : ∀ q i : Nat, q < N.length → i < (posN N q).length → WL F.zg 4 Tryd.f163 2 (z3j n s fs N m d q ((posN N q).map fun (i : Nat) => (i : Int)) i ((indL d N q ((posN N q).getD i 0)).map fun (i : Nat) => (i : Int)) 0)
      (if ((indL d N q ((posN N q).getD i 0)).all fun b => decide (step2 N q ((posN N q).getD i 0) b ≥ 0)) = true then z8g n s fs N m d q ((posN N q).map fun (i : Nat) => (i : Int)) i else z8f n s fs N m d q ((posN N q).map fun (i : Nat) => (i : Int)) i) := by
    intro q i hq hi
    have hr := h.row hq
    have hel := z4q hi
    obtain ⟨ha, ha0⟩ := z76.1 (z4p hi)
    let a := (posN N q).getD i 0
    have hpl := zgr N q
    have hb63 := z6o (nandn (possM N q) (dm d a))
    have hil : (indL d N q a).length ≤ 63 := hb63
    rw [← allL (l := indL d N q a)]
    refine z2s (N := (indL d N q a).length) (p := fun j => decide (step2 N q a ((indL d N q a).getD j 0) ≥ 0)) (st := fun j => z3j n s fs N m d q ((posN N q).map fun (i : Nat) => (i : Int)) i ((indL d N q a).map fun (i : Nat) => (i : Int)) j) (fun j hj hp Q hqq => ?_) (fun j hj hp Q hqq => ?_) (fun Q hqq => ?_)
    · obtain ⟨⟨hb, hb0⟩, _⟩ := (zbv hR).1 (z4p hj)
      have hel2 := z4q hj
      obtain ⟨c2, c3⟩ := z6c (fs := fs) h hq (show a < d.length by omega) (show (indL d N q a).getD j 0 < d.length by omega)
      have hp' := of_decide_eq_true hp
      apply zo6
      case hq => exact hqq
      case c15 => rw [hel]; exact c2
      case c17 => rw [hel2]; exact c3
      all_goals first | (rw [hel]; omega) | (rw [List.length_map]; omega) | (rw [hel]; show (((posN N q).getD i 0 : Nat) : Int) < _; omega) | omega
    · obtain ⟨⟨hb, hb0⟩, _⟩ := (zbv hR).1 (z4p hj)
      have hel2 := z4q hj
      obtain ⟨c2, c3⟩ := z6c (fs := fs) h hq (show a < d.length by omega) (show (indL d N q a).getD j 0 < d.length by omega)
      have hp' := of_decide_eq_false hp
      apply zo5
      case hq => exact hqq
      case c15 => rw [hel]; exact c2
      case c17 => rw [hel2]; exact c3
      all_goals first | (rw [hel]; omega) | (rw [List.length_map]; omega) | (rw [hel]; show (((posN N q).getD i 0 : Nat) : Int) < _; omega) | omega
    · apply zo7
      case hq => exact hqq
      all_goals first | (rw [hel]; omega) | (rw [List.length_map]; omega) | (rw [hel]; show (((posN N q).getD i 0 : Nat) : Int) < _; omega) | omega
  have in1 : ∀ q : Nat, q < N.length → WL F.zg 2 Tryd.f163 1 (z3i n s fs N m d q ((posN N q).map fun (i : Nat) => (i : Int)) 0) (if lG1 d N q = true then z8e n s fs N m d q else z8d n s fs N m d q) := by
    intro q hq
    have hr := h.row hq
    have hpl := zgr N q
    rw [lG1_iff h hq, ← allL (l := posN N q)]
    have cp := z4c (n := n) (s := s) (fs := fs) hR (q := (q : Int)) (by omega) (by omega)
    have hcode : ∀ i, i < (posN N q).length → iandnot (possM N q : Nat) (d.getD (((posN N q).map fun (i : Nat) => (i : Int)).getD (0 + i) 0).toNat 0) = (nandn (possM N q) (dm d ((posN N q).getD i 0)) : Nat) := by
      intro i hi
      obtain ⟨ha, _⟩ := z76.1 (z4p hi)
      rw [z4q hi, Int.toNat_natCast, (h.al.mask _ (by omega)).1]
      exact z1q (poss_lt hR q) (h.al.small63 (by omega))
    refine z2s (N := (posN N q).length) (p := fun i => (indL d N q ((posN N q).getD i 0)).all fun b => decide (step2 N q ((posN N q).getD i 0) b ≥ 0)) (st := fun i => z3i n s fs N m d q ((posN N q).map fun (i : Nat) => (i : Int)) i) (fun i hi hp Q hqq => ?_) (fun i hi hp Q hqq => ?_) (fun Q hqq => ?_)
    · have hel := z4q hi
      obtain ⟨ha, ha0⟩ := z76.1 (z4p hi)
      have l := in2 q i hq hi
      rw [if_pos hp] at l
      have cm := z4b (z1e (possM N q) (dm d ((posN N q).getD i 0)))
      rw [← hcode i hi] at cm
      apply zo3
      case hq => exact hqq
      case c8 => exact cp
      case c12 => exact cm
      case l23 => exact l
      all_goals first | (rw [hel]; omega) | (rw [List.length_map]; omega) | omega
    · have hel := z4q hi
      obtain ⟨ha, ha0⟩ := z76.1 (z4p hi)
      have l := in2 q i hq hi
      rw [if_neg (by rw [hp]; simp)] at l
      have cm := z4b (z1e (possM N q) (dm d ((posN N q).getD i 0)))
      rw [← hcode i hi] at cm
      apply zo2
      case hq => exact hqq
      case c8 => exact cp
      case c12 => exact cm
      case l22 => exact l
      all_goals first | (rw [hel]; omega) | (rw [List.length_map]; omega) | omega
    · apply zo4
      case hq => exact hqq
      all_goals first | (rw [List.length_map]; omega) | omega
  have lp : WL F.zg 0 Tryd.f163 0 (z3h n s fs N m d 0) (if goesB d N = true then z8c else z8b) := by
    refine z2s (N := N.length) (p := lG1 d N) (st := fun i => z3h n s fs N m d i) (fun i hi hp Q hqq => ?_) (fun i hi hp Q hqq => ?_) (fun Q hqq => ?_)
    · have l := in1 i hi
      rw [if_pos hp] at l
      have cp := z4c (n := n) (s := s) (fs := fs) hR (q := (i : Int)) (by omega) (by omega)
      have cm := z4b (poss_lt hR (i : Int))
      rw [zdt hR i] at cm
      apply zo0
      case hq => exact hqq
      all_goals first | exact l | exact cp | exact cm | omega
    · have l := in1 i hi
      rw [if_neg (by rw [hp]; simp)] at l
      have cp := z4c (n := n) (s := s) (fs := fs) hR (q := (i : Int)) (by omega) (by omega)
      have cm := z4b (poss_lt hR (i : Int))
      rw [zdt hR i] at cm
      apply znz
      case hq => exact hqq
      all_goals first | exact l | exact cp | exact cm | omega
    · apply zo1
      case hq => exact hqq
      all_goals omega
  cases hg : goesB d N with
  | true => rw [hg, if_pos rfl] at lp; exact zny lp
  | false => rw [hg, if_neg (by simp)] at lp; exact znx lp
end
end Go.PR.S

end
