/- Draws: numbers that follow from a code. Of a draw only its bounds are told. -/
import Derived.Test.YtnhklcbddcoadaaDoorFwP26
import Derived.Test.YtnhklcbddcoadaaDoorFwG14
set_option linter.unusedVariables false
set_option linter.unusedSimpArgs false
set_option linter.unusedSectionVars false
set_option maxRecDepth 20000
namespace Go.PR.S
open Go Go.PR Go.Proofs Gp
abbrev srcRow (c : List Int) (a h : Int) : Row := ⟨true, .var [.immI .u8 c, .int .i64 a, .int .u64 h]⟩
abbrev bD (c : List Int) : D := .immI .u8 c
abbrev sp : D := .ptr 500000 0
structure Bytes (c : List Int) : Prop where
  len : c.length ≤ 4096
  rng : ∀ x ∈ c, 0 ≤ x ∧ x ≤ 255
theorem Bytes.at {c : List Int} (h : Bytes c) {i : Nat} (hi : i < c.length) : 0 ≤ c.getD i 0 ∧ c.getD i 0 ≤ 255 := by
  rw [getD_lt hi]; exact h.rng _ (List.getElem_mem hi)
theorem uand_le (x : Int) {m : Nat} (hm : m < 2 ^ 63) : 0 ≤ uand x m ∧ uand x m ≤ m := by
  unfold uand
  have h1 : (BitVec.ofInt IntKind.u64.bits x &&& BitVec.ofInt IntKind.u64.bits (m : Int)).toNat ≤ m := by
    rw [BitVec.toNat_and]
    refine Nat.le_trans Nat.and_le_right ?_
    rw [BitVec.toNat_ofInt]
    have : ((m : Int) % ((2 ^ IntKind.u64.bits : Nat) : Int)).toNat = m := by
      have : ((2 ^ IntKind.u64.bits : Nat) : Int) = 18446744073709551616 := by decide
      rw [this]; omega
    omega
  rw [IntKind.wrap_u64]
  omega
theorem tmod_bd {x n : Int} (hx : 0 ≤ x) (hn : 1 ≤ n) : 0 ≤ x.tmod n ∧ x.tmod n < n := by
  rw [Int.tmod_eq_emod_of_nonneg hx]
  exact ⟨Int.emod_nonneg _ (by omega), Int.emod_lt_of_pos _ (by omega)⟩
theorem zu5 {c : List Int} (hc : Bytes c) : ∃ h, Runs X F.z33 [bD c] [] ⟨.ptr 600000 0, [], [srcRow c 0 h]⟩ := by
  have hl := hc.len
  have key : ∀ (k i : Nat) (h : Int), i + k = c.length → ∃ h', WpL X F.z33 0 (lb Tryd.f91 0) (z6s c i h).st (fun o => o = (zaj c h').out) := by
    intro k
    induction k with
    | zero => intro i h hi; exact ⟨h, zwg (by omega) rfl⟩
    | succ k ih =>
      intro i h hi
      obtain ⟨h', hh⟩ := ih (i + 1) (uadd (uadd (umul h 1099511628211) (IntKind.wrap .u64 (c.getD i 0))) 11) (by omega)
      exact ⟨h', zwf (by omega) (by omega) hh⟩
  obtain ⟨h', hh⟩ := key c.length 0 _ (by omega)
  exact ⟨h', zwe hh⟩
theorem zy {c : List Int} (hc : Bytes c) (n a h : Int) (ha : 0 ≤ a) : ∃ r a' h', 0 ≤ a' ∧ 0 ≤ r ∧ (1 ≤ n → r < n) ∧ (n < 1 → r = 0) ∧
    Runs X F.z6 [sp, iD n] [srcRow c a h] ⟨iD r, [some (srcRow c a' h')], []⟩ := by
  have hl := hc.len
  by_cases hn : n < 1
  · exact ⟨0, a, h, ha, by omega, by omega, fun _ => rfl, zwq hn⟩
  · have hu : 0 ≤ uand (ushr (uadd (umul h 6364136223846793005) 1442695040888963407) 33) 16777215 ∧ uand (ushr (uadd (umul h 6364136223846793005) 1442695040888963407) 33) 16777215 ≤ 16777215 := uand_le _ (m := 16777215) (by omega)
    by_cases hal : a < c.length
    · have hb := hc.at (i := a.toNat) (by omega)
      have ht := tmod_bd (x := uand (ushr (uadd (umul h 6364136223846793005) 1442695040888963407) 33) 16777215 + c.getD a.toNat 0) (n := n) (by omega) (by omega)
      exact ⟨_, a + 1, _, by omega, ht.1, fun _ => ht.2, by omega, zwr hn (by omega) (by omega) hal ha (by omega) (by omega) (by omega) (by omega) (by omega)⟩
    · have ht := tmod_bd (x := uand (ushr (uadd (umul h 6364136223846793005) 1442695040888963407) 33) 16777215) (n := n) (by omega) (by omega)
      exact ⟨_, a, _, ha, ht.1, fun _ => ht.2, by omega, zws hn (by omega) (by omega) hal⟩
theorem z6n {c : List Int} (hc : Bytes c) (ys : List Int) (hy : ys ≠ []) (a h : Int) (ha : 0 ≤ a) : ∃ r a' h', 0 ≤ a' ∧ r ∈ ys ∧
    Runs X F.z3n [sp, .rsl 500001 0 ys.length] [srcRow c a h, ⟨true, .ints .i64 ys⟩] ⟨iD r, [some (srcRow c a' h'), some ⟨true, .ints .i64 ys⟩], []⟩ := by
  have hlen : 1 ≤ (ys.length : Int) := by cases ys with | nil => exact absurd rfl hy | cons => simp; omega
  obtain ⟨r, a', h', h1, h2, h3, h4, h5⟩ := zy hc ys.length a h ha
  have h3 := h3 hlen
  refine ⟨_, a', h', h1, ?_, zwy h5 h2 h3⟩
  rw [getD_lt (by omega)]
  exact List.getElem_mem _
theorem zu0 (c : List Int) : Runs X F.z6b [bD c] [] (boolR (decide ((c.length : Int) > 4096))) := zru
theorem zug (u v : List Int) (hu : u.length ≤ B40) : Runs X F.z17 [lD u, lD v] [] (boolR (decide (u = v))) := by
  unfold B40 at hu
  by_cases hl : u.length = v.length
  · have hlp := z6c (f := F.z17) (b := 0) (body := lb Tryd.f19 0) (N := u.length) (oF := z9j) (oT := z9k) (st := fun i => z42 u v i)
      (p := fun i => decide (u.getD i 0 = v.getD i 0)) (fun i hi hp Q hq => ?_) (fun i hi hp Q hq => ?_) (fun Q hq => ?_)
    · have e : (List.range u.length).all (fun i => decide (u.getD i 0 = v.getD i 0)) = decide (u = v) := by
        rw [Bool.eq_iff_iff, List.all_eq_true, decide_eq_true_iff]
        constructor
        · intro h
          apply List.ext_getElem hl
          intro i h1 h2
          have := h i (List.mem_range.2 h1)
          rwa [decide_eq_true_iff, getD_lt h1, getD_lt h2] at this
        · intro h i _; rw [h]; simp
      rw [e] at hlp
      cases hd : decide (u = v) with
      | true => rw [hd] at hlp; exact zrx (by omega) hlp
      | false => rw [hd] at hlp; exact zrw (by omega) hlp
    · exact zrz (by omega) (by omega) (by simpa using hp) (by omega) hq
    · exact zry (by omega) (by omega) (by simpa using hp) hq
    · exact zs0 (by omega) (by omega) hq
  · have : decide (u = v) = false := decide_eq_false fun e => hl (by rw [e])
    rw [this]
    exact zrv (by omega)
def Msk (xs : List Int) : Prop := ∀ x ∈ xs, ∃ k : Nat, x = k ∧ k < 256
theorem Msk.at {xs : List Int} (h : Msk xs) {i : Nat} (hi : i < xs.length) : ∃ k : Nat, xs.getD i 0 = k ∧ k < 256 := by
  rw [getD_lt hi]; exact h _ (List.getElem_mem hi)
theorem Msk.set {xs : List Int} (h : Msk xs) (i : Nat) {x : Int} (hx : ∃ k : Nat, x = k ∧ k < 256) : Msk (xs.set i x) := fun y hy => by
  rcases List.mem_or_eq_of_mem_set hy with hy | rfl
  · exact h y hy
  · exact hx
theorem ior_msk {x y : Int} (hx : ∃ k : Nat, x = k ∧ k < 256) (hy : ∃ k : Nat, y = k ∧ k < 256) : ∃ k : Nat, ior x y = k ∧ k < 256 := by
  obtain ⟨a, rfl, ha⟩ := hx
  obtain ⟨b, rfl, hb⟩ := hy
  exact ⟨a ||| b, ior_nat (by omega) (by omega), Nat.or_lt_two_pow (n := 8) ha hb⟩
theorem pow_msk {i : Nat} (h : i < 8) : ∃ k : Nat, ((2 ^ i : Nat) : Int) = k ∧ k < 256 := ⟨2 ^ i, rfl, Nat.pow_lt_pow_right (n := 8) (by omega) h⟩
theorem zj2 {n : Nat} (hn : n ≤ 8) : ∃ xs : List Int, xs.length = n ∧ Msk xs ∧ Runs X F.z1d [iD n] [] ⟨.agg [iD n, .rsl 600000 0 xs.length], [], [⟨true, .ints .i64 xs⟩]⟩ := by
  have key : ∀ (k i : Nat) (xs : List Int), i + k = n → xs.length = i → Msk xs → ∃ ys : List Int, ys.length = n ∧ Msk ys ∧ WpL X F.z1d 0 (lb Tryd.f113 0) (z6u n i xs).st (fun o => o = (zao n ys).out) := by
    intro k
    induction k with
    | zero => intro i xs hi hx hm; exact ⟨xs, by omega, hm, zxd (by omega) rfl⟩
    | succ k ih =>
      intro i xs hi hx hm
      obtain ⟨ys, h1, h2, h3⟩ := ih (i + 1) (xs ++ [((2 ^ i : Nat) : Int)]) (by omega) (by simp [hx]) (fun y hy => by
        rcases List.mem_append.1 hy with hy | hy
        · exact hm y hy
        · rw [List.mem_singleton.1 hy]; exact pow_msk (by omega))
      exact ⟨ys, h1, h2, zxc (by omega) (z55 (by omega)) (by omega) (by omega) h3⟩
  obtain ⟨ys, h1, h2, h3⟩ := key n 0 [] (by omega) rfl (fun y hy => by cases hy)
  exact ⟨ys, h1, h2, zxb h3⟩
theorem zu9 {n : Int} {xs : List Int} {x y : Nat} (hx : x < xs.length) (hy : y < xs.length) (hl : xs.length ≤ 8) (hm : Msk xs) : ∃ ys : List Int, ys.length = xs.length ∧ Msk ys ∧
    Runs X F.zas [.agg [iD n, .rsl 500000 0 xs.length], iD x, iD y] [⟨true, .ints .i64 xs⟩] ⟨.tup [], [some ⟨true, .ints .i64 ys⟩], []⟩ := by
  refine ⟨_, ?_, ?_, zxr (by omega) (by omega) (z55 (i := y) (by omega)) (by omega) (by omega) (z55 (i := x) (by omega))⟩
  · simp
  · have h1 : Msk (xs.set (0 + (x : Int).toNat) (ior (xs.getD (0 + (x : Int).toNat) 0) ((2 ^ y : Nat) : Int))) := hm.set _ (ior_msk (hm.at (by omega)) (pow_msk (by omega)))
    exact h1.set _ (ior_msk (h1.at (by rw [List.length_set]; omega)) (pow_msk (by omega)))
theorem zue (n : Int) (d w : List Int) (hd : d.length ≤ B40) (hw : w.length ≤ B40) : Runs X F.z5j [alD n d, lD w] [] (boolR (decide (sgCode n d [w] = 0))) := by
  have c1 := zdq n d hd
  unfold sgCode
  cases h1 : alOK n d with
  | false => rw [h1] at c1; exact zzy c1 rfl
  | true =>
    rw [h1] at c1
    have c2 := zds (alOK_n h1) w hw
    have e2 : decide ((if true = true then (if [w].all (sgOK n) = true then (0 : Int) else 2) else 1) = 0) = sgOK n w := by
      have : [w].all (sgOK n) = sgOK n w := by simp
      rw [this]
      cases sgOK n w <;> rfl
    rw [e2]
    exact zzx c1 rfl c2
end Go.PR.S
