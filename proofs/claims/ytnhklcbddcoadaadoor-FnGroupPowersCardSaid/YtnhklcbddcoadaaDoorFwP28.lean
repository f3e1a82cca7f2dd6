/- Draws of alphabets and of signed words: they come back, and stay in their bounds. -/
import Derived.Test.YtnhklcbddcoadaaDoorFwP27
import Derived.Test.YtnhklcbddcoadaaDoorFwG15
set_option linter.unusedVariables false
set_option linter.unusedSimpArgs false
set_option linter.unusedSectionVars false
set_option maxRecDepth 20000
namespace Go.PR.S
open Go Go.PR Go.Proofs Gp
def SgW (n : Nat) (w : List Int) : Prop := ∀ x ∈ w, x ≠ 0 ∧ -(n : Int) ≤ x ∧ x ≤ n
theorem SgW.at {n : Nat} {w : List Int} (h : SgW n w) {i : Nat} (hi : i < w.length) : w.getD i 0 ≠ 0 ∧ -(n : Int) ≤ w.getD i 0 ∧ w.getD i 0 ≤ n := by
  rw [getD_lt hi]; exact h _ (List.getElem_mem hi)
abbrev iRow (xs : List Int) : Row := ⟨true, .ints .i64 xs⟩
section
variable {c : List Int} (hc : Bytes c)
include hc
theorem zrm {N : Nat} {r24 : Int} {xs22 : List Int} (hx : xs22.length = N) (hN : N ≤ 8) (hfree : Runs X F.z1d [iD N] [] ⟨.agg [iD N, .rsl 600000 0 xs22.length], [], [iRow xs22]⟩) {t : Nat} (ht : t < N) :
    ∀ (k b : Nat) (a h : Int) (xs : List Int), b + k = t → 0 ≤ a → xs.length = N → Msk xs → ∃ a' h' ys, 0 ≤ a' ∧ ys.length = N ∧ Msk ys ∧
      WpL X F.zd 2 (lb Tryd.f92 1) (z3o N N xs22 r24 t b c a h xs).st (fun o => o = (zan N N xs22 r24 t c a' h' ys).out) := by
  intro k
  induction k with
  | zero => intro b a h xs hb ha hl hm; exact ⟨a, h, xs, ha, hl, hm, zx8 hfree (by omega) (by omega) (by omega) rfl⟩
  | succ k ih =>
    intro b a h xs hb ha hl hm
    obtain ⟨r, a1, h1, ha1, hr0, _, _, hrun⟩ := zy hc r24 a h ha
    by_cases hr : r = 0
    · obtain ⟨ys, hy1, hy2, hy3⟩ := zu9 (n := N) (xs := xs) (x := t) (y := b) (by omega) (by omega) (by omega) hm
      rw [show xs.length = xs22.length by omega] at hy3
      obtain ⟨a', h', zs, q1, q2, q3, q4⟩ := ih (b + 1) a1 h1 ys (by omega) ha1 (by omega) hy2
      exact ⟨a', h', zs, q1, q2, q3, zx6 hfree (by omega) (by omega) (by omega) hrun hr hy3 (by omega) q4⟩
    · obtain ⟨a', h', zs, q1, q2, q3, q4⟩ := ih (b + 1) a1 h1 xs (by omega) ha1 hl hm
      exact ⟨a', h', zs, q1, q2, q3, zx7 hfree (by omega) (by omega) (by omega) hrun hr (by omega) q4⟩
theorem zhk {N : Nat} {r24 : Int} {xs22 : List Int} (hx : xs22.length = N) (hN : N ≤ 8) (hfree : Runs X F.z1d [iD N] [] ⟨.agg [iD N, .rsl 600000 0 xs22.length], [], [iRow xs22]⟩) :
    ∀ (k t : Nat) (a h : Int) (xs : List Int), t + k = N → 0 ≤ a → xs.length = N → Msk xs → ∃ a' h' ys, 0 ≤ a' ∧ ys.length = N ∧ Msk ys ∧
      WpL X F.zd 0 (lb Tryd.f92 0) (z6t N N xs22 r24 t c a h xs).st (fun o => o = (zam N xs22 ys c a' h').out) := by
  intro k
  induction k with
  | zero => intro t a h xs ht ha hl hm; exact ⟨a, h, xs, ha, hl, hm, zx5 hfree (by omega) (by omega) rfl⟩
  | succ k ih =>
    intro t a h xs ht ha hl hm
    obtain ⟨a1, h1, ys, g1, g2, g3, g4⟩ := zrm hc (r24 := r24) hx hN hfree (t := t) (by omega) t 0 a h xs (by omega) ha hl hm
    obtain ⟨a', h', zs, q1, q2, q3, q4⟩ := ih (t + 1) a1 h1 ys (by omega) g1 g2 g3
    exact ⟨a', h', zs, q1, q2, q3, zx4 hfree (by omega) (by omega) g4 (by omega) q4⟩
theorem zj1 {m : Int} (h4 : 4 ≤ m) (h8 : m ≤ 8) (a h : Int) (ha : 0 ≤ a) : ∃ (n : Nat) (xs : List Int) (a' h' : Int), 0 ≤ a' ∧ n ≤ 8 ∧ xs.length = n ∧ Msk xs ∧
    Runs X F.zd [sp, iD m] [srcRow c a h] ⟨.agg [iD n, .rsl 600000 0 xs.length], [some (srcRow c a' h')], [iRow xs]⟩ := by
  obtain ⟨r, a1, h1, ha1, hr0, hr1, _, hrun⟩ := zy hc 6 a h ha
  by_cases hr : r = 0
  · refine ⟨4, [11, 7, 14, 13], a1, h1, ha1, by omega, rfl, ?_, zx1 h4 hrun hr⟩
    intro x hx
    simp only [List.mem_cons, List.not_mem_nil, or_false] at hx
    rcases hx with rfl | rfl | rfl | rfl
    · exact ⟨11, rfl, by omega⟩
    · exact ⟨7, rfl, by omega⟩
    · exact ⟨14, rfl, by omega⟩
    · exact ⟨13, rfl, by omega⟩
  · obtain ⟨r2, a2, h2, ha2, hr20, hr21, _, hrun2⟩ := zy hc (m + 1) a1 h1 ha1
    have hr21 := hr21 (by omega)
    by_cases hlt : r2 < 2
    · obtain ⟨r3, a3, h3, ha3, hr30, hr31, _, hrun3⟩ := zy hc (m + 1) a2 h2 ha2
      have hr31 := hr31 (by omega)
      obtain ⟨N, rfl⟩ := Int.eq_ofNat_of_zero_le hr30
      obtain ⟨xs, hx1, hx2, hfree⟩ := zj2 (n := N) (by omega)
      obtain ⟨p, a4, h4', ha4, _, hpick⟩ := z6n hc [2, 2, 3, 4] (by simp) a3 h3 ha3
      obtain ⟨a', h', ys, q1, q2, q3, q4⟩ := zhk hc (r24 := p) hx1 (by omega) hfree N 0 a4 h4' xs (by omega) ha4 hx1 hx2
      refine ⟨N, ys, a', h', q1, by omega, q2, q3, ?_⟩
      have := zx2 h4 hrun hr (by omega) hrun2 hlt hrun3 hfree hpick q4
      rw [show xs.length = ys.length by omega] at this
      exact this
    · obtain ⟨N, rfl⟩ := Int.eq_ofNat_of_zero_le hr20
      obtain ⟨xs, hx1, hx2, hfree⟩ := zj2 (n := N) (by omega)
      obtain ⟨p, a4, h4', ha4, _, hpick⟩ := z6n hc [2, 2, 3, 4] (by simp) a2 h2 ha2
      obtain ⟨a', h', ys, q1, q2, q3, q4⟩ := zhk hc (r24 := p) hx1 (by omega) hfree N 0 a4 h4' xs (by omega) ha4 hx1 hx2
      refine ⟨N, ys, a', h', q1, by omega, q2, q3, ?_⟩
      have := zx3 h4 hrun hr (by omega) hrun2 hlt hfree hpick q4
      rw [show xs.length = ys.length by omega] at this
      exact this
theorem zua {m : Int} (h4 : 4 ≤ m) (h8 : m ≤ 8) (a h : Int) (ha : 0 ≤ a) : ∃ (n : Int) (xs : List Int) (a' h' : Int), 0 ≤ a' ∧ xs.length ≤ 9 ∧
    Runs X F.z4c [sp, iD m] [srcRow c a h] ⟨.agg [iD n, .rsl 600000 0 xs.length], [some (srcRow c a' h')], [iRow xs]⟩ := by
  obtain ⟨n, xs, a1, h1, ha1, hn, hx, hm, hrun⟩ := zj1 hc h4 h8 a h ha
  obtain ⟨r, a2, h2, ha2, hr0, _, _, hrun2⟩ := zy hc 14 a1 h1 ha1
  by_cases hr : r > 0
  · exact ⟨n, xs, a2, h2, ha2, by omega, zxs hrun hrun2 hr⟩
  · obtain ⟨r3, a3, h3, ha3, hr30, _, _, hrun3⟩ := zy hc 4 a2 h2 ha2
    by_cases hz : r3 = 0
    · obtain ⟨p, a4, h4', ha4, _, hpick⟩ := z6n hc [-1, 9, (n : Int) + 1] (by simp) a3 h3 ha3
      exact ⟨p, xs, a4, h4', ha4, by omega, zxt hrun hrun2 hr hrun3 hz (by omega) (by omega) hpick⟩
    · by_cases ho : r3 = 1
      · obtain ⟨p, a4, h4', ha4, _, hpick⟩ := z6n hc [0, 1, 255] (by simp) a3 h3 ha3
        have := zxu hrun hrun2 hr hrun3 hz ho hpick (by omega)
        exact ⟨n, xs ++ [p], a4, h4', ha4, by simp; omega, by simpa using this⟩
      · by_cases hpos : (n : Int) > 0
        · obtain ⟨r4, a4, h4', ha4, hr40, hr41, _, hrun4⟩ := zy hc n a3 h3 ha3
          have hr41 := hr41 (by omega)
          obtain ⟨q, rfl⟩ := Int.eq_ofNat_of_zero_le hr40
          obtain ⟨k, hk, hk2⟩ := hm.at (i := 0 + (q : Int).toNat) (by omega)
          have c47 := z55 (i := q) (by omega)
          have c51 := z55 (i := n) (by omega)
          obtain ⟨r5, a5, h5, ha5, _, _, _, hrun5⟩ := zy hc ((2 ^ n : Nat) : Int) a4 h4' ha4
          obtain ⟨p, a6, h6, ha6, _, hpick⟩ := z6n hc ([xs.getD (0 + (q : Int).toNat) 0 - ((2 ^ q : Nat) : Int)] ++ [ior (xs.getD (0 + (q : Int).toNat) 0) ((2 ^ n : Nat) : Int)] ++ [r5] ++ [-1]) (by simp) a5 h5 ha5
          have hp : ((2 ^ q : Nat) : Int) < 256 := by obtain ⟨k, e, hk⟩ := pow_msk (i := q) (by omega); omega
          have hp0 : (0 : Int) ≤ ((2 ^ q : Nat) : Int) := Int.natCast_nonneg _
          have := zxv hrun hrun2 hr hrun3 hz ho hpos hrun4 hr40 (by omega) c47 (by rw [hk]; omega) (by rw [hk]; omega) c51 c51 hrun5 hpick
          exact ⟨n, xs.set (0 + (q : Int).toNat) p, a6, h6, ha6, by rw [List.length_set]; omega, by rw [List.length_set]; exact this⟩
        · exact ⟨n, xs, a3, h3, ha3, by omega, zxw hrun hrun2 hr hrun3 hz ho hpos⟩
theorem zrn {n : Nat} (hn : 1 ≤ n) (hn8 : n ≤ 8) (xs : List Int) : ∀ (k : Nat) (a h : Int) (w : List Int), k ≤ 64 → 0 ≤ a → w.length + k ≤ 64 → SgW n w → ∃ a' h' ys, 0 ≤ a' ∧ ys.length ≤ w.length + k ∧ SgW n ys ∧
      WpL X F.zh 0 (lb Tryd.f49 0) (zz n xs k c a h w).st (fun o => o = (z8g xs ys c a' h').out) := by
  intro k
  induction k with
  | zero => intro a h w _ ha hl hb; exact ⟨a, h, w, ha, by omega, hb, zzr (by omega) (by omega) rfl⟩
  | succ k ih =>
    intro a h w hk ha hl hb
    have e : (((k + 1 : Nat) : Int) - 1) = (k : Int) := by omega
    obtain ⟨r, a1, h1, ha1, hr0, hr1, _, hrun⟩ := zy hc n a h ha
    have hr1 := hr1 (by omega)
    have step : ∀ (x : Int), (x ≠ 0 ∧ -(n : Int) ≤ x ∧ x ≤ n) → SgW n (w ++ [x]) := fun x hx y hy => by
      rcases List.mem_append.1 hy with hy | hy
      · exact hb y hy
      · rw [List.mem_singleton.1 hy]; exact hx
    have next : ∀ (x : Int) (a2 h2 : Int), 0 ≤ a2 → (x ≠ 0 ∧ -(n : Int) ≤ x ∧ x ≤ n) → ∃ a' h' ys, 0 ≤ a' ∧ ys.length ≤ w.length + (k + 1) ∧ SgW n ys ∧
        WpL X F.zh 0 (lb Tryd.f49 0) (zz n xs (((k + 1 : Nat) : Int) - 1) c a2 h2 (w ++ [x])).st (fun o => o = (z8g xs ys c a' h').out) := fun x a2 h2 ha2 hx => by
      obtain ⟨a', h', ys, q1, q2, q3, q4⟩ := ih a2 h2 (w ++ [x]) (by omega) ha2 (by simp; omega) (step x hx)
      rw [e]
      exact ⟨a', h', ys, q1, by simp at q2; omega, q3, q4⟩
    by_cases hw : (w.length : Int) > 1
    · obtain ⟨r2, a2, h2, ha2, hr20, _, _, hrun2⟩ := zy hc 4 a1 h1 ha1
      by_cases hz : r2 = 0
      · obtain ⟨r3, a3, h3, ha3, hr30, hr31, _, hrun3⟩ := zy hc 2 a2 h2 ha2
        have hr31 := hr31 (by omega)
        have hx := hb.at (i := 0 + ((w.length : Int) - 1 - r3).toNat) (by omega)
        obtain ⟨a', h', ys, q1, q2, q3, q4⟩ := next (-w.getD (0 + ((w.length : Int) - 1 - r3).toNat) 0) a3 h3 ha3 (by omega)
        exact ⟨a', h', ys, q1, q2, q3, zzm (by omega) (by omega) hrun (by omega) (by omega) hw hrun2 hz (by omega) hrun3 (by omega) (by omega) (by omega) (by omega) (by omega) (by omega) (by omega) (by omega) q4⟩
      · obtain ⟨r3, a3, h3, ha3, hr30, _, _, hrun3⟩ := zy hc 3 a2 h2 ha2
        by_cases h30 : r3 = 0
        · obtain ⟨a', h', ys, q1, q2, q3, q4⟩ := next (-(r + 1)) a3 h3 ha3 (by omega)
          exact ⟨a', h', ys, q1, q2, q3, zzn (by omega) (by omega) hrun (by omega) (by omega) hw hrun2 hz hrun3 h30 (by omega) (by omega) (by omega) q4⟩
        · obtain ⟨a', h', ys, q1, q2, q3, q4⟩ := next (r + 1) a3 h3 ha3 (by omega)
          exact ⟨a', h', ys, q1, q2, q3, zzo (by omega) (by omega) hrun (by omega) (by omega) hw hrun2 hz hrun3 h30 (by omega) (by omega) q4⟩
    · obtain ⟨r3, a3, h3, ha3, hr30, _, _, hrun3⟩ := zy hc 3 a1 h1 ha1
      by_cases h30 : r3 = 0
      · obtain ⟨a', h', ys, q1, q2, q3, q4⟩ := next (-(r + 1)) a3 h3 ha3 (by omega)
        exact ⟨a', h', ys, q1, q2, q3, zzp (by omega) (by omega) hrun (by omega) (by omega) hw hrun3 h30 (by omega) (by omega) q4⟩
      · obtain ⟨a', h', ys, q1, q2, q3, q4⟩ := next (r + 1) a3 h3 ha3 (by omega)
        exact ⟨a', h', ys, q1, q2, q3, zzq (by omega) (by omega) hrun (by omega) (by omega) hw hrun3 h30 (by omega) q4⟩
theorem zj5 {n : Nat} (hn8 : n ≤ 8) {m : Nat} (hm : m ≤ 32) (xs : List Int) (a h : Int) (ha : 0 ≤ a) : ∃ (ys : List Int) (a' h' : Int), 0 ≤ a' ∧ ys.length ≤ m ∧ SgW n ys ∧
    Runs X F.zh [sp, .agg [iD n, .rsl 500001 0 xs.length], iD m] [srcRow c a h, iRow xs] ⟨.rsl 600000 0 ys.length, [some (srcRow c a' h'), some (iRow xs)], [iRow ys]⟩ := by
  by_cases hz : (n : Int) = 0
  · exact ⟨[], a, h, ha, by simp, (fun x hx => by cases hx), zzk hz⟩
  · obtain ⟨r, a1, h1, ha1, hr0, hr1, _, hrun⟩ := zy hc ((m : Int) + 1) a h ha
    have hr1 := hr1 (by omega)
    obtain ⟨k, rfl⟩ := Int.eq_ofNat_of_zero_le hr0
    obtain ⟨a', h', ys, q1, q2, q3, q4⟩ := zrn hc (n := n) (by omega) hn8 xs k a1 h1 [] (by omega) ha1 (by simp; omega) (fun x hx => by cases hx)
    exact ⟨ys, a', h', q1, by simp at q2; omega, q3, zzl hz (by omega) (by omega) hrun q4⟩
theorem zro {n : Nat} (hn : 1 ≤ n) (hn8 : n ≤ 8) (xs xs9 : List Int) : ∀ (k : Nat) (a h : Int) (w : List Int), 0 ≤ a → w.length + k = 33 → ∃ a' h' ys, 0 ≤ a' ∧ ys.length ≤ 33 ∧
      WpL X F.z1x 1 (lb Tryd.f94 0) (z5l n xs xs9 c a h w).st (fun o => o = (z75 xs9 ys c a' h').out) := by
  intro k
  induction k with
  | zero => intro a h w ha hl; exact ⟨a, h, w, ha, by omega, zkl (by omega) (by omega) rfl⟩
  | succ k ih =>
    intro a h w ha hl
    by_cases hlt : (w.length : Int) < 25
    · obtain ⟨r, a1, h1, ha1, hr0, hr1, _, hrun⟩ := zy hc n a h ha
      have hr1 := hr1 (by omega)
      obtain ⟨a', h', ys, q1, q2, q3⟩ := ih a1 h1 (w ++ [r + 1]) ha1 (by simp; omega)
      exact ⟨a', h', ys, q1, q2, z10i (by omega) hlt hrun (by omega) (by omega) q3⟩
    · exact ⟨a, h, w, ha, by omega, zkl (by omega) hlt rfl⟩
theorem zj8 (n : Int) {m : Nat} (hm : m ≤ 32) (xs : List Int) (hxs : xs.length ≤ B40) (a h : Int) (ha : 0 ≤ a) : ∃ (ys : List Int) (a' h' : Int), 0 ≤ a' ∧ ys.length ≤ 33 ∧
    Runs X F.z1x [sp, .agg [iD n, .rsl 500001 0 xs.length], iD m] [srcRow c a h, iRow xs] ⟨.rsl 600000 0 ys.length, [some (srcRow c a' h'), some (iRow xs)], [iRow ys]⟩ := by
  have c2 := zdq n xs hxs
  cases hal : alOK n xs with
  | false => rw [hal] at c2; exact ⟨[1, -1], a, h, ha, by simp, z10f c2 rfl⟩
  | true =>
    rw [hal] at c2
    have hn8 := alOK_n hal
    obtain ⟨N, rfl⟩ := Int.eq_ofNat_of_zero_le hn8.1
    obtain ⟨ys, a1, h1, ha1, hy, hb, hrun⟩ := zj5 hc (n := N) (by omega) hm xs a h ha
    obtain ⟨r, a2, h2, ha2, _, _, _, hrun2⟩ := zy hc 28 a1 h1 ha1
    by_cases hz : r = 0
    · obtain ⟨p, a3, h3, ha3, _, hpick⟩ := z6n hc ([0] ++ [(N : Int) + 1] ++ [-(N : Int) - 1] ++ [-4611686018427387904]) (by simp) a2 h2 ha2
      have := z10g c2 rfl hrun hrun2 hz (by omega) (by omega) (by omega) hpick (by omega)
      exact ⟨ys ++ [p], a3, h3, ha3, by simp; omega, by simpa using this⟩
    · by_cases ho : r = 1
      · by_cases hpos : (N : Int) > 0
        · obtain ⟨a', h', zs, q1, q2, q3⟩ := zro hc (n := N) (by omega) (by omega) xs xs (33 - ys.length) a2 h2 ys ha2 (by omega)
          exact ⟨zs, a', h', q1, q2, zkk c2 rfl hrun hrun2 hz ho q3⟩
        · exact ⟨ys, a2, h2, ha2, by omega, zkk c2 rfl hrun hrun2 hz ho (z10j hpos rfl)⟩
      · exact ⟨ys, a2, h2, ha2, by omega, z10h c2 rfl hrun hrun2 hz ho⟩
theorem zuf {l : Int} (h4 : 4 ≤ l) (h8 : l ≤ 8) {m : Nat} (hm : m ≤ 32) : ∃ (a h n : Int) (xs ys : List Int), 0 ≤ a ∧ xs.length ≤ 9 ∧ ys.length ≤ 33 ∧
    Runs X F.z5k [bD c, iD l, iD m] [] ⟨.tup [.ptr 600000 0, .agg [iD n, .rsl 600001 0 xs.length], .rsl 600002 0 ys.length], [], [srcRow c a h, iRow xs, iRow ys]⟩ := by
  obtain ⟨h0, hfrom⟩ := zu5 hc
  obtain ⟨n, xs, a1, h1, ha1, hn, hx, hmk, hrun⟩ := zj1 hc h4 h8 0 h0 (by omega)
  obtain ⟨r, a2, h2, ha2, _, _, _, hrun2⟩ := zy hc 24 a1 h1 ha1
  by_cases hz : r = 0
  · obtain ⟨n', xs', a3, h3, ha3, hx', hrun3⟩ := zua hc h4 h8 a2 h2 ha2
    obtain ⟨ys, a4, h4', ha4, hy, hrun4⟩ := zj8 hc n' hm xs' (by unfold B40; omega) a3 h3 ha3
    exact ⟨a4, h4', n', xs', ys, ha4, hx', hy, z106 hfrom hrun hrun2 hz hrun3 hrun4⟩
  · obtain ⟨ys, a4, h4', ha4, hy, hrun4⟩ := zj8 hc n hm xs (by unfold B40; omega) a2 h2 ha2
    exact ⟨a4, h4', n, xs, ys, ha4, by omega, hy, z107 hfrom hrun hrun2 hz hrun4⟩
end
end Go.PR.S
