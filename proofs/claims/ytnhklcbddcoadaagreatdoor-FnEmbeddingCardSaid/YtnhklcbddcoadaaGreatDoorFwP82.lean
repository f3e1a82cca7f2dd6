/- Draws of words of letters: they come back, and stay short. -/
import Derived.Test.YtnhklcbddcoadaaGreatDoorFwP81
import Derived.Test.YtnhklcbddcoadaaGreatDoorFwP28
import Derived.Test.YtnhklcbddcoadaaGreatDoorFwG51
set_option linter.unusedVariables false
set_option linter.unusedSimpArgs false
set_option linter.unusedSectionVars false
set_option maxRecDepth 20000
namespace Go.PR.S
open Go Go.PR Go.Proofs Gp
section
variable {c : List Int} (hc : Bytes c)
include hc
theorem zrw {n : Nat} (hn : 1 ≤ n) (hn8 : n ≤ 8) (xs : List Int) : ∀ (k : Nat) (a h : Int) (w : List Int), k ≤ 64 → 0 ≤ a → w.length + k ≤ 64 → ∃ a' h' ys, 0 ≤ a' ∧ ys.length ≤ w.length + k ∧
      WpL X F.z1j 0 (lb Tryz.f121 0) (z25 n xs k c a h w).st (fun o => o = (z86 xs ys c a' h').out) := by
  intro k
  induction k with
  | zero => intro a h w _ ha hl; exact ⟨a, h, w, ha, by omega, zzo (by omega) (by omega) rfl⟩
  | succ k ih =>
    intro a h w hk ha hl
    have e : (((k + 1 : Nat) : Int) - 1) = (k : Int) := by omega
    have next : ∀ (x : Int) (a2 h2 : Int), 0 ≤ a2 → ∃ a' h' ys, 0 ≤ a' ∧ ys.length ≤ w.length + (k + 1) ∧
        WpL X F.z1j 0 (lb Tryz.f121 0) (z25 n xs (((k + 1 : Nat) : Int) - 1) c a2 h2 (w ++ [x])).st (fun o => o = (z86 xs ys c a' h').out) := fun x a2 h2 ha2 => by
      obtain ⟨a', h', ys, q1, q2, q4⟩ := ih a2 h2 (w ++ [x]) (by omega) ha2 (by simp; omega)
      rw [e]
      exact ⟨a', h', ys, q1, by simp at q2; omega, q4⟩
    by_cases hw : (w.length : Int) > 0
    · obtain ⟨r2, a2, h2, ha2, hr20, _, _, hrun2⟩ := zp hc 8 a h ha
      by_cases hz : r2 = 0
      · obtain ⟨a', h', ys, q1, q2, q4⟩ := next (w.getD (0 + ((w.length : Int) - 1).toNat) 0) a2 h2 ha2
        exact ⟨a', h', ys, q1, q2, zzl (by omega) (by omega) hw hrun2 hz (by omega) (by omega) (by omega) q4⟩
      · obtain ⟨r3, a3, h3, ha3, hr30, _, _, hrun3⟩ := zp hc n a2 h2 ha2
        obtain ⟨a', h', ys, q1, q2, q4⟩ := next r3 a3 h3 ha3
        exact ⟨a', h', ys, q1, q2, zzm (by omega) (by omega) hw hrun2 hz hrun3 (by omega) (by omega) q4⟩
    · obtain ⟨r3, a3, h3, ha3, hr30, _, _, hrun3⟩ := zp hc n a h ha
      have hnil : w = [] := List.length_eq_zero_iff.1 (by omega)
      subst hnil
      obtain ⟨a', h', ys, q1, q2, q4⟩ := next r3 a3 h3 ha3
      exact ⟨a', h', ys, q1, q2, zzn (by omega) (by omega) hw hrun3 (by omega) q4⟩
theorem zva {n : Nat} (hn8 : n ≤ 8) {m : Nat} (hm : m ≤ 32) (xs : List Int) (a h : Int) (ha : 0 ≤ a) : ∃ (ys : List Int) (a' h' : Int), 0 ≤ a' ∧ ys.length ≤ m ∧
    Runs X F.z1j [sp, .agg [iD n, .rsl 500001 0 xs.length], iD m] [srcRow c a h, iRow xs] ⟨.rsl 600000 0 ys.length, [some (srcRow c a' h'), some (iRow xs)], [iRow ys]⟩ := by
  by_cases hz : (n : Int) = 0
  · exact ⟨[], a, h, ha, by simp, zzj hz⟩
  · obtain ⟨r, a1, h1, ha1, hr0, hr1, _, hrun⟩ := zp hc ((m : Int) + 1) a h ha
    have hr1 := hr1 (by omega)
    obtain ⟨k, rfl⟩ := Int.eq_ofNat_of_zero_le hr0
    obtain ⟨a', h', ys, q1, q2, q4⟩ := zrw hc (n := n) (by omega) hn8 xs k a1 h1 [] (by omega) ha1 (by simp; omega)
    exact ⟨ys, a', h', q1, by simp at q2; omega, zzk hz (by omega) (by omega) hrun q4⟩
theorem zry {n : Nat} (hn : 1 ≤ n) (hn8 : n ≤ 8) (xs xs9 : List Int) : ∀ (k : Nat) (a h : Int) (w : List Int), 0 ≤ a → w.length + k = 33 → ∃ a' h' ys, 0 ≤ a' ∧ ys.length ≤ 33 ∧
      WpL X F.z1k 1 (lb Tryz.f90 0) (z5i n xs xs9 c a h w).st (fun o => o = (z6x xs9 ys c a' h').out) := by
  intro k
  induction k with
  | zero => intro a h w ha hl; exact ⟨a, h, w, ha, by omega, zk5 (by omega) (by omega) rfl⟩
  | succ k ih =>
    intro a h w ha hl
    by_cases hlt : (w.length : Int) < 25
    · obtain ⟨r, a1, h1, ha1, hr0, hr1, _, hrun⟩ := zp hc n a h ha
      obtain ⟨a', h', ys, q1, q2, q3⟩ := ih a1 h1 (w ++ [r]) ha1 (by simp; omega)
      exact ⟨a', h', ys, q1, q2, z10c (by omega) hlt hrun q3⟩
    · exact ⟨a, h, w, ha, by omega, zk5 (by omega) hlt rfl⟩
theorem z7u (n : Int) {m : Nat} (hm : m ≤ 32) (xs : List Int) (hxs : xs.length ≤ B40) (a h : Int) (ha : 0 ≤ a) : ∃ (ys : List Int) (a' h' : Int), 0 ≤ a' ∧ ys.length ≤ 33 ∧
    Runs X F.z1k [sp, .agg [iD n, .rsl 500001 0 xs.length], iD m] [srcRow c a h, iRow xs] ⟨.rsl 600000 0 ys.length, [some (srcRow c a' h'), some (iRow xs)], [iRow ys]⟩ := by
  have c2 := zdm n xs hxs
  cases hal : alOK n xs with
  | false => rw [hal] at c2; exact ⟨[0, 1, 0], a, h, ha, by simp, z109 c2 rfl⟩
  | true =>
    rw [hal] at c2
    have hn8 := alOK_n hal
    obtain ⟨N, rfl⟩ := Int.eq_ofNat_of_zero_le hn8.1
    obtain ⟨ys, a1, h1, ha1, hy, hrun⟩ := zva hc (n := N) (by omega) hm xs a h ha
    obtain ⟨r, a2, h2, ha2, _, _, _, hrun2⟩ := zp hc 28 a1 h1 ha1
    by_cases hz : r = 0
    · obtain ⟨p, a3, h3, ha3, _, hpick⟩ := z6i hc ([-1] ++ [(N : Int)] ++ [1099511627776]) (by simp) a2 h2 ha2
      have := z10a c2 rfl hrun hrun2 hz hpick (by omega)
      exact ⟨ys ++ [p], a3, h3, ha3, by simp; omega, by simpa using this⟩
    · by_cases ho : r = 1
      · by_cases hpos : (N : Int) > 0
        · obtain ⟨a', h', zs, q1, q2, q3⟩ := zry hc (n := N) (by omega) (by omega) xs xs (33 - ys.length) a2 h2 ys ha2 (by omega)
          exact ⟨zs, a', h', q1, q2, zk4 c2 rfl hrun hrun2 hz ho q3⟩
        · exact ⟨ys, a2, h2, ha2, by omega, zk4 c2 rfl hrun hrun2 hz ho (z10d hpos rfl)⟩
      · exact ⟨ys, a2, h2, ha2, by omega, z10b c2 rfl hrun hrun2 hz ho⟩
theorem zvc {l : Int} (h4 : 4 ≤ l) (h8 : l ≤ 8) {m : Nat} (hm : m ≤ 32) : ∃ (a h n : Int) (xs ys : List Int), 0 ≤ a ∧ xs.length ≤ 9 ∧ ys.length ≤ 33 ∧
    Runs X F.z2p [bD c, iD l, iD m] [] ⟨.tup [.ptr 600000 0, .agg [iD n, .rsl 600001 0 xs.length], .rsl 600002 0 ys.length], [], [srcRow c a h, iRow xs, iRow ys]⟩ := by
  obtain ⟨h0, hfrom⟩ := zv4 hc
  obtain ⟨n, xs, a1, h1, ha1, hn, hx, hmk, hrun⟩ := ziu hc h4 h8 0 h0 (by omega)
  obtain ⟨r, a2, h2, ha2, _, _, _, hrun2⟩ := zp hc 24 a1 h1 ha1
  by_cases hz : r = 0
  · obtain ⟨n', xs', a3, h3, ha3, hx', hrun3⟩ := zv9 hc h4 h8 a2 h2 ha2
    obtain ⟨ys, a4, h4', ha4, hy, hrun4⟩ := z7u hc n' hm xs' (by unfold B40; omega) a3 h3 ha3
    exact ⟨a4, h4', n', xs', ys, ha4, hx', hy, z101 hfrom hrun hrun2 hz hrun3 hrun4⟩
  · obtain ⟨ys, a4, h4', ha4, hy, hrun4⟩ := z7u hc n hm xs (by unfold B40; omega) a2 h2 ha2
    exact ⟨a4, h4', n, xs, ys, ha4, by omega, hy, z102 hfrom hrun hrun2 hz hrun4⟩
theorem zrx {T : Dep Int} {n : Nat} {xs : List Int} (ht : Tab T n xs) (hn1 : n ≤ 8) (ys : List Int) : ∀ (k : Nat) (a h : Int) (out rest : List Int), 0 ≤ a → rest.length = k → Wd n rest → Wd n out → out.length + k ≤ 64 →
    ∃ a' h' zs, 0 ≤ a' ∧ zs.length = out.length + k ∧ Wd n zs ∧
      WpL X F.z1z 0 (lb Tryz.f67 0) (z6w n xs ys c a h out rest).st (fun o => o = (zap xs ys zs c a' h').out) := by
  intro k
  induction k with
  | zero => intro a h out rest ha hr hw ho hl; exact ⟨a, h, out, ha, by omega, ho, z106 (by omega) rfl⟩
  | succ k ih =>
    intro a h out rest ha hr hw ho hl
    obtain ⟨x, tl, rfl⟩ : ∃ x tl, rest = x :: tl := by
      cases rest with
      | nil => simp at hr
      | cons x tl => exact ⟨x, tl, rfl⟩
    have hx := hw x (by simp)
    obtain ⟨r, a1, h1, ha1, hr0, hr1, _, hrun⟩ := zp hc n a h ha
    have hr1 := hr1 (by omega)
    have hbd : ∀ b : Nat, 0 ≤ (r + (b : Int)).tmod n ∧ (r + (b : Int)).tmod n < n := fun b => tmod_bd (by omega) (by omega)
    rcases z8f (q := fun b : Nat => !isFirst T (x :: tl) ((r + (b : Int)).tmod n)) n with hall | ⟨b, hb1, hb2, hb3⟩
    · exfalso
      have e0 : isFirst T (x :: tl) x = true := by simp [isFirst]
      have hb : ((x - r) % n).toNat < n := by
        have h1 := Int.emod_nonneg (x - r) (b := (n : Int)) (by omega)
        have h2 := Int.emod_lt_of_pos (x - r) (b := (n : Int)) (by omega)
        omega
      have := hall _ hb
      have h1 := Int.emod_nonneg (x - r) (b := (n : Int)) (by omega)
      have e1 : (r + ((((x - r) % n).toNat : Nat) : Int)).tmod n = x := by
        rw [Int.toNat_of_nonneg h1, Int.tmod_eq_emod_of_nonneg (by omega), Int.add_emod, Int.emod_emod, ← Int.add_emod]
        have : r + (x - r) = x := by omega
        rw [this, Int.emod_eq_of_lt (by omega) (by omega)]
      rw [e1, e0] at this
      cases this
    · have hf : isFirst T (x :: tl) ((r + (b : Int)).tmod n) = true := by simpa using hb2
      have hm := z16 hf
      have inner : WL F.z1z 2 Tryz.f67 1 (z5h n xs ys out (x :: tl) r c a1 h1 0) (zaq n xs ys c a1 h1 (out ++ [(r + (b : Int)).tmod n]) ((x :: tl).erase ((r + (b : Int)).tmod n))) := by
        refine loop_to (N := b) (st := fun i => z5h n xs ys out (x :: tl) r c a1 h1 i) (fun i hi Q hq => ?_) (fun Q hq => ?_)
        · have c1 := z2m ht (n : Int) hw (a := (r + (i : Int)).tmod n) (hbd i) (by unfold B40; omega)
          have hnf : isFirst T (x :: tl) ((r + (i : Int)).tmod n) = false := by simpa using hb3 i hi
          rw [hnf] at c1
          apply z108
          case hq => exact hq
          all_goals first | exact c1 | (simp only [List.length_cons] at *; omega) | (simp; done)
        · have c1 := z2m ht (n : Int) hw (a := (r + (b : Int)).tmod n) (hbd b) (by unfold B40; omega)
          rw [hf] at c1
          have hix := List.idxOf_lt_length_of_mem hm
          have c2 := z3f hix (by unfold B40; omega)
          rw [z5s] at c2
          apply z107
          case hq => exact hq
          all_goals first | exact c1 | exact c2 | (simp only [if_true]; omega) | (simp only [List.length_cons] at *; omega)
      obtain ⟨a', h', zs, q1, q2, q3, q4⟩ := ih a1 h1 (out ++ [(r + (b : Int)).tmod n]) ((x :: tl).erase ((r + (b : Int)).tmod n)) ha1 (by rw [List.length_erase_of_mem hm]; omega) (hw.erase _)
        (fun y hy => by
          rcases List.mem_append.1 hy with hy | hy
          · exact ho y hy
          · rw [List.mem_singleton.1 hy]; exact hbd b) (by simp; omega)
      refine ⟨a', h', zs, q1, by rw [q2]; simp; omega, q3, ?_⟩
      exact z105 (by rw [hr]; omega) hrun inner q4
theorem zvd {T : Dep Int} {n : Nat} {xs : List Int} (ht : Tab T n xs) (hn1 : n ≤ 8) {ys : List Int} (hw : Wd n ys) (hl : ys.length ≤ 33) (a h : Int) (ha : 0 ≤ a) : ∃ (zs : List Int) (a' h' : Int), 0 ≤ a' ∧ zs.length = ys.length ∧ Wd n zs ∧
    Runs X F.z1z [sp, .agg [iD n, .rsl 500001 0 xs.length], .rsl 500002 0 ys.length] [srcRow c a h, iRow xs, iRow ys] ⟨.rsl 600000 0 zs.length, [some (srcRow c a' h'), some (iRow xs), some (iRow ys)], [iRow zs]⟩ := by
  obtain ⟨a', h', zs, q1, q2, q3, q4⟩ := zrx hc ht hn1 ys ys.length a h [] ys ha rfl hw (fun x hx => by cases hx) (by simp; omega)
  exact ⟨zs, a', h', q1, by simpa using q2, q3, z104 (z7t ys (by unfold B40; omega)) q4⟩
theorem zrz {N : Nat} {xs : List Int} (hal : Al N xs) (ys : List Int) : ∀ (k : Nat) (a h : Int) (w : List Int), k ≤ 64 → 0 ≤ a → Wd N w → w.length ≤ 24 → ∃ a' h' zs, 0 ≤ a' ∧ zs.length ≤ 24 ∧ 
      WpL X F.zy 0 (lb Tryz.f49 0) (z2e N xs ys k c a h w xs).st (fun o => o = (z2s N xs ys c a' h' zs xs).out) := by
  intro k
  induction k with
  | zero => intro a h w _ ha hw hl; exact ⟨a, h, w, ha, hl, z115 rfl (by omega) rfl⟩
  | succ k ih =>
    intro a h w hk ha hw hl
    by_cases h0 : (w.length : Int) > 0
    · have ht := tab_one hal
      have hs := hal.small
      obtain ⟨zs, a1, h1, ha1, hz1, hz2, hrun⟩ := zvd hc ht hs hw (by omega) a h ha
      have hz : zs.getD 0 0 ∈ zs := by rw [getD_lt (by omega)]; exact List.getElem_mem _
      have hb := hz2 _ hz
      have c34 := ziy ht (a := zs.getD 0 0) hw hb hl
      have e : (((k + 1 : Nat) : Int) - 1) = (k : Int) := by omega
      have e1 : List.take xs.length (List.drop 0 xs) = xs := by simp
      have e2 : List.take w.length (List.drop 0 w) = w := by simp
      by_cases hf : isFirst (dep1 hal) w (zs.getD 0 0) = true
      · rw [if_pos hf] at c34
        obtain ⟨s1, s2⟩ := z9p (T := dep1 hal) hw (z16 hf)
        obtain ⟨a', h', vs, q1, q2, q3⟩ := ih a1 h1 _ (by omega) ha1 s1 (by omega)
        refine ⟨a', h', vs, q1, q2, zkf rfl (by omega) h0 hrun (by omega) (by omega) (by omega) (b33 := true) (by rw [e1, e2]; exact c34) (by omega) ?_⟩
        rw [e]; exact q3
      · rw [if_neg hf] at c34
        obtain ⟨a', h', vs, q1, q2, q3⟩ := ih a1 h1 [] (by omega) ha1 (fun x hx => by cases hx) (by simp)
        refine ⟨a', h', vs, q1, q2, zkf rfl (by omega) h0 hrun (by omega) (by omega) (by omega) (xs32 := []) (b33 := false) (by rw [e1, e2]; exact c34) (by omega) ?_⟩
        rw [e]; exact q3
    · exact ⟨a, h, w, ha, hl, z114 rfl (by omega) h0 rfl⟩
theorem zus : ∃ (n : Int) (xs ys zs : List Int), xs.length ≤ 9 ∧ ys.length ≤ 33 ∧ zs.length ≤ 33 ∧
    Runs X F.z6p [bD c] [] ⟨.tup [.agg [iD n, .rsl 600000 0 xs.length], .rsl 600001 0 ys.length, .rsl 600002 0 zs.length], [], [iRow xs, iRow ys, iRow zs]⟩ := by
  suffices hs : ∃ (n : Int) (xs ys zs : List Int), xs.length ≤ 9 ∧ ys.length ≤ 33 ∧ zs.length ≤ 33 ∧
    Runs X F.zy [bD c] [] ⟨.tup [.agg [iD n, .rsl 600000 0 xs.length], .rsl 600001 0 ys.length, .rsl 600002 0 zs.length], [], [iRow xs, iRow ys, iRow zs]⟩ by
    obtain ⟨n, xs, ys, zs, h1, h2, h3, h4⟩ := hs
    exact ⟨n, xs, ys, zs, h1, h2, h3, zxh h4⟩
  obtain ⟨a, h, n, xs, ys, ha, hx, hy, hrun⟩ := zvc hc (l := 5) (by omega) (by omega) (m := 7) (by omega)
  have c9 := zvb n xs ys (by unfold B40; omega) (by unfold B40; omega)
  by_cases h0 : wdCode n xs [ys] = 0
  · rw [decide_eq_true h0] at c9
    obtain ⟨N, hal, rfl, _, hl24, hW⟩ := wd_one h0
    have ht := tab_one hal
    have c13 := z6j ht hW (by unfold B40; omega)
    obtain ⟨r, a1, h1, ha1, hr0, hr1, _, hrun1⟩ := zp hc 8 a h ha
    have hr8 := hr1 (by omega)
    obtain ⟨k, rfl⟩ := Int.eq_ofNat_of_zero_le hr0
    have hnW : Wd N (nform (dep1 hal) N ys) := fun x hx => hW x (((z2b (T := dep1 hal) hW).mem x).1 hx)
    obtain ⟨a2, h2, w, ha2, hwl, hlp⟩ := zrz hc hal ys k a1 h1 _ (by omega) ha1 hnW (by rw [z2k hW]; omega)
    by_cases hw1 : (w.length : Int) > 1
    · obtain ⟨r3, a3, h3, ha3, _, _, _, hrun3⟩ := zp hc 4 a2 h2 ha2
      by_cases hz3 : r3 = 0
      · obtain ⟨r4, a4, h4, ha4, hr40, hr41, _, hrun4⟩ := zp hc ((w.length : Int) - 1) a3 h3 ha3
        have hr41 := hr41 (by omega)
        obtain ⟨r5, a5, h5, ha5, _, _, _, hrun5⟩ := zp hc 20 a4 h4 ha4
        by_cases hz5 : r5 = 0
        · obtain ⟨vs, a6, h6, ha6, hv, hrun6⟩ := z7u hc (N : Int) (m := 7) (by omega) xs (by unfold B40; omega) a5 h5 ha5
          exact ⟨N, xs, ys, vs, hx, hy, hv, z10y hrun c9 rfl c13 hrun1 hlp hw1 hrun3 hz3 (by omega) hrun4 hr40 (by omega) (by omega) (by omega) hrun5 hz5 hrun6⟩
        · have := z10z hrun c9 rfl c13 hrun1 hlp hw1 hrun3 hz3 (by omega) hrun4 hr40 (by omega) (by omega) (by omega) hrun5 hz5
          refine ⟨N, xs, ys, (w.set (0 + r4.toNat) (w.getD (0 + (r4 + 1).toNat) 0)).set (0 + (r4 + 1).toNat) (w.getD (0 + r4.toNat) 0), hx, hy, ?_, ?_⟩
          · rw [List.length_set, List.length_set]; omega
          · rw [List.length_set, List.length_set]; exact this
      · obtain ⟨r5, a5, h5, ha5, _, _, _, hrun5⟩ := zp hc 20 a3 h3 ha3
        by_cases hz5 : r5 = 0
        · obtain ⟨vs, a6, h6, ha6, hv, hrun6⟩ := z7u hc (N : Int) (m := 7) (by omega) xs (by unfold B40; omega) a5 h5 ha5
          exact ⟨N, xs, ys, vs, hx, hy, hv, z110 hrun c9 rfl c13 hrun1 hlp hw1 hrun3 hz3 hrun5 hz5 hrun6⟩
        · exact ⟨N, xs, ys, w, hx, hy, by omega, z111 hrun c9 rfl c13 hrun1 hlp hw1 hrun3 hz3 hrun5 hz5⟩
    · obtain ⟨r5, a5, h5, ha5, _, _, _, hrun5⟩ := zp hc 20 a2 h2 ha2
      by_cases hz5 : r5 = 0
      · obtain ⟨vs, a6, h6, ha6, hv, hrun6⟩ := z7u hc (N : Int) (m := 7) (by omega) xs (by unfold B40; omega) a5 h5 ha5
        exact ⟨N, xs, ys, vs, hx, hy, hv, z112 hrun c9 rfl c13 hrun1 hlp hw1 hrun5 hz5 hrun6⟩
      · exact ⟨N, xs, ys, w, hx, hy, by omega, z113 hrun c9 rfl c13 hrun1 hlp hw1 hrun5 hz5⟩
  · rw [decide_eq_false h0] at c9
    exact ⟨n, xs, ys, [0], hx, hy, by simp, z10x hrun c9 rfl⟩
end
end Go.PR.S
