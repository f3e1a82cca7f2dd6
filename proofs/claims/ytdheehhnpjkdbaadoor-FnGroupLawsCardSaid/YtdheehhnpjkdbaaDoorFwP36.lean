/- The laws of the group: the law comes to true. -/
import Derived.Test.YtdheehhnpjkdbaaDoorFwP35
import Derived.Test.YtdheehhnpjkdbaaDoorFwG20
/- The laws of the group: the law comes to true. -/
set_option linter.unusedVariables false
set_option linter.unusedSimpArgs false
set_option maxRecDepth 20000
namespace Go.PR.S
open Go Go.PR Go.Proofs Gp

section
variable {N : Nat} {d : List Int}

theorem gl_calls (ha : Al N d) (bd : d.length ≤ B40) {u v : List Int} (hu0 : sgCode N d [u] = 0) (hv0 : sgCode N d [v] = 0) (h24 : (gnf ha (u.map code ++ v.map code)).length ≤ 24) :
    ∃ back rest a b e : List Int, (Runs X F.impl_GroupForm [alD N d, lD ((gnf ha (u.map code ++ v.map code)).map sign)] [] (pairR ((gnf ha (u.map code ++ v.map code)).map sign) 0)) ∧
      Runs X F.impl_GroupInverse [alD N d, lD u] [] (pairR back 0) ∧
      Runs X F.impl_GroupProduct [alD N d, lD back, lD ((gnf ha (u.map code ++ v.map code)).map sign)] [] (pairR rest 0) ∧
      Runs X F.impl_GroupForm [alD N d, lD v] [] (pairR rest 0) ∧
      Runs X F.impl_ExponentsOf [alD N d, lD u] [] (pairR a 0) ∧ Runs X F.impl_ExponentsOf [alD N d, lD v] [] (pairR b 0) ∧
      Runs X F.impl_ExponentsOf [alD N d, lD ((gnf ha (u.map code ++ v.map code)).map sign)] [] (pairR e 0) ∧
      rest.length ≤ 24 ∧ a.length = N ∧ b.length = N ∧ e.length = N ∧ (∀ i, i < N → e.getD i 0 = a.getD i 0 + b.getD i 0 ∧ -48 ≤ a.getD i 0 + b.getD i 0 ∧ a.getD i 0 + b.getD i 0 ≤ 48) := by
  have hal := (sg_al hu0).2
  obtain ⟨hN, hlu, _, _, hWu⟩ := sg_facts ha hu0
  obtain ⟨_, hlv, _, _, hWv⟩ := sg_facts ha hv0
  have hUV := Wd_append hWu hWv
  have gW := gnf_Wd ha hUV
  have aW := sg_signs hal gW h24
  have i1 := imp_form ha bd aW
  rw [codes_signs gW, gnf_gnf ha hUV] at i1
  have hB := Wd_back hWu
  have gB := gnf_Wd ha hB
  have lB := gnf_le ha hB
  rw [List.length_reverse, List.length_map, List.length_map] at lB
  have aB := sg_signs hal gB (by omega)
  have i2 := imp_inverse ha bd hu0
  have i3 := imp_product ha bd aB aW
  have lV := gnf_le ha hWv
  rw [List.length_map] at lV
  rw [codes_signs gW, codes_signs gB, gnf_cancel ha hWu hWv, if_pos (by omega)] at i3
  have i4 := imp_form ha bd hv0
  have e1 := imp_expo ha bd hu0
  have e2 := imp_expo ha bd hv0
  have e3 := imp_expo ha bd aW
  rw [codes_signs gW] at e3
  refine ⟨_, _, _, _, _, i1, i2, i3, i4, e1, e2, e3, by rw [List.length_map]; omega, expo_length ha _, expo_length ha _, expo_length ha _, fun i hi => ⟨expo_add ha hWu hWv hi, ?_⟩⟩
  rw [expo_getD ha _ hi, expo_getD ha _ hi]
  have b1 := diff_bd ha (2 * (i : Int)) (u.map code)
  have b2 := diff_bd ha (2 * (i : Int)) (v.map code)
  rw [List.length_map] at b1 b2
  omega

theorem gl_last (ha : Al N d) (bd : d.length ≤ B40) {u v z : List Int} (hu0 : sgCode N d [u] = 0) (hv0 : sgCode N d [v] = 0) (h24 : (gnf ha (u.map code ++ v.map code)).length ≤ 24) (hz0 : sgCode N d [z] = 0) :
    ∃ (p q : List Int) (r s : Int), Runs X F.impl_GroupProduct [alD N d, lD ((gnf ha (u.map code ++ v.map code)).map sign), lD z] [] (pairR p r) ∧
      Runs X F.impl_GroupProduct [alD N d, lD v, lD z] [] (pairR q s) ∧ (r = 0 ∨ r = 3) ∧ (s = 0 ∨ s = 3) ∧
      (r = 0 → s = 0 → Runs X F.impl_GroupProduct [alD N d, lD u, lD q] [] (pairR p 0) ∧ p.length ≤ 24) := by
  have hal := (sg_al hu0).2
  obtain ⟨hN, hlu, _, _, hWu⟩ := sg_facts ha hu0
  obtain ⟨_, hlv, _, _, hWv⟩ := sg_facts ha hv0
  obtain ⟨_, hlz, _, _, hWz⟩ := sg_facts ha hz0
  have hUV := Wd_append hWu hWv
  have hVZ := Wd_append hWv hWz
  have gW := gnf_Wd ha hUV
  have gQ := gnf_Wd ha hVZ
  have aW := sg_signs hal gW h24
  have i1 := imp_product ha bd aW hz0
  rw [codes_signs gW] at i1
  have i2 := imp_product ha bd hv0 hz0
  by_cases h1 : (gnf ha (gnf ha (u.map code ++ v.map code) ++ z.map code)).length ≤ 24
  · rw [if_pos h1] at i1
    by_cases h2 : (gnf ha (v.map code ++ z.map code)).length ≤ 24
    · rw [if_pos h2] at i2
      refine ⟨_, _, _, _, i1, i2, .inl rfl, .inl rfl, fun _ _ => ⟨?_, by rw [List.length_map]; exact h1⟩⟩
      have aQ := sg_signs hal gQ h2
      have i3 := imp_product ha bd hu0 aQ
      rw [codes_signs gQ, gnf_assoc ha hWu hWv hWz, if_pos h1] at i3
      exact i3
    · rw [if_neg h2] at i2
      exact ⟨_, _, _, _, i1, i2, .inl rfl, .inr rfl, fun _ h => by cases h⟩
  · rw [if_neg h1] at i1
    by_cases h2 : (gnf ha (v.map code ++ z.map code)).length ≤ 24
    · rw [if_pos h2] at i2
      exact ⟨_, _, _, _, i1, i2, .inr rfl, .inl rfl, fun h => by cases h⟩
    · rw [if_neg h2] at i2
      exact ⟨_, _, _, _, i1, i2, .inr rfl, .inr rfl, fun h => by cases h⟩
end

def Ltr (n : Nat) (z : List Int) : Prop := ∀ x ∈ z, x ≠ 0 ∧ -(n : Int) ≤ x ∧ x ≤ n

theorem gl_zB {c : List Int} (hc : Bytes c) {n : Nat} (hn : n ≤ 1000) (xs ys zs ws : List Int) (o : Nat) (ho : o ≤ zs.length) : ∀ (k : Nat) (a h : Int) (z : List Int), 0 ≤ a → Ltr n z → z.length + k ≤ 4 →
    ∃ z', Ltr n z' ∧ z'.length ≤ 4 ∧ WpL X F.laws_FnGroupLaws 2 (lb Tryd.f13 1) (laws_FnGroupLawsB_s1 n xs ys zs o ws (k : Int) c a h z).st fun q => q = (laws_FnGroupLawsB_o1_1 n xs ys zs o ws z').out
  | 0, a, h, z, ha, hz, hl => ⟨z, hz, by omega, laws_FnGroupLawsB_r1_3 (by omega) (by omega) rfl⟩
  | k + 1, a, h, z, ha, hz, hl => by
    by_cases hn0 : (n : Int) > 0
    · obtain ⟨r, a1, h1, ha1, hr0, hr1, _, k1⟩ := run_below hc (n : Int) a h ha
      have hr1 := hr1 (by omega)
      obtain ⟨s, a2, h2, ha2, hs0, hs1, _, k2⟩ := run_below hc 2 a1 h1 ha1
      have hs1 := hs1 (by omega)
      have hm : (r + 1) * (1 - 2 * s) = r + 1 ∨ (r + 1) * (1 - 2 * s) = -(r + 1) := by
        rcases (show s = 0 ∨ s = 1 by omega) with rfl | rfl
        · left; omega
        · right; omega
      obtain ⟨z', g1, g2, g3⟩ := gl_zB hc hn xs ys zs ws o ho k a2 h2 (z ++ [(r + 1) * (1 - 2 * s)]) ha2 (fun x hx => by
        rcases List.mem_append.1 hx with hx | hx
        · exact hz x hx
        · rw [List.mem_singleton] at hx; subst hx; rcases hm with e | e <;> rw [e] <;> omega) (by simp; omega)
      refine ⟨z', g1, g2, ?_⟩
      have e : ((k + 1 : Nat) : Int) - 1 = (k : Int) := by omega
      refine laws_FnGroupLawsB_r1_1 (by omega) (by omega) hn0 k1 (by omega) (by omega) k2 (by omega) (by omega) (by omega) (by rcases hm with e | e <;> rw [e] <;> omega) (by rcases hm with e | e <;> rw [e] <;> omega) (by omega) (by omega) ?_
      rw [e]
      exact g3
    · exact ⟨z, hz, by omega, laws_FnGroupLawsB_r1_2 (by omega) (by omega) hn0 rfl⟩

theorem run_GLB {c : List Int} (hc : Bytes c) {n : Int} {xs ys zs : List Int} (o : Nat) (hx : xs.length ≤ 9) (hy : ys.length ≤ 33) (hz : zs.length ≤ 33) (ho : o ≤ zs.length)
    (c2 : Runs X F.laws_big [bD c] [] (boolR false))
    (c9 : Runs X F.spec_DrawGroupProduct [bD c] [] ⟨.tup [.agg [iD n, .rsl 600000 0 xs.length], .rsl 600001 0 ys.length, .rsl 600002 o (zs.length - o)], [], [iRow xs, iRow ys, iRow zs]⟩) :
    Runs X F.laws_FnGroupLaws [bD c] [] (boolR true) := by
  have bx : xs.length ≤ B40 := by unfold B40; omega
  have by_ : ys.length ≤ B40 := by unfold B40; omega
  have bv : (List.take (zs.length - o) (List.drop o zs)).length ≤ B40 := by unfold B40; rw [List.length_take, List.length_drop]; omega
  obtain ⟨ws, r, hw, s1, s2⟩ := run_GroupProduct n xs ys (List.take (zs.length - o) (List.drop o zs)) bx by_ bv
  have c19 := like_self ws hw
  by_cases hr0 : r = 0
  · subst hr0
    have k2 : Runs X F.impl_checkSigned [alD n xs, .imm2 .i64 ([ys] ++ [List.take (zs.length - o) (List.drop o zs)])] [] (intR (sgCode n xs [ys, List.take (zs.length - o) (List.drop o zs)])) := run_checkSigned n xs [ys, List.take (zs.length - o) (List.drop o zs)] bx (by simp [B40]) (by intro x hx; simp only [List.mem_cons, List.not_mem_nil, or_false] at hx; rcases hx with rfl | rfl; exact by_; exact bv)
    have h0 : sgCode n xs [ys, List.take (zs.length - o) (List.drop o zs)] = 0 := by
      by_cases h0 : sgCode n xs [ys, List.take (zs.length - o) (List.drop o zs)] = 0
      · exact h0
      · have e : pairR ws 0 = pairR [] (sgCode n xs [ys, List.take (zs.length - o) (List.drop o zs)]) := Runs.unique s2 (impl_GroupProduct_p1 k2 h0)
        exact (pairR_inj e).2.symm
    obtain ⟨hu0, hv0⟩ := sg_two h0
    obtain ⟨N, ha, rfl, _⟩ := sg_one hu0
    have hal := (sg_al hu0).2
    have hN8 := ha.small
    have i1 := imp_product ha bx hu0 hv0
    by_cases h24 : (gnf ha (ys.map code ++ (List.take (zs.length - o) (List.drop o zs)).map code)).length ≤ 24
    · rw [if_pos h24] at i1
      obtain ⟨rfl, _⟩ := pairR_inj (Runs.unique s2 i1)
      obtain ⟨back, rest, a, b, e, f1, f2, f3, f4, f5, f6, f7, l1, l2, l3, l4, hab⟩ := gl_calls ha bx hu0 hv0 h24
      have lw : ((gnf ha (ys.map code ++ (List.take (zs.length - o) (List.drop o zs)).map code)).map sign).length ≤ 24 := by rw [List.length_map]; exact h24
      have t1 : ∀ l : List Int, List.take l.length (List.drop 0 l) = l := fun l => by simp
      have k3 := like_self _ hw
      have k4 := like_self rest (by unfold B40; omega)
      obtain ⟨h25, c26⟩ := run_roll hc 518
      obtain ⟨k, a1, q1, ha1, hk0, hk1, _, c32⟩ := run_below hc 5 0 h25 (by omega)
      have hk1 := hk1 (by omega)
      obtain ⟨kn, rfl⟩ := Int.eq_ofNat_of_zero_le hk0
      obtain ⟨z, hz1, hz2, hlp2⟩ := gl_zB hc (n := N) (by omega) xs ys zs ((gnf ha (ys.map code ++ (List.take (zs.length - o) (List.drop o zs)).map code)).map sign) o ho kn a1 q1 [] ha1 (fun x hx => by cases hx) (by simp; omega)
      have hz0 : sgCode N xs [z] = 0 := sg_letters hal hz1 (by omega)
      obtain ⟨p, q, rr, ss, m1, m2, m3, m4, m5⟩ := gl_last ha bx hu0 hv0 h24 hz0
      have hlp := loop_to (f := F.laws_FnGroupLaws) (b := 0) (body := lb Tryd.f13 0) (N := e.length) (o := laws_FnGroupLawsB_o0_2 c N xs ys zs o ((gnf ha (ys.map code ++ (List.take (zs.length - o) (List.drop o zs)).map code)).map sign))
        (st := fun i => laws_FnGroupLawsB_s0 c N xs ys zs o ((gnf ha (ys.map code ++ (List.take (zs.length - o) (List.drop o zs)).map code)).map sign) a b e i)
        (fun i hi Q hq => by
          have hh := hab i (by omega)
          rw [← Nat.zero_add i] at hh
          exact laws_FnGroupLawsB_r0_2 c9 (by omega) (by omega) (by omega) (by omega) (by omega) (by omega) (by omega) (by omega) (by omega) hq)
        (fun Q hq => laws_FnGroupLawsB_r0_3 c9 (by omega) (by omega) (by omega) (by omega) (by omega) hq)
      have g1 : Runs X F.laws_likeInts [.immI .i64 (List.take ((gnf ha (ys.map code ++ (List.take (zs.length - o) (List.drop o zs)).map code)).map sign).length (List.drop 0 ((gnf ha (ys.map code ++ (List.take (zs.length - o) (List.drop o zs)).map code)).map sign))), .immI .i64 (List.take ((gnf ha (ys.map code ++ (List.take (zs.length - o) (List.drop o zs)).map code)).map sign).length (List.drop 0 ((gnf ha (ys.map code ++ (List.take (zs.length - o) (List.drop o zs)).map code)).map sign)))] [] (boolR true) := by rw [t1]; exact k3
      have g2 : Runs X F.laws_likeInts [.immI .i64 (List.take rest.length (List.drop 0 rest)), .immI .i64 (List.take rest.length (List.drop 0 rest))] [] (boolR true) := by rw [t1]; exact k4
      rcases m3 with rfl | rfl
      · rcases m4 with rfl | rfl
        · obtain ⟨m6, m7⟩ := m5 rfl rfl
          exact laws_FnGroupLawsB_p6 c2 rfl c9 (by omega) s2 s1 rfl c19 rfl rfl f1 f2 f3 f4 f5 f6 f7 rfl rfl rfl rfl rfl rfl rfl g1 rfl g2 rfl (by omega) (by omega) (by omega) hlp c26 c32 hlp2 m1 m2 rfl rfl m6 rfl (like_self p (by unfold B40; omega))
        · exact laws_FnGroupLawsB_p5 c2 rfl c9 (by omega) s2 s1 rfl c19 rfl rfl f1 f2 f3 f4 f5 f6 f7 rfl rfl rfl rfl rfl rfl rfl g1 rfl g2 rfl (by omega) (by omega) (by omega) hlp c26 c32 hlp2 m1 m2 rfl (by decide)
      · exact laws_FnGroupLawsB_p3 c2 rfl c9 (by omega) s2 s1 rfl c19 rfl rfl f1 f2 f3 f4 f5 f6 f7 rfl rfl rfl rfl rfl rfl rfl g1 rfl g2 rfl (by omega) (by omega) (by omega) hlp c26 c32 hlp2 m1 m2 (by decide) rfl
    · rw [if_neg h24] at i1
      have := (pairR_inj (Runs.unique s2 i1)).2
      cases this
  · exact laws_FnGroupLawsF_p1 c2 rfl c9 (by omega) s2 s1 rfl c19 rfl hr0

theorem run_FnGroupLaws (c : List Int) (hr : ∀ x ∈ c, 0 ≤ x ∧ x ≤ 255) : Runs X F.laws_FnGroupLaws [bD c] [] (boolR true) := by
  have c2 := run_big c
  by_cases hb : (c.length : Int) > 4096
  · rw [decide_eq_true hb] at c2
    exact laws_FnGroupLawsZ_p1 c2 rfl
  · rw [decide_eq_false hb] at c2
    have hc := bytes_of hr hb
    obtain ⟨n, xs, ys, zs, hx, hy, hz, c9 | ⟨o, ho, c9⟩⟩ := run_DrawGroupProduct hc
    · exact run_GLB hc 0 hx hy hz (by omega) c2 c9
    · exact run_GLB hc o hx hy hz ho c2 c9

end Go.PR.S
