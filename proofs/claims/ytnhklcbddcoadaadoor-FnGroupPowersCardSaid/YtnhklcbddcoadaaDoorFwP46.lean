/- The draw of FnGroupPowers comes back with a short word. -/
import Derived.Test.YtnhklcbddcoadaaDoorFwP28
import Derived.Test.YtnhklcbddcoadaaDoorFwP30
import Derived.Test.YtnhklcbddcoadaaDoorFwG34
import Derived.Test.YtnhklcbddcoadaaDoorFwP44
set_option linter.unusedVariables false
set_option linter.unusedSimpArgs false
set_option linter.unusedSectionVars false
section
set_option maxRecDepth 20000
namespace Go.PR.S
open Go Go.PR Go.Proofs Gp
section
variable {c : List Int} (hc : Bytes c)
include hc
theorem ztt : ∃ (n : Int) (xs ys : List Int), xs.length ≤ 9 ∧ ys.length ≤ 33 ∧
    Runs X F.z5d [bD c] [] ⟨.tup [.agg [iD n, .rsl 600000 0 xs.length], .rsl 600001 0 ys.length], [], [iRow xs, iRow ys]⟩ := by
  obtain ⟨a, h, n, xs, ys, ha, hx, hy, hrun⟩ := zuf hc (l := 5) (by omega) (by omega) (m := 4) (by omega)
  have c9 := zue n xs ys (by unfold B40; omega) (by unfold B40; omega)
  by_cases h0 : sgCode n xs [ys] = 0
  · rw [decide_eq_true h0] at c9
    obtain ⟨N, hal, rfl, hN, hl24, _⟩ := sg_one h0
    have hs := hal.small
    have hyl : ys.length ≤ 24 := by simpa using hl24
    obtain ⟨g, a1, h1, ha1, hg, hb, hrun1⟩ := zj5 hc (n := N) hs (m := 3) (by omega) xs a h ha
    obtain ⟨r, a2, h2, ha2, hr0, hr1, _, hrun2⟩ := zy hc 4 a1 h1 ha1
    have hr4 := hr1 (by omega)
    obtain ⟨K, hK⟩ : ∃ K : Nat, r + 1 = (K : Int) := ⟨(r + 1).toNat, by omega⟩
    have c21 := z56 g (by unfold B40; omega)
    have c22 := zj3 (w := ys) (K := K) hyl (by omega)
    rw [← hK] at c22
    have hW : Wd (2 * N) (g.map code) := code_Wd hb
    have k1 := zj6 (w := g) (fun x hx => by have := hb x hx; omega) (fun x hx => (hb x hx).1) (by unfold B40; omega)
    have k2 := zj4 (m := 2 * N) hN hW (by rw [List.length_map]; unfold B40; omega)
    have k3 := zj7 hN (Wd_back hW) (by rw [List.length_reverse, List.length_map, List.length_map]; unfold B40; omega)
    have e3 : ((((g.map code).map opp).reverse).map sign).length = g.length := by simp
    have hrl := rep_len ys K
    have hmul := Nat.mul_le_mul (show K ≤ 4 by omega) hyl
    by_cases h24 : ((g ++ rep ys K ++ (((g.map code).map opp).reverse).map sign).length : Int) > 24
    · exact ⟨N, xs, ys, hx, hy, zw6 hrun c9 rfl hrun1 hrun2 (by omega) (by omega) c21 c22 (by omega) k1 k2 k3 (by rw [e3, List.length_append]; omega) h24⟩
    · exact ⟨N, xs, _, hx, by omega, zw7 hrun c9 rfl hrun1 hrun2 (by omega) (by omega) c21 c22 (by omega) k1 k2 k3 (by rw [e3, List.length_append]; omega) h24⟩
  · rw [decide_eq_false h0] at c9
    exact ⟨n, xs, ys, hx, hy, zw5 hrun c9 rfl⟩
end
end Go.PR.S

end

section
set_option maxRecDepth 20000
namespace Go.PR.S
open Go Go.PR Go.Proofs Gp
theorem Runs.unique {f : FuncId} {args : List D} {prows : List Row} {r r' : Ret} (h : Runs X f args prows r) (h' : Runs X f args prows r') : r = r' := by
  obtain ⟨K, hK⟩ := h
  obtain ⟨K', hK'⟩ := h'
  have h1 := hK (max K K') (by omega)
  have h2 := hK' (max K K') (by omega)
  rw [h1] at h2
  exact Option.some.inj h2
theorem zm7 {c : List Int} (hr : ∀ x ∈ c, 0 ≤ x ∧ x ≤ 255) (h : ¬ (c.length : Int) > 4096) : Bytes c := ⟨by omega, hr⟩
theorem z9m (xs : List Int) (h : xs.length ≤ B40) : Runs X F.z17 [lD xs, lD xs] [] (boolR true) := by
  have := zug xs xs h
  rwa [decide_eq_true rfl] at this
theorem z4g {G : Grp Int} (u : List Int) : ∀ k, Gp.back G (reps u k) = reps (Gp.back G u) k
  | 0 => rfl
  | k + 1 => by
    have e : reps (Gp.back G u) (k + 1) = reps (Gp.back G u) k ++ Gp.back G u := zij _ k
    rw [z1m, z8l, z4g u k, e]
section
variable {N : Nat} {d : List Int}
theorem CoF.gnf (ha : Al N d) {c f w : List Int} (h : CoF ha c f w) : CoF ha c f (Go.PR.S.gnf ha w) :=
  ⟨h.cW, h.fW, gnf_Wd ha h.wW, h.fg, h.noE, by rw [gnf_gnf ha h.wW]; exact h.len, h.eq.trans (geq_gnf ha h.wW).symm⟩
theorem CoF.small (ha : Al N d) {c f w : List Int} (h : CoF ha c f w) (hl : w.length ≤ 24) : f.length + c.length + f.length ≤ 24 := by
  have := gnf_le ha h.wW
  have := h.len
  omega
theorem ztl {T : Dep Int} {m : Nat} {c : List Int} (hc : Wd m c) (hne : c ≠ []) : 1 ≤ rootK T m c ∧ rootK T m c ≤ c.length ∧ rootW T m c ≠ [] := by
  obtain ⟨k1, k2, _⟩ := z6i (T := T) hc hne
  have hl := k2.length
  rw [z7y] at hl
  have hp := List.length_pos_iff.2 hne
  have hw : (rootW T m c).length ≠ 0 := by intro h; rw [h, Nat.zero_mul] at hl; omega
  refine ⟨k1, ?_, fun h => hw (by rw [h]; rfl)⟩
  rw [hl]
  exact Nat.le_mul_of_pos_left _ (by omega)
theorem zgp (ha : Al N d) (hd : d.length ≤ B40) {w c f : List Int} (h0 : sgCode N d [w] = 0) (h : CoF ha c f (w.map code)) (hne0 : c ≠ []) :
    Runs X F.z2t [alD N d, lD w] [] (rootR ((rootG ha c f).map sign) (rootK (grp ha).toDep (2 * N) c : Nat) 0) := by
  obtain ⟨hN, hl, hb, hz, hW⟩ := z59 ha h0
  have hw : w.length ≤ B40 := by unfold B40; omega
  have c2 : Runs X F.zk [alD N d, .imm2 .i64 [w]] [] (intR (sgCode N d [w])) := z44 N d [w] hd (by simp [B40]) (by simp [hw])
  have hc : (w.map code).length ≤ 24 := by simpa using hl
  obtain ⟨c', f', w1, w2, w3, w4, w5, w6, w7, w8, r1, r2⟩ := ziz ha hW hc
  have h' : CoF ha c' f' (w.map code) := ⟨w1, w2, hW, w4, w5, w6, w7⟩
  obtain ⟨rfl, e2⟩ := h.unique ha h'
  obtain ⟨q1, q2⟩ := zdl w1 h.cW e2
  have he : c' ≠ [] := fun hh => hne0 (by have := e2.length; rw [hh] at this; exact List.eq_nil_of_length_eq_zero this.symm)
  have eG : rootG ha c f' = rootG ha c' f' := by unfold rootG; rw [q2]
  rw [eG, ← q1]
  have hgl := gnf_le ha hW
  have hcl := h'.small ha hc
  have k6 := z58 ha
  have k7 := z45 hb hw
  have hne : ¬ ((c'.length : Nat) : Int) = 0 := by have := List.length_pos_iff.2 he; omega
  obtain ⟨q1, q2⟩ := zja (tab_dbl ha) w1 (by omega)
  have hrW := zis (T := (grp ha).toDep) w1
  have hrl := zdk (T := (grp ha).toDep) w1
  have k8 := za3 hN w2 (by unfold B40; omega)
  have hbl : ((f'.map opp).reverse).length = f'.length := by simp
  have hbW := Wd_opps w2
  have hall : Wd (2 * N) (f' ++ rootW (grp ha).toDep (2 * N) c' ++ (f'.map opp).reverse) := zp (zp w2 hrW) hbW
  have hallL : (f' ++ rootW (grp ha).toDep (2 * N) c' ++ (f'.map opp).reverse).length ≤ 24 := by
    rw [List.length_append, List.length_append, hbl]; omega
  have kc := za1 [f', rootW (grp ha).toDep (2 * N) c', (f'.map opp).reverse] (by simp [B40]) (by
    simp only [List.flatten_cons, List.flatten_nil, List.append_nil]
    rw [← List.append_assoc]; unfold B40; omega)
  have ef : [f', rootW (grp ha).toDep (2 * N) c', (f'.map opp).reverse].flatten = f' ++ rootW (grp ha).toDep (2 * N) c' ++ (f'.map opp).reverse := by simp
  rw [ef] at kc
  have kg := z31 ha hall (by unfold B40; omega)
  have hg2 := gnf_le ha hall
  have gW := gnf_Wd ha hall
  have ke := z54 hN gW (by unfold B40; omega)
  rw [if_pos (by omega)] at ke
  unfold rootG
  apply zgv
  all_goals first | exact c2 | exact h0 | exact k6 | exact k7 | exact r2 | exact hne | exact q1 | exact k8 | exact kc | exact kg | exact ke | omega | rfl
end
theorem run_FnGroupPowers (c : List Int) (hr : ∀ x ∈ c, 0 ≤ x ∧ x ≤ 255) : Runs X F.z7s [bD c] [] (boolR true) := by
  have c2 := zu0 c
  by_cases hb : (c.length : Int) > 4096
  · rw [decide_eq_true hb] at c2
    exact zrq c2 rfl
  · rw [decide_eq_false hb] at c2
    obtain ⟨n, xs, ys, hx, hy, c8⟩ := ztt (zm7 hr hb)
    have bx : xs.length ≤ B40 := by unfold B40; omega
    have by_ : ys.length ≤ B40 := by unfold B40; omega
    obtain ⟨ts, k, r, ht, s1, s2, hfull⟩ := ztv n xs ys bx by_
    have c22 := z9m ts ht
    by_cases hr0 : r = 0
    · subst hr0
      have k2 : Runs X F.zk [alD n xs, .imm2 .i64 [ys]] [] (intR (sgCode n xs [ys])) := z44 n xs [ys] bx (by simp [B40]) (by simp [by_])
      have h0 : sgCode n xs [ys] = 0 := by
        by_cases h0 : sgCode n xs [ys] = 0
        · exact h0
        · have e : rootR ts k 0 = rootR [] 0 (sgCode n xs [ys]) := Runs.unique s2 (zgu k2 h0)
          injection e with e1 _ _
          injection e1 with e1
          injection e1 with _ e2
          injection e2 with _ e2
          injection e2 with e2 _
          injection e2 with _ e2
          exact e2.symm
      obtain ⟨N, ha, co, f, rfl, w1, w2, w3, hne, g1, g2, g3, g4, g5, hl24, _, rfl, rfl⟩ := hfull rfl
      have hC : CoF ha co f (ys.map code) := ⟨w1, w2, w3, g2, g3, g4, g5⟩
      have hal := (sg_al h0).2
      have hyl : (ys.map code).length ≤ 24 := by simpa using hl24
      have hsm := hC.small ha hyl
      obtain ⟨hK1, hKl, hRne⟩ := ztl (T := (grp ha).toDep) w1 hne
      have hR := hC.root ha hne
      have hrl := zdk (T := (grp ha).toDep) w1
      have hRg : gnf ha (rootG ha co f) = rootG ha co f := gnf_gnf ha (zp (zp w2 hR.cW) (Wd_back w2))
      have hRl : (rootG ha co f).length ≤ 24 := by
        have := hR.len
        rw [hRg] at this
        omega
      have hRW := hR.wW
      have hpow := hC.power ha hne
      have hag := hC.again ha hne hR
      have hCb := hC.back ha
      have htu := hC.turned ha hne hCb
      have c36 := zgp ha bx (z5a hal hRW hRl) (by rw [z7b hRW]; exact hR) hRne
      rw [hag.1, hag.2] at c36
      have c67 := zo3 ha bx (z5a hal hRW hRl)
      have c32 := zo2 ha bx h0
      have c29 := zo4 ha bx (K := rootK (grp ha).toDep (2 * N) co) (by omega) (z5a hal hRW hRl)
      have c57 := zo5 ha bx (K := rootK (grp ha).toDep (2 * N) co) hK1 (by omega) (z5a hal hRW hRl)
      have t0 := z5a hal hRW hRl
      rw [z7b hRW] at c29 c57 c67
      generalize rootG ha co f = R at *
      generalize rootK (grp ha).toDep (2 * N) co = K at *
      generalize ys.map code = W at *
      have hbR : Wd (2 * N) (Gp.back (grp ha) R) := Wd_back hRW
      have hbW : Wd (2 * N) (Gp.back (grp ha) W) := Wd_back w3
      have e29 : gnf ha (rep R K) = gnf ha W := (gnf_geq ha (rep_Wd hRW K) w3).2 hpow
      have e57 : gnf ha (rep ((R.map opp).reverse) K) = gnf ha (Gp.back (grp ha) W) := (gnf_geq ha (rep_Wd hbR K) hbW).2 (by
        have := hpow.back
        rwa [z4g] at this)
      have lW := gnf_le ha w3
      have lB := gnf_le ha hbW
      rw [z4f] at lB
      rw [e29, if_pos (by omega)] at c29
      rw [e57, if_pos (by omega)] at c57
      have gW := gnf_Wd ha w3
      have gB := gnf_Wd ha hbW
      have v0 := z5a hal gW (by omega)
      have b0 := z5a hal gB (by omega)
      have c60 := zo6 ha bx v0 b0
      have c64 := zgp ha bx b0 (by rw [z7b gB]; exact hCb.gnf ha) (fun hh => hne (by
        have := congrArg List.length hh
        rw [z4f] at this
        exact List.eq_nil_of_length_eq_zero this))
      have e60 : gnf ha (gnf ha W ++ gnf ha (Gp.back (grp ha) W)) = [] := by
        have h1 : gnf ha (gnf ha W ++ gnf ha (Gp.back (grp ha) W)) = gnf ha [] := (gnf_geq ha (zp gW gB) (fun x hx => by cases hx)).2
          (((geq_gnf ha w3).append (geq_gnf ha hbW)).trans (zca W))
        have h2 := gnf_le ha (u := ([] : List Int)) (fun x hx => by cases hx)
        rw [h1]
        exact List.eq_nil_of_length_eq_zero (by simpa using h2)
      rw [z7b gW, z7b gB, e60, if_pos (by simp)] at c60
      rw [htu.1, htu.2] at c64
      have bl : ∀ (u : List Int), u.length ≤ 24 → (u.map sign).length ≤ B40 := fun u hu => by rw [List.length_map]; unfold B40; omega
      have c46 := z9m ((gnf ha W).map sign) (bl _ (by omega))
      have c50 := z9m (R.map sign) (bl _ hRl)
      have lbR := gnf_le ha hbR
      rw [z4f] at lbR
      have c75 := z9m ((gnf ha (Gp.back (grp ha) R)).map sign) (bl _ (by omega))
      exact zrr c2 rfl c8 s2 s1 rfl rfl c22 rfl rfl c29 c32 c36 rfl rfl rfl rfl c46 rfl c50 rfl (by omega) (by omega) c57 c60 c64 c67 rfl rfl rfl rfl rfl rfl c75
    · exact zrs c2 rfl c8 s2 s1 rfl rfl c22 rfl hr0
end Go.PR.S

end
