/- What the implementation's functions of the group come to, in full. -/
import Derived.Test.YtnhklcbddcoadaaDoorFwP14
import Derived.Test.YtnhklcbddcoadaaDoorFwP18
import Derived.Test.YtnhklcbddcoadaaDoorFwP16
import Derived.Test.YtnhklcbddcoadaaDoorFwP19
import Derived.Test.YtnhklcbddcoadaaDoorFwP26
set_option linter.unusedVariables false
set_option linter.unusedSimpArgs false
set_option linter.unusedSectionVars false
set_option maxRecDepth 20000
namespace Go.PR.S
open Go Go.PR Go.Proofs Gp
section
variable {N : Nat} {d : List Int}
theorem sg_al {w : List Int} (h : sgCode N d [w] = 0) : Al N d ∧ alOK N d = true := by
  obtain ⟨N', ha, e, _⟩ := sg_one h
  obtain rfl : N = N' := by omega
  refine ⟨ha, ?_⟩
  unfold sgCode at h
  cases h1 : alOK (N : Int) d with
  | true => rfl
  | false => rw [h1] at h; simp at h
theorem z59 (ha : Al N d) {w : List Int} (h : sgCode N d [w] = 0) : 2 * N ≤ 62 ∧ w.length ≤ 24 ∧ Bd w ∧ (∀ x ∈ w, x ≠ 0) ∧ Wd (2 * N) (w.map code) := by
  obtain ⟨N', _, e, h1, h2, h3, h4, h5⟩ := sg_one h
  obtain rfl : N = N' := by omega
  exact ⟨h1, h2, h3, h4, h5⟩
theorem z5a (hal : alOK N d = true) {W : List Int} (hW : Wd (2 * N) W) (hl : W.length ≤ 24) : sgCode N d [W.map sign] = 0 := by
  have : sgOK N (W.map sign) = true := by
    unfold sgOK
    rw [Bool.and_eq_true, decide_eq_true_eq, List.all_eq_true]
    refine ⟨by simpa using hl, fun x hx => ?_⟩
    obtain ⟨c, hc, rfl⟩ := List.mem_map.1 hx
    have := hW c hc
    rw [decide_eq_true_eq]
    unfold sign
    split <;> omega
  unfold sgCode
  rw [hal]
  simp [this]
theorem sg_pair {u v : List Int} (hu : sgCode N d [u] = 0) (hv : sgCode N d [v] = 0) : sgCode N d [u, v] = 0 := by
  have h1 := (sg_al hu).2
  unfold sgCode at hu hv ⊢
  rw [h1] at hu hv ⊢
  cases h2 : sgOK N u <;> cases h3 : sgOK N v <;> simp [h2, h3] at hu hv ⊢
variable (ha : Al N d) (hd : d.length ≤ B40)
include ha hd
theorem zo2 {w : List Int} (h0 : sgCode N d [w] = 0) : Runs X F.z8x [alD N d, lD w] [] (pairR ((gnf ha (w.map code)).map sign) 0) := by
  obtain ⟨hN, hl, hb, hz, hW⟩ := z59 ha h0
  have bw : w.length ≤ B40 := by unfold B40; omega
  have c2 : Runs X F.zk [alD N d, .imm2 .i64 [w]] [] (intR (sgCode N d [w])) := z44 N d [w] hd (by simp [B40]) (by simp [bw])
  have hc : (w.map code).length ≤ 24 := by simpa using hl
  have hg := gnf_le ha hW
  have gW : Wd (2 * N) (gnf ha (w.map code)) := gnf_Wd ha hW
  have k5 := z58 ha
  have k6 := z45 hb bw
  have k7 := z31 ha hW (by unfold B40; omega)
  have k8 := z54 hN gW (by unfold B40; omega)
  rw [if_pos (by omega)] at k8
  exact zo8 c2 h0 k5 k6 k7 k8
theorem zo4 {w : List Int} {K : Nat} (hK : K ≤ 24) (h0 : sgCode N d [w] = 0) :
    Runs X F.z4o [alD N d, lD w, iD K] [] (if (gnf ha (rep (w.map code) K)).length ≤ 24 then pairR ((gnf ha (rep (w.map code) K)).map sign) 0 else pairR [] 3) := by
  obtain ⟨hN, hl, hb, hz, hW⟩ := z59 ha h0
  have bw : w.length ≤ B40 := by unfold B40; omega
  have c2 : Runs X F.zk [alD N d, .imm2 .i64 [w]] [] (intR (sgCode N d [w])) := z44 N d [w] hd (by simp [B40]) (by simp [bw])
  have c3 := za2 (K : Int) (-24) 24
  rw [decide_eq_true (by omega)] at c3
  have hc : (w.map code).length ≤ 24 := by simpa using hl
  have k5 := z58 ha
  have k6 := z45 hb bw
  generalize w.map code = G at *
  have q2 := zdn (K := K) hc (by omega)
  have hR := rep_Wd hW K
  have hRl := rep_len G K
  have hmul := Nat.mul_le_mul hK hc
  have hg := gnf_le ha hR
  have k7 := z31 ha hR (by unfold B40; omega)
  have gW := gnf_Wd ha hR
  have k8 := z54 hN gW (by unfold B40; omega)
  by_cases h24 : (gnf ha (rep G K)).length ≤ 24
  · rw [if_pos h24] at k8 ⊢
    exact zgs c2 h0 c3 rfl k6 (by omega) k5 q2 k7 k8
  · rw [if_neg h24] at k8 ⊢
    exact zgs c2 h0 c3 rfl k6 (by omega) k5 q2 k7 k8
theorem zo5 {w : List Int} {K : Nat} (hK0 : 1 ≤ K) (hK : K ≤ 24) (h0 : sgCode N d [w] = 0) :
    Runs X F.z4o [alD N d, lD w, iD (-(K : Int))] [] (if (gnf ha (rep (((w.map code).map opp).reverse) K)).length ≤ 24 then pairR ((gnf ha (rep (((w.map code).map opp).reverse) K)).map sign) 0 else pairR [] 3) := by
  obtain ⟨hN, hl, hb, hz, hW⟩ := z59 ha h0
  have bw : w.length ≤ B40 := by unfold B40; omega
  have c2 : Runs X F.zk [alD N d, .imm2 .i64 [w]] [] (intR (sgCode N d [w])) := z44 N d [w] hd (by simp [B40]) (by simp [bw])
  have c3 := za2 (-(K : Int)) (-24) 24
  rw [decide_eq_true (by omega)] at c3
  have hc : (w.map code).length ≤ 24 := by simpa using hl
  have k5 := z58 ha
  have k6 := z45 hb bw
  generalize w.map code = G at *
  have hB := Wd_back hW
  have hcb : ((G.map opp).reverse).length ≤ 24 := by simpa using hc
  have ki := za3 hN hW (by unfold B40; omega)
  generalize (G.map opp).reverse = V at *
  have q2 := zdn (K := K) hcb (by omega)
  have hR := rep_Wd hB K
  have hRl := rep_len V K
  have hmul := Nat.mul_le_mul hK hcb
  have hg := gnf_le ha hR
  have k7 := z31 ha hR (by unfold B40; omega)
  have gW := gnf_Wd ha hR
  have k8 := z54 hN gW (by unfold B40; omega)
  have hneg : - (-(K : Int)) = (K : Int) := by omega
  rw [← hneg] at q2
  by_cases h24 : (gnf ha (rep V K)).length ≤ 24
  · rw [if_pos h24] at k8 ⊢
    exact zgr c2 h0 c3 rfl k6 (by omega) ki (by omega) k5 q2 k7 k8
  · rw [if_neg h24] at k8 ⊢
    exact zgr c2 h0 c3 rfl k6 (by omega) ki (by omega) k5 q2 k7 k8
theorem zo6 {u v : List Int} (hu0 : sgCode N d [u] = 0) (hv0 : sgCode N d [v] = 0) :
    Runs X F.z8z [alD N d, lD u, lD v] [] (if (gnf ha (u.map code ++ v.map code)).length ≤ 24 then pairR ((gnf ha (u.map code ++ v.map code)).map sign) 0 else pairR [] 3) := by
  obtain ⟨hN, hlu, hbu, hzu, hWu⟩ := z59 ha hu0
  obtain ⟨_, hlv, hbv, hzv, hWv⟩ := z59 ha hv0
  have bu : u.length ≤ B40 := by unfold B40; omega
  have bv : v.length ≤ B40 := by unfold B40; omega
  have c2 : Runs X F.zk [alD N d, .imm2 .i64 ([u] ++ [v])] [] (intR (sgCode N d [u, v])) := z44 N d [u, v] hd (by simp [B40]) (by simp [bu, bv])
  have h0 := sg_pair hu0 hv0
  have k5 := z58 ha
  have k6 := z45 hbu bu
  have k7 := z45 hbv bv
  have hcu : (u.map code).length ≤ 24 := by simpa using hlu
  have hcv : (v.map code).length ≤ 24 := by simpa using hlv
  generalize u.map code = U at *
  generalize v.map code = V at *
  have hW := zp hWu hWv
  have hl : (U ++ V).length ≤ 48 := by rw [List.length_append]; omega
  have kc := za1 [U, V] (by simp [B40]) (by simp only [List.flatten_cons, List.flatten_nil, List.append_nil]; unfold B40; omega)
  have ef : [U, V].flatten = U ++ V := by simp
  rw [ef] at kc
  have hg := gnf_le ha hW
  have k9 := z31 ha hW (by unfold B40; omega)
  have gW := gnf_Wd ha hW
  have ke := z54 hN gW (by unfold B40; omega)
  by_cases h24 : (gnf ha (U ++ V)).length ≤ 24
  · rw [if_pos h24] at ke ⊢
    exact zgt c2 h0 k5 k6 k7 kc k9 ke
  · rw [if_neg h24] at ke ⊢
    exact zgt c2 h0 k5 k6 k7 kc k9 ke
theorem zo3 {w : List Int} (h0 : sgCode N d [w] = 0) : Runs X F.z8y [alD N d, lD w] [] (pairR ((gnf ha (((w.map code).map opp).reverse)).map sign) 0) := by
  obtain ⟨hN, hl, hb, hz, hW⟩ := z59 ha h0
  have bw : w.length ≤ B40 := by unfold B40; omega
  have c2 : Runs X F.zk [alD N d, .imm2 .i64 [w]] [] (intR (sgCode N d [w])) := z44 N d [w] hd (by simp [B40]) (by simp [bw])
  have hc : (w.map code).length ≤ 24 := by simpa using hl
  have hB := Wd_back hW
  have hcb : ((w.map code).map opp).reverse.length ≤ 24 := by simpa using hl
  have hg := gnf_le ha hB
  have ki := za3 hN hW (by unfold B40; omega)
  have gW : Wd (2 * N) (gnf ha ((w.map code).map opp).reverse) := gnf_Wd ha hB
  have k5 := z58 ha
  have k6 := z45 hb bw
  have k7 := z31 ha hB (by unfold B40; omega)
  have k8 := z54 hN gW (by unfold B40; omega)
  rw [if_pos (by omega)] at k8
  exact zoa c2 h0 k5 k6 ki k7 k8
end
end Go.PR.S
