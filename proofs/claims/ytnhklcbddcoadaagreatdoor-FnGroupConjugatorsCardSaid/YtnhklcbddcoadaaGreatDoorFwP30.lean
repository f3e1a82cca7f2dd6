/- What the implementation's functions of the group come to,in full. -/
import Derived.Test.YtnhklcbddcoadaaGreatDoorFwP14
import Derived.Test.YtnhklcbddcoadaaGreatDoorFwP18
import Derived.Test.YtnhklcbddcoadaaGreatDoorFwP16
import Derived.Test.YtnhklcbddcoadaaGreatDoorFwP19
import Derived.Test.YtnhklcbddcoadaaGreatDoorFwP26
set_option linter.unusedVariables false
set_option linter.unusedSimpArgs false
set_option linter.unusedSectionVars false
set_option maxRecDepth 20000
namespace Go.PR.S
open Go Go.PR Go.Proofs Gp
section
variable {N : Nat} {d : List Int}
theorem sg_al {w : List Int} (h : sgCode N d [w] = 0) : Al N d /\ alOK N d = true := by
 obtain ⟨N',ha,e,_⟩ := sg_one h
 obtain rfl : N = N' := by omega
 refine ⟨ha,?_⟩
 unfold sgCode at h
 cases h1 : alOK (N : Int) d with
 | true => rfl
 | false => rw [h1] at h; simp at h
theorem z2c (ha : Al N d) {w : List Int} (h : sgCode N d [w] = 0) : 2 * N <= 62 /\ w.length <= 24 /\ Bd w /\ (∀ x ∈ w,x ≠ 0) /\ Wd (2 * N) (w.map code) := by
 obtain ⟨N',_,e,h1,h2,h3,h4,h5⟩ := sg_one h
 obtain rfl : N = N' := by omega
 exact ⟨h1,h2,h3,h4,h5⟩
theorem zep (hal : alOK N d = true) {W : List Int} (hW : Wd (2 * N) W) (hl : W.length <= 24) : sgCode N d [W.map sign] = 0 := by
 have : sgOK N (W.map sign) = true := by
  unfold sgOK
  rw [Bool.and_eq_true,decide_eq_true_eq,List.all_eq_true]
  refine ⟨by simpa using hl,fun x hx => ?_⟩
  obtain ⟨c,hc,rfl⟩ := List.mem_map.1 hx
  have := hW c hc
  rw [decide_eq_true_eq]
  unfold sign
  split <;> omega
 unfold sgCode
 rw [hal]
 simp [this]
theorem sg_pair {u v : List Int} (hu : sgCode N d [u] = 0) (hv : sgCode N d [v] = 0) : sgCode N d [u,v] = 0 := by
 have h1 := (sg_al hu).2
 unfold sgCode at hu hv ⊢
 rw [h1] at hu hv ⊢
 cases h2 : sgOK N u <;> cases h3 : sgOK N v <;> simp [h2,h3] at hu hv ⊢
variable (ha : Al N d) (hd : d.length <= B40)
include ha hd
theorem zhq {u v : List Int} (hu0 : sgCode N d [u] = 0) (hv0 : sgCode N d [v] = 0) :
  Runs X F.z3i [alD N d,lD u,lD v] [] (if (gnf ha (u.map code ++ v.map code)).length <= 24 then pairR ((gnf ha (u.map code ++ v.map code)).map sign) 0 else pairR [] 3) := by
 obtain ⟨hN,hlu,hbu,hzu,hWu⟩ := z2c ha hu0
 obtain ⟨_,hlv,hbv,hzv,hWv⟩ := z2c ha hv0
 have bu : u.length <= B40 := by unfold B40; omega
 have bv : v.length <= B40 := by unfold B40; omega
 have c2 : Runs X F.zd [alD N d,.imm2 .i64 ([u] ++ [v])] [] (intR (sgCode N d [u,v])) := z73 N d [u,v] hd (by simp [B40]) (by simp [bu,bv])
 have h0 := sg_pair hu0 hv0
 have k5 := z8l ha
 have k6 := z4u hbu bu
 have k7 := z4u hbv bv
 have hcu : (u.map code).length <= 24 := by simpa using hlu
 have hcv : (v.map code).length <= 24 := by simpa using hlv
 generalize u.map code = U at *
 generalize v.map code = V at *
 have hW := z7n hWu hWv
 have hl : (U ++ V).length <= 48 := by rw [List.length_append]; omega
 have kc := zeb [U,V] (by simp [B40]) (by simp only [List.flatten_cons,List.flatten_nil,List.append_nil]; unfold B40; omega)
 have ef : [U,V].flatten = U ++ V := by simp
 rw [ef] at kc
 have hg := gnf_le ha hW
 have k9 := z5w ha hW (by unfold B40; omega)
 have gW := gnf_Wd ha hW
 have ke := zag hN gW (by unfold B40; omega)
 by_cases h24 : (gnf ha (U ++ V)).length <= 24
 · rw [if_pos h24] at ke ⊢
   exact zhu c2 h0 k5 k6 k7 kc k9 ke
 · rw [if_neg h24] at ke ⊢
   exact zhu c2 h0 k5 k6 k7 kc k9 ke
theorem zp6 {w : List Int} (h0 : sgCode N d [w] = 0) : Runs X F.z6k [alD N d,lD w] [] (pairR ((gnf ha (((w.map code).map opp).reverse)).map sign) 0) := by
 obtain ⟨hN,hl,hb,hz,hW⟩ := z2c ha h0
 have bw : w.length <= B40 := by unfold B40; omega
 have c2 : Runs X F.zd [alD N d,.imm2 .i64 [w]] [] (intR (sgCode N d [w])) := z73 N d [w] hd (by simp [B40]) (by simp [bw])
 have hc : (w.map code).length <= 24 := by simpa using hl
 have hB := Wd_back hW
 have hcb : ((w.map code).map opp).reverse.length <= 24 := by simpa using hl
 have hg := gnf_le ha hB
 have ki := zk2 hN hW (by unfold B40; omega)
 have gW : Wd (2 * N) (gnf ha ((w.map code).map opp).reverse) := gnf_Wd ha hB
 have k5 := z8l ha
 have k6 := z4u hb bw
 have k7 := z5w ha hB (by unfold B40; omega)
 have k8 := zag hN gW (by unfold B40; omega)
 rw [if_pos (by omega)] at k8
 exact zpi c2 h0 k5 k6 ki k7 k8
end
end Go.PR.S
