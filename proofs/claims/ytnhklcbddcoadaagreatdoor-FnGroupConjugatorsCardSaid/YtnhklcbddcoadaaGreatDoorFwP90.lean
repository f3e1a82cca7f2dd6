/- What holds of a conjugator,and of the retracts and exponents of conjugate elements. -/
import Derived.Test.YtnhklcbddcoadaaGreatDoorFwP87
import Derived.Test.YtnhklcbddcoadaaGreatDoorFwP85
import Derived.Test.YtnhklcbddcoadaaGreatDoorFwP26
import Derived.Test.YtnhklcbddcoadaaGreatDoorFwP88
import Derived.Test.YtnhklcbddcoadaaGreatDoorFwG55
set_option linter.unusedVariables false
set_option linter.unusedSimpArgs false
set_option linter.unusedSectionVars false
section
set_option maxRecDepth 20000
namespace Go.PR.S
open Go Go.PR Go.Proofs Gp
section
variable {N : Nat} {d u v z : List Int} (ha : Al N d) (hal : alOK N d = true) (hd : d.length <= B40) (hu0 : sgCode N d [u] = 0) (hv0 : sgCode N d [v] = 0)
 (hz : Wd (2 * N) z) (hl : (gnf ha z).length <= 24) (hg : geq (grp ha) (u.map code ++ z) (z ++ v.map code))
include hal hd hu0 hv0 hz hl hg
theorem zhe : sgCode N d [(gnf ha z).map sign] = 0 := zep hal (gnf_Wd ha hz) hl
theorem zor : ∃ bk : List Int,Runs X F.z6k [alD N d,lD ((gnf ha z).map sign)] [] (pairR bk 0) /\ bk.length = ((gnf ha z).map sign).length := by
 have h := zp6 ha hd (zhe ha hal hd hu0 hv0 hz hl hg)
 have gW := gnf_Wd ha hz
 rw [z92 gW] at h
 refine ⟨_,h,?_⟩
 have hr : red (grp ha) (back (grp ha) (gnf ha z)) := zjm (z4e.1 (zd3 ha hz))
 have bW : Wd (2 * N) (back (grp ha) (gnf ha z)) := Wd_opps gW
 have e := z99 ha bW (z4e.2 hr)
 have e2 : (((gnf ha z).map opp).reverse) = back (grp ha) (gnf ha z) := rfl
 rw [e2,e,List.length_map,List.length_map,z86 bW,zmk]
theorem zou : ∃ (ps : List Int) (t : Int),ps.length <= 24 /\ Runs X F.z3i [alD N d,lD u,lD ((gnf ha z).map sign)] [] (pairR ps t) /\ Runs X F.z3i [alD N d,lD ((gnf ha z).map sign),lD v] [] (pairR ps t) := by
 have s0 := zhe ha hal hd hu0 hv0 hz hl hg
 have gW := gnf_Wd ha hz
 obtain ⟨hN,hul,hub,huz,huW⟩ := z2c ha hu0
 obtain ⟨_,hvl,hvb,hvz,hvW⟩ := z2c ha hv0
 have h1 := zhq ha hd hu0 s0
 have h2 := zhq ha hd s0 hv0
 rw [z92 gW] at h1 h2
 have e : gnf ha (u.map code ++ gnf ha z) = gnf ha (gnf ha z ++ v.map code) := by
  rw [gnf_geq ha (z7n huW gW) (z7n gW hvW)]
  have k := geq_gnf ha hz
  exact ((geq.refl _).append k).trans (hg.trans (k.symm.append (geq.refl _)))
 rw [e] at h1
 by_cases h24 : (gnf ha (gnf ha z ++ v.map code)).length <= 24
 · rw [if_pos h24] at h1 h2
   exact ⟨_,_,by rw [List.length_map]; exact h24,h1,h2⟩
 · rw [if_neg h24] at h1 h2
   exact ⟨_,_,by simp,h1,h2⟩
theorem zov {M : Nat} (hM : M < 2 ^ N) : ∃ (us vs : List Int) (b : Bool) (e : Int),us.length <= 24 /\ vs.length <= 24 /\ Runs X F.z1u [alD N d,lD u,iD M] [] (pairR us 0) /\ Runs X F.z1u [alD N d,lD v,iD M] [] (pairR vs 0) /\
  Runs X F.z1z [alD N d,lD us,lD vs] [] (pairB b e) /\ ((b = true /\ e = 0) \/ e = 3) := by
 obtain ⟨hN,hul,hub,huz,huW⟩ := z2c ha hu0
 obtain ⟨_,hvl,hvb,hvz,hvW⟩ := z2c ha hv0
 have fU := zfi huW (keepC M)
 have fV := zfi hvW (keepC M)
 have gU := gnf_Wd ha fU
 have gV := gnf_Wd ha fV
 have n1 := List.length_filter_le (keepC (M : Int)) (u.map code)
 have n2 := List.length_filter_le (keepC (M : Int)) (v.map code)
 rw [List.length_map] at n1 n2
 have l1 := gnf_le ha fU
 have l2 := gnf_le ha fV
 have aU : sgCode N d [(gnf ha ((u.map code).filter (keepC M))).map sign] = 0 := zep hal gU (by omega)
 have aV : sgCode N d [(gnf ha ((v.map code).filter (keepC M))).map sign] = 0 := zep hal gV (by omega)
 have hq : geq (grp ha) (((gnf ha ((u.map code).filter (keepC M))).map sign).map code ++ z.filter (keepZ M)) (z.filter (keepZ M) ++ ((gnf ha ((v.map code).filter (keepC M))).map sign).map code) := by
  rw [z92 gU,z92 gV]
  have k := geq.filter (keepZ (M : Int)) (fun a => zt4 (M : Int) a) hg
  rw [List.filter_append,List.filter_append,<- zh1 huW,<- zh1 hvW] at k
  exact ((geq_gnf ha fU).append (geq.refl _)).trans (k.trans ((geq.refl _).append (geq_gnf ha fV).symm))
 obtain ⟨b,e,hrun,hbe⟩ := zwf ha hd aU aV hq
 exact ⟨_,_,b,e,by rw [List.length_map]; omega,by rw [List.length_map]; omega,zhr ha hd hM hu0,zhr ha hd hM hv0,hrun,hbe⟩
theorem zos : ∃ es : List Int,es.length <= 8 /\ Runs X F.z1t [alD N d,lD u] [] (pairR es 0) /\ Runs X F.z1t [alD N d,lD v] [] (pairR es 0) := by
 have h1 := zhp ha hd hu0
 have h2 := zhp ha hd hv0
 have e : expo ha (u.map code) = expo ha (v.map code) := by
  unfold expo
  refine List.map_congr_left fun i _ => ?_
  have := hg.diff (2 * (i : Int))
  rw [z93,z93] at this
  omega
 rw [e] at h1
 exact ⟨_,by rw [z3e]; exact ha.small,h1,h2⟩
end
end Go.PR.S

end

section
set_option maxRecDepth 20000
namespace Go.PR.S
open Go Go.PR Go.Proofs Gp
theorem zsx {N : Nat} (h : N <= 8) : ishl 1 (IntKind.wrap .u64 (N : Int)) = ((2 ^ N : Nat) : Int) /\ IntKind.wrap .u64 (N : Int) = (N : Int) := by
 have key : ∀ k : Fin 9,ishl 1 (IntKind.wrap .u64 ((k.val : Nat) : Int)) = ((2 ^ k.val : Nat) : Int) /\ IntKind.wrap .u64 ((k.val : Nat) : Int) = (k.val : Int) := by decide +kernel
 exact key ⟨N,by omega⟩
theorem zds (xs : List Int) (h : xs.length <= B40) : Runs X F.z14 [lD xs,lD xs] [] (boolR true) := by
 have := zwe xs xs h
 rwa [decide_eq_true rfl] at this
theorem run_FnGroupConjugators (c : List Int) (hr : ∀ x ∈ c,0 <= x /\ x <= 255) : Runs X F.z5l [bD c] [] (boolR true) := by
 have c2 := zvy c
 cases hb : decide ((c.length : Int) > 4096) with
 | true => rw [hb] at c2; exact ztb c2 rfl
 | false =>
   rw [hb] at c2
   have hc : Bytes c := ⟨by simp at hb; omega,hr⟩
   obtain ⟨n,d,u,v,hd,hu,hv,c9⟩ := zvp hc
   have hd' : d.length <= B40 := by unfold B40; omega
   have hu' : u.length <= B40 := by unfold B40; omega
   have hv' : v.length <= B40 := by unfold B40; omega
   obtain ⟨xs,r,b,e,hx,s1,s2,s3,h4,h0⟩ := zvr n d u v hd' hu' hv'
   have c19 := zds xs hx
   by_cases hr4 : r = 4
   · obtain ⟨rfl,rfl⟩ := h4 hr4
     exact zte c2 rfl c9 s2 s1 rfl c19 rfl s3 hr4 rfl
   · by_cases hr0 : r = 0
     · obtain ⟨N,ha,z,rfl,hal,hu0,hv0,rfl,rfl,hz,hl,rfl,hg⟩ := h0 hr0
       have hs := ha.small
       obtain ⟨bk,c33,hbk⟩ := zor ha hal hd' hu0 hv0 hz hl hg
       obtain ⟨ps,t,hps,c42,c45⟩ := zou ha hal hd' hu0 hv0 hz hl hg
       have c49 := zds ps (by unfold B40; omega)
       obtain ⟨h55,c56⟩ := zwg hc 519
       obtain ⟨w1,w2⟩ := zsx (N := N) hs
       have hp : 2 ^ N <= 2 ^ 8 := Nat.pow_le_pow_right (by omega) hs
       have hp0 : 0 < 2 ^ N := Nat.pow_pos (by omega)
       obtain ⟨m,a1,h1,ha1,hm0,hm1,_,c64⟩ := zvx hc (ishl 1 (IntKind.wrap .u64 (N : Int))) 0 h55 (by omega)
       have hm1 := hm1 (by rw [w1]; omega)
       rw [w1] at hm1
       obtain ⟨M,rfl⟩ := Int.eq_ofNat_of_zero_le hm0
       have hM : M < 2 ^ N := by omega
       obtain ⟨us,vs,b2,e2,lu,lv,c67,c70,c73,hbe⟩ := zov ha hal hd' hu0 hv0 hz hl hg hM
       obtain ⟨es,hes,c76,c79⟩ := zos ha hal hd' hu0 hv0 hz hl hg
       have c85 := zds es (by unfold B40; omega)
       rcases hbe with ⟨rfl,rfl⟩ | rfl
       · exact ztc c2 rfl c9 s2 s1 rfl c19 rfl s3 hr4 hr0 c33 rfl rfl rfl c42 c45 rfl c49 rfl (by omega) c56 (by rw [w2]; omega) (by rw [w1]; omega) (by rw [w1]; omega) c64 c67 c70 c73 c76 c79 rfl rfl rfl rfl c85 rfl rfl rfl
       · exact ztd c2 rfl c9 s2 s1 rfl c19 rfl s3 hr4 hr0 c33 rfl rfl rfl c42 c45 rfl c49 rfl (by omega) c56 (by rw [w2]; omega) (by rw [w1]; omega) (by rw [w1]; omega) c64 c67 c70 c73 c76 c79 rfl rfl rfl rfl c85 rfl (by omega)
     · exact ztf c2 rfl c9 s2 s1 rfl c19 rfl s3 hr4 hr0
end Go.PR.S

end
