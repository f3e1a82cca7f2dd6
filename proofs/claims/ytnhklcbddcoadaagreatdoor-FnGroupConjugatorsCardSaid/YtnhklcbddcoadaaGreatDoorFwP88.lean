/- The draw of conjugators comes back with short words. -/
import Derived.Test.YtnhklcbddcoadaaGreatDoorFwP82
import Derived.Test.YtnhklcbddcoadaaGreatDoorFwP85
import Derived.Test.YtnhklcbddcoadaaGreatDoorFwP71
import Derived.Test.YtnhklcbddcoadaaGreatDoorFwP26
import Derived.Test.YtnhklcbddcoadaaGreatDoorFwG54
set_option linter.unusedVariables false
set_option linter.unusedSimpArgs false
set_option linter.unusedSectionVars false
set_option maxRecDepth 20000
namespace Go.PR.S
open Go Go.PR Go.Proofs Gp
section
variable {c : List Int} (hc : Bytes c)
include hc
theorem zwc : ∃ (a h n : Int) (xs ys : List Int),0 <= a /\ xs.length <= 9 /\ ys.length <= 33 /\
  Runs X F.z2q [bD c] [] ⟨.tup [.ptr 600000 0,.agg [iD n,.rsl 600001 0 xs.length],.rsl 600002 0 ys.length],[],[srcRow c a h,iRow xs,iRow ys]⟩ := by
 obtain ⟨a,h,n,xs,ys,ha,hx,hy,hrun⟩ := zwd hc (l := 5) (by omega) (by omega) (m := 8) (by omega)
 have c9 := zk6 n xs ys (by unfold B40; omega) (by unfold B40; omega)
 by_cases h0 : sgCode n xs [ys] = 0
 · rw [decide_eq_true h0] at c9
   by_cases hl : (ys.length : Int) > 12
   · exact ⟨a,h,n,xs,ys,ha,hx,hy,z11w hrun c9 rfl hl⟩
   · obtain ⟨N,hal,rfl,hN,hl24,_⟩ := sg_one h0
     have hs := hal.small
     obtain ⟨g,a1,h1,ha1,hg,hb,hrun1⟩ := zei hc (n := N) hs (m := 4) (by omega) xs a h ha
     have c21 := z3p g (by unfold B40; omega)
     have hW : Wd (2 * N) (g.map code) := code_Wd hb
     have k1 := z8e (w := g) (fun x hx => by have := hb x hx; omega) (fun x hx => (hb x hx).1) (by unfold B40; omega)
     have k2 := zeh (m := 2 * N) hN hW (by rw [List.length_map]; unfold B40; omega)
     have k3 := zal hN (Wd_back hW) (by rw [List.length_reverse,List.length_map,List.length_map]; unfold B40; omega)
     have e3 : ((((g.map code).map opp).reverse).map sign).length = g.length := by simp
     refine ⟨a1,h1,N,xs,g ++ ys ++ (((g.map code).map opp).reverse).map sign,ha1,hx,?_,z11x hrun c9 rfl hl hrun1 c21 (by omega) k1 k2 k3 (by rw [e3,List.length_append]; omega)⟩
     rw [List.length_append,List.length_append,e3]
     omega
 · rw [decide_eq_false h0] at c9
   exact ⟨a,h,n,xs,ys,ha,hx,hy,z11v hrun c9 rfl⟩
theorem zt9 {N : Nat} {d : List Int} (hal : Al N d) (xs ys : List Int) (c14 : Runs X F.zi [alD N xs] [] ⟨.agg [iD (2 * (N : Int)),.rsl 600000 0 (dblL N d).length],[],[iRow (dblL N d)]⟩) : ∀ (k : Nat) (a h : Int) (w : List Int),k <= 64 -> 0 <= a -> Wd (2 * N) w -> w.length <= 24 -> ∃ a' h' zs,0 <= a' /\ zs.length <= 24 /\ Wd (2 * N) zs /\
   WpL X F.z15 0 (lb Tryz.f27 0) (z2r N xs ys (2 * (N : Int)) (dblL N d) k c a h w (dblL N d)).st (fun o => o = (z30 N xs ys c a' h' zs).out) := by
 intro k
 have e62 : ((2 * N : Nat) : Int) = 2 * (N : Int) := by omega
 induction k with
 | zero => intro a h w _ ha hw hl; exact ⟨a,h,w,ha,hl,hw,z12y c14 rfl (by omega) rfl⟩
 | succ k ih =>
   intro a h w hk ha hw hl
   by_cases h0 : (w.length : Int) > 0
   · have ht := tab_dbl hal
     have hs := hal.small
     obtain ⟨zs,a1,h1,ha1,hz1,hz2,hrun⟩ := zw9 hc ht (by omega) hw (by omega) a h ha
     have hz : zs.getD 0 0 ∈ zs := by rw [getD_lt (by omega)]; exact List.getElem_mem _
     have hb := hz2 _ hz
     have c34 := zeg ht (a := zs.getD 0 0) hw hb hl
     have e : (((k + 1 : Nat) : Int) - 1) = (k : Int) := by omega
     have e1 : List.take (dblL N d).length (List.drop 0 (dblL N d)) = dblL N d := by simp
     have e2 : List.take w.length (List.drop 0 w) = w := by simp
     rw [e62] at hrun c34
     by_cases hf : isFirst (grp hal).toDep w (zs.getD 0 0) = true
     · rw [if_pos hf] at c34
       obtain ⟨s1,s2⟩ := z8b (T := (grp hal).toDep) hw (zh hf)
       obtain ⟨a',h',vs,q1,q2,q3,q4⟩ := ih a1 h1 _ (by omega) ha1 s1 (by omega)
       refine ⟨a',h',vs,q1,q2,q3,zls c14 rfl (by omega) h0 hrun (by omega) (by omega) (by omega) (b41 := true) (by rw [e1,e2]; exact c34) (by omega) ?_⟩
       rw [e]; exact q4
     · rw [if_neg hf] at c34
       obtain ⟨a',h',vs,q1,q2,q3,q4⟩ := ih a1 h1 [] (by omega) ha1 (fun x hx => by cases hx) (by simp)
       refine ⟨a',h',vs,q1,q2,q3,zls c14 rfl (by omega) h0 hrun (by omega) (by omega) (by omega) (xs40 := []) (b41 := false) (by rw [e1,e2]; exact c34) (by omega) ?_⟩
       rw [e]; exact q4
   · exact ⟨a,h,w,ha,hl,hw,z12x c14 rfl (by omega) h0 rfl⟩
theorem zvp : ∃ (n : Int) (xs ys zs : List Int),xs.length <= 9 /\ ys.length <= 33 /\ zs.length <= 33 /\
  Runs X F.z61 [bD c] [] ⟨.tup [.agg [iD n,.rsl 600000 0 xs.length],.rsl 600001 0 ys.length,.rsl 600002 0 zs.length],[],[iRow xs,iRow ys,iRow zs]⟩ := by
 suffices hs : ∃ (n : Int) (xs ys zs : List Int),xs.length <= 9 /\ ys.length <= 33 /\ zs.length <= 33 /\
  Runs X F.z15 [bD c] [] ⟨.tup [.agg [iD n,.rsl 600000 0 xs.length],.rsl 600001 0 ys.length,.rsl 600002 0 zs.length],[],[iRow xs,iRow ys,iRow zs]⟩ by
  obtain ⟨n,xs,ys,zs,h1,h2,h3,h4⟩ := hs
  exact ⟨n,xs,ys,zs,h1,h2,h3,zy4 h4⟩
 obtain ⟨a,h,n,xs,ys,ha,hx,hy,hrun⟩ := zwc hc
 have c9 := zk6 n xs ys (by unfold B40; omega) (by unfold B40; omega)
 by_cases h0 : sgCode n xs [ys] = 0
 · rw [decide_eq_true h0] at c9
   obtain ⟨N,hal,rfl,hN,hl24,hB,hZ,hW⟩ := sg_one h0
   have hs8 := hal.small
   have k1 := zk5 hal
   have k2 := z8e hB hZ (by unfold B40; omega)
   have k3 := z8g hal hW (by rw [List.length_map]; unfold B40; omega)
   obtain ⟨p,f,p1,p2,p3,p4,p5,p6,p7,p8,r1,r2⟩ := z8c hal hW (by simpa using hl24)
   have hg := gnf_le hal hW
   rw [List.length_map] at hg
   obtain ⟨r,a1,h1,ha1,hr0,hr1,_,hrun1⟩ := z11 hc 6 a h ha
   have hr6 := hr1 (by omega)
   obtain ⟨k,rfl⟩ := Int.eq_ofNat_of_zero_le hr0
   obtain ⟨a2,h2,w,ha2,hwl,hwW,hlp⟩ := zt9 hc hal xs ys k1 k a1 h1 p (by omega) ha1 p1 (by omega)
   -- the frame,and the end
   have tail : ∀ (W : List Int) (a3 h3 : Int),0 <= a3 -> Wd (2 * N) W -> W.length <= 24 -> ∃ (g : List Int) (a4 h4 : Int),g.length <= 4 /\
     Runs X F.zf [sp,.agg [iD N,.rsl 500001 0 xs.length],iD (4 : Nat)] [srcRow c a3 h3,iRow xs] ⟨.rsl 600000 0 g.length,[some (srcRow c a4 h4),some (iRow xs)],[iRow g]⟩ /\
     Runs X F.z18 [lD g] [] (rowR g) /\ Runs X F.zj [lD W] [] (rowR (W.map sign)) /\ Runs X F.zg [lD g] [] (rowR (g.map code)) /\
     Runs X F.z1k [lD (g.map code)] [] (rowR (((g.map code).map opp).reverse)) /\ Runs X F.zj [lD (((g.map code).map opp).reverse)] [] (rowR ((((g.map code).map opp).reverse).map sign)) := by
    intro W a3 h3 ha3 hW3 hl3
    obtain ⟨g,a4,h4,ha4,hg4,hb,hrun4⟩ := zei hc (n := N) hs8 (m := 4) (by omega) xs a3 h3 ha3
    have gW : Wd (2 * N) (g.map code) := code_Wd hb
    exact ⟨g,a4,h4,hg4,hrun4,z3p g (by unfold B40; omega),zal hN hW3 (by unfold B40; omega),z8e (w := g) (fun x hx => by have := hb x hx; omega) (fun x hx => (hb x hx).1) (by unfold B40; omega),
     zeh (m := 2 * N) hN gW (by rw [List.length_map]; unfold B40; omega),zal hN (Wd_back gW) (by rw [List.length_reverse,List.length_map,List.length_map]; unfold B40; omega)⟩
   have e3 : ∀ g : List Int,((((g.map code).map opp).reverse).map sign).length = g.length := fun g => by simp
   by_cases hw1 : (w.length : Int) > 1
   · obtain ⟨r3,a3,h3,ha3,_,_,_,hrun3⟩ := z11 hc 4 a2 h2 ha2
     by_cases hz3 : r3 = 0
     · obtain ⟨r4,a4,h4,ha4,hr40,hr41,_,hrun4⟩ := z11 hc ((w.length : Int) - 1) a3 h3 ha3
       have hr41 := hr41 (by omega)
       have hW4 : Wd (2 * N) ((w.set (0 + r4.toNat) (w.getD (0 + (r4 + 1).toNat) 0)).set (0 + (r4 + 1).toNat) (w.getD (0 + r4.toNat) 0)) := fun x hx => by
        have m1 : w.getD (0 + (r4 + 1).toNat) 0 ∈ w := by rw [getD_lt (by omega)]; exact List.getElem_mem _
        have m2 : w.getD (0 + r4.toNat) 0 ∈ w := by rw [getD_lt (by omega)]; exact List.getElem_mem _
        rcases List.mem_or_eq_of_mem_set hx with hx | rfl
        · rcases List.mem_or_eq_of_mem_set hx with hx | rfl
          · exact hwW x hx
          · exact hwW _ m1
        · exact hwW _ m2
       have hl4 : ((w.set (0 + r4.toNat) (w.getD (0 + (r4 + 1).toNat) 0)).set (0 + (r4 + 1).toNat) (w.getD (0 + r4.toNat) 0)).length <= 24 := by rw [List.length_set,List.length_set]; exact hwl
       obtain ⟨g,a5,h5,hg5,t1,t2,t3,t4,t5,t6⟩ := tail _ a4 h4 ha4 hW4 hl4
       have e4 := e3 g
       by_cases h24 : ((g ++ (((w.set (0 + r4.toNat) (w.getD (0 + (r4 + 1).toNat) 0)).set (0 + (r4 + 1).toNat) (w.getD (0 + r4.toNat) 0))).map sign ++ (((g.map code).map opp).reverse).map sign).length : Int) > 24
       · exact ⟨N,xs,ys,_,hx,hy,by rw [List.length_map]; omega,z12r hrun c9 rfl k1 k2 k3 r1 hrun1 hlp hw1 hrun3 hz3 (by omega) hrun4 hr40 (by omega) (by omega) (by omega) t1 t2 t3 (by rw [List.length_map]; omega) t4 t5 t6 (by rw [e4,List.length_append,List.length_map]; omega) h24 t3⟩
       · exact ⟨N,xs,ys,_,hx,hy,by omega,z12s hrun c9 rfl k1 k2 k3 r1 hrun1 hlp hw1 hrun3 hz3 (by omega) hrun4 hr40 (by omega) (by omega) (by omega) t1 t2 t3 (by rw [List.length_map]; omega) t4 t5 t6 (by rw [e4,List.length_append,List.length_map]; omega) h24⟩
     · obtain ⟨g,a5,h5,hg5,t1,t2,t3,t4,t5,t6⟩ := tail w a3 h3 ha3 hwW hwl
       have e4 := e3 g
       by_cases h24 : ((g ++ w.map sign ++ (((g.map code).map opp).reverse).map sign).length : Int) > 24
       · exact ⟨N,xs,ys,_,hx,hy,by rw [List.length_map]; omega,z12t hrun c9 rfl k1 k2 k3 r1 hrun1 hlp hw1 hrun3 hz3 t1 t2 t3 (by rw [List.length_map]; omega) t4 t5 t6 (by rw [e4,List.length_append,List.length_map]; omega) h24 t3⟩
       · exact ⟨N,xs,ys,_,hx,hy,by omega,z12u hrun c9 rfl k1 k2 k3 r1 hrun1 hlp hw1 hrun3 hz3 t1 t2 t3 (by rw [List.length_map]; omega) t4 t5 t6 (by rw [e4,List.length_append,List.length_map]; omega) h24⟩
   · obtain ⟨g,a5,h5,hg5,t1,t2,t3,t4,t5,t6⟩ := tail w a2 h2 ha2 hwW hwl
     have e4 := e3 g
     by_cases h24 : ((g ++ w.map sign ++ (((g.map code).map opp).reverse).map sign).length : Int) > 24
     · exact ⟨N,xs,ys,_,hx,hy,by rw [List.length_map]; omega,z12v hrun c9 rfl k1 k2 k3 r1 hrun1 hlp hw1 t1 t2 t3 (by rw [List.length_map]; omega) t4 t5 t6 (by rw [e4,List.length_append,List.length_map]; omega) h24 t3⟩
     · exact ⟨N,xs,ys,_,hx,hy,by omega,z12w hrun c9 rfl k1 k2 k3 r1 hrun1 hlp hw1 t1 t2 t3 (by rw [List.length_map]; omega) t4 t5 t6 (by rw [e4,List.length_append,List.length_map]; omega) h24⟩
 · rw [decide_eq_false h0] at c9
   exact ⟨n,xs,ys,[1],hx,hy,by simp,z12q hrun c9 rfl⟩
end
end Go.PR.S
