/- Conjugators: both functions answer the same,and a conjugator makes one element of the other one. -/
import Derived.Test.YtnhklcbddcoadaaGreatDoorFwP84
import Derived.Test.YtnhklcbddcoadaaGreatDoorFwP73
import Derived.Test.YtnhklcbddcoadaaGreatDoorFwP12
import Derived.Test.YtnhklcbddcoadaaGreatDoorFwP30
set_option linter.unusedVariables false
set_option linter.unusedSimpArgs false
set_option linter.unusedSectionVars false
section
set_option maxRecDepth 20000
namespace Go.PR.S
open Go Go.PR Go.Proofs Gp
theorem zgl {N : Nat} {d : List Int} (ha : Al N d) {p : List Int} (hp : Wd (2 * N) p) (h : gnf ha p = p) : nform (grp ha).toDep (2 * N) p = p := by
 have h1 := gnf_len ha hp
 rw [h] at h1
 have h2 := z99 ha hp h1.symm
 rw [h] at h2
 exact h2.symm
def Found (n : Int) (d u v xs : List Int) (b : Bool) (e : Int) : Prop := ∃ (N : Nat) (ha : Al N d) (z : List Int),n = (N : Int) /\ alOK N d = true /\ sgCode N d [u] = 0 /\ sgCode N d [v] = 0 /\ b = true /\ e = 0 /\
 Wd (2 * N) z /\ (gnf ha z).length <= 24 /\ xs = (gnf ha z).map sign /\ geq (grp ha) (u.map code ++ z) (z ++ v.map code)
theorem zot {G : Grp Int} {U V f p g q z : List Int} (h1 : geq G (f ++ p ++ back G f) U) (h2 : geq G (g ++ q ++ back G g) V) (h3 : geq G (p ++ z) (z ++ q)) :
  geq G (U ++ (f ++ z ++ back G g)) (f ++ z ++ back G g ++ V) := by
 refine geq.trans (h1.symm.append (geq.refl _)) (geq.trans ?_ ((geq.refl _).append h2))
 have e1 : f ++ p ++ back G f ++ (f ++ z ++ back G g) = (f ++ p) ++ ((back G f ++ f) ++ (z ++ back G g)) := by simp
 have e2 : f ++ z ++ back G g ++ (g ++ q ++ back G g) = (f ++ z) ++ ((back G g ++ g) ++ (q ++ back G g)) := by simp
 rw [e1,e2]
 refine geq.trans ((geq.refl _).append ((z3g f).append (geq.refl _))) (geq.trans ?_ ((geq.refl _).append ((z3g g).symm.append (geq.refl _))))
 have e3 : f ++ p ++ ([] ++ (z ++ back G g)) = f ++ ((p ++ z) ++ back G g) := by simp
 have e4 : f ++ z ++ ([] ++ (q ++ back G g)) = f ++ ((z ++ q) ++ back G g) := by simp
 rw [e3,e4]
 exact (geq.refl _).append (h3.append (geq.refl _))
theorem zvr (n : Int) (d u v : List Int) (hd : d.length <= B40) (hu : u.length <= B40) (hv : v.length <= B40) :
  ∃ xs r b e,xs.length <= B40 /\ Runs X F.zn [alD n d,lD u,lD v] [] (pairR xs r) /\ Runs X F.z32 [alD n d,lD u,lD v] [] (pairR xs r) /\
   Runs X F.z1z [alD n d,lD u,lD v] [] (pairB b e) /\ (r = 4 -> b = false /\ e = 0) /\ (r = 0 -> Found n d u v xs b e) := by
 have c1 := zwb n d u v hd hu hv
 have c2 : Runs X F.zd [alD n d,.imm2 .i64 ([u] ++ [v])] [] (intR (sgCode n d [u,v])) := z73 n d [u,v] hd (by simp [B40]) (by simp [hu,hv])
 by_cases h0 : sgCode n d [u,v] = 0
 · obtain ⟨hu0,hv0⟩ := sg_two h0
   obtain ⟨N,ha,rfl,hN,_⟩ := sg_one hu0
   obtain ⟨_,hul,hub,huz,huW⟩ := z2c ha hu0
   obtain ⟨_,hvl,hvb,hvz,hvW⟩ := z2c ha hv0
   have huc : (u.map code).length <= 24 := by simpa using hul
   have hvc : (v.map code).length <= 24 := by simpa using hvl
   have ht := tab_dbl ha
   obtain ⟨p,f,p1,p2,p3,p4,p5,p6,p7,p8,r1,r2⟩ := z8c ha huW huc
   obtain ⟨q,g,q1,q2,q3,q4,q5,q6,q7,q8,s1,s2⟩ := z8c ha hvW hvc
   have hgu := gnf_le ha huW
   have hgv := gnf_le ha hvW
   have k1 := zk5 ha
   have k2 := z8e hub huz hu
   have k3 := z8g ha huW (by unfold B40; omega)
   have k4 := z8e hvb hvz hv
   have k5 := z8g ha hvW (by unfold B40; omega)
   have k6 := z8l ha
   have k7 := z4u hub hu
   have k8 := z4u hvb hv
   have hpl : p.length <= 24 := by omega
   have hql : q.length <= 24 := by omega
   have hfl : f.length <= 24 := by omega
   have hgl : g.length <= 24 := by omega
   obtain ⟨m1,m2⟩ := zjz ht p1 hpl
   obtain ⟨l1,l2⟩ := zwa ht p1 hpl
   cases hc : conjs (grp ha).toDep (2 * N) p with
   | none =>
     obtain ⟨ps,g1,g2⟩ := m2 hc
     exact ⟨[],3,false,3,by simp [B40],zl3 (zy2 c1 h0 k1 k2 k3 r1 k4 k5 s1 (l2 hc) rfl) (by omega),zpf c2 h0 k6 k7 r2 k8 s2 g2 (by omega),zhs c2 h0 k6 k7 r2 k8 s2 g2 (by omega),by omega,by omega⟩
   | some L =>
     obtain ⟨hI,g2⟩ := m1 L hc
     obtain ⟨far,g3⟩ := l1 L hc
     have hle := hI.le
     have hw : ∀ p ∈ L,p.1.length <= B40 := fun p hp => by rw [hI.len p hp]; unfold B40; omega
     have i1 := zk1 L q hle hw
     have i2 := zef (L.map (·.1)) q (by rw [List.length_map]; unfold B40; omega) (fun x hx => by obtain ⟨p,hp,rfl⟩ := List.mem_map.1 hx; exact hw p hp)
     have hlen : ¬ ((L.map rc).length : Int) > 1000 := by rw [List.length_map]; omega
     by_cases hm : q ∈ L.map (·.1)
     · rw [if_pos hm] at i1 i2
       have hi := List.idxOf_lt_length_iff.2 hm
       rw [List.length_map] at hi
       have x1 := zl2 c1 h0 k1 k2 k3 r1 k4 k5 s1 g3 rfl i2
       rw [decide_eq_true (by omega)] at x1
       have hzm := z4f hi
       have hat := rc_at hi
       generalize hz : (L.getD ((L.map (·.1)).idxOf q) ([],[])) = zz at hzm hat
       have hbl := hI.bl zz hzm
       have hbw := hI.bwd zz hzm
       have hgb : ((g.map opp).reverse).length = g.length := by simp
       have hgW := Wd_opps q2
       have hall : Wd (2 * N) (f ++ zz.2 ++ (g.map opp).reverse) := z7n (z7n p2 hbw) hgW
       have hallL : (f ++ zz.2 ++ (g.map opp).reverse).length <= 2000 := by
        rw [List.length_append,List.length_append,hgb]; omega
       have e1 := zk2 hN q2 (by unfold B40; omega)
       have e2 := z3p f (by unfold B40; omega)
       have e3 := zeh hN q2 (by unfold B40; omega)
       have kc := zeb [f,zz.2,(g.map opp).reverse] (by simp [B40]) (by
        simp only [List.flatten_cons,List.flatten_nil,List.append_nil]
        rw [<- List.append_assoc]; unfold B40; omega)
       have ef : [f,zz.2,(g.map opp).reverse].flatten = f ++ zz.2 ++ (g.map opp).reverse := by simp
       rw [ef] at kc
       have kc' : Runs X F.zm [.imm2 .i64 ([f] ++ [(rcdAt (L.map rc) (((L.map (·.1)).idxOf q : Nat) : Int).toNat).ls.tail.headD []] ++ [(g.map opp).reverse])] [] (rowR (f ++ zz.2 ++ (g.map opp).reverse)) := by
        rw [Int.toNat_natCast,hat]; exact kc
       have kg := z5w ha hall (by unfold B40; omega)
       have kr := z8g ha hall (by unfold B40; omega)
       have gW := gnf_Wd ha hall
       have hg2 := gnf_le ha hall
       have ke := zag hN gW (by unfold B40; omega)
       have ko := zal hN gW (by unfold B40; omega)
       have hI0 := CInv.first (T := (grp ha).toDep) p1
       have e0 := zgl ha p1 p3
       rw [e0] at hI0
       have hc' : outr (grp ha).toDep (2 * N) 1001 0 [(p,[])] = some L := by
        have := hc; unfold conjs at this; rwa [e0] at this
       generalize hR : gnf ha (f ++ zz.2 ++ (g.map opp).reverse) = R at *
       have hsearch : ∀ (tt : Nat) (ys : List Int),(∀ (i : Nat) (L' : List CP),CInv (2 * N) p.length L' -> i < L'.length -> L'.getD i ([],[]) = (q,zz.2) -> WL F.zn 0 Tryz.f8 0 (z3y ((2 * N : Nat) : Int) (dblL N d) f q g i (L'.map (·.1)) (L'.map (·.2))) (z62 tt ys)) ->
         Runs X F.zn [alD N d,lD u,lD v] [] (pairR ys tt) := by
        intro tt ys hend
        have hs := zki ht hpl f q g zz.2 (z62 tt ys) hend 1001 0 [(p,[])] L hI0 (by omega) (by omega) (fun j _ h => by omega) hc' hm (by rw [hz])
        exact zy6 x1 rfl rfl k1 k2 k3 r1 k4 k5 s1 hs
       have hpre : ∀ (i : Nat) (L' : List CP),CInv (2 * N) p.length L' -> i < L'.length -> L'.getD i ([],[]) = (q,zz.2) ->
         Runs X F.z1b [lD ((L'.map (·.1)).getD (0 + i) []),lD q] [] (boolR true) /\ (L'.map (·.2)).getD (0 + i) [] = zz.2 := by
        intro i L' _ hi' he
        rw [fst_at hi',snd_at hi',he]
        have := zed q q (by unfold B40; omega)
        rw [decide_eq_true rfl] at this
        exact ⟨this,rfl⟩
       by_cases h24 : R.length <= 24
       · rw [if_pos h24] at ke
         refine ⟨R.map sign,0,true,0,by rw [List.length_map]; unfold B40; omega,?_,zht c2 h0 k6 k7 r2 k8 s2 g2 hlen i1 (by omega) (by rw [List.length_map]; omega) k6 e1 kc' kg ke,zd6 c2 h0 k6 k7 r2 k8 s2 g2 hlen i1 (by omega) (by rw [List.length_map]; omega),by omega,fun _ => ⟨N,ha,_,rfl,(sg_al hu0).2,hu0,hv0,rfl,rfl,hall,by rw [hR]; exact h24,by rw [hR],?_⟩⟩
         rotate_left
         · have htk : Takes (grp ha) p L := zjd (len := p.length) (fun y hy => by rw [List.mem_singleton] at hy; subst hy; show geq (grp ha) (p ++ []) ([] ++ p); rw [List.append_nil,List.nil_append]; exact geq.refl _) hI0 hc' (fun h1 h2 h3 h4 => inn_inv h3 h1 h2 h4)
           have hz1 : zz.1 = q := by
            rw [<- hz,List.getD_eq_getElem?_getD,List.getElem?_eq_getElem hi]
            have hi2 : (L.map (·.1)).idxOf q < (L.map (·.1)).length := by rw [List.length_map]; exact hi
            have := List.getElem_idxOf hi2
            rw [List.getElem_map] at this
            exact this
           have h3 := htk zz hzm
           rw [hz1] at h3
           exact zot p7 q7 h3
         refine hsearch 0 _ fun i L' hI' hi' he => ?_
         obtain ⟨y1,y2⟩ := hpre i L' hI' hi' he
         have kr' : Runs X F.z8 [alD ((2 * N : Nat) : Int) (dblL N d),lD (f ++ (L'.map (·.2)).getD (0 + i) [] ++ (g.map opp).reverse)] [] (rowR R) := by rw [y2]; exact kr
         exact zy8 (by rw [List.length_map]; omega) y1 rfl e2 (by rw [List.length_map]; omega) (by rw [y2]; omega) e3 (by rw [y2,List.length_append,hgb]; omega) kr' (by omega) ko rfl
       · rw [if_neg h24] at ke
         refine ⟨[],3,true,0,by simp [B40],?_,zht c2 h0 k6 k7 r2 k8 s2 g2 hlen i1 (by omega) (by rw [List.length_map]; omega) k6 e1 kc' kg ke,zd6 c2 h0 k6 k7 r2 k8 s2 g2 hlen i1 (by omega) (by rw [List.length_map]; omega),by omega,by omega⟩
         refine hsearch 3 _ fun i L' hI' hi' he => ?_
         obtain ⟨y1,y2⟩ := hpre i L' hI' hi' he
         have kr' : Runs X F.z8 [alD ((2 * N : Nat) : Int) (dblL N d),lD (f ++ (L'.map (·.2)).getD (0 + i) [] ++ (g.map opp).reverse)] [] (rowR R) := by rw [y2]; exact kr
         exact zy7 (by rw [List.length_map]; omega) y1 rfl e2 (by rw [List.length_map]; omega) (by rw [y2]; omega) e3 (by rw [y2,List.length_append,hgb]; omega) kr' (by omega) rfl
     · rw [if_neg hm] at i1 i2
       have x1 := zl2 c1 h0 k1 k2 k3 r1 k4 k5 s1 g3 rfl i2
       rw [decide_eq_false (by omega)] at x1
       exact ⟨[],4,false,0,by simp [B40],zy5 x1 rfl rfl,zpg c2 h0 k6 k7 r2 k8 s2 g2 hlen i1 (by omega),zp8 c2 h0 k6 k7 r2 k8 s2 g2 hlen i1 (by omega),fun _ => ⟨rfl,rfl⟩,by omega⟩
 · have hne : sgCode n d [u,v] = 1 \/ sgCode n d [u,v] = 2 := by
    unfold sgCode at h0 ⊢
    split
    · rename_i h1
      rw [if_pos h1] at h0
      split
      · rename_i h2; rw [if_pos h2] at h0; exact absurd rfl h0
      · exact .inr rfl
    · exact .inl rfl
   exact ⟨[],sgCode n d [u,v],false,sgCode n d [u,v],by simp [B40],zl3 (zy1 c1 h0) h0,zpe c2 h0,zp7 c2 h0,by omega,by omega⟩
end Go.PR.S

end

section
set_option maxRecDepth 20000
namespace Go.PR.S
open Go Go.PR Go.Proofs Gp
theorem opp_ne (s : Int) : opp s ≠ s := by unfold opp; split <;> omega
theorem zgo {N : Nat} {d : List Int} (ha : Al N d) {p : List Int} (hp : Wd (2 * N) p) (h : gnf ha p = p) : red (grp ha) p := by
 refine z4e.1 ?_
 have := zd3 ha hp
 rw [h] at this
 exact this
theorem zgm {N : Nat} {d : List Int} (ha : Al N d) {p : List Int} (hp : Wd (2 * N) p) (h : ∀ s : Nat,s < 2 * N -> ends (grp ha).toDep p s = false) : ∀ t,¬ bothE (grp ha) p t := fun t ht => by
 have hb := hp t (zh ht.1)
 have := h t.toNat (by omega)
 rw [Int.toNat_of_nonneg hb.1] at this
 unfold ends at this
 have h2 : isFirst (grp ha).toDep p.reverse (opp t) = true := ht.2
 rw [ht.1,h2] at this
 cases this
theorem znh {G : Grp Int} {U V f p g q z : List Int} (h1 : geq G (f ++ p ++ back G f) U) (h2 : geq G (g ++ q ++ back G g) V) (h3 : geq G (U ++ z) (z ++ V)) :
  geq G (back G (back G f ++ z ++ g) ++ p ++ (back G f ++ z ++ g)) q := by
 rw [zc3,zc3,zfp]
 have e1 : back G g ++ (back G z ++ f) ++ p ++ (back G f ++ z ++ g) = back G g ++ (back G z ++ ((f ++ p ++ back G f) ++ z)) ++ g := by simp
 rw [e1]
 have k1 : geq G (back G z ++ ((f ++ p ++ back G f) ++ z)) V := by
  refine geq.trans ((geq.refl _).append ((h1.append (geq.refl z)).trans h3)) ?_
  rw [<- List.append_assoc]
  exact (z3g z).append (geq.refl V)
 refine geq.trans (((geq.refl _).append (k1.trans h2.symm)).append (geq.refl g)) ?_
 have e2 : back G g ++ (g ++ q ++ back G g) ++ g = (back G g ++ g) ++ (q ++ (back G g ++ g)) := by simp
 rw [e2]
 have := (z3g (G := G) g).append ((geq.refl q).append (z3g (G := G) g))
 simpa using this
theorem zwf {N : Nat} {d u v z : List Int} (ha : Al N d) (hd : d.length <= B40) (hu0 : sgCode N d [u] = 0) (hv0 : sgCode N d [v] = 0) (h : geq (grp ha) (u.map code ++ z) (z ++ v.map code)) :
  ∃ b e,Runs X F.z1z [alD N d,lD u,lD v] [] (pairB b e) /\ ((b = true /\ e = 0) \/ e = 3) := by
 have h0 := sg_pair hu0 hv0
 obtain ⟨hN,hul,hub,huz,huW⟩ := z2c ha hu0
 obtain ⟨_,hvl,hvb,hvz,hvW⟩ := z2c ha hv0
 have hu : u.length <= B40 := by unfold B40; omega
 have hv : v.length <= B40 := by unfold B40; omega
 have c2 : Runs X F.zd [alD N d,.imm2 .i64 ([u] ++ [v])] [] (intR (sgCode N d [u,v])) := z73 N d [u,v] hd (by simp [B40]) (by simp [hu,hv])
 have huc : (u.map code).length <= 24 := by simpa using hul
 have hvc : (v.map code).length <= 24 := by simpa using hvl
 have ht := tab_dbl ha
 obtain ⟨p,f,p1,p2,p3,p4,p5,p6,p7,p8,r1,r2⟩ := z8c ha huW huc
 obtain ⟨q,g,q1,q2,q3,q4,q5,q6,q7,q8,s1,s2⟩ := z8c ha hvW hvc
 have hgu := gnf_le ha huW
 have k6 := z8l ha
 have k7 := z4u hub hu
 have k8 := z4u hvb hv
 have hpl : p.length <= 24 := by omega
 obtain ⟨m1,m2⟩ := zjz ht p1 hpl
 cases hc : conjs (grp ha).toDep (2 * N) p with
 | none =>
   obtain ⟨ps,g1,g2⟩ := m2 hc
   exact ⟨false,3,zhs c2 h0 k6 k7 r2 k8 s2 g2 (by omega),.inr rfl⟩
 | some L =>
   obtain ⟨hI,g2⟩ := m1 L hc
   have hle := hI.le
   have hw : ∀ p ∈ L,p.1.length <= B40 := fun p hp => by rw [hI.len p hp]; unfold B40; omega
   have i1 := zk1 L q hle hw
   have hlen : ¬ ((L.map rc).length : Int) > 1000 := by rw [List.length_map]; omega
   have hr := zni (G := grp ha) opp_ne _ (back (grp ha) f ++ z ++ g) p q (Nat.le_refl _) (zgo ha p1 p3) (zgm ha p1 p5) (zgo ha q1 q3) (zgm ha q1 q5) (znh p7 q7 h)
   have hm := znj p1 hc hr
   rw [zgl ha q1 q3] at hm
   rw [if_pos hm] at i1
   have hi := List.idxOf_lt_length_iff.2 hm
   rw [List.length_map] at hi
   exact ⟨true,0,zd6 c2 h0 k6 k7 r2 k8 s2 g2 hlen i1 (by omega) (by rw [List.length_map]; omega),.inl ⟨rfl,rfl⟩⟩
end Go.PR.S

end
