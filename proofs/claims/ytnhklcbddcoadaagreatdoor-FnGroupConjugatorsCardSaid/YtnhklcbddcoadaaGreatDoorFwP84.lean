/- The second search of GroupConjugator: it goes over the same list and ends at the word that is looked for. Plain part. -/
import Derived.Test.YtnhklcbddcoadaaGreatDoorFwP72
import Derived.Test.YtnhklcbddcoadaaGreatDoorFwP42
import Derived.Test.YtnhklcbddcoadaaGreatDoorFwG39
import Derived.Test.YtnhklcbddcoadaaGreatDoorGrK
set_option linter.unusedVariables false
set_option linter.unusedSimpArgs false
set_option linter.unusedSectionVars false
section
set_option maxRecDepth 20000
namespace Gp
section
variable {T : Dep Int} {m : Nat}
def Apart (L : List CP) : Prop := (L.map (·.1)).Nodup
end
end Gp
namespace Go.PR.S
open Go Go.PR Go.Proofs Gp
theorem zhm {q : List Int} : ∀ {l : List (List Int)} {i : Nat} (hi : i < l.length),l[i] = q -> (∀ j (hj : j < l.length),j < i -> l[j] ≠ q) -> l.idxOf q = i
 | [],i,hi,_,_ => by simp at hi
 | x :: l,0,_,he,_ => by simp at he; rw [he,List.idxOf_cons_self]
 | x :: l,i + 1,hi,he,hb => by
   have h0 : x ≠ q := hb 0 (by simp) (by omega)
   have ih := zhm (l := l) (i := i) (by simpa using hi) (by simpa using he) fun j hj h => by
    have := hb (j + 1) (by simp; omega) (by omega)
    simpa using this
   have h1 : (x == q) = false := by simpa using h0
   rw [List.idxOf_cons,h1,ih]; rfl
section
variable {T : Dep Int} {m : Nat} {t : List Int}
theorem fst_at {L : List CP} {i : Nat} (hi : i < L.length) : (L.map (·.1)).getD (0 + i) [] = (L.getD i ([],[])).1 := by
 rw [Nat.zero_add,List.getD_eq_getElem?_getD,List.getD_eq_getElem?_getD,List.getElem?_map,List.getElem?_eq_getElem hi]; rfl
theorem snd_at {L : List CP} {i : Nat} (hi : i < L.length) : (L.map (·.2)).getD (0 + i) [] = (L.getD i ([],[])).2 := by
 rw [Nat.zero_add,List.getD_eq_getElem?_getD,List.getD_eq_getElem?_getD,List.getElem?_map,List.getElem?_eq_getElem hi]; rfl
theorem zap (ht : Tab T m t) {len : Nat} (hlen : len <= 24) {cur : CP} {i : Nat} (f q g : List Int) : ∀ (n tt : Nat) (L : List CP),tt + n = m -> CInv m len L -> i < L.length -> L.getD i ([],[]) = cur ->
  ∀ L',inn T m cur (frs T cur.1 tt n) L = some L' -> WL F.zn 2 Tryz.f8 1 (z2p m t f q g i tt (L.map (·.1)) (L.map (·.2))) (zb2 m t f q g i (L'.map (·.1)) (L'.map (·.2)))
 | 0,tt,L,e,hI,hi,hc,L',h => by
   simp only [frs,inn] at h
   cases h
   exact zyd (by omega) rfl
 | n + 1,tt,L,e,hI,hi,hc,L',h => by
   have hsm := ht.small
   have hcm : cur ∈ L := by rw [<- hc]; exact z4f hi
   have hcw := hI.wd cur hcm
   have hcl := hI.len cur hcm
   have hL := hI.le
   have hbl := hI.bl cur hcm
   have hg1 : (L.map (·.1)).getD (0 + i) [] = cur.1 := by rw [fst_at hi,hc]
   have hg2 : (L.map (·.2)).getD (0 + i) [] = cur.2 := by rw [snd_at hi,hc]
   have k1 := zeg ht (w := cur.1) (a := (tt : Int)) hcw (by omega) (by omega)
   by_cases hf : isFirst T cur.1 tt = true
   · rw [if_pos hf] at k1
     have ham := zh hf
     obtain ⟨r1,r2⟩ := z8b (T := T) hcw ham
     have hfr : frs T cur.1 tt (n + 1) = (tt : Int) :: frs T cur.1 (tt + 1) n := by simp only [frs,if_pos hf]
     have k2 := zef (L.map (·.1)) (rotT T m cur.1 tt) (by rw [List.length_map]; unfold B40; omega) (fun u hu => by
      obtain ⟨p,hp,rfl⟩ := List.mem_map.1 hu
      have := hI.len p hp
      unfold B40; omega)
     have k1' : Runs X F.z1v [alD m t,lD ((L.map (·.1)).getD (0 + i) []),iD tt] [] ⟨.tup [.rsl 600000 0 (rotT T m cur.1 tt).length,.bool true],[],[⟨true,.ints .i64 (rotT T m cur.1 tt)⟩]⟩ := by rw [hg1]; exact k1
     rw [hfr] at h
     simp only [inn] at h
     by_cases hmem : rotT T m cur.1 tt ∈ L.map (·.1)
     · rw [if_pos hmem] at k2 h
       exact zyb (by omega) (by rw [List.length_map]; omega) k1' rfl k2 (by omega) (by omega) (zap ht hlen (cur := cur) (i := i) f q g n (tt + 1) L (by omega) hI hi hc L' h)
     · rw [if_neg hmem] at k2 h
       split at h
       case isTrue => cases h
       rename_i hover
       have hI' := hI.push (T := T) hcm ham hover
       have k3 : Runs X F.z18 [lD ((L.map (·.2)).getD (0 + i) [])] [] (rowR cur.2) := by rw [hg2]; exact z3p cur.2 (by unfold B40; omega)
       have eL : (L ++ [(rotT T m cur.1 tt,cur.2 ++ [(tt : Int)])]).length = L.length + 1 := by simp
       have ih := zap ht hlen (cur := cur) (i := i) f q g n (tt + 1) _ (by omega) hI' (by rw [eL]; omega) (by rw [<- hc,List.getD_eq_getElem?_getD,List.getD_eq_getElem?_getD,List.getElem?_append_left hi]) L' h
       rw [List.map_append,List.map_append] at ih
       exact zya (by omega) (by rw [List.length_map]; omega) k1' rfl k2 (by omega) (by rw [List.length_map]; omega) (by rw [List.length_map]; omega) k3 (by omega) (by rw [List.length_map]; omega) (by omega) ih
   · rw [if_neg hf] at k1
     have k1' : Runs X F.z1v [alD m t,lD ((L.map (·.1)).getD (0 + i) []),iD tt] [] ⟨.tup [.rsl 600000 0 ([] : List Int).length,.bool false],[],[⟨true,.ints .i64 []⟩]⟩ := by rw [hg1]; exact k1
     have hfr : frs T cur.1 tt (n + 1) = frs T cur.1 (tt + 1) n := by simp only [frs,if_neg hf]
     rw [hfr] at h
     exact zyc (by omega) (by rw [List.length_map]; omega) k1' rfl (by omega) (zap ht hlen (cur := cur) (i := i) f q g n (tt + 1) L (by omega) hI hi hc L' h)
theorem zki (ht : Tab T m t) {len : Nat} (hlen : len <= 24) (f q g z : List Int) (target : OutL)
  (hend : ∀ (i : Nat) (L : List CP),CInv m len L -> i < L.length -> L.getD i ([],[]) = (q,z) -> WL F.zn 0 Tryz.f8 0 (z3y m t f q g i (L.map (·.1)) (L.map (·.2))) target) :
  ∀ (fl i : Nat) (L Lf : List CP),CInv m len L -> 1001 <= i + fl -> i <= 1001 -> (∀ j,j < L.length -> j < i -> (L.getD j ([],[])).1 ≠ q) -> outr T m fl i L = some Lf -> q ∈ Lf.map (·.1) -> (Lf.getD ((Lf.map (·.1)).idxOf q) ([],[])).2 = z ->
   WL F.zn 0 Tryz.f8 0 (z3y m t f q g i (L.map (·.1)) (L.map (·.2))) target
 | fl,i,L,Lf,hI,hf,hi,hb,ho,hq,hz => by
   have hL := hI.le
   by_cases hlt : i < L.length
   · by_cases he : (L.getD i ([],[])).1 = q
     · obtain ⟨R,rfl⟩ := zjb ho
       refine hend i L hI hlt ?_
       have hx : ((L ++ R).map (·.1)).idxOf q = i := by
        have hl2 : i < ((L ++ R).map (·.1)).length := by rw [List.length_map,List.length_append]; omega
        refine zhm hl2 ?_ fun j hj hji => ?_
        · rw [List.getElem_map,List.getElem_append_left hlt,<- he,List.getD_eq_getElem?_getD,List.getElem?_eq_getElem hlt]
          rfl
        · have hjl : j < L.length := by omega
          have := hb j hjl hji
          rw [List.getElem_map,List.getElem_append_left hjl]
          rw [List.getD_eq_getElem?_getD,List.getElem?_eq_getElem hjl] at this
          exact this
       rw [hx,List.getD_eq_getElem?_getD,List.getElem?_append_left hlt,<- List.getD_eq_getElem?_getD] at hz
       rw [<- hz,<- he]
     · cases fl with
       | zero => omega
       | succ fl =>
         have hcm := z4f hlt
         generalize hc : L.getD i ([],[]) = cur at hcm he
         have ham : ∀ a ∈ frs T cur.1 0 m,a ∈ cur.1 := fun a ha => by
          obtain ⟨k,rfl,_,_,hk⟩ := frs_mem ha
          exact zh hk
         have hcl := hI.len cur hcm
         simp only [outr,if_pos hlt,hc] at ho
         cases hin : inn T m cur (frs T cur.1 0 m) L with
         | none => rw [hin] at ho; cases ho
         | some L1 =>
           rw [hin] at ho
           have hI' := inn_inv (T := T) hI hcm ham hin
           have hw := zap ht hlen (cur := cur) (i := i) f q g m 0 L (by omega) hI hlt hc L1 hin
           obtain ⟨R,hR⟩ := z9u hin
           have c26 : Runs X F.z1b [lD ((L.map (·.1)).getD (0 + i) []),lD q] [] (boolR false) := by
            rw [fst_at hlt,hc]
            have := zed cur.1 q (by rw [hcl]; unfold B40; omega)
            rwa [decide_eq_false he] at this
           refine zy9 (by rw [List.length_map]; omega) c26 rfl hw (by omega) ?_
           refine zki ht hlen f q g z target hend fl (i + 1) L1 Lf hI' (by omega) (by omega) (fun j hj hji => ?_) ho hq hz
           have hjl : j < L.length := by omega
           rw [hR,List.getD_eq_getElem?_getD,List.getElem?_append_left hjl,<- List.getD_eq_getElem?_getD]
           by_cases hj2 : j = i
           · rw [hj2,hc]; exact he
           · exact hb j hjl (by omega)
   · exfalso
     have : Lf = L := by
      cases fl with
      | zero => simp only [outr] at ho; cases ho; rfl
      | succ fl => simp only [outr,if_neg hlt] at ho; cases ho; rfl
     subst this
     obtain ⟨p,hp,hpq⟩ := List.mem_map.1 hq
     obtain ⟨j,hj,hjp⟩ := List.mem_iff_getElem.1 hp
     refine hb j hj (by omega) ?_
     rw [List.getD_eq_getElem?_getD,List.getElem?_eq_getElem hj]
     show Lf[j].1 = q
     rw [hjp,hpq]
end
end Go.PR.S

end

section
set_option maxRecDepth 20000
namespace Go.PR.S
open Go Go.PR Go.Proofs Gp
section
variable {T : Dep Int} {m : Nat}
theorem inn_all {cur : CP} : ∀ {zs : List Int} {L L' : List CP},L.length <= 1000 -> inn T m cur zs L = some L' -> (∃ S,L' = L ++ S) /\ L'.length <= 1000 /\ ∀ a ∈ zs,rotT T m cur.1 a ∈ L'.map (·.1)
 | [],L,L',hl,h => by
   simp only [inn] at h
   injection h with h
   subst h
   exact ⟨⟨[],by simp⟩,hl,fun a ha => by cases ha⟩
 | a :: zs,L,L',hl,h => by
   simp only [inn] at h
   split at h
   · rename_i hm
     obtain ⟨⟨S,e⟩,h1,h2⟩ := inn_all hl h
     refine ⟨⟨S,e⟩,h1,fun b hb => ?_⟩
     rcases List.mem_cons.1 hb with rfl | hb
     · rw [e,List.map_append]; exact List.mem_append.2 (.inl hm)
     · exact h2 b hb
   · split at h
     · cases h
     · rename_i hm hlen
       obtain ⟨⟨S,e⟩,h1,h2⟩ := inn_all (by simp; omega) h
       refine ⟨⟨(rotT T m cur.1 a,cur.2 ++ [a]) :: S,by rw [e]; simp⟩,h1,fun b hb => ?_⟩
       rcases List.mem_cons.1 hb with rfl | hb
       · rw [e]; simp
       · exact h2 b hb
def Shut (T : Dep Int) (m : Nat) (L : List CP) (i : Nat) : Prop := ∀ j,j < i -> j < L.length -> ∀ a : Int,0 <= a -> a < m -> isFirst T (L.getD j ([],[])).1 a = true -> rotT T m (L.getD j ([],[])).1 a ∈ L.map (·.1)
theorem frs_has {w : List Int} {a : Int} (h0 : 0 <= a) (h1 : a < m) (h : isFirst T w a = true) : a ∈ frs T w 0 m := by
 rw [zd2]
 refine List.mem_map.2 ⟨a.toNat,List.mem_filter.2 ⟨?_,?_⟩,by omega⟩
 · rw [List.mem_range'_1]; omega
 · rw [Int.toNat_of_nonneg h0]; exact h
theorem zja : ∀ {f i : Nat} {L L' : List CP},1001 <= f + i -> L.length <= 1000 -> Shut T m L i -> outr T m f i L = some L' -> (∃ S,L' = L ++ S) /\ Shut T m L' L'.length
 | 0,i,L,L',hf,hl,hs,h => by
   simp only [outr] at h
   injection h with h
   subst h
   exact ⟨⟨[],by simp⟩,fun j hj hj2 => hs j (by omega) hj2⟩
 | f + 1,i,L,L',hf,hl,hs,h => by
   simp only [outr] at h
   split at h
   · rename_i hi
     cases hc : inn T m (L.getD i ([],[])) (frs T (L.getD i ([],[])).1 0 m) L with
     | none => rw [hc] at h; cases h
     | some K =>
       rw [hc] at h
       obtain ⟨⟨S,e⟩,h1,h2⟩ := inn_all hl hc
       have hget : ∀ j,j < L.length -> K.getD j ([],[]) = L.getD j ([],[]) := fun j hj => by
        rw [e,List.getD_eq_getElem?_getD,List.getD_eq_getElem?_getD,List.getElem?_append_left hj]
       obtain ⟨⟨S',e'⟩,h3⟩ := zja (f := f) (i := i + 1) (L := K) (by omega) h1 (fun j hj hj2 a h0 hm hfst => by
        by_cases hji : j < i
        · rw [hget j (by omega)] at hfst ⊢
          have := hs j hji (by omega) a h0 hm hfst
          rw [e,List.map_append]
          exact List.mem_append.2 (.inl this)
        · obtain rfl : j = i := by omega
          rw [hget j hi] at hfst ⊢
          exact h2 a (frs_has h0 hm hfst)) h
       exact ⟨⟨S ++ S',by rw [e',e]; simp⟩,h3⟩
   · injection h with h
     subst h
     rename_i hi
     exact ⟨⟨[],by simp⟩,fun j hj hj2 => hs j (by omega) hj2⟩
theorem znj {p v : List Int} {L : List CP} (hp : Wd m p) (h : conjs T m p = some L) (hr : Gp.Rch T p v) : nform T m v ∈ L.map (·.1) := by
 unfold conjs at h
 obtain ⟨⟨S,e⟩,hs⟩ := zja (by omega) (by simp) (fun j hj => by omega) h
 have h0 : nform T m p ∈ L.map (·.1) := by rw [e]; simp
 clear e h
 induction hr with
 | same h => rw [<- h.nform m]; exact h0
 | @step u v a hf _ ih =>
   have ham := zh hf
   have hab := hp a ham
   refine ih (fun x hx => ?_) ?_
   · rcases List.mem_append.1 hx with hx | hx
     · exact hp x (List.mem_of_mem_erase hx)
     · rw [List.mem_singleton.1 hx]; exact hab
   · obtain ⟨q,hq,e⟩ := List.mem_map.1 h0
     obtain ⟨j,hj,rfl⟩ := List.getElem_of_mem hq
     have hsame := z2t (T := T) hp
     have eg : L.getD j ([],[]) = L[j] := by rw [List.getD_eq_getElem?_getD,List.getElem?_eq_getElem hj]; rfl
     have := hs j hj hj a hab.1 hab.2 (by rw [eg,e,hsame.first]; exact hf)
     rw [eg,e] at this
     have e2 : rotT T m (nform T m u) a = nform T m (u.erase a ++ [a]) := by
      unfold rotT
      exact ((hsame.erase a).append (teq.refl _)).nform m
     rw [e2] at this
     exact this
end
section
variable {G : Grp Int} {m : Nat}
def Takes (G : Grp Int) (p : List Int) (L : List CP) : Prop := ∀ q ∈ L,geq G (p ++ q.2) (q.2 ++ q.1)
theorem zde {p : List Int} {cur : CP} (hcur : geq G (p ++ cur.2) (cur.2 ++ cur.1)) (hW : Wd m cur.1) : ∀ {zs : List Int} {L L' : List CP},(∀ a ∈ zs,isFirst G.toDep cur.1 a = true) -> Takes G p L -> inn G.toDep m cur zs L = some L' -> Takes G p L'
 | [],L,L',_,hl,h => by
   simp only [inn] at h
   injection h with h
   subst h
   exact hl
 | a :: zs,L,L',hz,hl,h => by
   simp only [inn] at h
   split at h
   · exact zde hcur hW (fun b hb => hz b (List.mem_cons_of_mem _ hb)) hl h
   · split at h
     · cases h
     · refine zde hcur hW (fun b hb => hz b (List.mem_cons_of_mem _ hb)) (fun q hq => ?_) h
       rcases List.mem_append.1 hq with hq | hq
       · exact hl q hq
       · rw [List.mem_singleton.1 hq]
         have hf := hz a (by simp)
         have ham := zh hf
         have hW2 : Wd m (cur.1.erase a ++ [a]) := fun x hx => by
          rcases List.mem_append.1 hx with hx | hx
          · exact hW x (List.mem_of_mem_erase hx)
          · rw [List.mem_singleton.1 hx]; exact hW a ham
         have k1 : geq G (rotT G.toDep m cur.1 a) (cur.1.erase a ++ [a]) := z28 (z2t hW2)
         have k2 : geq G cur.1 (a :: cur.1.erase a) := z28 (z31 hf).symm
         show geq G (p ++ (cur.2 ++ [a])) (cur.2 ++ [a] ++ rotT G.toDep m cur.1 a)
         rw [<- List.append_assoc]
         refine geq.trans (hcur.append (geq.refl [a])) ?_
         refine geq.trans (((geq.refl cur.2).append k2).append (geq.refl [a])) ?_
         refine geq.trans ?_ ((geq.refl (cur.2 ++ [a])).append k1.symm)
         have e : cur.2 ++ (a :: cur.1.erase a) ++ [a] = cur.2 ++ [a] ++ (cur.1.erase a ++ [a]) := by simp
         rw [e]
         exact geq.refl _
theorem zjd {p : List Int} {len : Nat} : ∀ {f i : Nat} {L L' : List CP},Takes G p L -> CInv m len L -> outr G.toDep m f i L = some L' -> (∀ {cur : CP} {zs : List Int} {L K : List CP},cur ∈ L -> (∀ a ∈ zs,a ∈ cur.1) -> CInv m len L -> inn G.toDep m cur zs L = some K -> CInv m len K) -> Takes G p L'
 | 0,i,L,L',ht,hI,h,_ => by
   simp only [outr] at h
   injection h with h
   subst h
   exact ht
 | f + 1,i,L,L',ht,hI,h,hk => by
   simp only [outr] at h
   split at h
   · rename_i hi
     cases hc : inn G.toDep m (L.getD i ([],[])) (frs G.toDep (L.getD i ([],[])).1 0 m) L with
     | none => rw [hc] at h; cases h
     | some K =>
       rw [hc] at h
       have eg : L.getD i ([],[]) = L[i] := by rw [List.getD_eq_getElem?_getD,List.getElem?_eq_getElem hi]; rfl
       have hmem : L.getD i ([],[]) ∈ L := by rw [eg]; exact List.getElem_mem hi
       have hfz : ∀ a ∈ frs G.toDep (L.getD i ([],[])).1 0 m,isFirst G.toDep (L.getD i ([],[])).1 a = true := fun a ha => by
        obtain ⟨j,rfl,_,_,hj⟩ := frs_mem ha
        exact hj
       exact zjd (zde (ht _ hmem) (hI.wd _ hmem) hfz ht hc) (hk hmem (fun a ha => zh (hfz a ha)) hI hc) h hk
   · injection h with h
     subst h
     exact ht
end
end Go.PR.S

end
