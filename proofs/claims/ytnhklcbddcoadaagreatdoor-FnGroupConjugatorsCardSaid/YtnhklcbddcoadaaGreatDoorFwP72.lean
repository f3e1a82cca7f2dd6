/- Conjugates: the lists of both sides are the same; finding a word among them. -/
import Derived.Test.YtnhklcbddcoadaaGreatDoorFwP71
import Derived.Test.YtnhklcbddcoadaaGreatDoorFwP21
set_option linter.unusedVariables false
set_option linter.unusedSimpArgs false
set_option linter.unusedSectionVars false
set_option maxRecDepth 20000
namespace Go.PR.S
open Go Go.PR Go.Proofs Gp
section
variable {T : Dep Int} {m : Nat} {t : List Int}
theorem zmz (hm : m <= 62) (w : List Int) : bitsL (firstM T m w) = frs T w 0 m := by
 rw [zd2,<- List.range_eq_range']
 unfold bitsL bitsN
 congr 1
 have e : List.range 63 = List.range m ++ (List.range (63 - m)).map (m + ·) := by
  rw [<- List.range_add]; congr 1; omega
 rw [e,List.filter_append]
 have e2 : ((List.range (63 - m)).map (m + ·)).filter (fun i => (firstM T m w).testBit i) = [] := by
  rw [List.filter_eq_nil_iff]
  intro x hx
  obtain ⟨k,_,rfl⟩ := List.mem_map.1 hx
  rw [z2i]
  simp
  intro h
  omega
 rw [e2,List.append_nil]
 refine List.filter_congr fun i hi => ?_
 rw [z2i,decide_eq_true (List.mem_range.1 hi),Bool.true_and]
theorem frs_len (w : List Int) : ∀ (n s : Nat),(frs T w s n).length <= n
 | 0,s => by simp [frs]
 | n + 1,s => by
   simp only [frs]
   have := frs_len w n (s + 1)
   split
   · simp; omega
   · omega
theorem zgh (ht : Tab T m t) {len : Nat} (hlen : len <= 24) : ∀ (f i : Nat) (L : List CP) (M : List MEnt),CInv m len L -> Seen M (L.map (·.1)) -> 1001 <= i + f -> i <= 1000 + 1 ->
  (∀ L',outr T m f i L = some L' -> WL F.z7 0 Tryz.f69 0 (z3l t i (L.map rc) M) (z9k (L'.map rc))) /\
  (outr T m f i L = none -> ∃ ps,1000 < ps.length /\ WL F.z7 0 Tryz.f69 0 (z3l t i (L.map rc) M) (z9j ps))
 | 0,i,L,M,hI,hS,hf,hi => by
   have := hI.le
   refine ⟨fun L' h => ?_,fun h => by simp [outr] at h⟩
   simp only [outr] at h
   cases h
   exact zi3 (by rw [List.length_map]; omega) rfl
 | f + 1,i,L,M,hI,hS,hf,hi => by
   have hsm := ht.small
   by_cases hlt : i < L.length
   · have hcm := z4f hlt
     generalize hc : L.getD i ([],[]) = cur at hcm
     have hcw := hI.wd cur hcm
     have hcl := hI.len cur hcm
     have hat : rcdAt (L.map rc) i = rc cur := by rw [rc_at hlt,hc]
     have k1 : Runs X F.z1a [lD t,lD ((rcdAt (L.map rc) i).ls.headD [])] [] (intR (firstM T m cur.1)) := by
      rw [hat]; exact z5v (w := cur.1) ht hcw (by unfold B40; omega)
     have k2 := z8i (m := firstM T m cur.1) (Nat.lt_of_lt_of_le (z3f m cur.1) (Nat.pow_le_pow_right (by omega) (by omega)))
     rw [zmz hsm] at k2
     have hxl := frs_len (T := T) cur.1 m 0
     have ham : ∀ a ∈ frs T cur.1 0 m,a ∈ cur.1 := fun a ha => by
      obtain ⟨k,rfl,_,_,hk⟩ := frs_mem ha
      exact zh hk
     obtain ⟨j1,j2⟩ := zgg ht (by omega) hlen (cur := cur) (i := i) (xs := frs T cur.1 0 m) (by omega) (frs T cur.1 0 m) [] L M rfl hI hlt hc ham hS
     have hout : outr T m (f + 1) i L = match inn T m cur (frs T cur.1 0 m) L with | none => none | some L' => outr T m f (i + 1) L' := by
      simp only [outr,if_pos hlt,hc]
      cases inn T m cur (frs T cur.1 0 m) L <;> rfl
     rw [hout]
     cases hin : inn T m cur (frs T cur.1 0 m) L with
     | none =>
       obtain ⟨ps,M',q1,q2⟩ := j2 hin
       refine ⟨(fun L' h => by cases h),fun _ => ⟨ps,q1,zrq (by rw [List.length_map]; omega) k1 k2 q2 rfl⟩⟩
     | some L1 =>
       obtain ⟨M',q1,q2⟩ := j1 L1 hin
       have hI' := inn_inv (T := T) hI hcm ham hin
       have hL1 := hI.le
       obtain ⟨o1,o2⟩ := zgh ht hlen f (i + 1) L1 M' hI' q1 (by omega) (by omega)
       refine ⟨fun L' h => ?_,fun h => ?_⟩
       · exact zi2 (by rw [List.length_map]; omega) k1 k2 q2 (by omega) (o1 L' h)
       · obtain ⟨ps,p1,p2⟩ := o2 h
         exact ⟨ps,p1,zi2 (by rw [List.length_map]; omega) k1 k2 q2 (by omega) p2⟩
   · have hout : outr T m (f + 1) i L = some L := by simp only [outr,if_neg hlt]
     rw [hout]
     refine ⟨fun L' h => ?_,(fun h => by cases h)⟩
     cases h
     exact zi3 (by rw [List.length_map]; omega) rfl
def conjs (T : Dep Int) (m : Nat) (w : List Int) : Option (List CP) := outr T m 1001 0 [(nform T m w,[])]
theorem CInv.first {w : List Int} (hw : Wd m w) : CInv m w.length [(nform T m w,[])] where
 wd := fun p hp => by rw [List.mem_singleton] at hp; subst hp; exact fun x hx => hw x (((z2t (T := T) hw).mem x).1 hx)
 len := fun p hp => by rw [List.mem_singleton] at hp; subst hp; exact z86 hw
 bwd := fun p hp => by rw [List.mem_singleton] at hp; subst hp; exact fun x hx => by cases hx
 bl := fun p hp => by rw [List.mem_singleton] at hp; subst hp; simp
 le := by simp
theorem zjz (ht : Tab T m t) {w : List Int} (hw : Wd m w) (hl : w.length <= 24) :
  (∀ L,conjs T m w = some L -> CInv m w.length L /\ Runs X F.z7 [lD t,lD w] [] ⟨.rcs 600000 2 (L.map rc).length,[],[⟨true,.recs shT (L.map rc)⟩]⟩) /\
  (conjs T m w = none -> ∃ ps : List Rcd,1000 < ps.length /\ Runs X F.z7 [lD t,lD w] [] ⟨.rcs 600000 2 ps.length,[],[⟨true,.recs shT ps⟩]⟩) := by
 have hsm := ht.small
 have hI := CInv.first (T := T) hw
 have k1 := z8j ht hw (by unfold B40; omega)
 have hv : ∀ x ∈ nform T m w,0 <= x /\ x <= 255 := fun x hx => by have := hI.wd _ List.mem_cons_self x hx; omega
 have hnl := hI.len _ List.mem_cons_self
 have k2 := zk9 hv (by unfold B40; simp only at hnl; omega)
 obtain ⟨o1,o2⟩ := zgh ht hl 1001 0 _ _ hI (Seen.one hv) (by omega) (by omega)
 refine ⟨fun L h => ⟨zjc hI h,zrp k1 k2 (o1 L h)⟩,fun h => ?_⟩
 obtain ⟨ps,p1,p2⟩ := o2 h
 exact ⟨ps,p1,zro k1 k2 p2⟩
def FarOK (far : List Int) (n : Nat) : Prop := far.length = n /\ ∀ x ∈ far,0 <= x /\ x <= n
theorem FarOK.push {far : List Int} {n i : Nat} (h : FarOK far n) (hi : i < n) : FarOK (far ++ [far.getD (0 + i) 0 + 1]) (n + 1) := by
 have hx := h.2 _ (List.getElem_mem (l := far) (n := i) (by rw [h.1]; exact hi))
 refine ⟨by simp [h.1],fun x hx' => ?_⟩
 rcases List.mem_append.1 hx' with hx' | hx'
 · have := h.2 x hx'; omega
 · rw [List.mem_singleton] at hx'
   rw [hx',Nat.zero_add,getD_lt (by rw [h.1]; exact hi)]
   omega
theorem z91 (ht : Tab T m t) {len : Nat} (hlen : len <= 24) {cur : CP} {i : Nat} : ∀ (n tt : Nat) (L : List CP) (far : List Int),tt + n = m -> CInv m len L -> i < L.length -> L.getD i ([],[]) = cur -> FarOK far L.length ->
  (∀ L',inn T m cur (frs T cur.1 tt n) L = some L' -> ∃ far',FarOK far' L'.length /\ WL F.zp 2 Tryz.f55 1 (z1y m t i tt (L.map (·.1)) far) (zbo m t i (L'.map (·.1)) far')) /\
  (inn T m cur (frs T cur.1 tt n) L = none -> ∃ l far',WL F.zp 2 Tryz.f55 1 (z1y m t i tt (L.map (·.1)) far) (zbn m t i l far'))
 | 0,tt,L,far,e,hI,hi,hc,hF => by
   refine ⟨fun L' h => ?_,fun h => by simp [frs,inn] at h⟩
   simp only [frs,inn] at h
   cases h
   exact ⟨far,hF,z10x (by omega) rfl⟩
 | n + 1,tt,L,far,e,hI,hi,hc,hF => by
   have hsm := ht.small
   have hcm : cur ∈ L := by rw [<- hc]; exact z4f hi
   have hcw := hI.wd cur hcm
   have hcl := hI.len cur hcm
   have hL := hI.le
   have hg : (L.map (·.1)).getD (0 + i) [] = cur.1 := by
    rw [<- hc,Nat.zero_add,List.getD_eq_getElem?_getD,List.getD_eq_getElem?_getD,List.getElem?_map,List.getElem?_eq_getElem hi]; rfl
   have k1 := zeg ht (w := cur.1) (a := (tt : Int)) hcw (by omega) (by omega)
   rw [<- hg] at k1
   by_cases hf : isFirst T cur.1 tt = true
   · rw [hg,if_pos hf] at k1
     rw [<- hg] at k1
     rw [hg] at k1
     have ham := zh hf
     obtain ⟨r1,r2⟩ := z8b (T := T) hcw ham
     have hfr : frs T cur.1 tt (n + 1) = (tt : Int) :: frs T cur.1 (tt + 1) n := by simp only [frs,if_pos hf]
     have k2 := zef (L.map (·.1)) (rotT T m cur.1 tt) (by rw [List.length_map]; unfold B40; omega) (fun u hu => by
      obtain ⟨p,hp,rfl⟩ := List.mem_map.1 hu
      have := hI.len p hp
      unfold B40; omega)
     have k1' : Runs X F.z1v [alD m t,lD ((L.map (·.1)).getD (0 + i) []),iD tt] [] ⟨.tup [.rsl 600000 0 (rotT T m cur.1 tt).length,.bool true],[],[⟨true,.ints .i64 (rotT T m cur.1 tt)⟩]⟩ := by rw [hg]; exact k1
     rw [hfr]
     by_cases hmem : rotT T m cur.1 tt ∈ L.map (·.1)
     · have hin : inn T m cur ((tt : Int) :: frs T cur.1 (tt + 1) n) L = inn T m cur (frs T cur.1 (tt + 1) n) L := by simp only [inn,if_pos hmem]
       rw [if_pos hmem] at k2
       obtain ⟨i1,i2⟩ := z91 ht hlen (cur := cur) (i := i) n (tt + 1) L far (by omega) hI hi hc hF
       rw [hin]
       refine ⟨fun L' h => ?_,fun h => ?_⟩
       · obtain ⟨f',q1,q2⟩ := i1 L' h
         exact ⟨f',q1,zld (by omega) (by rw [List.length_map]; omega) k1' rfl k2 (by omega) (by omega) q2⟩
       · obtain ⟨l,f',q2⟩ := i2 h
         exact ⟨l,f',zld (by omega) (by rw [List.length_map]; omega) k1' rfl k2 (by omega) (by omega) q2⟩
     · rw [if_neg hmem] at k2
       have hfx := hF.2 _ (List.getElem_mem (l := far) (n := i) (by rw [hF.1]; exact hi))
       have hfg : far.getD (0 + i) 0 = far[i]'(by rw [hF.1]; exact hi) := by rw [Nat.zero_add,getD_lt]
       have hfl := hF.1
       by_cases hover : L.length + 1 > 1000
       · have hin : inn T m cur ((tt : Int) :: frs T cur.1 (tt + 1) n) L = none := by simp only [inn,if_neg hmem,if_pos hover]
         rw [hin]
         exact ⟨(fun L' h => by cases h),fun _ => ⟨_,_,z10w (by omega) (by rw [List.length_map]; omega) k1' rfl k2 (by omega) (by rw [List.length_map]; omega) (by omega) (by omega) (by omega) (by omega) (by simp; omega) rfl⟩⟩
       · have hin : inn T m cur ((tt : Int) :: frs T cur.1 (tt + 1) n) L = inn T m cur (frs T cur.1 (tt + 1) n) (L ++ [(rotT T m cur.1 tt,cur.2 ++ [(tt : Int)])]) := by simp only [inn,if_neg hmem,if_neg hover]
         have hI' := hI.push (T := T) hcm ham hover
         have hF' := hF.push hi
         have eS : L.map (·.1) ++ [rotT T m cur.1 tt] = (L ++ [(rotT T m cur.1 tt,cur.2 ++ [(tt : Int)])]).map (·.1) := by simp
         have eL : (L ++ [(rotT T m cur.1 tt,cur.2 ++ [(tt : Int)])]).length = L.length + 1 := by simp
         obtain ⟨i1,i2⟩ := z91 ht hlen (cur := cur) (i := i) n (tt + 1) _ _ (by omega) hI' (by rw [eL]; omega) (by rw [<- hc,List.getD_eq_getElem?_getD,List.getD_eq_getElem?_getD,List.getElem?_append_left hi]) (by rw [eL]; exact hF')
         rw [<- eS] at i1 i2
         rw [hin]
         refine ⟨fun L' h => ?_,fun h => ?_⟩
         · obtain ⟨f',q1,q2⟩ := i1 L' h
           exact ⟨f',q1,zlc (by omega) (by rw [List.length_map]; omega) k1' rfl k2 (by omega) (by rw [List.length_map]; omega) (by omega) (by omega) (by omega) (by omega) (by simp; omega) (by omega) q2⟩
         · obtain ⟨l,f',q2⟩ := i2 h
           exact ⟨l,f',zlc (by omega) (by rw [List.length_map]; omega) k1' rfl k2 (by omega) (by rw [List.length_map]; omega) (by omega) (by omega) (by omega) (by omega) (by simp; omega) (by omega) q2⟩
   · rw [hg,if_neg hf] at k1
     have k1' : Runs X F.z1v [alD m t,lD ((L.map (·.1)).getD (0 + i) []),iD tt] [] ⟨.tup [.rsl 600000 0 ([] : List Int).length,.bool false],[],[⟨true,.ints .i64 []⟩]⟩ := by rw [hg]; exact k1
     have hfr : frs T cur.1 tt (n + 1) = frs T cur.1 (tt + 1) n := by simp only [frs,if_neg hf]
     obtain ⟨i1,i2⟩ := z91 ht hlen (cur := cur) (i := i) n (tt + 1) L far (by omega) hI hi hc hF
     rw [hfr]
     refine ⟨fun L' h => ?_,fun h => ?_⟩
     · obtain ⟨f',q1,q2⟩ := i1 L' h
       exact ⟨f',q1,zle (by omega) (by rw [List.length_map]; omega) k1' rfl (by omega) q2⟩
     · obtain ⟨l,f',q2⟩ := i2 h
       exact ⟨l,f',zle (by omega) (by rw [List.length_map]; omega) k1' rfl (by omega) q2⟩
theorem zgd (ht : Tab T m t) {len : Nat} (hlen : len <= 24) : ∀ (f i : Nat) (L : List CP) (far : List Int),CInv m len L -> FarOK far L.length -> 1001 <= i + f -> i <= 1001 ->
  (∀ L',outr T m f i L = some L' -> ∃ far',FarOK far' L'.length /\ WL F.zp 0 Tryz.f55 0 (z43 m t i (L.map (·.1)) far) (zbm (L'.map (·.1)) far')) /\
  (outr T m f i L = none -> ∃ l far',WL F.zp 0 Tryz.f55 0 (z43 m t i (L.map (·.1)) far) (zbl l far'))
 | 0,i,L,far,hI,hF,hf,hi => by
   have := hI.le
   refine ⟨fun L' h => ?_,fun h => by simp [outr] at h⟩
   simp only [outr] at h
   cases h
   exact ⟨far,hF,zlb (by rw [List.length_map]; omega) rfl⟩
 | f + 1,i,L,far,hI,hF,hf,hi => by
   by_cases hlt : i < L.length
   · have hcm := z4f hlt
     generalize hc : L.getD i ([],[]) = cur at hcm
     have ham : ∀ a ∈ frs T cur.1 0 m,a ∈ cur.1 := fun a ha => by
      obtain ⟨k,rfl,_,_,hk⟩ := frs_mem ha
      exact zh hk
     obtain ⟨j1,j2⟩ := z91 ht hlen (cur := cur) (i := i) m 0 L far (by omega) hI hlt hc hF
     have hL := hI.le
     have hout : outr T m (f + 1) i L = match inn T m cur (frs T cur.1 0 m) L with | none => none | some L' => outr T m f (i + 1) L' := by
      simp only [outr,if_pos hlt,hc]
      cases inn T m cur (frs T cur.1 0 m) L <;> rfl
     rw [hout]
     cases hin : inn T m cur (frs T cur.1 0 m) L with
     | none =>
       obtain ⟨l,f',q2⟩ := j2 hin
       exact ⟨(fun L' h => by cases h),fun _ => ⟨l,f',z10v (by rw [List.length_map]; omega) q2 rfl⟩⟩
     | some L1 =>
       obtain ⟨f',q1,q2⟩ := j1 L1 hin
       have hI' := inn_inv (T := T) hI hcm ham hin
       obtain ⟨o1,o2⟩ := zgd ht hlen f (i + 1) L1 f' hI' q1 (by omega) (by omega)
       refine ⟨fun L' h => ?_,fun h => ?_⟩
       · obtain ⟨g',p1,p2⟩ := o1 L' h
         exact ⟨g',p1,zla (by rw [List.length_map]; omega) q2 (by omega) p2⟩
       · obtain ⟨l,g',p2⟩ := o2 h
         exact ⟨l,g',zla (by rw [List.length_map]; omega) q2 (by omega) p2⟩
   · have hout : outr T m (f + 1) i L = some L := by simp only [outr,if_neg hlt]
     rw [hout]
     refine ⟨fun L' h => ?_,(fun h => by cases h)⟩
     cases h
     exact ⟨far,hF,zlb (by rw [List.length_map]; omega) rfl⟩
theorem zwa (ht : Tab T m t) {w : List Int} (hw : Wd m w) (hl : w.length <= 24) :
  (∀ L,conjs T m w = some L -> ∃ far : List Int,Runs X F.zp [alD m t,lD w] [] ⟨.tup [.rsl 600000 0 (L.map (·.1)).length,.rsl 600001 0 far.length,.bool true],[],[⟨true,.ints2 .i64 (L.map (·.1))⟩,⟨true,.ints .i64 far⟩]⟩) /\
  (conjs T m w = none -> Runs X F.zp [alD m t,lD w] [] ⟨.tup [.rsl 600000 0 ([] : List (List Int)).length,.rsl 600001 0 ([] : List Int).length,.bool false],[],[⟨true,.ints2 .i64 []⟩,⟨true,.ints .i64 []⟩]⟩) := by
 have hI := CInv.first (T := T) hw
 have k1 := zak ht hw (by unfold B40; omega)
 obtain ⟨o1,o2⟩ := zgd ht hl 1001 0 _ [0] hI ⟨rfl,fun x hx => by rw [List.mem_singleton] at hx; subst hx; simp⟩ (by omega) (by omega)
 refine ⟨fun L h => ?_,fun h => ?_⟩
 · obtain ⟨far,_,q⟩ := o1 L h
   exact ⟨far,z10u k1 q⟩
 · obtain ⟨l,far,q⟩ := o2 h
   exact z10t k1 q
theorem zk1 (L : List CP) (w : List Int) (hl : L.length <= 1000) (hw : ∀ p ∈ L,p.1.length <= B40) :
  Runs X F.z17 [.immR shT (L.map rc),.fn F.z1m [.pim [lD w]]] [] (intR (if w ∈ L.map (·.1) then ((L.map (·.1)).idxOf w : Int) else -1)) := by
 have key : ∀ (S P : List CP),L = P ++ S -> w ∉ P.map (·.1) -> (w ∈ S.map (·.1) -> WL F.z17 0 Tryz.f91 0 (z3u (L.map rc) w P.length) (zax ((L.map (·.1)).idxOf w))) /\
   (w ∉ S.map (·.1) -> WL F.z17 0 Tryz.f91 0 (z3u (L.map rc) w P.length) zay) := by
  intro S
  induction S with
  | nil =>
    intro P e hP
    refine ⟨fun h => by simp at h,fun _ => ?_⟩
    have : L.length = P.length := by rw [e]; simp
    exact zxk (by rw [List.length_map]; omega) rfl
  | cons y S ih =>
    intro P e hP
    have hlt : P.length < L.length := by rw [e]; simp
    have hg : L.getD P.length ([],[]) = y := by rw [List.getD_eq_getElem?_getD,e]; simp
    have hat : rcdAt (L.map rc) P.length = rc y := by rw [rc_at hlt,hg]
    have c0 := zvq y.1 w (hw y (by rw [e]; simp))
    have c := zqh (b := y.2) c0
    have c' : Runs X F.z1m [.agg [lD ((rcdAt (L.map rc) P.length).ls.headD []),lD ((rcdAt (L.map rc) P.length).ls.tail.headD [])],.pim [lD w]] [] (boolR (decide (y.1 = w))) := by
     rw [hat]; exact c
    by_cases hy : y.1 = w
    · have hi : (L.map (·.1)).idxOf w = P.length := by
       rw [e,List.map_append,List.idxOf_append,if_neg hP,List.map_cons,hy,List.idxOf_cons_self,List.length_map]; omega
      refine ⟨fun _ => ?_,fun h => absurd (by rw [List.map_cons,hy]; simp) h⟩
      rw [hi]
      exact zxj (by rw [List.length_map]; omega) c' (by simp [hy]) rfl
    · obtain ⟨k1,k2⟩ := ih (P ++ [y]) (by rw [e]; simp) (by rw [List.map_append]; simp only [List.map_cons,List.map_nil,List.mem_append,List.mem_singleton,not_or]; exact ⟨hP,fun h => hy h.symm⟩)
      rw [List.length_append,List.length_singleton] at k1 k2
      refine ⟨fun h => ?_,fun h => ?_⟩
      · have h' : w ∈ S.map (·.1) := by rw [List.map_cons] at h; rcases List.mem_cons.1 h with h | h; exact absurd h.symm hy; exact h
        exact zkt (by rw [List.length_map]; omega) c' (by simp [hy]) (by omega) (k1 h')
      · have h' : w ∉ S.map (·.1) := fun hh => h (by rw [List.map_cons]; exact List.mem_cons_of_mem _ hh)
        exact zkt (by rw [List.length_map]; omega) c' (by simp [hy]) (by omega) (k2 h')
 obtain ⟨k1,k2⟩ := key L [] rfl (by simp)
 by_cases h : w ∈ L.map (·.1)
 · rw [if_pos h]; exact zxh (k1 h)
 · rw [if_neg h]; exact zxi (k2 h)
end
end Go.PR.S
