/- Conjugates: which words rotating leads to,in the order in which they are found. Plain part. -/
import Derived.Test.YtnhklcbddcoadaaGreatDoorGrK
import Derived.Test.YtnhklcbddcoadaaGreatDoorFwMp
import Derived.Test.YtnhklcbddcoadaaGreatDoorFwP26
import Derived.Test.YtnhklcbddcoadaaGreatDoorFwG35
import Derived.Test.YtnhklcbddcoadaaGreatDoorFwG36
set_option linter.unusedVariables false
set_option linter.unusedSimpArgs false
set_option linter.unusedSectionVars false
section
namespace Gp
section
variable (T : Dep Int) (m : Nat)
def rotT (w : List Int) (a : Int) : List Int := nform T m (w.erase a ++ [a])
def frs (w : List Int) : (t n : Nat) -> List Int
 | _,0 => []
 | t,n + 1 => if isFirst T w t then (t : Int) :: frs w (t + 1) n else frs w (t + 1) n
abbrev CP := List Int × List Int
def inn (cur : CP) : List Int -> List CP -> Option (List CP)
 | [],L => some L
 | a :: zs,L => if rotT T m cur.1 a ∈ L.map (·.1) then inn cur zs L else if L.length + 1 > 1000 then none else inn cur zs (L ++ [(rotT T m cur.1 a,cur.2 ++ [a])])
def outr : (fuel i : Nat) -> List CP -> Option (List CP)
 | 0,_,L => some L
 | f + 1,i,L => if i < L.length then match inn T m (L.getD i ([],[])) (frs T (L.getD i ([],[])).1 0 m) L with
    | none => none
    | some L' => outr f (i + 1) L'
   else some L
variable {T m}
theorem frs_mem {w : List Int} {x : Int} : ∀ {n t : Nat},x ∈ frs T w t n -> ∃ i : Nat,x = i /\ t <= i /\ i < t + n /\ isFirst T w i = true
 | 0,t,h => by simp [frs] at h
 | n + 1,t,h => by
   simp only [frs] at h
   split at h
   · rename_i hf
     rcases List.mem_cons.1 h with rfl | h
     · exact ⟨t,rfl,Nat.le_refl _,by omega,hf⟩
     · obtain ⟨i,h1,h2,h3,h4⟩ := frs_mem h
       exact ⟨i,h1,by omega,by omega,h4⟩
   · obtain ⟨i,h1,h2,h3,h4⟩ := frs_mem h
     exact ⟨i,h1,by omega,by omega,h4⟩
theorem zd2 (w : List Int) : ∀ (n t : Nat),frs T w t n = ((List.range' t n).filter fun i => isFirst T w (i : Nat)).map fun i => ((i : Nat) : Int)
 | 0,t => by simp [frs]
 | n + 1,t => by
   rw [List.range'_succ,List.filter_cons]
   simp only [frs]
   split <;> simp_all [zd2 w n (t + 1)]
theorem z8b {w : List Int} {a : Int} (hw : Wd m w) (h : a ∈ w) : Wd m (rotT T m w a) /\ (rotT T m w a).length = w.length := by
 have hW : Wd m (w.erase a ++ [a]) := fun x hx => by
  rcases List.mem_append.1 hx with hx | hx
  · exact hw x (List.mem_of_mem_erase hx)
  · rw [List.mem_singleton] at hx; rw [hx]; exact hw a h
 have hp : 0 < w.length := List.length_pos_of_mem h
 refine ⟨fun x hx => hW x (((z2t (T := T) hW).mem x).1 hx),?_⟩
 unfold rotT
 rw [z86 hW,List.length_append,List.length_erase_of_mem h]
 simp
 omega
structure CInv (m len : Nat) (L : List CP) : Prop where
 wd : ∀ p ∈ L,Wd m p.1
 len : ∀ p ∈ L,p.1.length = len
 bwd : ∀ p ∈ L,Wd m p.2
 bl : ∀ p ∈ L,p.2.length < L.length
 le : L.length <= 1000
theorem CInv.push {len : Nat} {L : List CP} (h : CInv m len L) {cur : CP} (hc : cur ∈ L) {a : Int} (ha : a ∈ cur.1) (hl : ¬ L.length + 1 > 1000) : CInv m len (L ++ [(rotT T m cur.1 a,cur.2 ++ [a])]) := by
 obtain ⟨r1,r2⟩ := z8b (T := T) (h.wd cur hc) ha
 refine ⟨fun p hp => ?_,fun p hp => ?_,fun p hp => ?_,fun p hp => ?_,by simp; omega⟩
 · rcases List.mem_append.1 hp with hp | hp
   · exact h.wd p hp
   · rw [List.mem_singleton] at hp; subst hp; exact r1
 · rcases List.mem_append.1 hp with hp | hp
   · exact h.len p hp
   · rw [List.mem_singleton] at hp; subst hp; exact r2.trans (h.len cur hc)
 · rcases List.mem_append.1 hp with hp | hp
   · exact h.bwd p hp
   · rw [List.mem_singleton] at hp; subst hp
     intro x hx
     rcases List.mem_append.1 hx with hx | hx
     · exact h.bwd cur hc x hx
     · rw [List.mem_singleton] at hx; rw [hx]; exact h.wd cur hc a ha
 · rcases List.mem_append.1 hp with hp | hp
   · have := h.bl p hp; simp; omega
   · rw [List.mem_singleton] at hp; subst hp
     have := h.bl cur hc; simp; omega
theorem z9u {cur : CP} : ∀ {zs : List Int} {L L' : List CP},inn T m cur zs L = some L' -> ∃ R,L' = L ++ R
 | [],L,L',h => by simp only [inn] at h; cases h; exact ⟨[],by simp⟩
 | a :: zs,L,L',h => by
   simp only [inn] at h
   split at h
   · exact z9u h
   · split at h
     · cases h
     · obtain ⟨R,hR⟩ := z9u h
       exact ⟨(rotT T m cur.1 a,cur.2 ++ [a]) :: R,by rw [hR,List.append_assoc]; rfl⟩
theorem inn_inv {len : Nat} {cur : CP} : ∀ {zs : List Int} {L L' : List CP},CInv m len L -> cur ∈ L -> (∀ a ∈ zs,a ∈ cur.1) -> inn T m cur zs L = some L' -> CInv m len L'
 | [],L,L',h,_,_,e => by simp only [inn] at e; cases e; exact h
 | a :: zs,L,L',h,hc,ha,e => by
   simp only [inn] at e
   split at e
   · exact inn_inv h hc (fun x hx => ha x (List.mem_cons_of_mem _ hx)) e
   · split at e
     · cases e
     · rename_i hl
       exact inn_inv (h.push hc (ha a List.mem_cons_self) hl) (List.mem_append_left _ hc) (fun x hx => ha x (List.mem_cons_of_mem _ hx)) e
theorem zjb : ∀ {f i : Nat} {L L' : List CP},outr T m f i L = some L' -> ∃ R,L' = L ++ R
 | 0,i,L,L',h => by simp only [outr] at h; cases h; exact ⟨[],by simp⟩
 | f + 1,i,L,L',h => by
   simp only [outr] at h
   split at h
   · split at h
     · cases h
     · rename_i L1 h1
       obtain ⟨R1,rfl⟩ := z9u h1
       obtain ⟨R2,rfl⟩ := zjb h
       exact ⟨R1 ++ R2,by simp⟩
   · cases h; exact ⟨[],by simp⟩
theorem z4f {L : List CP} {i : Nat} (h : i < L.length) : L.getD i ([],[]) ∈ L := by
 rw [List.getD_eq_getElem?_getD,List.getElem?_eq_getElem h]; exact List.getElem_mem h
theorem zjc {len : Nat} : ∀ {f i : Nat} {L L' : List CP},CInv m len L -> outr T m f i L = some L' -> CInv m len L'
 | 0,i,L,L',h,e => by simp only [outr] at e; cases e; exact h
 | f + 1,i,L,L',h,e => by
   simp only [outr] at e
   split at e
   · rename_i hi
     split at e
     · cases e
     · rename_i L1 h1
       refine zjc (inn_inv h (z4f hi) (fun a ha => ?_) h1) e
       obtain ⟨k,rfl,_,_,hk⟩ := frs_mem ha
       exact zh hk
   · cases e; exact h
end
end Gp
namespace Go.PR
open Go
theorem z8o (a b : ByteArray) (x y : Int) : MK.str.same (encS a,x) (encS b,y) = decide (a = b) := by
 show (decS (encS a) == decS (encS b)) = _
 rw [zcf,zcf,Bool.eq_iff_iff,ba_beq,decide_eq_true_iff]
def StrKeys (es : List MEnt) : Prop := ∀ p ∈ es,∃ b : ByteArray,p.1 = (encS b,0)
theorem ziy (a b : ByteArray) (v : Int) : ∀ (es : List MEnt),StrKeys es -> mget .str (mset .str es (encS a,0) v) (encS b,0) = if a = b then some v else mget .str es (encS b,0)
 | [],_ => by
   rw [zj2,z85,ziz,z8o]
   by_cases h : a = b
   · subst h; simp
   · have : ¬ b = a := fun e => h e.symm
     simp [h,this]
 | p :: es,hs => by
   obtain ⟨c,hc⟩ := hs p List.mem_cons_self
   have ih := ziy a b v es (fun q hq => hs q (List.mem_cons_of_mem _ hq))
   rw [zj0,hc,z8o]
   by_cases h : a = c
   · rw [if_pos (decide_eq_true h),z85,z85,hc,z8o,z8o]
     by_cases hb : b = a
     · rw [if_pos (decide_eq_true hb),if_pos hb.symm]
     · rw [if_neg (by simpa using hb),if_neg (fun e => hb e.symm),if_neg (by simpa using fun e => hb (e.trans h.symm))]
   · rw [if_neg (by simpa using h),z85,z85,ih,hc,z8o]
     by_cases hb : b = c
     · rw [if_pos (decide_eq_true hb),if_pos (decide_eq_true hb),if_neg (fun e => h (e.trans hb))]
     · rw [decide_eq_false hb]; rfl
theorem zj1 (a : ByteArray) (v : Int) : ∀ (es : List MEnt),StrKeys es -> StrKeys (mset .str es (encS a,0) v)
 | [],_ => by
   rw [zj2]
   intro p hp
   rw [List.mem_singleton] at hp
   subst hp
   exact ⟨a,rfl⟩
 | p :: es,hs => by
   rw [zj0]
   split
   · intro q hq
     rcases List.mem_cons.1 hq with rfl | hq
     · exact ⟨a,rfl⟩
     · exact hs q (List.mem_cons_of_mem _ hq)
   · intro q hq
     rcases List.mem_cons.1 hq with rfl | hq
     · exact hs q List.mem_cons_self
     · exact zj1 a v es (fun q hq => hs q (List.mem_cons_of_mem _ hq)) q hq
def Seen (M : List MEnt) (S : List (List Int)) : Prop := StrKeys M /\ ∀ w : List Int,(∀ x ∈ w,0 <= x /\ x <= 255) -> ((mget .str M (encS (bytesOf w),0)).getD 0 = 0 ↔ w ∉ S)
theorem Seen.push {M : List MEnt} {S : List (List Int)} (h : Seen M S) {v : List Int} (hv : ∀ x ∈ v,0 <= x /\ x <= 255) : Seen (mset .str M (encS (bytesOf v),0) (b2i true)) (S ++ [v]) := by
 refine ⟨zj1 _ _ _ h.1,fun w hw => ?_⟩
 rw [ziy _ _ _ _ h.1]
 by_cases e : bytesOf v = bytesOf w
 · rw [if_pos e]
   have : v = w := zn9 hv hw e
   subst this
   simp [b2i]
 · rw [if_neg e,h.2 w hw]
   have : w ≠ v := fun e' => e (by rw [e'])
   simp [this]
theorem Seen.one {v : List Int} (hv : ∀ x ∈ v,0 <= x /\ x <= 255) : Seen (mset .str [] (encS (bytesOf v),0) (b2i true)) [v] := by
 have h0 : Seen [] [] := ⟨(fun p hp => by cases hp),fun w hw => by simp [ziz]⟩
 exact h0.push hv
end Go.PR

end

section
set_option maxRecDepth 20000
namespace Go.PR.S
open Go Go.PR Go.Proofs Gp
theorem wrap_u8 {x : Int} (h : 0 <= x /\ x <= 255) : IntKind.u8.wrap x = x := by
 simp [IntKind.wrap,IntKind.bits,IntKind.signed]
 omega
theorem zk9 {w : List Int} (hw : ∀ x ∈ w,0 <= x /\ x <= 255) (hl : w.length <= B40) : Runs X F.z2a [lD w] [] ⟨.str (bytesOf w),[],[]⟩ := by
 unfold B40 at hl
 have hlp := loop_to (f := F.z2a) (b := 0) (body := lb Tryz.f107 0) (N := w.length) (o := z9t w w) (st := fun i => z6x w i (w.take i ++ List.replicate (w.length - i) 0)) (fun i hi Q hq => ?_) (fun Q hq => ?_)
 · have e : w.take 0 ++ List.replicate (w.length - 0) 0 = List.replicate w.length 0 := by simp
   rw [e] at hlp
   have := zss (by omega) hlp (by omega)
   rwa [List.drop_zero,List.take_of_length_le (Nat.le_refl _)] at this
 · apply zst
   case hq =>
    have e : (w.take i ++ List.replicate (w.length - i) 0).set (0 + i) (IntKind.u8.wrap (w.getD i 0)) = w.take (i + 1) ++ List.replicate (w.length - (i + 1)) 0 := by
     rw [Nat.zero_add,getD_lt hi,wrap_u8 (hw _ (List.getElem_mem hi)),List.set_append_right _ _ (by rw [List.length_take]; omega)]
     have e1 : w.length - i = (w.length - (i + 1)) + 1 := by omega
     have e2 : i - (w.take i).length = 0 := by rw [List.length_take]; omega
     rw [e2,e1,List.replicate_succ,List.set_cons_zero,List.take_succ_eq_append_getElem hi,List.append_assoc]
     rfl
    rw [e]; exact hq
   all_goals first | omega | (simp; done) | (simp; omega)
 · apply zsu
   case hq =>
    have e : w.take w.length ++ List.replicate (w.length - w.length) 0 = w := by simp
    rw [e]; exact hq
   all_goals first | omega | (simp; done) | (simp; omega)
theorem zed (u v : List Int) (hu : u.length <= B40) : Runs X F.z1b [lD u,lD v] [] (boolR (decide (u = v))) := by
 unfold B40 at hu
 by_cases hl : u.length = v.length
 · have hlp := z5n (f := F.z1b) (b := 0) (body := lb Tryz.f39 0) (N := u.length) (oF := zb6) (oT := zb7) (st := fun i => z51 u v i)
    (p := fun i => decide (u.getD i 0 = v.getD i 0)) (fun i hi hp Q hq => ?_) (fun i hi hp Q hq => ?_) (fun Q hq => ?_)
   · have e : (List.range u.length).all (fun i => decide (u.getD i 0 = v.getD i 0)) = decide (u = v) := by
      rw [Bool.eq_iff_iff,List.all_eq_true,decide_eq_true_iff]
      constructor
      · intro h
        apply List.ext_getElem hl
        intro i h1 h2
        have := h i (List.mem_range.2 h1)
        rwa [decide_eq_true_iff,getD_lt h1,getD_lt h2] at this
      · intro h i _; rw [h]; simp
     rw [e] at hlp
     cases hd : decide (u = v) with
     | true => rw [hd] at hlp; exact zz4 (by omega) hlp
     | false => rw [hd] at hlp; exact zz3 (by omega) hlp
   · exact zz6 (by omega) (by omega) (by simpa using hp) (by omega) hq
   · exact zz5 (by omega) (by omega) (by simpa using hp) hq
   · exact zz7 (by omega) (by omega) hq
 · have : decide (u = v) = false := decide_eq_false fun e => hl (by rw [e])
   rw [this]
   exact zz2 (by omega)
theorem zoy {l : List (List Int)} {i : Nat} (h : i < l.length) : l.getD i [] = l[i] := by simp [List.getD_eq_getElem?_getD,h]
theorem zef (l : List (List Int)) (w : List Int) (hl : l.length <= B40) (hw : ∀ u ∈ l,u.length <= B40) :
  Runs X F.z1j [.imm2 .i64 l,lD w] [] (intR (if w ∈ l then (l.idxOf w : Int) else -1)) := by
 unfold B40 at hl
 have key : ∀ (S P : List (List Int)),l = P ++ S -> w ∉ P -> (w ∈ S -> WL F.z1j 0 Tryz.f44 0 (z44 l w P.length) (zbp (l.idxOf w))) /\ (w ∉ S -> WL F.z1j 0 Tryz.f44 0 (z44 l w P.length) zbq) := by
  intro S
  induction S with
  | nil =>
    intro P e hP
    refine ⟨fun h => by simp at h,fun _ => ?_⟩
    have : l.length = P.length := by rw [e]; simp
    exact z111 (by omega) rfl
  | cons y S ih =>
    intro P e hP
    have hlt : P.length < l.length := by rw [e]; simp
    have hg : l.getD P.length [] = y := by rw [zoy hlt]; simp [e]
    have c := zed y w (hw y (by rw [e]; simp))
    rw [<- hg] at c
    by_cases hy : y = w
    · have hi : l.idxOf w = P.length := by
       rw [e,List.idxOf_append,if_neg hP,hy,List.idxOf_cons_self]; omega
      refine ⟨fun _ => ?_,fun h => absurd (by rw [hy]; simp) h⟩
      rw [hi]
      refine z110 (by omega) c (by rw [hg]; simp [hy]) rfl
    · obtain ⟨k1,k2⟩ := ih (P ++ [y]) (by rw [e]; simp) (by simp [hP]; exact fun h => hy h.symm)
      rw [List.length_append,List.length_singleton] at k1 k2
      refine ⟨fun h => ?_,fun h => ?_⟩
      · have h' : w ∈ S := by rcases List.mem_cons.1 h with h | h; exact absurd h.symm hy; exact h
        exact zlg (by omega) c (by rw [hg]; simp [hy]) (by omega) (k1 h')
      · have h' : w ∉ S := fun hh => h (List.mem_cons_of_mem _ hh)
        exact zlg (by omega) c (by rw [hg]; simp [hy]) (by omega) (k2 h')
 obtain ⟨k1,k2⟩ := key l [] rfl (by simp)
 by_cases h : w ∈ l
 · rw [if_pos h]; exact z10y (k1 h)
 · rw [if_neg h]; exact z10z (k2 h)
def rc (p : CP) : Rcd := ⟨[],[p.1,p.2],[]⟩
abbrev shT : List FK := [.ints .i64,.ints .i64]
theorem rc_at {L : List CP} {i : Nat} (h : i < L.length) : rcdAt (L.map rc) i = rc (L.getD i ([],[])) := by
 unfold rcdAt
 rw [List.getD_eq_getElem?_getD,List.getD_eq_getElem?_getD,List.getElem?_map,List.getElem?_eq_getElem h]
 rfl
section
variable {T : Dep Int} {m : Nat} {t : List Int}
theorem zwh (ht : Tab T m t) {w : List Int} {a : Int} (hw : Wd m w) (ha : a ∈ w) (hl : w.length <= 24) : Runs X F.z5i [lD t,lD w,iD a] [] (rowR (rotT T m w a)) := by
 have hW : Wd m (w.erase a ++ [a]) := fun x hx => by
  rcases List.mem_append.1 hx with hx | hx
  · exact hw x (List.mem_of_mem_erase hx)
  · rw [List.mem_singleton] at hx; rw [hx]; exact hw a ha
 have h1 := z8m ha (by unfold B40; omega)
 have hle := List.length_erase_of_mem ha
 have h2 := z8j ht hW (by rw [List.length_append]; simp; unfold B40; omega)
 exact zsm h1 (by omega) h2
theorem zeg (ht : Tab T m t) {w : List Int} {a : Int} (hw : Wd m w) (ha : 0 <= a /\ a < m) (hl : w.length <= 24) :
  Runs X F.z1v [alD m t,lD w,iD a] [] (if isFirst T w a then ⟨.tup [.rsl 600000 0 (rotT T m w a).length,.bool true],[],[⟨true,.ints .i64 (rotT T m w a)⟩]⟩ else ⟨.tup [.rsl 600000 0 0,.bool false],[],[⟨true,.ints .i64 []⟩]⟩) := by
 have c1 := z2v ht m hw ha (by unfold B40; omega)
 by_cases hf : isFirst T w a = true
 · rw [if_pos hf] at c1 ⊢
   have hm := zh hf
   have hi : w.idxOf a < w.length := List.idxOf_lt_length_iff.2 hm
   have c2 := z3q hi (by unfold B40; omega)
   rw [<- List.erase_eq_eraseIdx_of_idxOf (by rfl)] at c2
   have hW : Wd m (w.erase a ++ [a]) := fun x hx => by
    rcases List.mem_append.1 hx with hx | hx
    · exact hw x (List.mem_of_mem_erase hx)
    · rw [List.mem_singleton] at hx; rw [hx]; exact hw a hm
   have hle := List.length_erase_of_mem hm
   have c3 := zak ht hW (by rw [List.length_append]; simp; unfold B40; omega)
   exact z113 c1 (by omega) c2 (by omega) c3
 · rw [if_neg hf] at c1 ⊢
   exact z112 c1 (by omega)
theorem zu8 (L : List CP) (p : CP) : L.map rc ++ [Rcd.mk [] [p.1,p.2] []] = (L ++ [p]).map rc := by simp [rc]
theorem zgg (ht : Tab T m t) (hm : m <= 256) {len : Nat} (hlen : len <= 24) {cur : CP} {i : Nat} {xs : List Int} (hxs : xs.length <= 63) : ∀ (zs P : List Int) (L : List CP) (M : List MEnt),xs = P ++ zs -> CInv m len L -> i < L.length -> L.getD i ([],[]) = cur -> (∀ a ∈ zs,a ∈ cur.1) -> Seen M (L.map (·.1)) ->
  (∀ L',inn T m cur zs L = some L' -> ∃ M',Seen M' (L'.map (·.1)) /\ WL F.z7 2 Tryz.f69 1 (z2k t i xs P.length (L.map rc) M) (z9m t i (L'.map rc) M')) /\
  (inn T m cur zs L = none -> ∃ ps M',1000 < ps.length /\ WL F.z7 2 Tryz.f69 1 (z2k t i xs P.length (L.map rc) M) (z9l t i ps M'))
 | [],P,L,M,e,hI,hi,hc,ha,hS => by
   have : xs.length = P.length := by rw [e]; simp
   refine ⟨fun L' h => ?_,fun h => by simp [inn] at h⟩
   simp only [inn] at h
   cases h
   exact ⟨M,hS,zrs (by omega) rfl⟩
 | a :: zs,P,L,M,e,hI,hi,hc,ha,hS => by
   have hlt : P.length < xs.length := by rw [e]; simp
   have hg : xs.getD (0 + P.length) 0 = a := by rw [Nat.zero_add,getD_lt hlt]; simp [e]
   have hcm : cur ∈ L := by rw [<- hc]; exact z4f hi
   have hcw := hI.wd cur hcm
   have hcl := hI.len cur hcm
   have ham := ha a List.mem_cons_self
   obtain ⟨r1,r2⟩ := z8b (T := T) hcw ham
   have hbl := hI.bl cur hcm
   have hL := hI.le
   have hat : rcdAt (L.map rc) i = rc cur := by rw [rc_at hi,hc]
   have k1 : Runs X F.z5i [lD t,lD ((rcdAt (L.map rc) i).ls.headD []),iD (xs.getD (0 + P.length) 0)] [] (rowR (rotT T m cur.1 a)) := by
    rw [hat,hg]; exact zwh (w := cur.1) ht hcw ham (by omega)
   have hv : ∀ x ∈ rotT T m cur.1 a,0 <= x /\ x <= 255 := fun x hx => by have := r1 x hx; omega
   have k2 := zk9 hv (by rw [r2,hcl]; unfold B40; omega)
   have k3 : Runs X F.z4w [lD ((rcdAt (L.map rc) i).ls.tail.headD [])] [] (rowR cur.2) := by
    rw [hat]; exact zjv cur.2 (by unfold B40; omega)
   have hseen := hS.2 (rotT T m cur.1 a) hv
   have ih := zgg ht hm hlen (cur := cur) (i := i) hxs zs (P ++ [a])
   have eP : (P ++ [a]).length = P.length + 1 := by simp
   rw [eP] at ih
   by_cases hmem : rotT T m cur.1 a ∈ L.map (·.1)
   · have hin : inn T m cur (a :: zs) L = inn T m cur zs L := by simp only [inn,if_pos hmem]
     obtain ⟨i1,i2⟩ := ih L M (by rw [e]; simp) hI hi hc (fun x hx => ha x (List.mem_cons_of_mem _ hx)) hS
     have hne : ¬ (mget .str M (encS (bytesOf (rotT T m cur.1 a)),0)).getD 0 = 0 := fun h => hseen.1 h hmem
     rw [hin]
     refine ⟨fun L' h => ?_,fun h => ?_⟩
     · obtain ⟨M',q1,q2⟩ := i1 L' h
       exact ⟨M',q1,zi5 (by omega) (by rw [List.length_map]; omega) k1 k2 hne (by rw [List.length_map]; omega) (by omega) q2⟩
     · obtain ⟨ps,M',q1,q2⟩ := i2 h
       exact ⟨ps,M',q1,zi5 (by omega) (by rw [List.length_map]; omega) k1 k2 hne (by rw [List.length_map]; omega) (by omega) q2⟩
   · have hz : (mget .str M (encS (bytesOf (rotT T m cur.1 a)),0)).getD 0 = 0 := hseen.2 hmem
     by_cases hover : L.length + 1 > 1000
     · have hin : inn T m cur (a :: zs) L = none := by simp only [inn,if_neg hmem,if_pos hover]
       rw [hin]
       refine ⟨(fun L' h => by cases h),fun _ => ?_⟩
       refine ⟨_,_,?_,zrr (by omega) (by rw [List.length_map]; omega) k1 k2 hz k3 (by omega) (by rw [List.length_map]; omega) ?_ rfl⟩
       · simp; omega
       · simp; omega
     · have hin : inn T m cur (a :: zs) L = inn T m cur zs (L ++ [(rotT T m cur.1 a,cur.2 ++ [a])]) := by simp only [inn,if_neg hmem,if_neg hover]
       have hI' := hI.push (T := T) hcm ham hover
       have hS' := hS.push hv
       have eS : L.map (·.1) ++ [rotT T m cur.1 a] = (L ++ [(rotT T m cur.1 a,cur.2 ++ [a])]).map (·.1) := by simp
       rw [eS] at hS'
       obtain ⟨i1,i2⟩ := ih _ _ (by rw [e]; simp) hI' (by simp; omega) (by rw [<- hc,List.getD_eq_getElem?_getD,List.getD_eq_getElem?_getD,List.getElem?_append_left hi]) (fun x hx => ha x (List.mem_cons_of_mem _ hx)) hS'
       rw [<- zu8] at i1 i2
       rw [hin]
       refine ⟨fun L' h => ?_,fun h => ?_⟩
       · obtain ⟨M',q1,q2⟩ := i1 L' h
         refine ⟨M',q1,zi4 (by omega) (by rw [List.length_map]; omega) k1 k2 hz k3 (by omega) (by rw [List.length_map]; omega) (by simp; omega) (by omega) ?_⟩
         rw [hg]; exact q2
       · obtain ⟨ps,M',q1,q2⟩ := i2 h
         refine ⟨ps,M',q1,zi4 (by omega) (by rw [List.length_map]; omega) k1 k2 hz k3 (by omega) (by rw [List.length_map]; omega) (by simp; omega) (by omega) ?_⟩
         rw [hg]; exact q2
end
end Go.PR.S

end
