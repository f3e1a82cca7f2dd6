/- Path lemmas (written by Vc.lean). -/
import Derived.Test.YtnhklcbddcoadaaGreatDoorFwMk
import Derived.Test.YtnhklcbddcoadaaGreatDoorFwP12
set_option linter.unusedVariables false
set_option linter.unusedSimpArgs false
set_option linter.unusedSectionVars false
section
set_option maxRecDepth 20000
open Go Go.PR Go.Proofs Go.PR.S
namespace Go.PR.S
theorem zrw : X.ft F.z2l = some Tryz.f102 := by kernel_rfl
theorem zrx {s l : Int} {b1 : Bool} (c2 : Runs X F.z21 [iD l,iD (ixor s (1 : Int))] [] (boolR b1)) : Runs X F.z2l [iD s,.pim [iD l]] [] (boolR b1) :=
 RG zrw [] [] trivial (PC c2 PN) LN
theorem zkw : X.ft F.zt = some Tryz.f100 := by kernel_rfl
def z3w (w : List Int) (l : Int) (t8a : Nat) : LSt := ⟨mkE 19 0 [(0,.immI .i64 w),(1,.fn F.z2l [.pim [iD l]]),(7,iD (↑w.length : Int)),(8,iD (↑t8a : Int))],[]⟩
def zew (t4az : Nat) : OutL := .ret ⟨mkE 19 0 [(4,iD (↑t4az : Int))],[]⟩
def zex : OutL := .exit 0 ⟨mkE 19 0 [],[]⟩
section
variable {Q : Out -> Prop} {w : List Int} {l : Int} {t8a : Nat} (h1 : (↑t8a : Int) < (↑w.length : Int)) {b2 : Bool} (c3 : Runs X F.z2l [iD (w.getD t8a 0),.pim [iD l]] [] (boolR b2))
include h1 c3
theorem zxr (h4 : b2 = true) (hq : Q (zew t8a).out) : wq F.zt 0 Tryz.f100 0 (z3w w l t8a) Q :=
 RS [true,true] (zew t8a) [decide ((↑t8a : Int) < (↑w.length : Int)) = true,(0 : Int) <= (↑t8a : Int) /\ (↑t8a : Int) < (↑w.length : Int),b2 = true] (PA (decide_eq_true h1) (PA ⟨(by omega),h1⟩ (PA h4 trivial))) (PC c3 PN) LN hq
theorem zkx (h5 : b2 = false) (h6 : (↑t8a : Int) + (1 : Int) <= (9223372036854775807 : Int)) (hq : wq F.zt 0 Tryz.f100 0 (z3w w l (t8a + 1)) Q) : wq F.zt 0 Tryz.f100 0 (z3w w l t8a) Q :=
 RS [true,false] (.normal (z3w w l (t8a + 1))) [decide ((↑t8a : Int) < (↑w.length : Int)) = true,(0 : Int) <= (↑t8a : Int) /\ (↑t8a : Int) < (↑w.length : Int),b2 = false,inR ((↑t8a : Int) + (1 : Int))] (PA (decide_eq_true h1) (PA ⟨(by omega),h1⟩ (PA h5 (PA ⟨(by omega),h6⟩ trivial)))) (PC c3 PN) LN hq
end
theorem zxs {Q : Out -> Prop} {w : List Int} {l : Int} {t8a : Nat} (h7 : ¬(↑t8a : Int) < (↑w.length : Int)) (hq : Q (zex).out) : wq F.zt 0 Tryz.f100 0 (z3w w l t8a) Q :=
 RS [false] (zex) [decide ((↑t8a : Int) < (↑w.length : Int)) = false] (PA (decide_eq_false h7) trivial) PN LN hq
theorem zxp {w : List Int} {l : Int} {t4az : Nat} (l8 : wl F.zt 0 Tryz.f100 0 (z3w w l 0) (zew t4az)) : Runs X F.zt [.immI .i64 w,.fn F.z2l [.pim [iD l]]] [] ⟨iD (↑t4az : Int),[],[]⟩ :=
 RG zkw [] [] trivial PN (LC l8 LN)
theorem zxq {w : List Int} {l : Int} (l9 : wl F.zt 0 Tryz.f100 0 (z3w w l 0) zex) : Runs X F.zt [.immI .i64 w,.fn F.z2l [.pim [iD l]]] [] ⟨iD (-1 : Int),[],[]⟩ :=
 RG zkw [] [] trivial PN (LC l9 LN)
end Go.PR.S

end

section
set_option maxRecDepth 20000
namespace Go.PR.S
open Go Go.PR Go.Proofs Gp
theorem zaj {w : List Int} (hl : w.length <= B40) : Runs X F.z2x [lD w] [] (rowR w.reverse) := by
 refine z107 (by unfold B40 at hl; omega) ?_
 have := loop_to (f := F.z2x) (b := 0) (body := lb Tryz.f79 0) (N := w.length) (o := zbf w.reverse) (st := fun i => z7e w ((w.length : Int) - 1 - i) (w.reverse.take i)) (fun i hi Q hq => ?_) (fun Q hq => ?_)
 · have e : ((w.length : Int) - 1 - (0 : Nat)) = (w.length : Int) - 1 := by omega
   simp only [List.take_zero] at this
   rw [e] at this
   exact this
 · have hj : w.length - 1 - i < w.length := by omega
   have e1 : ((w.length : Int) - 1 - i).toNat = w.length - 1 - i := by omega
   have e2 : w.reverse.take (i + 1) = w.reverse.take i ++ [w.getD ((w.length : Int) - 1 - i).toNat 0] := by
    rw [List.take_succ_eq_append_getElem (by simpa using hi),List.getElem_reverse,e1,getD_lt hj]
   apply z108
   case hq =>
    rw [<- e2]
    have e3 : (w.length : Int) - 1 - i - 1 = (w.length : Int) - 1 - ((i + 1 : Nat) : Int) := by omega
    rw [e3]; exact hq
   all_goals first | (simp only [List.length_take,List.length_reverse]; unfold B40 at hl; omega) | (unfold B40 at hl; omega)
 · apply z109
   case hq => rw [List.take_of_length_le (by simp)]; exact hq
   all_goals (unfold B40 at hl; omega)
theorem z7s {T : Dep Int} {s o : Int} (ho : o ≠ s) (hd : T.d o s = true) : ∀ {c : List Int},isFirst T c s = true -> isFirst T (c.erase s).reverse o = isFirst T c.reverse o
 | [],_ => rfl
 | x :: xs,h => by
   by_cases hx : x = s
   · subst hx
     rw [List.erase_cons_head,List.reverse_cons,z82,decide_eq_false (fun e => ho e.symm),Bool.false_and,Bool.or_false]
   · rw [isFirst,decide_eq_false hx,Bool.false_or,Bool.and_eq_true] at h
     have hne : x ≠ o := fun e => by
      rw [e,hd] at h
      exact absurd h.1 (by decide)
     rw [List.erase_cons_tail (by simpa using hx),List.reverse_cons,List.reverse_cons,z82,z82,decide_eq_false hne,Bool.false_and,Bool.or_false,Bool.false_and,Bool.or_false]
     exact z7s ho hd h.2
def ends (T : Dep Int) (c : List Int) (s : Int) : Bool := isFirst T c s && isFirst T c.reverse (opp s)
def nextC (c : List Int) (s : Int) : List Int := ((c.erase s).reverse.erase (opp s)).reverse
theorem zn1 (m : Nat) : (bitsL m).Pairwise (· < ·) := by
 unfold bitsL bitsN
 rw [List.pairwise_map]
 refine ((List.pairwise_lt_range (n := 63)).filter _).imp ?_
 intro a b h
 omega
theorem ziw {m : Nat} (h : m < 2 ^ 63) {x : Int} : x ∈ bitsL m ↔ ∃ i : Nat,x = i /\ m.testBit i = true := by
 unfold bitsL
 rw [List.mem_map]
 constructor
 · rintro ⟨i,hi,rfl⟩; exact ⟨i,rfl,(z5r h).1 hi⟩
 · rintro ⟨i,rfl,hi⟩; exact ⟨i,(z5r h).2 hi,rfl⟩
theorem zol {w : List Int} {q : Int -> Bool} (hall : ¬ w.all q = true) : ∃ k,k < w.length /\ q (w.getD k 0) = false /\ ∀ j,j < k -> q (w.getD j 0) = true := by
 have : ∃ k,k < w.length /\ q (w.getD k 0) = false := by
  rw [<- zab,List.all_eq_true] at hall
  simp only [List.mem_range] at hall
  obtain ⟨k,hk⟩ := Classical.not_forall.1 hall
  obtain ⟨h1,h2⟩ := Classical.not_imp.1 hk
  exact ⟨k,h1,by simpa using h2⟩
 obtain ⟨k,hk⟩ := this
 induction k using Nat.strongRecOn with
 | _ k ih =>
   by_cases h : ∃ j,j < k /\ q (w.getD j 0) = false
   · obtain ⟨j,hj,hjq⟩ := h; exact ih j hj ⟨by omega,hjq⟩
   · refine ⟨k,hk.1,hk.2,fun j hj => ?_⟩
     cases hh : q (w.getD j 0) with
     | true => rfl
     | false => exact (h ⟨j,hj,hh⟩).elim
theorem zk8 {T : Dep Int} {m : Nat} (hm : m <= 62) (c : List Int) (hopp : ∀ s : Nat,s < m -> 0 <= opp (s : Int) /\ opp (s : Int) < m) :
  ((∀ s : Nat,s < m -> ends T c s = false) /\ Runs X F.zt [lD (bitsL (firstM T m c)),.fn F.z2l [.pim [iD (firstM T m c.reverse)]]] [] (intR (-1))) \/
  ∃ (k s : Nat),s < m /\ ends T c s = true /\ (∀ j : Nat,j < s -> ends T c j = false) /\ k < (bitsL (firstM T m c)).length /\ (bitsL (firstM T m c)).getD k 0 = (s : Int) /\
   Runs X F.zt [lD (bitsL (firstM T m c)),.fn F.z2l [.pim [iD (firstM T m c.reverse)]]] [] (intR k) := by
 have p62 : 2 ^ m <= 2 ^ 62 := Nat.pow_le_pow_right (by omega) hm
 have hF := z3f (T := T) m c
 have hL := z3f (T := T) m c.reverse
 have hF63 : firstM T m c < 2 ^ 63 := by omega
 have hL63 : firstM T m c.reverse < 2 ^ 63 := by omega
 have hlen : (bitsL (firstM T m c)).length <= 63 := by
  unfold bitsL bitsN
  rw [List.length_map]
  exact Nat.le_trans (List.length_filter_le _ _) (by simp)
 have hmem : ∀ x ∈ bitsL (firstM T m c),∃ i : Nat,x = i /\ i < m /\ isFirst T c i = true := fun x hx => by
  obtain ⟨i,rfl,hi⟩ := (ziw hF63).1 hx
  rw [z2i,Bool.and_eq_true,decide_eq_true_eq] at hi
  exact ⟨i,rfl,hi.1,hi.2⟩
 have hq1 : ∀ i : Nat,i < m -> Runs X F.z2l [iD i,.pim [iD (firstM T m c.reverse)]] [] (boolR (isFirst T c.reverse (opp i))) := fun i hi => by
  have ho := hopp i hi
  have e := opp_xor (s := i) (by omega)
  have hk := z74 (m := firstM T m c.reverse) (i := (opp (i : Int)).toNat) hL63
  rw [Int.toNat_of_nonneg ho.1,<- e] at hk
  have hb : tb (firstM T m c.reverse : Nat) (ixor i 1) = isFirst T c.reverse (opp i) := by
   unfold tb
   rw [e,Int.toNat_natCast,z2i,decide_eq_true (by omega),Bool.true_and,Int.toNat_of_nonneg ho.1]
  rw [hb] at hk
  exact zrx hk
 let q : Int -> Bool := fun x => !isFirst T c.reverse (opp x)
 generalize hv : bitsL (firstM T m c) = v at *
 have hsort : v.Pairwise (· < ·) := by rw [<- hv]; exact zn1 _
 have hback : ∀ s : Nat,s < m -> isFirst T c s = true -> (s : Int) ∈ v := fun s hs hf => by
  rw [<- hv]
  exact (ziw hF63).2 ⟨s,rfl,by rw [z2i,decide_eq_true hs,hf]; rfl⟩
 by_cases hall : v.all q = true
 · left
   constructor
   · intro s hs
     unfold ends
     cases hf : isFirst T c s with
     | false => rfl
     | true =>
       have := List.all_eq_true.1 hall _ (hback s hs hf)
       simpa [q] using this
   · refine zxq (loop_to (N := v.length) (st := fun i => z3w v (firstM T m c.reverse) i) (fun i hi Q hqq => ?_) (fun Q hqq => ?_))
     · obtain ⟨j,hj,hjm,_⟩ := hmem (v.getD i 0) (by rw [getD_lt hi]; exact List.getElem_mem hi)
       have c1 := hq1 j hjm
       have hx : q (v.getD i 0) = true := by rw [getD_lt hi]; exact List.all_eq_true.1 hall _ (List.getElem_mem hi)
       rw [hj] at hx
       rw [<- hj] at c1
       apply zkx
       case hq => exact hqq
       all_goals first | exact c1 | (rw [<- hj] at hx; simpa [q] using hx) | omega
     · apply zxs
       case hq => exact hqq
       all_goals omega
 · right
   obtain ⟨k,hk1,hk2,hk3⟩ := zol hall
   obtain ⟨s,hs,hsm,hsf⟩ := hmem (v.getD k 0) (by rw [getD_lt hk1]; exact List.getElem_mem hk1)
   refine ⟨k,s,hsm,?_,?_,hk1,hs,?_⟩
   · unfold ends
     rw [hsf,Bool.true_and]
     rw [hs] at hk2
     simpa [q] using hk2
   · intro j hj
     unfold ends
     cases hf : isFirst T c j with
     | false => rfl
     | true =>
       rw [Bool.true_and]
       obtain ⟨i,hi,hiv⟩ := List.getElem_of_mem (hback j (by omega) hf)
       have hik : i < k := by
        rcases Nat.lt_trichotomy i k with h | h | h
        · exact h
        · subst h; rw [getD_lt hi,hiv] at hs; omega
        · have := List.pairwise_iff_getElem.1 hsort k i hk1 hi h
          rw [getD_lt hk1] at hs
          omega
       have := hk3 i hik
       rw [getD_lt hi,hiv] at this
       simpa [q] using this
   · refine zxp (loop_to (N := k) (st := fun i => z3w v (firstM T m c.reverse) i) (fun i hi Q hqq => ?_) (fun Q hqq => ?_))
     · obtain ⟨j,hj,hjm,_⟩ := hmem (v.getD i 0) (by rw [getD_lt (by omega)]; exact List.getElem_mem _)
       have c1 := hq1 j hjm
       have hx := hk3 i hi
       rw [<- hj] at c1
       apply zkx
       case hq => exact hqq
       all_goals first | exact c1 | (simpa [q] using hx) | omega
     · have c1 := hq1 s hsm
       rw [<- hs] at c1
       apply zxr
       case hq => exact hqq
       all_goals first | exact c1 | (simpa [q] using hk2) | omega
end Go.PR.S

end

section
set_option maxRecDepth 20000
namespace Go.PR.S
open Go Go.PR Go.Proofs Gp
section
variable {N : Nat} {d : List Int}
theorem opp_in {s : Nat} (h : s < 2 * N) : 0 <= opp (s : Int) /\ opp (s : Int) < (2 * N : Nat) := by
 unfold opp
 split <;> omega
theorem za8 (s : Int) : opp s ≠ s := by
 unfold opp
 split <;> omega
theorem dep_opp (h : Al N d) (s : Int) : (grp h).toDep.d (opp s) s = true := by
 show depZ N d (opp s / 2) (s / 2) = true
 rw [opp_div]
 simp [depZ]
theorem z7o {m : Nat} {w : List Int} (h : Wd m w) (a : Int) : Wd m (w.erase a) := fun x hx => h x (List.mem_of_mem_erase hx)
theorem Wd_rev {m : Nat} {w : List Int} (h : Wd m w) : Wd m w.reverse := fun x hx => h x (List.mem_reverse.1 hx)
theorem Wd_next {m : Nat} {w : List Int} (h : Wd m w) (s : Int) : Wd m (nextC w s) := Wd_rev (z7o (Wd_rev (z7o h s)) _)
theorem zgn (h : Al N d) {c : List Int} (hc : Wd (2 * N) c) (hl : c.length <= B40) (f : List Int) (hn : ∀ s : Nat,s < 2 * N -> ends (grp h).toDep c s = false) :
  WpL X F.zb 2 (lb Tryz.f36 1) (z1r (2 * (N : Int)) (dblL N d) false 0 c f).st (fun o => o = (z66 (2 * (N : Int)) (dblL N d) false c f).out) := by
 have hs := h.small
 have ht := tab_dbl h
 refine loop_to (N := 2 * N) (st := fun i => z1r (2 * (N : Int)) (dblL N d) false i c f) (fun i hi Q hq => ?_) (fun Q hq => ?_)
 · have c1 := z2v ht (2 * (N : Int)) hc (a := (i : Int)) (by omega) hl
   cases hf : isFirst (grp h).toDep c i with
   | false =>
     rw [hf,if_neg (by decide)] at c1
     apply zlj
     case hq => exact hq
     all_goals first | exact c1 | rfl | omega
   | true =>
     rw [hf,if_pos rfl] at c1
     have hmem := zh hf
     have hix : c.idxOf (i : Int) < c.length := List.idxOf_lt_length_of_mem hmem
     have c2 := z3q hix hl
     rw [z6i] at c2
     have hel := List.length_erase_le (a := (i : Int)) (l := c)
     have c3 := zaj (w := c.erase i) (by omega)
     have c4 := z8f (a := (i : Int)) (by omega)
     have ho := opp_in hi
     have c5 := z2v ht (2 * (N : Int)) (Wd_rev (z7o hc (i : Int))) ho (by rw [List.length_reverse]; omega)
     have he := hn i hi
     unfold ends at he
     rw [hf,Bool.true_and,<- z7s (za8 _) (dep_opp h _) hf] at he
     rw [he,if_neg (by decide)] at c5
     apply zlk
     case hq => exact hq
     all_goals first | exact c1 | exact c2 | exact c3 | exact c4 | exact c5 | rfl | omega
 · apply zll
   case hq => exact hq
   all_goals omega
theorem znm (h : Al N d) {c : List Int} (hc : Wd (2 * N) c) (hl : c.length <= B40) (f : List Int) (hfl : f.length <= B40) {s : Nat} (hs2 : s < 2 * N) (he : ends (grp h).toDep c s = true) (hn : ∀ j : Nat,j < s -> ends (grp h).toDep c j = false) :
  WpL X F.zb 2 (lb Tryz.f36 1) (z1r (2 * (N : Int)) (dblL N d) false 0 c f).st (fun o => o = (z66 (2 * (N : Int)) (dblL N d) true (nextC c s) (f ++ [(s : Int)])).out) := by
 have hs := h.small
 have ht := tab_dbl h
 refine loop_to (N := s) (st := fun i => z1r (2 * (N : Int)) (dblL N d) false i c f) (fun i hi Q hq => ?_) (fun Q hq => ?_)
 · have c1 := z2v ht (2 * (N : Int)) hc (a := (i : Int)) (by omega) hl
   cases hf : isFirst (grp h).toDep c i with
   | false =>
     rw [hf,if_neg (by decide)] at c1
     apply zlj
     case hq => exact hq
     all_goals first | exact c1 | rfl | omega
   | true =>
     rw [hf,if_pos rfl] at c1
     have hmem := zh hf
     have hix : c.idxOf (i : Int) < c.length := List.idxOf_lt_length_of_mem hmem
     have c2 := z3q hix hl
     rw [z6i] at c2
     have hel := List.length_erase_le (a := (i : Int)) (l := c)
     have c3 := zaj (w := c.erase i) (by omega)
     have c4 := z8f (a := (i : Int)) (by omega)
     have ho := opp_in (N := N) (s := i) (by omega)
     have c5 := z2v ht (2 * (N : Int)) (Wd_rev (z7o hc (i : Int))) ho (by rw [List.length_reverse]; omega)
     have he := hn i hi
     unfold ends at he
     rw [hf,Bool.true_and,<- z7s (za8 _) (dep_opp h _) hf] at he
     rw [he,if_neg (by decide)] at c5
     apply zlk
     case hq => exact hq
     all_goals first | exact c1 | exact c2 | exact c3 | exact c4 | exact c5 | rfl | omega
 · have c1 := z2v ht (2 * (N : Int)) hc (a := (s : Int)) (by omega) hl
   unfold ends at he
   rw [Bool.and_eq_true] at he
   have hf := he.1
   have hb := he.2
   rw [<- z7s (za8 _) (dep_opp h _) hf] at hb
   rw [hf,if_pos rfl] at c1
   have hmem := zh hf
   have hix : c.idxOf (s : Int) < c.length := List.idxOf_lt_length_of_mem hmem
   have c2 := z3q hix hl
   rw [z6i] at c2
   have hel := List.length_erase_le (a := (s : Int)) (l := c)
   have c3 := zaj (w := c.erase s) (by omega)
   have c4 := z8f (a := (s : Int)) (by omega)
   have ho := opp_in hs2
   have c5 := z2v ht (2 * (N : Int)) (Wd_rev (z7o hc (s : Int))) ho (by rw [List.length_reverse]; omega)
   rw [hb,if_pos rfl] at c5
   have hmem2 := zh hb
   have hix2 : (c.erase (s : Int)).reverse.idxOf (opp (s : Int)) < (c.erase (s : Int)).reverse.length := List.idxOf_lt_length_of_mem hmem2
   have c6 := z3q hix2 (by rw [List.length_reverse]; omega)
   rw [z6i] at c6
   have hel2 := List.length_erase_le (a := opp (s : Int)) (l := (c.erase (s : Int)).reverse)
   rw [List.length_reverse] at hel2
   have c7 := zaj (w := (c.erase (s : Int)).reverse.erase (opp (s : Int))) (by omega)
   have hq2 : WpL X F.zb 2 (lb Tryz.f36 1) (z1r (2 * (N : Int)) (dblL N d) true (s + 1) (nextC c s) (f ++ [(s : Int)])).st Q := by
    by_cases hlast : s + 1 < 2 * N
    · apply z11f
      case hq => exact hq
      all_goals first | rfl | omega
    · apply zll
      case hq => exact hq
      all_goals first | rfl | omega
   unfold B40 at hfl
   apply z11e
   case hq => exact hq2
   all_goals first | exact c1 | exact c2 | exact c3 | exact c4 | exact c5 | exact c6 | exact c7 | rfl | omega
end
end Go.PR.S

end
