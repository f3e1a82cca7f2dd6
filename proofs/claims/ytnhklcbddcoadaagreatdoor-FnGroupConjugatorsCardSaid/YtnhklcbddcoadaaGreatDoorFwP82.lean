/- Draws of words of letters: they come back,and stay short. -/
import Derived.Test.YtnhklcbddcoadaaGreatDoorFwP81
import Derived.Test.YtnhklcbddcoadaaGreatDoorFwP28
import Derived.Test.YtnhklcbddcoadaaGreatDoorFwG51
set_option linter.unusedVariables false
set_option linter.unusedSimpArgs false
set_option linter.unusedSectionVars false
set_option maxRecDepth 20000
namespace Go.PR.S
open Go Go.PR Go.Proofs Gp
section
variable {c : List Int} (hc : Bytes c)
include hc
theorem zt6 {T : Dep Int} {n : Nat} {xs : List Int} (ht : Tab T n xs) (hn1 : n <= 62) (ys : List Int) : ∀ (k : Nat) (a h : Int) (out rest : List Int),0 <= a -> rest.length = k -> Wd n rest -> Wd n out -> out.length + k <= 64 ->
  ∃ a' h' zs,0 <= a' /\ zs.length = out.length + k /\ Wd n zs /\
   WpL X F.z24 0 (lb Tryz.f67 0) (z7g n xs ys c a h out rest).st (fun o => o = (zbj xs ys zs c a' h').out) := by
 intro k
 induction k with
 | zero => intro a h out rest ha hr hw ho hl; exact ⟨a,h,out,ha,by omega,ho,z10o (by omega) rfl⟩
 | succ k ih =>
   intro a h out rest ha hr hw ho hl
   obtain ⟨x,tl,rfl⟩ : ∃ x tl,rest = x :: tl := by
    cases rest with
    | nil => simp at hr
    | cons x tl => exact ⟨x,tl,rfl⟩
   have hx := hw x (by simp)
   obtain ⟨r,a1,h1,ha1,hr0,hr1,_,hrun⟩ := z11 hc n a h ha
   have hr1 := hr1 (by omega)
   have hbd : ∀ b : Nat,0 <= (r + (b : Int)).tmod n /\ (r + (b : Int)).tmod n < n := fun b => tmod_bd (by omega) (by omega)
   rcases zcs (q := fun b : Nat => !isFirst T (x :: tl) ((r + (b : Int)).tmod n)) n with hall | ⟨b,hb1,hb2,hb3⟩
   · exfalso
     have e0 : isFirst T (x :: tl) x = true := by simp [isFirst]
     have hb : ((x - r) % n).toNat < n := by
      have h1 := Int.emod_nonneg (x - r) (b := (n : Int)) (by omega)
      have h2 := Int.emod_lt_of_pos (x - r) (b := (n : Int)) (by omega)
      omega
     have := hall _ hb
     have h1 := Int.emod_nonneg (x - r) (b := (n : Int)) (by omega)
     have e1 : (r + ((((x - r) % n).toNat : Nat) : Int)).tmod n = x := by
      rw [Int.toNat_of_nonneg h1,Int.tmod_eq_emod_of_nonneg (by omega),Int.add_emod,Int.emod_emod,<- Int.add_emod]
      have : r + (x - r) = x := by omega
      rw [this,Int.emod_eq_of_lt (by omega) (by omega)]
     rw [e1,e0] at this
     cases this
   · have hf : isFirst T (x :: tl) ((r + (b : Int)).tmod n) = true := by simpa using hb2
     have hm := zh hf
     have inner : WL F.z24 2 Tryz.f67 1 (z65 n xs ys out (x :: tl) r c a1 h1 0) (zbk n xs ys c a1 h1 (out ++ [(r + (b : Int)).tmod n]) ((x :: tl).erase ((r + (b : Int)).tmod n))) := by
      refine loop_to (N := b) (st := fun i => z65 n xs ys out (x :: tl) r c a1 h1 i) (fun i hi Q hq => ?_) (fun Q hq => ?_)
      · have c1 := z2v ht (n : Int) hw (a := (r + (i : Int)).tmod n) (hbd i) (by unfold B40; omega)
        have hnf : isFirst T (x :: tl) ((r + (i : Int)).tmod n) = false := by simpa using hb3 i hi
        rw [hnf] at c1
        apply z10q
        case hq => exact hq
        all_goals first | exact c1 | (simp only [List.length_cons] at *; omega) | (simp; done)
      · have c1 := z2v ht (n : Int) hw (a := (r + (b : Int)).tmod n) (hbd b) (by unfold B40; omega)
        rw [hf] at c1
        have hix := List.idxOf_lt_length_of_mem hm
        have c2 := z3q hix (by unfold B40; omega)
        rw [z6i] at c2
        apply z10p
        case hq => exact hq
        all_goals first | exact c1 | exact c2 | (simp only [if_true]; omega) | (simp only [List.length_cons] at *; omega)
     obtain ⟨a',h',zs,q1,q2,q3,q4⟩ := ih a1 h1 (out ++ [(r + (b : Int)).tmod n]) ((x :: tl).erase ((r + (b : Int)).tmod n)) ha1 (by rw [List.length_erase_of_mem hm]; omega) (hw.erase _)
      (fun y hy => by
       rcases List.mem_append.1 hy with hy | hy
       · exact ho y hy
       · rw [List.mem_singleton.1 hy]; exact hbd b) (by simp; omega)
     refine ⟨a',h',zs,q1,by rw [q2]; simp; omega,q3,?_⟩
     exact z10n (by rw [hr]; omega) hrun inner q4
theorem zw9 {T : Dep Int} {n : Nat} {xs : List Int} (ht : Tab T n xs) (hn1 : n <= 62) {ys : List Int} (hw : Wd n ys) (hl : ys.length <= 33) (a h : Int) (ha : 0 <= a) : ∃ (zs : List Int) (a' h' : Int),0 <= a' /\ zs.length = ys.length /\ Wd n zs /\
  Runs X F.z24 [sp,.agg [iD n,.rsl 500001 0 xs.length],.rsl 500002 0 ys.length] [srcRow c a h,iRow xs,iRow ys] ⟨.rsl 600000 0 zs.length,[some (srcRow c a' h'),some (iRow xs),some (iRow ys)],[iRow zs]⟩ := by
 obtain ⟨a',h',zs,q1,q2,q3,q4⟩ := zt6 hc ht hn1 ys ys.length a h [] ys ha rfl hw (fun x hx => by cases hx) (by simp; omega)
 exact ⟨zs,a',h',q1,by simpa using q2,q3,z10m (z3p ys (by unfold B40; omega)) q4⟩
end
end Go.PR.S
