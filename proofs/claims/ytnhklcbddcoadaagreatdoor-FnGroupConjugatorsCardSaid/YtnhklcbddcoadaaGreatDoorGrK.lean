/- Words of traces and of graph groups: plain mathematics. -/
import Derived.Test.YtnhklcbddcoadaaGreatDoorFwMk
import Derived.Lib.TrailingZeros
set_option linter.unusedVariables false
set_option linter.unusedSimpArgs false
set_option linter.unusedSectionVars false
section
namespace Gp
section
variable {α : Type} [DecidableEq α]
structure Dep (α : Type) where
 d : α -> α -> Bool
 sym : ∀ a b,d a b = d b a
 refl : ∀ a,d a a = true
variable (T : Dep α)
def isFirst : List α -> α -> Bool
 | [],_ => false
 | x :: xs,a => decide (x = a) || (!T.d x a && isFirst xs a)
def two (a b x : α) : Bool := decide (x = a) || decide (x = b)
def teq (u v : List α) : Prop := ∀ a b,T.d a b = true -> u.filter (two a b) = v.filter (two a b)
variable {T}
theorem teq.refl (u : List α) : teq T u u := fun _ _ _ => rfl
theorem teq.symm {u v : List α} (h : teq T u v) : teq T v u := fun a b hd => (h a b hd).symm
theorem teq.trans {u v w : List α} (h : teq T u v) (k : teq T v w) : teq T u w := fun a b hd => (h a b hd).trans (k a b hd)
theorem teq.cons {u v : List α} (h : teq T u v) (x : α) : teq T (x :: u) (x :: v) := fun a b hd => by simp only [List.filter_cons,h a b hd]
theorem teq.append {u v u' v' : List α} (h : teq T u v) (h' : teq T u' v') : teq T (u ++ u') (v ++ v') := fun a b hd => by rw [List.filter_append,List.filter_append,h a b hd,h' a b hd]
theorem teq.erase {u v : List α} (h : teq T u v) (x : α) : teq T (u.erase x) (v.erase x) := fun a b hd => by rw [<- List.erase_filter,<- List.erase_filter,h a b hd]
theorem teq.reverse {u v : List α} (h : teq T u v) : teq T u.reverse v.reverse := fun a b hd => by rw [List.filter_reverse,List.filter_reverse,h a b hd]
theorem teq.mem {u v : List α} (h : teq T u v) (x : α) : x ∈ u ↔ x ∈ v := by
 have := h x x (T.refl x)
 have hx : ∀ l : List α,x ∈ l ↔ x ∈ l.filter (two x x) := fun l => by simp [List.mem_filter,two]
 rw [hx u,hx v,this]
theorem teq.count {u v : List α} (h : teq T u v) (x : α) : u.count x = v.count x := by
 have := congrArg (List.count x) (h x x (T.refl x))
 rw [List.count_filter (by simp [two]),List.count_filter (by simp [two])] at this
 exact this
theorem teq.perm {u v : List α} (h : teq T u v) : u.Perm v := List.perm_iff_count.2 fun x => h.count x
theorem teq.length {u v : List α} (h : teq T u v) : u.length = v.length := h.perm.length_eq
theorem z9w {a : α} : ∀ {w : List α},isFirst T w a = true ↔ ∀ b,T.d a b = true -> (w.filter (two a b)).head? = some a
 | [] => by
   simp only [isFirst,List.filter_nil,List.head?_nil]
   exact ⟨fun h => (by cases h),fun h => (by have := h a (T.refl a); cases this)⟩
 | x :: xs => by
   have ih := z9w (a := a) (w := xs)
   simp only [isFirst,Bool.or_eq_true,decide_eq_true_eq,Bool.and_eq_true,Bool.not_eq_true']
   by_cases hx : x = a
   · subst hx
     simp only [true_or,true_iff]
     intro b hb
     simp [List.filter_cons,two]
   · simp only [hx,false_or]
     cases hd : T.d x a with
     | true =>
       simp only [Bool.true_eq_false,false_and,false_iff]
       intro h
       have := h x (by rw [T.sym]; exact hd)
       simp [List.filter_cons,two] at this
       exact hx this
     | false =>
       simp only [true_and]
       rw [ih]
       constructor
       · intro h b hb
         have hxb : x ≠ b := fun e => by rw [e,T.sym,hb] at hd; cases hd
         have : two a b x = false := by simp [two,hx,hxb]
         simp only [List.filter_cons,this]
         exact h b hb
       · intro h b hb
         have hxb : x ≠ b := fun e => by rw [e,T.sym,hb] at hd; cases hd
         have h2 : two a b x = false := by simp [two,hx,hxb]
         have := h b hb
         simpa [List.filter_cons,h2] using this
theorem teq.first {u v : List α} (h : teq T u v) (a : α) : isFirst T u a = isFirst T v a := by
 rw [Bool.eq_iff_iff,z9w,z9w]
 exact ⟨fun hh b hb => by rw [<- h a b hb]; exact hh b hb,fun hh b hb => by rw [h a b hb]; exact hh b hb⟩
theorem zh {a : α} : ∀ {w : List α},isFirst T w a = true -> a ∈ w
 | [],h => by cases h
 | x :: xs,h => by
   simp only [isFirst,Bool.or_eq_true,decide_eq_true_eq,Bool.and_eq_true] at h
   rcases h with rfl | h
   · simp
   · exact List.mem_cons_of_mem _ (zh h.2)
theorem z31 {w : List α} {a : α} (h : isFirst T w a = true) : teq T (a :: w.erase a) w := by
 intro c d hd
 rw [List.filter_cons,<- List.erase_filter]
 by_cases ha : two c d a = true
 · rw [if_pos ha]
   have key : ∃ b,T.d a b = true /\ two c d = two a b := by
    simp only [two,Bool.or_eq_true,decide_eq_true_eq] at ha
    rcases ha with rfl | rfl
    · exact ⟨d,hd,rfl⟩
    · refine ⟨c,by rw [T.sym]; exact hd,?_⟩
      funext x; simp only [two,Bool.or_comm]
   obtain ⟨b,hb,e⟩ := key
   rw [e]
   have := z9w.1 h b hb
   cases hf : w.filter (two a b) with
   | nil => rw [hf] at this; cases this
   | cons x xs =>
     rw [hf] at this
     simp at this
     subst this
     simp
 · rw [if_neg ha]
   apply List.erase_of_not_mem
   intro hm
   exact ha (List.mem_filter.1 hm).2
theorem zo9 (l : List α) (a b : α) : (l.erase a).erase b = (l.erase b).erase a := List.erase_comm a b
structure Grp (α : Type) extends Dep α where
 inv : α -> α
 inv2 : ∀ a,inv (inv a) = a
 dinv : ∀ a b,d (inv a) b = d a b
variable {G : Grp α}
theorem Grp.dinv' (a b : α) : G.d a (G.inv b) = G.d a b := by rw [G.sym,G.dinv,G.sym]
theorem Grp.dself (a : α) : G.d (G.inv a) a = true := by rw [G.dinv,G.refl]
variable (G) in
def push (s : α) (R : List α) : List α := if isFirst G.toDep R (G.inv s) then R.erase (G.inv s) else s :: R
variable (G) in
def red : List α -> Prop
 | [] => True
 | s :: R => isFirst G.toDep R (G.inv s) = false /\ red R
variable (G) in
def fold (w R : List α) : List α := w.foldl (fun R s => push G s R) R
theorem z5a (R : List α) : fold G [] R = R := rfl
theorem z12 (s : α) (w R : List α) : fold G (s :: w) R = fold G w (push G s R) := rfl
theorem z1l (u v R : List α) : fold G (u ++ v) R = fold G v (fold G u R) := by simp [fold,List.foldl_append]
theorem z8a {R R' : List α} (h : teq G.toDep R R') (s : α) : teq G.toDep (push G s R) (push G s R') := by
 unfold push
 rw [h.first]
 split
 · exact h.erase _
 · exact h.cons _
theorem z7v {R R' : List α} : ∀ (w : List α) {R R' : List α},teq G.toDep R R' -> teq G.toDep (fold G w R) (fold G w R')
 | [],_,_,h => h
 | s :: w,_,_,h => by rw [z12,z12]; exact z7v (R := R) (R' := R') w (z8a h s)
theorem zct {c y : α} (h : G.d c y = false) : ∀ (R : List α),isFirst G.toDep (R.erase c) y = isFirst G.toDep R y
 | [] => rfl
 | x :: R => by
   by_cases hx : x = c
   · subst hx
     have : x ≠ y := fun e => by rw [e,G.refl] at h; cases h
     simp [isFirst,this,h]
   · rw [List.erase_cons_tail (by simpa using hx)]
     simp only [isFirst,zct h R]
theorem zjn {c : α} : ∀ {R : List α},red G R -> isFirst G.toDep R c = true -> red G (R.erase c)
 | [],_,_ => trivial
 | x :: R,hr,hf => by
   by_cases hx : x = c
   · subst hx; simpa using hr.2
   · rw [List.erase_cons_tail (by simpa using hx)]
     simp only [isFirst,hx,decide_false,Bool.false_or,Bool.and_eq_true,Bool.not_eq_true'] at hf
     refine ⟨?_,zjn hr.2 hf.2⟩
     rw [zct (by rw [Grp.dinv',G.sym]; exact hf.1)]
     exact hr.1
theorem ze6 {R : List α} (h : red G R) (s : α) : red G (push G s R) := by
 unfold push
 split
 · rename_i e; exact zjn h e
 · rename_i e; exact ⟨by simpa using e,h⟩
theorem z5b : ∀ (w : List α) {R : List α},red G R -> red G (fold G w R)
 | [],_,h => h
 | s :: w,_,h => by rw [z12]; exact z5b w (ze6 h s)
theorem zfr {c : α} : ∀ {R : List α},red G R -> isFirst G.toDep R c = true -> isFirst G.toDep (R.erase c) (G.inv c) = false
 | [],_,hf => by cases hf
 | x :: R,hr,hf => by
   by_cases hx : x = c
   · subst hx; simpa using hr.1
   · rw [List.erase_cons_tail (by simpa using hx)]
     simp only [isFirst,hx,decide_false,Bool.false_or,Bool.and_eq_true,Bool.not_eq_true'] at hf
     have h1 : x ≠ G.inv c := fun e => by have := hf.1; rw [e,Grp.dself] at this; cases this
     simp only [isFirst,h1,decide_false,Bool.false_or,zfr hr.2 hf.2,Bool.and_false]
theorem ze5 {R : List α} (h : red G R) (s : α) : teq G.toDep (push G (G.inv s) (push G s R)) R := by
 unfold push
 by_cases hf : isFirst G.toDep R (G.inv s) = true
 · rw [if_pos hf,if_neg (by rw [zfr h hf]; simp)]
   exact z31 hf
 · rw [if_neg hf]
   have : isFirst G.toDep (s :: R) (G.inv (G.inv s)) = true := by rw [G.inv2]; simp [isFirst]
   rw [if_pos this,G.inv2]
   simp
   exact teq.refl R
theorem znk {s t : α} (h : G.d s t = false) (R : List α) : teq G.toDep (t :: s :: R) (s :: t :: R) := by
 intro a b hd
 have hst : ¬ (two a b s = true /\ two a b t = true) := by
  rintro ⟨h1,h2⟩
  simp only [two,Bool.or_eq_true,decide_eq_true_eq] at h1 h2
  rcases h1 with rfl | rfl <;> rcases h2 with rfl | rfl
  · rw [G.refl] at h; cases h
  · rw [hd] at h; cases h
  · rw [G.sym,hd] at h; cases h
  · rw [G.refl] at h; cases h
 simp only [List.filter_cons]
 by_cases h1 : two a b s = true
 · have : two a b t = false := by simpa using fun h2 => hst ⟨h1,h2⟩
   simp [this]
 · simp at h1; simp [h1]
theorem zh9 {s t : α} (h : G.d s t = false) (R : List α) : isFirst G.toDep (push G s R) (G.inv t) = isFirst G.toDep R (G.inv t) := by
 unfold push
 split
 · exact zct (by rw [G.dinv,Grp.dinv']; exact h) R
 · have h1 : s ≠ G.inv t := fun e => by rw [e,Grp.dself] at h; cases h
   simp [isFirst,h1,Grp.dinv',h]
theorem zv2 {s t : α} (h : G.d s t = false) (R : List α) : teq G.toDep (push G t (push G s R)) (push G s (push G t R)) := by
 have h' : G.d t s = false := by rw [G.sym]; exact h
 have n1 : t ≠ G.inv s := fun e => by rw [e,Grp.dinv',G.refl] at h; cases h
 have n2 : s ≠ G.inv t := fun e => by rw [e,Grp.dself] at h; cases h
 have f1 := zh9 h R
 have f2 := zh9 h' R
 have e1 : ∀ x,push G t x = if isFirst G.toDep x (G.inv t) then x.erase (G.inv t) else t :: x := fun _ => rfl
 have e2 : ∀ x,push G s x = if isFirst G.toDep x (G.inv s) then x.erase (G.inv s) else s :: x := fun _ => rfl
 rw [e1 (push G s R),e2 (push G t R),f1,f2,e1 R,e2 R]
 by_cases ht : isFirst G.toDep R (G.inv t) = true <;> by_cases hs : isFirst G.toDep R (G.inv s) = true
 · rw [if_pos ht,if_pos hs,if_pos ht,if_pos hs,zo9]; exact teq.refl _
 · rw [if_pos ht,if_neg hs,if_pos ht,if_neg hs,List.erase_cons_tail (by simpa using n2)]; exact teq.refl _
 · rw [if_neg ht,if_pos hs,if_neg ht,if_pos hs,List.erase_cons_tail (by simpa using n1)]; exact teq.refl _
 · rw [if_neg ht,if_neg hs,if_neg ht,if_neg hs]; exact znk h R
theorem z98 {s : α} : ∀ (M : List α) (R : List α),(∀ y ∈ M,G.d s y = false) -> teq G.toDep (fold G M (push G s R)) (push G s (fold G M R))
 | [],R,_ => teq.refl _
 | y :: M,R,h => by
   rw [z12,z12]
   exact (z7v (R := R) (R' := R) M (zv2 (h y (by simp)) R)).trans (z98 M _ fun z hz => h z (by simp [hz]))
theorem zoo {x : α} {R : List α} (h : red G R) (M : List α) (hM : ∀ y ∈ M,G.d x y = false) : teq G.toDep (fold G (x :: M ++ [G.inv x]) R) (fold G M R) := by
 rw [List.cons_append,z12,z1l,z12,z5a]
 exact (z8a (z98 M R hM) _).trans (ze5 (z5b M h) x)
theorem zha {x : α} (A M B : List α) (hM : ∀ y ∈ M,G.d x y = false) : teq G.toDep (fold G (A ++ (x :: M ++ [G.inv x]) ++ B) []) (fold G (A ++ M ++ B) []) := by
 rw [z1l (A ++ _) B,z1l A,z1l (A ++ M) B,z1l A M]
 exact z7v (R := []) (R' := []) B (zoo (z5b A (R := []) trivial) M hM)
theorem z6j {c : α} : ∀ {R : List α},isFirst G.toDep R c = true -> ∃ M B,R = M ++ c :: B /\ ∀ y ∈ M,G.d y c = false
 | [],h => by cases h
 | x :: R,h => by
   by_cases hx : x = c
   · subst hx; exact ⟨[],R,rfl,by simp⟩
   · simp only [isFirst,hx,decide_false,Bool.false_or,Bool.and_eq_true,Bool.not_eq_true'] at h
     obtain ⟨M,B,e,hM⟩ := z6j h.2
     exact ⟨x :: M,B,by rw [e]; rfl,fun y hy => by
      rcases List.mem_cons.1 hy with rfl | hy
      · exact h.1
      · exact hM y hy⟩
theorem zcu {c : α} {B : List α} : ∀ {M : List α},(∀ y ∈ M,G.d y c = false) -> isFirst G.toDep (M ++ c :: B) c = true
 | [],_ => by simp [isFirst]
 | x :: M,h => by
   simp only [List.cons_append,isFirst,Bool.or_eq_true,Bool.and_eq_true,Bool.not_eq_true']
   exact .inr ⟨h x (by simp),zcu fun y hy => h y (by simp [hy])⟩
theorem red_iff : ∀ {R : List α},red G R ↔ ∀ A x M B,R = A ++ x :: (M ++ G.inv x :: B) -> ∃ y ∈ M,G.d x y = true
 | [] => by
   simp only [red,true_iff]
   intro A x M B e
   cases A <;> cases e
 | s :: R => by
   rw [red,red_iff]
   constructor
   · rintro ⟨h1,h2⟩ A x M B e
     cases A with
     | nil =>
       simp only [List.nil_append,List.cons.injEq] at e
       obtain ⟨rfl,rfl⟩ := e
       cases hh : M.any (fun y => G.d s y) with
       | true => obtain ⟨y,hy,hd⟩ := List.any_eq_true.1 hh; exact ⟨y,hy,hd⟩
       | false =>
         rw [zcu (fun y hy => by
          have := List.any_eq_false.1 hh y hy
          rw [Grp.dinv',G.sym]; simpa using this)] at h1
         cases h1
     | cons a A =>
       simp only [List.cons_append,List.cons.injEq] at e
       exact h2 A x M B e.2
   · intro h
     refine ⟨?_,fun A x M B e => h (s :: A) x M B (by rw [e]; rfl)⟩
     cases hf : isFirst G.toDep R (G.inv s) with
     | false => rfl
     | true =>
       obtain ⟨M,B,rfl,hM⟩ := z6j hf
       obtain ⟨y,hy,hd⟩ := h [] s M B rfl
       have := hM y hy
       rw [Grp.dinv',G.sym,hd] at this
       cases this
theorem z4p {R : List α} (h : red G R) : red G R.reverse := by
 rw [red_iff] at h ⊢
 intro A x M B e
 have e2 : R = B.reverse ++ G.inv x :: (M.reverse ++ G.inv (G.inv x) :: A.reverse) := by
  have := congrArg List.reverse e
  rw [List.reverse_reverse] at this
  rw [this,G.inv2]
  simp
 obtain ⟨y,hy,hd⟩ := h _ _ _ _ e2
 exact ⟨y,by simpa using hy,by rw [<- G.dinv]; exact hd⟩
theorem zd0 : ∀ (n : Nat) (w : List α),w.length = n -> red G w.reverse -> fold G w [] = w.reverse
 | 0,w,hn,_ => by
   obtain rfl : w = [] := List.eq_nil_of_length_eq_zero hn
   rfl
 | n + 1,w,hn,h => by
   obtain ⟨w',s,rfl⟩ : ∃ w' s,w = w' ++ [s] := ⟨w.dropLast,w.getLast (by intro e; subst e; cases hn),(List.dropLast_concat_getLast _).symm⟩
   rw [List.reverse_append] at h ⊢
   simp only [List.reverse_cons,List.reverse_nil,List.nil_append,List.cons_append] at h ⊢
   rw [z1l,zd0 n w' (by simpa using hn) h.2,z12,z5a]
   unfold push
   rw [if_neg (by rw [h.1]; simp)]
variable (G) in
def back (w : List α) : List α := (w.map G.inv).reverse
theorem z6d (s : α) (w : List α) : back G (s :: w) = back G w ++ [G.inv s] := by simp [back]
theorem zcy : ∀ (w : List α) {R : List α},red G R -> teq G.toDep (fold G (w ++ back G w) R) R
 | [],R,_ => teq.refl R
 | s :: w,R,h => by
   rw [z6d,<- List.append_assoc,z1l,List.cons_append,z12,z12,z5a]
   exact (z8a (zcy w (ze6 h s)) _).trans (ze5 h s)
theorem zfp (w : List α) : back G (back G w) = w := by
 simp only [back,List.map_reverse,List.reverse_reverse,List.map_map]
 have : (G.inv ∘ G.inv) = id := by funext x; exact G.inv2 x
 rw [this,List.map_id]
theorem zon (w : List α) {R : List α} (h : red G R) : teq G.toDep (fold G (back G w ++ w) R) R := by
 have := zcy (back G w) h
 rwa [zfp] at this
end
section
variable (T : Dep Int)
def leastF (m : Nat) (w : List Int) : Option Int := ((List.range m).map fun (i : Nat) => (i : Int)).find? fun a => isFirst T w a
def nfk (m : Nat) : Nat -> List Int -> List Int
 | 0,_ => []
 | k + 1,w => match leastF T m w with
   | some a => a :: nfk m k (w.erase a)
   | none => []
def nform (m : Nat) (w : List Int) : List Int := nfk T m w.length w
variable {T}
theorem zdo {m : Nat} {w : List Int} {a : Int} (h : leastF T m w = some a) : isFirst T w a = true /\ 0 <= a /\ a < m := by
 unfold leastF at h
 refine ⟨List.find?_some h,?_⟩
 have := List.mem_of_find?_eq_some h
 obtain ⟨i,hi,rfl⟩ := List.mem_map.1 this
 have := List.mem_range.1 hi
 omega
theorem ztv {m : Nat} {w : List Int} (h : leastF T m w = none) (hw : ∀ x ∈ w,0 <= x /\ x < m) : w = [] := by
 cases w with
 | nil => rfl
 | cons x xs =>
   unfold leastF at h
   rw [List.find?_eq_none] at h
   have hx := hw x (by simp)
   have := h x (List.mem_map.2 ⟨x.toNat,List.mem_range.2 (by omega),by omega⟩)
   simp [isFirst] at this
theorem teq.leastF {u v : List Int} (h : teq T u v) (m : Nat) : leastF T m u = leastF T m v := by
 unfold Gp.leastF
 congr 1
 funext a
 exact h.first a
theorem nfk_teq {m : Nat} : ∀ (k : Nat) {u v : List Int},teq T u v -> nfk T m k u = nfk T m k v
 | 0,_,_,_ => rfl
 | k + 1,u,v,h => by
   simp only [nfk,h.leastF]
   cases Gp.leastF T m v with
   | none => rfl
   | some a => simp only; rw [nfk_teq k (h.erase a)]
theorem teq.nform {u v : List Int} (h : teq T u v) (m : Nat) : nform T m u = nform T m v := by
 unfold Gp.nform; rw [h.length]; exact nfk_teq _ h
theorem zj6 {m : Nat} : ∀ (k : Nat) {w : List Int},w.length = k -> (∀ x ∈ w,0 <= x /\ x < m) -> teq T (nfk T m k w) w
 | 0,w,hk,_ => by
   obtain rfl : w = [] := List.eq_nil_of_length_eq_zero hk
   exact teq.refl _
 | k + 1,w,hk,hw => by
   simp only [nfk]
   cases h : Gp.leastF T m w with
   | none => have := ztv h hw; subst this; cases hk
   | some a =>
     simp only
     have hf := (zdo h).1
     have hm := zh hf
     refine ((zj6 k (by rw [List.length_erase_of_mem hm]; omega) fun x hx => hw x (List.mem_of_mem_erase hx)).cons a).trans (z31 hf)
theorem z2t {m : Nat} {w : List Int} (hw : ∀ x ∈ w,0 <= x /\ x < m) : teq T (nform T m w) w := zj6 _ rfl hw
theorem zuq {m : Nat} {u v : List Int} (hu : ∀ x ∈ u,0 <= x /\ x < m) (hv : ∀ x ∈ v,0 <= x /\ x < m) : nform T m u = nform T m v ↔ teq T u v :=
 ⟨fun h => (z2t hu).symm.trans (h ▸ z2t hv),fun h => h.nform m⟩
theorem z86 {m : Nat} {w : List Int} (hw : ∀ x ∈ w,0 <= x /\ x < m) : (nform T m w).length = w.length := (z2t (T := T) hw).length
end
end Gp

end

section
namespace Gp
open Go.PR
theorem low_bit {m : Nat} (h0 : m ≠ 0) (h : m < 2 ^ 63) : m.testBit (Go.Lib.ctz 64 m) = true /\ (∀ i,i < Go.Lib.ctz 64 m -> m.testBit i = false) /\ ∀ i,(m &&& (m - 1)).testBit i = (m.testBit i && decide (i ≠ Go.Lib.ctz 64 m)) := by
 obtain ⟨q,hq,hk⟩ := Go.Lib.ctzFrom_spec 64 m (by omega) (by omega)
 have hc : Go.Lib.ctz 64 m = Go.Lib.ctzFrom 64 m := by unfold Go.Lib.ctz; rw [if_neg h0]
 rw [hc]
 generalize Go.Lib.ctzFrom 64 m = k at *
 have e1 : m = 2 ^ (k + 1) * q + 2 ^ k := by rw [hq,Nat.pow_succ]; grind
 have hp : 0 < 2 ^ k := Nat.two_pow_pos k
 have e2 : m - 1 = 2 ^ (k + 1) * q + (2 ^ k - 1) := by omega
 have l1 : 2 ^ k < 2 ^ (k + 1) := by rw [Nat.pow_succ]; omega
 have b1 : ∀ j,m.testBit j = if j < k + 1 then (2 ^ k).testBit j else q.testBit (j - (k + 1)) := fun j => by rw [e1]; exact Nat.testBit_two_pow_mul_add _ l1 j
 have b2 : ∀ j,(m - 1).testBit j = if j < k + 1 then (2 ^ k - 1).testBit j else q.testBit (j - (k + 1)) := fun j => by rw [e2]; exact Nat.testBit_two_pow_mul_add _ (by omega) j
 refine ⟨?_,?_,?_⟩
 · rw [b1,if_pos (by omega),Nat.testBit_two_pow_self]
 · intro i hi
   rw [b1,if_pos (by omega),Nat.testBit_two_pow]
   simp; omega
 · intro i
   rw [Nat.testBit_and,b1,b2]
   by_cases hi : i < k + 1
   · rw [if_pos hi,if_pos hi,Nat.testBit_two_pow,Nat.testBit_two_pow_sub_one]
     by_cases e : k = i
     · subst e; simp
     · simp [e]
   · rw [if_neg hi,if_neg hi]
     have : i ≠ k := by omega
     simp [this]
theorem ctz_lt {m k : Nat} (h0 : m ≠ 0) (h : m < 2 ^ 63) (hk : m < 2 ^ k) : Go.Lib.ctz 64 m < k := bit_lt hk (low_bit h0 h).1
def bitsN (m : Nat) : List Nat := (List.range 63).filter fun i => m.testBit i
def bitsL (m : Nat) : List Int := (bitsN m).map fun (i : Nat) => (i : Int)
theorem zh2 {p : Nat -> Bool} {k : Nat} (hp : p k = true) (hl : ∀ i,i < k -> p i = false) : ∀ n,k < n -> (List.range n).filter p = k :: (List.range n).filter (fun i => p i && decide (i ≠ k))
 | 0,h => by omega
 | n + 1,h => by
   rw [List.range_succ,List.filter_append,List.filter_append]
   by_cases e : k < n
   · rw [zh2 hp hl n e]
     have hn : ¬ n = k := by omega
     simp [List.filter_cons,hn]
   · obtain rfl : k = n := by omega
     have h1 : (List.range k).filter p = [] := List.filter_eq_nil_iff.2 fun i hi => by rw [hl i (List.mem_range.1 hi)]; simp
     have h2 : (List.range k).filter (fun i => p i && decide (i ≠ k)) = [] := List.filter_eq_nil_iff.2 fun i hi => by rw [hl i (List.mem_range.1 hi)]; simp
     rw [h1,h2]
     simp [List.filter_cons,hp]
theorem zc9 {m : Nat} (h0 : m ≠ 0) (h : m < 2 ^ 63) : bitsN m = Go.Lib.ctz 64 m :: bitsN (m &&& (m - 1)) := by
 obtain ⟨h1,h2,h3⟩ := low_bit h0 h
 unfold bitsN
 rw [zh2 h1 h2 63 (ctz_lt h0 h h)]
 congr 2
 funext i
 exact (h3 i).symm
theorem zn0 {m : Nat} (h0 : m ≠ 0) (h : m < 2 ^ 63) : bitsL m = (Go.Lib.ctz 64 m : Int) :: bitsL (m &&& (m - 1)) := by unfold bitsL; rw [zc9 h0 h]; rfl
theorem zfx : bitsL 0 = [] := by
 unfold bitsL bitsN
 rw [List.filter_eq_nil_iff.2 (by simp)]; rfl
theorem z5r {m i : Nat} (h : m < 2 ^ 63) : i ∈ bitsN m ↔ m.testBit i = true := by
 unfold bitsN
 rw [List.mem_filter,List.mem_range]
 exact ⟨fun h => h.2,fun hb => ⟨bit_lt h hb,hb⟩⟩
theorem zoh {f : Nat -> Bool} {m : Nat} (hm : m <= 62) (h0 : mkM f m ≠ 0) : (List.range m).find? f = some (Go.Lib.ctz 64 (mkM f m)) := by
 have hlt := mkM_lt f m
 have h63 : mkM f m < 2 ^ 63 := Nat.lt_trans hlt (pow62 hm)
 obtain ⟨h1,h2,_⟩ := low_bit h0 h63
 have hk := ctz_lt h0 h63 hlt
 generalize Go.Lib.ctz 64 (mkM f m) = k at *
 rw [mkM_bit] at h1
 simp at h1
 rw [List.find?_range_eq_some]
 refine ⟨h1.2,List.mem_range.2 hk,fun j hj => ?_⟩
 have := h2 j hj
 rw [mkM_bit] at this
 simp at this
 simp [this (by omega)]
section
variable {T : Dep Int}
theorem z82 (a x : Int) : ∀ (u : List Int),isFirst T (u ++ [x]) a = (isFirst T u a || (decide (x = a) && u.all fun y => !T.d y a))
 | [] => by simp [isFirst]
 | y :: u => by
   simp only [List.cons_append,isFirst,z82 a x u,List.all_cons]
   by_cases h : y = a
   · simp [h]
   · cases T.d y a <;> simp [h]
structure Tab (T : Dep Int) (m : Nat) (t : List Int) : Prop where
 len : t.length = m
 small : m <= 62
 mask : ∀ a : Nat,a < m -> ∃ k : Nat,k < 2 ^ m /\ t.getD a 0 = k /\ ∀ b : Nat,b < m -> k.testBit b = T.d a b
def Wd (m : Nat) (w : List Int) : Prop := ∀ x ∈ w,0 <= x /\ x < m
theorem Wd.erase {m : Nat} {w : List Int} (h : Wd m w) (a : Int) : Wd m (w.erase a) := fun x hx => h x (List.mem_of_mem_erase hx)
def firstM (T : Dep Int) (m : Nat) (w : List Int) : Nat := mkM (fun a => isFirst T w a) m
def blockM (T : Dep Int) (m : Nat) (w : List Int) : Nat := mkM (fun a => w.any fun y => T.d y a) m
theorem zoj (m : Nat) : firstM T m [] = 0 := by
 apply Nat.eq_of_testBit_eq; intro i; unfold firstM; rw [mkM_bit]; simp [isFirst]
theorem zn3 (m : Nat) : blockM T m [] = 0 := by
 apply Nat.eq_of_testBit_eq; intro i; unfold blockM; rw [mkM_bit]; simp
theorem z2i {m : Nat} {w : List Int} {i : Nat} : (firstM T m w).testBit i = (decide (i < m) && isFirst T w i) := mkM_bit _ _ _
theorem zca {m : Nat} {w : List Int} {i : Nat} : (blockM T m w).testBit i = (decide (i < m) && w.any fun y => T.d y i) := mkM_bit _ _ _
theorem zh8 {m : Nat} {u : List Int} {x : Nat} (hx : x < m) : firstM T m (u ++ [(x : Int)]) = if (blockM T m u).testBit x then firstM T m u else firstM T m u ||| 2 ^ x := by
 apply Nat.eq_of_testBit_eq
 intro i
 rw [z2i,z82]
 rw [zca]
 have hall : (u.all fun y => !T.d y (x : Int)) = !(u.any fun y => T.d y (x : Int)) := by
  rw [List.not_any_eq_all_not]
 by_cases e : x = i
 · subst e
   simp only [hx,decide_true,Bool.true_and,hall]
   cases (u.any fun y => T.d y (x : Int)) with
   | true => simp [z2i,hx]
   | false => simp [z2i,hx,Nat.testBit_or]
 · have e2 : ¬ (x : Int) = (i : Int) := by omega
   simp only [e2,decide_false,Bool.false_and,Bool.or_false]
   split
   · rw [z2i]
   · rw [Nat.testBit_or,Nat.testBit_two_pow,z2i]; simp [e]
theorem zn4 {m : Nat} {u t : List Int} {x k : Nat} (hk : k < 2 ^ m) (hb : ∀ b : Nat,b < m -> k.testBit b = T.d x b) : blockM T m (u ++ [(x : Int)]) = blockM T m u ||| k := by
 apply Nat.eq_of_testBit_eq
 intro i
 rw [Nat.testBit_or,zca,zca,List.any_append]
 by_cases hi : i < m
 · rw [hb i hi]; simp [hi]
 · have : k.testBit i = false := Nat.testBit_lt_two_pow (Nat.lt_of_lt_of_le hk (Nat.pow_le_pow_right (by omega) (by omega)))
   simp [hi,this]
theorem z3f (m : Nat) (w : List Int) : firstM T m w < 2 ^ m := mkM_lt _ _
theorem zn2 (m : Nat) (w : List Int) : blockM T m w < 2 ^ m := mkM_lt _ _
theorem zh7 {m : Nat} {w : List Int} (h : Wd m w) (hw : w ≠ []) : firstM T m w ≠ 0 := by
 cases w with
 | nil => exact (hw rfl).elim
 | cons x xs =>
   intro e
   have hx := h x (by simp)
   have : (firstM T m (x :: xs)).testBit x.toNat = true := by
    rw [z2i]
    have e2 : ((x.toNat : Nat) : Int) = x := by omega
    simp [isFirst,e2]; omega
   rw [e] at this
   simp at this
theorem zdn {m : Nat} {w : List Int} (hm : m <= 62) (h : Wd m w) (hw : w ≠ []) : leastF T m w = some (Go.Lib.ctz 64 (firstM T m w) : Int) := by
 have h1 := zoh (f := fun a => isFirst T w a) hm (zh7 h hw)
 unfold leastF
 rw [List.find?_map]
 have : (List.range m).find? ((fun a => isFirst T w a) ∘ fun (i : Nat) => (i : Int)) = some (Go.Lib.ctz 64 (firstM T m w)) := h1
 rw [this]; rfl
theorem zdy {m k : Nat} {w : List Int} (hm : m <= 62) (h : Wd m w) (hw : w ≠ []) : nfk T m (k + 1) w = (Go.Lib.ctz 64 (firstM T m w) : Int) :: nfk T m k (w.erase (Go.Lib.ctz 64 (firstM T m w) : Int)) := by
 simp only [nfk,zdn hm h hw]
theorem zdp {m : Nat} {w : List Int} (hm : m <= 62) (h : Wd m w) (hw : w ≠ []) : (Go.Lib.ctz 64 (firstM T m w) : Int) ∈ w := zh (zdo (zdn hm h hw)).1
end
theorem zom {G : Grp Int} {s y : Int} {A B : List Int} (hB : ∀ x ∈ B,G.d s x = false) (hy : G.d s y = true) :
  (if y = G.inv s then isFirst G.toDep (A ++ y :: B).reverse (G.inv s) = true /\ (A ++ y :: B).reverse.erase (G.inv s) = (A ++ B).reverse else isFirst G.toDep (A ++ y :: B).reverse (G.inv s) = false) := by
 have e : (A ++ y :: B).reverse = B.reverse ++ y :: A.reverse := by simp
 have hBn : ∀ x ∈ B.reverse,x ≠ G.inv s := fun x hx e => by
  have := hB x (by simpa using hx)
  rw [e,Grp.dinv',G.refl] at this; cases this
 rw [e]
 split
 · rename_i hyi
   subst hyi
   refine ⟨zcu fun x hx => ?_,?_⟩
   · rw [Grp.dinv',G.sym]; exact hB x (by simpa using hx)
   · rw [List.erase_append_right _ (fun hm => hBn _ hm rfl)]
     simp
 · rename_i hyi
   have gen : ∀ (L : List Int),(∀ x ∈ L,G.d s x = false) -> isFirst G.toDep (L ++ y :: A.reverse) (G.inv s) = false := by
    intro L hL
    induction L with
    | nil => simp [isFirst,hyi,Grp.dinv',G.sym y s,hy]
    | cons x L ih =>
      have hx : x ≠ G.inv s := fun e => by have := hL x (by simp); rw [e,Grp.dinv',G.refl] at this; cases this
      simp only [List.cons_append,isFirst,hx,decide_false,Bool.false_or]
      rw [ih fun z hz => hL z (by simp [hz])]
      simp
   exact gen _ fun x hx => hB x (by simpa using hx)
theorem zok {G : Grp Int} {s : Int} {B : List Int} (hB : ∀ x ∈ B,G.d s x = false) : isFirst G.toDep B.reverse (G.inv s) = false := by
 have gen : ∀ (L : List Int),(∀ x ∈ L,G.d s x = false) -> isFirst G.toDep L (G.inv s) = false := by
  intro L hL
  induction L with
  | nil => rfl
  | cons x L ih =>
    have hx : x ≠ G.inv s := fun e => by have := hL x (by simp); rw [e,Grp.dinv',G.refl] at this; cases this
    simp only [isFirst,hx,decide_false,Bool.false_or]
    rw [ih fun z hz => hL z (by simp [hz])]
    simp
 exact gen _ fun x hx => hB x (by simpa using hx)
end Gp

end

section
namespace Gp
variable {α : Type} [DecidableEq α] {G : Grp α}
theorem zop {x : α} (M B : List α) (hM : ∀ y ∈ M,G.d x y = false) (R : List α) : teq G.toDep (fold G (M ++ x :: B) R) (fold G (x :: (M ++ B)) R) := by
 rw [z1l,z12,z12,z1l]
 exact z7v (R := []) (R' := []) B ((z98 M R hM).symm)
theorem zd1 : ∀ (n : Nat) (w w' : List α),w.length = n -> teq G.toDep w w' -> ∀ R : List α,teq G.toDep (fold G w R) (fold G w' R)
 | 0,w,w',hn,h,R => by
   obtain rfl := List.eq_nil_of_length_eq_zero hn
   have := h.length
   obtain rfl := List.eq_nil_of_length_eq_zero this.symm
   exact teq.refl _
 | n + 1,[],w',hn,h,R => by cases hn
 | n + 1,x :: xs,w',hn,h,R => by
   have hf : isFirst G.toDep w' x = true := by
    rw [<- h.first x]
    simp [isFirst]
   obtain ⟨M,B,rfl,hM⟩ := z6j hf
   have hx : x ∉ M := fun hm => by
    have := hM x hm
    rw [G.refl] at this
    cases this
   have he : teq G.toDep xs (M ++ B) := by
    have h1 := h.erase x
    rw [List.erase_cons_head,List.erase_append_right _ hx,List.erase_cons_head] at h1
    exact h1
   have h2 := zd1 n xs (M ++ B) (by simpa using hn) he (push G x R)
   exact h2.trans (zop M B (fun y hy => by rw [G.sym]; exact hM y hy) R).symm
theorem zcx {R : List α} (hR : red G R) (w : List α) : teq G.toDep (fold G w R) (fold G (fold G w []).reverse R) := by
 have key : ∀ (n : Nat) (w : List α),w.length = n -> teq G.toDep (fold G w R) (fold G (fold G w []).reverse R) := by
  intro n
  induction n with
  | zero =>
    intro w hw
    obtain rfl := List.eq_nil_of_length_eq_zero hw
    exact teq.refl _
  | succ n ih =>
    intro w hw
    obtain ⟨u,s,rfl⟩ : ∃ u s,w = u ++ [s] := by
     rcases List.eq_nil_or_concat w with h | ⟨u,s,h⟩
     · rw [h] at hw; cases hw
     · exact ⟨u,s,by rw [h,List.concat_eq_append]⟩
    have h1 := ih u (by simpa using hw)
    rw [z1l,z1l]
    show teq G.toDep (push G s (fold G u R)) (fold G (push G s (fold G u [])).reverse R)
    refine (z8a h1 s).trans ?_
    generalize fold G u [] = Z
    unfold push
    by_cases hc : isFirst G.toDep Z (G.inv s) = true
    · rw [if_pos hc]
      obtain ⟨M,B,rfl,hM⟩ := z6j hc
      have hx : G.inv s ∉ M := fun hm => by
       have := hM _ hm
       rw [G.refl] at this
       cases this
      rw [List.erase_append_right _ hx,List.erase_cons_head]
      show teq G.toDep (push G s (fold G (M ++ G.inv s :: B).reverse R)) _
      have e1 : (M ++ G.inv s :: B).reverse = B.reverse ++ G.inv s :: M.reverse := by simp
      have e2 : (M ++ B).reverse = B.reverse ++ M.reverse := by simp
      rw [e1,e2,z1l,z1l,z12]
      have h3 := z98 (G := G) (s := G.inv s) M.reverse (fold G B.reverse R) (fun y hy => by rw [G.sym]; exact hM y (List.mem_reverse.1 hy))
      refine (z8a h3 s).trans ?_
      have h4 := ze5 (G := G) (z5b M.reverse (z5b B.reverse hR)) (G.inv s)
      rw [G.inv2] at h4
      exact h4
    · rw [if_neg hc]
      rw [List.reverse_cons,z1l]
      exact teq.refl _
 exact key _ w rfl
def geq (G : Grp α) (u v : List α) : Prop := teq G.toDep (fold G u []) (fold G v [])
theorem geq.refl (u : List α) : geq G u u := teq.refl _
theorem geq.symm {u v : List α} (h : geq G u v) : geq G v u := teq.symm h
theorem geq.trans {u v w : List α} (h : geq G u v) (k : geq G v w) : geq G u w := teq.trans h k
theorem geq.act {u v : List α} (h : geq G u v) {R : List α} (hR : red G R) : teq G.toDep (fold G u R) (fold G v R) :=
 (zcx hR u).trans ((zd1 _ _ _ rfl (teq.reverse h) R).trans (zcx hR v).symm)
theorem red_nil : red G ([] : List α) := by
 rw [red_iff]
 intro A x M B h
 cases A <;> simp at h
theorem geq.append {u u' v v' : List α} (h : geq G u u') (k : geq G v v') : geq G (u ++ v) (u' ++ v') := by
 unfold geq
 rw [z1l,z1l]
 exact (geq.act k (z5b u red_nil)).trans (z7v (R := []) (R' := []) v' h)
theorem z28 {u v : List α} (h : teq G.toDep u v) : geq G u v := zd1 _ _ _ rfl h []
theorem geq_red (u : List α) : geq G (fold G u []).reverse u := (zcx red_nil u).symm
theorem zox (u : List α) : geq G (u ++ back G u) [] := by
 have := zcy (G := G) u (red_nil (G := G))
 exact this
theorem z3g (u : List α) : geq G (back G u ++ u) [] := by
 have := zon (G := G) u (red_nil (G := G))
 exact this
theorem zc3 (u v : List α) : back G (u ++ v) = back G v ++ back G u := by simp [back]
theorem geq.back {u v : List α} (h : geq G u v) : geq G (back G u) (back G v) := by
 have h1 : geq G (Gp.back G u ++ (v ++ Gp.back G v)) (Gp.back G u) := by
  have := (geq.refl (G := G) (Gp.back G u)).append (zox v)
  rwa [List.append_nil] at this
 have h2 : geq G (Gp.back G u ++ (v ++ Gp.back G v)) (Gp.back G v) := by
  rw [<- List.append_assoc]
  have h3 : geq G (Gp.back G u ++ v) [] := ((geq.refl _).append h.symm).trans (z3g u)
  exact h3.append (geq.refl _)
 exact h1.symm.trans h2
section
variable (k : α -> Bool) (hk : ∀ a,k (G.inv a) = k a)
include hk
theorem zof {R : List α} (hR : red G R) (s : α) : geq G ((push G s R).filter k).reverse ((R.filter k).reverse ++ [s].filter k) := by
 by_cases hc : isFirst G.toDep R (G.inv s) = true
 · obtain ⟨M,B,rfl,hM⟩ := z6j hc
   have hx : G.inv s ∉ M := fun hm => by
    have := hM _ hm
    rw [G.refl] at this
    cases this
   have e : push G s (M ++ G.inv s :: B) = M ++ B := by
    unfold push
    rw [if_pos hc,List.erase_append_right _ hx,List.erase_cons_head]
   rw [e]
   cases hs : k s with
   | true =>
     have hi : k (G.inv s) = true := (hk s).trans hs
     have e1 : (M ++ G.inv s :: B).filter k = M.filter k ++ G.inv s :: B.filter k := by rw [List.filter_append,List.filter_cons,if_pos hi]
     have e2 : [s].filter k = [s] := by rw [List.filter_cons,if_pos hs,List.filter_nil]
     rw [e1,e2,List.filter_append,List.reverse_append,List.reverse_append,List.reverse_cons]
     have h1 := zha (G := G) (x := G.inv s) (B.filter k).reverse (M.filter k).reverse [] (fun y hy => by
      rw [G.sym]
      exact hM y (List.mem_filter.1 (List.mem_reverse.1 hy)).1)
     rw [G.inv2] at h1
     have h2 : geq G ((B.filter k).reverse ++ (G.inv s :: (M.filter k).reverse ++ [s]) ++ []) ((B.filter k).reverse ++ (M.filter k).reverse ++ []) := h1
     have h3 := h2.symm
     simpa [List.append_assoc] using h3
   | false =>
     have hi : ¬ k (G.inv s) = true := by rw [hk s,hs]; decide
     have e1 : (M ++ G.inv s :: B).filter k = M.filter k ++ B.filter k := by rw [List.filter_append,List.filter_cons,if_neg hi]
     have e2 : [s].filter k = [] := by rw [List.filter_cons,if_neg (by rw [hs]; decide),List.filter_nil]
     rw [e1,e2,List.filter_append,List.append_nil]
     exact geq.refl _
 · have e : push G s R = s :: R := by unfold push; rw [if_neg hc]
   rw [e]
   have e3 : (s :: R).filter k = [s].filter k ++ R.filter k := by rw [<- List.filter_append]; rfl
   rw [e3,List.reverse_append]
   have e4 : ([s].filter k).reverse = [s].filter k := by
    cases hs : k s <;> simp [hs]
   rw [e4]
   exact geq.refl _
theorem zcq : ∀ (w : List α) {R : List α},red G R -> geq G ((fold G w R).filter k).reverse ((R.filter k).reverse ++ w.filter k)
 | [],R,_ => by rw [z5a,List.filter_nil,List.append_nil]; exact geq.refl _
 | s :: w,R,hR => by
   rw [z12]
   have h1 := zcq w (ze6 hR s)
   have h2 := (zof k hk hR s).append (geq.refl (G := G) (w.filter k))
   have e : (s :: w).filter k = [s].filter k ++ w.filter k := by rw [<- List.filter_append]; rfl
   rw [e,<- List.append_assoc]
   exact h1.trans h2
theorem geq.filter {u v : List α} (h : geq G u v) : geq G (u.filter k) (v.filter k) := by
 have h1 := zcq k hk u (red_nil (G := G))
 have h2 := zcq k hk v (red_nil (G := G))
 rw [List.filter_nil,List.reverse_nil,List.nil_append] at h1 h2
 have h3 : geq G ((fold G u []).filter k).reverse ((fold G v []).filter k).reverse := by
  refine z28 (teq.reverse ?_)
  intro a b hd
  have := h a b hd
  rw [List.filter_filter,List.filter_filter]
  have e : ∀ l : List α,l.filter (fun x => two a b x && k x) = (l.filter (two a b)).filter k := fun l => by
   rw [List.filter_filter]
   congr 1
   funext x
   exact Bool.and_comm _ _
  rw [e,e,this]
 exact h1.symm.trans (h3.trans h2)
end
end Gp

end

section
namespace Gp
variable {α : Type} [DecidableEq α] {G : Grp α}
def diff (G : Grp α) (a : α) (w : List α) : Int := (w.count a : Int) - (w.count (G.inv a) : Int)
theorem z93 (a : α) (u v : List α) : diff G a (u ++ v) = diff G a u + diff G a v := by
 unfold diff
 rw [List.count_append,List.count_append]
 omega
theorem zcg (a s : α) (w : List α) : diff G a (s :: w) = diff G a [s] + diff G a w := z93 a [s] w
theorem zns (a s : α) : diff G a [G.inv s] = - diff G a [s] := by
 unfold diff
 have h1 : (G.inv s = a) ↔ (s = G.inv a) := ⟨fun h => by rw [<- h,G.inv2],fun h => by rw [h,G.inv2]⟩
 have h2 : (G.inv s = G.inv a) ↔ (s = a) := ⟨fun h => by rw [<- G.inv2 s,h,G.inv2],fun h => by rw [h]⟩
 have c1 : ∀ x y : α,([x].count y : Int) = if x = y then 1 else 0 := fun x y => by
  by_cases h : x = y
  · rw [if_pos h,h]; simp
  · rw [if_neg h,List.count_eq_zero_of_not_mem (by simpa using fun e => h e.symm)]; rfl
 rw [c1,c1,c1,c1]
 by_cases e1 : s = a
 · by_cases e2 : s = G.inv a
   · rw [if_pos (h1.2 e2),if_pos (h2.2 e1),if_pos e1,if_pos e2]; rfl
   · rw [if_neg (fun h => e2 (h1.1 h)),if_pos (h2.2 e1),if_pos e1,if_neg e2]; rfl
 · by_cases e2 : s = G.inv a
   · rw [if_pos (h1.2 e2),if_neg (fun h => e1 (h2.1 h)),if_neg e1,if_pos e2]; rfl
   · rw [if_neg (fun h => e2 (h1.1 h)),if_neg (fun h => e1 (h2.1 h)),if_neg e1,if_neg e2]; rfl
theorem znr (a c : α) {R : List α} (h : c ∈ R) : diff G a (R.erase c) = diff G a R - diff G a [c] := by
 have hp := List.perm_cons_erase h
 have e : diff G a R = diff G a (c :: R.erase c) := by
  unfold diff
  rw [hp.count_eq,hp.count_eq]
 rw [e,zcg]
 omega
theorem znu (a s : α) (R : List α) : diff G a (push G s R) = diff G a [s] + diff G a R := by
 unfold push
 split
 · rename_i h
   rw [znr a _ (zh h),zns]
   omega
 · exact zcg a s R
theorem zch (a : α) : ∀ (w R : List α),diff G a (fold G w R) = diff G a w + diff G a R
 | [],R => by unfold diff; simp [z5a]
 | s :: w,R => by
   rw [z12,zch a w,znu,zcg a s w]
   omega
theorem geq.diff {u v : List α} (h : geq G u v) (a : α) : diff G a u = diff G a v := by
 have h1 := zch (G := G) a u []
 have h2 := zch (G := G) a v []
 have h3 : Gp.diff G a (fold G u []) = Gp.diff G a (fold G v []) := by
  have hp := teq.perm h
  unfold Gp.diff
  rw [hp.count_eq,hp.count_eq]
 omega
end Gp

end

section
namespace Gp
variable {α : Type} [DecidableEq α] {G : Grp α}
theorem zjh (s : α) (R : List α) : (push G s R).length <= R.length + 1 := by
 unfold push
 split
 · have := List.length_erase_le (a := G.inv s) (l := R)
   omega
 · simp
theorem z7u : ∀ (w R : List α),(fold G w R).length <= w.length + R.length
 | [],R => by rw [z5a]; simp
 | s :: w,R => by
   have h1 := z7u w (push G s R)
   have h2 := zjh (G := G) s R
   rw [z12,List.length_cons]
   omega
theorem z7t : ∀ (w R : List α),(fold G w R).length = w.length + R.length -> fold G w R = w.reverse ++ R
 | [],R,_ => rfl
 | s :: w,R,h => by
   rw [z12,List.length_cons] at h
   have h1 := z7u (G := G) w (push G s R)
   have h2 := zjh (G := G) s R
   have h3 : push G s R = s :: R := by
    unfold push at h1 h2 h ⊢
    split
    · rename_i hc
      rw [if_pos hc] at h1 h
      have := List.length_erase_of_mem (zh hc)
      have hp := List.length_pos_of_mem (zh hc)
      omega
    · rfl
   rw [z12,h3]
   rw [h3] at h
   rw [z7t w (s :: R) (by rw [h,List.length_cons]; omega),List.reverse_cons,List.append_assoc]
   rfl
theorem zow {u v : List α} (hu : (fold G u []).length = u.length) (h : geq G u v) : u.length <= v.length := by
 have h1 := z7u (G := G) v []
 have h2 := (teq.perm h).length_eq
 simp only [List.length_nil,Nat.add_zero] at h1
 omega
theorem zhg {a b c : List α} (h : (fold G (a ++ b ++ c) []).length = (a ++ b ++ c).length) : (fold G b []).length = b.length := by
 have h1 : geq G (a ++ b ++ c) (a ++ (fold G b []).reverse ++ c) := ((geq.refl a).append (geq_red b).symm).append (geq.refl c)
 have h2 := zow h h1
 have h3 := z7u (G := G) b []
 simp only [List.length_append,List.length_reverse,List.length_nil,Nat.add_zero] at h2 h3
 omega
theorem zd4 {u v : List α} (h : teq G.toDep u v) (hu : (fold G u []).length = u.length) : (fold G v []).length = v.length := by
 have h1 := (teq.perm (z28 h)).length_eq
 have h2 := h.length
 omega
end Gp

end

section
namespace Gp
def fk (q : Int -> Nat) (w : List Int) : Nat -> List Int
 | 0 => []
 | i + 1 => fk q w i ++ (if (w.take i).count (w.getD i 0) < q (w.getD i 0) then [w.getD i 0] else [])
def fr (w : List Int) (k : Nat) : List Int := fk (fun a => w.count a / k) w w.length
def sumN (f : Nat -> Nat) : Nat -> Nat
 | 0 => 0
 | m + 1 => sumN f m + f m
def reps (w : List Int) (k : Nat) : List Int := (List.replicate k w).flatten
def goodK (T : Dep Int) (m : Nat) (w : List Int) (k : Nat) : Bool := decide ((fr w k).length * k = w.length) && decide (nform T m (reps (fr w k) k) = nform T m w)
def rootF (T : Dep Int) (m : Nat) (w : List Int) : Nat -> Option Nat
 | 0 => none
 | k + 1 => if 0 < k /\ goodK T m w (k + 1) = true then some (k + 1) else rootF T m w k
def rootK (T : Dep Int) (m : Nat) (w : List Int) : Nat := (rootF T m w w.length).getD 1
def rootW (T : Dep Int) (m : Nat) (w : List Int) : List Int := match rootF T m w w.length with
 | some k => nform T m (fr w k)
 | none => nform T m w
end Gp

end

section
namespace Gp
def decQ (q : Int -> Nat) (a : Int) : Int -> Nat := fun b => if b = a then q b - 1 else q b
def kq : (Int -> Nat) -> List Int -> List Int
 | _,[] => []
 | q,a :: l => if 0 < q a then a :: kq (decQ q a) l else kq q l
end Gp

end

section
namespace Gp
section
variable {α : Type} [DecidableEq α]
theorem z35 {T : Dep α} {a : α} : ∀ {u v : List α},isFirst T (u ++ v) a = true ↔ isFirst T u a = true \/ ((∀ y ∈ u,T.d y a = false) /\ isFirst T v a = true)
 | [],v => by simp [isFirst]
 | x :: u,v => by
   have ih := z35 (T := T) (a := a) (u := u) (v := v)
   rw [List.cons_append,isFirst,isFirst]
   by_cases hx : x = a
   · simp [hx]
   · cases hd : T.d x a with
     | true => simp [hx,hd]
     | false =>
       simp only [decide_eq_false hx,Bool.false_or,Bool.not_false,Bool.true_and,ih,List.mem_cons,forall_eq_or_imp,hd,true_and]
variable {G : Grp α}
theorem inv_inj {a b : α} (h : G.inv a = G.inv b) : a = b := by
 have := congrArg G.inv h
 rwa [G.inv2,G.inv2] at this
theorem zdg {s : α} : ∀ (f : List α),isFirst G.toDep (f.map G.inv) (G.inv s) = isFirst G.toDep f s
 | [] => rfl
 | x :: f => by
   rw [List.map_cons,isFirst,isFirst,zdg f,G.dinv,Grp.dinv']
   by_cases h : x = s
   · rw [h,decide_eq_true rfl,decide_eq_true rfl]
   · rw [decide_eq_false h,decide_eq_false fun e => h (inv_inj e)]
theorem zmk (f : List α) : (back G f).length = f.length := by simp [back]
def bothE (G : Grp α) (c : List α) (s : α) : Prop := isFirst G.toDep c s = true /\ isFirst G.toDep c.reverse (G.inv s) = true
end
end Gp

end

section
namespace Gp
section
variable {G : Grp Int} {T : Dep Int}
theorem zg2 {u v : List Int} (h : teq G.toDep u v) {s : Int} (hu : bothE G u s) : bothE G v s :=
 ⟨by rw [<- h.first]; exact hu.1,by rw [<- h.reverse.first]; exact hu.2⟩
theorem z4e {w : List Int} : (fold G w []).length = w.length ↔ red G w := by
 constructor
 · intro h
   have h1 := z7t w [] (by simpa using h)
   rw [List.append_nil] at h1
   have h2 := z5b (G := G) w red_nil
   rw [h1] at h2
   have := z4p h2
   rwa [List.reverse_reverse] at this
 · intro h
   rw [zd0 _ w rfl (z4p h),List.length_reverse]
end
end Gp

end

section
namespace Gp
inductive Rch (T : Dep Int) : List Int -> List Int -> Prop
 | same {u v : List Int} : teq T u v -> Rch T u v
 | step {u v : List Int} {a : Int} : isFirst T u a = true -> Rch T (u.erase a ++ [a]) v -> Rch T u v
section
variable {T : Dep Int}
theorem Rch.left {u v w : List Int} (h : teq T u v) (k : Rch T v w) : Rch T u w := by
 induction k generalizing u with
 | same k => exact .same (h.trans k)
 | step hf k ih => exact .step (by rw [h.first]; exact hf) (ih ((h.erase _).append (teq.refl _)))
theorem Rch.trans {u v w : List Int} (h : Rch T u v) (k : Rch T v w) : Rch T u w := by
 induction h with
 | same h => exact k.left h
 | step hf _ ih => exact .step hf (ih k)
theorem Rch.all : ∀ (x y : List Int),Rch T (x ++ y) (y ++ x)
 | [],y => .same (by rw [List.append_nil,List.nil_append]; exact teq.refl _)
 | s :: x,y => by
   refine .step (a := s) (by simp [isFirst]) ?_
   have e1 : ((s :: x) ++ y).erase s ++ [s] = x ++ (y ++ [s]) := by simp
   have e2 : y ++ s :: x = (y ++ [s]) ++ x := by simp
   rw [e1,e2]
   exact Rch.all x (y ++ [s])
end
section
variable {G : Grp Int}
theorem red_app : ∀ {u v : List Int},red G u -> red G v -> (∀ x,isFirst G.toDep u.reverse x = true -> isFirst G.toDep v (G.inv x) = true -> False) -> red G (u ++ v)
 | [],v,_,hv,_ => hv
 | s :: u,v,hu,hv,h => by
   refine ⟨?_,red_app hu.2 hv fun x h1 h2 => h x (by rw [List.reverse_cons]; exact z35.2 (.inl h1)) h2⟩
   cases hf : isFirst G.toDep (u ++ v) (G.inv s) with
   | false => rfl
   | true =>
     rcases z35.1 hf with h1 | ⟨h1,h2⟩
     · rw [hu.1] at h1; cases h1
     · exact (h s (by
        rw [List.reverse_cons]
        exact z35.2 (.inr ⟨fun y hy => by rw [<- G.dinv']; exact h1 y (List.mem_reverse.1 hy),by simp [isFirst]⟩)) h2).elim
theorem zjo : ∀ {w : List Int},red G w -> red G (w.map G.inv)
 | [],_ => red_nil
 | s :: w,h => ⟨by rw [zdg]; exact h.1,zjo h.2⟩
theorem zjm {w : List Int} (h : red G w) : red G (back G w) := z4p (zjo h)
theorem red_teq {u v : List Int} (h : teq G.toDep u v) (hu : red G u) : red G v := z4e.1 (zd4 h (z4e.2 hu))
theorem rot_noE (hni : ∀ s,G.inv s ≠ s) {s : Int} {m : List Int} (hr : red G (s :: m)) (hn : ∀ t,¬ bothE G (s :: m) t) : red G (m ++ [s]) /\ ∀ t,¬ bothE G (m ++ [s]) t := by
 have hend : isFirst G.toDep m.reverse (G.inv s) = false := by
  cases h : isFirst G.toDep m.reverse (G.inv s) with
  | false => rfl
  | true => exact (hn s ⟨by simp [isFirst],by rw [List.reverse_cons]; exact z35.2 (.inl h)⟩).elim
 refine ⟨?_,fun t ht => ?_⟩
 · have : red G (s :: m.reverse) := ⟨hend,z4p hr.2⟩
   have := z4p this
   simpa using this
 · obtain ⟨h1,h2⟩ := ht
   rw [List.reverse_append,List.reverse_singleton,List.singleton_append] at h2
   simp only [isFirst,Bool.or_eq_true,decide_eq_true_eq,Bool.and_eq_true,Bool.not_eq_true'] at h2
   rcases h2 with e | ⟨hd,h2⟩
   · -- the last one is s itself
     have et : t = G.inv s := by rw [e,G.inv2]
     subst et
     rcases z35.1 h1 with h1 | ⟨_,h1⟩
     · have := hr.1; rw [h1] at this; cases this
     · simp [isFirst] at h1
       exact hni s h1.symm
   · rw [G.dinv'] at hd
     rcases z35.1 h1 with h1 | ⟨_,h1⟩
     · refine hn t ⟨?_,by rw [List.reverse_cons]; exact z35.2 (.inl h2)⟩
       simp only [isFirst,Bool.or_eq_true,decide_eq_true_eq,Bool.and_eq_true,Bool.not_eq_true']
       exact .inr ⟨hd,h1⟩
     · simp [isFirst] at h1
       subst h1
       rw [G.refl] at hd; cases hd
theorem zg1 {c : List Int} {t : Int} : bothE G c.reverse t ↔ bothE G c (G.inv t) := by
 unfold bothE
 rw [List.reverse_reverse,G.inv2]
 exact ⟨fun h => ⟨h.2,h.1⟩,fun h => ⟨h.2,h.1⟩⟩
theorem noE_teq {u v : List Int} (h : teq G.toDep u v) (hu : ∀ t,¬ bothE G u t) : ∀ t,¬ bothE G v t := fun t ht => hu t (zg2 h.symm ht)
theorem red_geq {u v : List Int} (hu : red G u) (hv : red G v) (h : geq G u v) : teq G.toDep u v := by
 have e1 := z7t u [] (by simpa using z4e.2 hu)
 have e2 := z7t v [] (by simpa using z4e.2 hv)
 unfold geq at h
 rw [e1,e2,List.append_nil,List.append_nil] at h
 have := h.reverse
 rwa [List.reverse_reverse,List.reverse_reverse] at this
theorem zni (hni : ∀ s,G.inv s ≠ s) : ∀ (n : Nat) (g c c' : List Int),g.length <= n -> red G c -> (∀ t,¬ bothE G c t) -> red G c' -> (∀ t,¬ bothE G c' t) -> geq G (back G g ++ c ++ g) c' -> Rch G.toDep c c' := by
 intro n
 induction n with
 | zero =>
   intro g c c' hl hc hcE hc' hcE' h
   have : g = [] := List.length_eq_zero_iff.1 (by omega)
   subst this
   rw [List.append_nil] at h
   exact .same (red_geq hc hc' h)
 | succ n ih =>
   intro g c c' hl hc hcE hc' hcE' h
   by_cases hg : red G g
   · by_cases hA : ∃ s,isFirst G.toDep g s = true /\ isFirst G.toDep c s = true
     · obtain ⟨s,h1,h2⟩ := hA
       have t1 := z31 h1
       have t2 := z31 h2
       have hm := zh h1
       obtain ⟨q1,q2⟩ := rot_noE hni (red_teq t2.symm hc) (noE_teq t2.symm hcE)
       have hlen : (g.erase s).length <= n := by
        have := List.length_erase_of_mem hm
        omega
       refine .step h2 (ih (g.erase s) _ c' hlen q1 q2 hc' hcE' ?_)
       refine geq.trans ?_ h
       have k1 : geq G g (s :: g.erase s) := z28 t1.symm
       have k2 : geq G c (s :: c.erase s) := z28 t2.symm
       have k3 : geq G (back G g) (back G (s :: g.erase s)) := k1.back
       refine geq.trans ?_ ((k3.append k2).append k1).symm
       rw [z6d]
       have e : back G (g.erase s) ++ [G.inv s] ++ s :: c.erase s ++ s :: g.erase s = back G (g.erase s) ++ ((back G [s] ++ [s]) ++ (c.erase s ++ [s] ++ g.erase s)) := by simp [back]
       have e' : back G (g.erase s) ++ (c.erase s ++ [s]) ++ g.erase s = back G (g.erase s) ++ ([] ++ (c.erase s ++ [s] ++ g.erase s)) := by simp
       rw [e,e']
       exact (geq.refl _).append ((z3g [s]).symm.append (geq.refl _))
     · by_cases hB : ∃ s,isFirst G.toDep g s = true /\ isFirst G.toDep c.reverse (G.inv s) = true
       · obtain ⟨s,h1,h2⟩ := hB
         have t1 := z31 h1
         have t2 := z31 h2
         have hm := zh h1
         have hlen : (g.erase s).length <= n := by
          have := List.length_erase_of_mem hm
          omega
         have hrc : red G (G.inv s :: c.reverse.erase (G.inv s)) := red_teq t2.symm (z4p hc)
         have hrE : ∀ t,¬ bothE G c.reverse t := fun t ht => hcE _ (zg1.1 ht)
         obtain ⟨q1,q2⟩ := rot_noE hni hrc (noE_teq t2.symm hrE)
         have t3 : teq G.toDep c ((c.reverse.erase (G.inv s)).reverse ++ [G.inv s]) := by
          have := t2.symm.reverse
          rw [List.reverse_reverse,List.reverse_cons] at this
          exact this
         have q3 : red G (G.inv s :: (c.reverse.erase (G.inv s)).reverse) := by
          have := z4p q1
          rw [List.reverse_append,List.reverse_singleton,List.singleton_append] at this
          exact this
         have q4 : ∀ t,¬ bothE G (G.inv s :: (c.reverse.erase (G.inv s)).reverse) t := fun t ht => by
          have e : G.inv s :: (c.reverse.erase (G.inv s)).reverse = (c.reverse.erase (G.inv s) ++ [G.inv s]).reverse := by simp
          rw [e] at ht
          exact q2 _ (zg1.1 ht)
         refine Rch.trans (Rch.left t3 (Rch.all _ [G.inv s])) ?_
         rw [List.singleton_append]
         refine ih (g.erase s) _ c' hlen q3 q4 hc' hcE' ?_
         refine geq.trans ?_ h
         have k1 : geq G g (s :: g.erase s) := z28 t1.symm
         have k2 : geq G c ((c.reverse.erase (G.inv s)).reverse ++ [G.inv s]) := z28 t3
         refine geq.trans ?_ ((k1.back.append k2).append k1).symm
         rw [z6d]
         have e : back G (g.erase s) ++ [G.inv s] ++ ((c.reverse.erase (G.inv s)).reverse ++ [G.inv s]) ++ s :: g.erase s = (back G (g.erase s) ++ (G.inv s :: (c.reverse.erase (G.inv s)).reverse)) ++ ((back G [s] ++ [s]) ++ g.erase s) := by simp [back]
         have e' : back G (g.erase s) ++ (G.inv s :: (c.reverse.erase (G.inv s)).reverse) ++ g.erase s = (back G (g.erase s) ++ (G.inv s :: (c.reverse.erase (G.inv s)).reverse)) ++ ([] ++ g.erase s) := by simp
         rw [e,e']
         exact (geq.refl _).append ((z3g [s]).symm.append (geq.refl _))
       · by_cases hC : ∃ s,isFirst G.toDep g s = true /\ ∀ y ∈ c,G.d y s = false
         · obtain ⟨s,h1,h2⟩ := hC
           have t1 := z31 h1
           have hm := zh h1
           have hlen : (g.erase s).length <= n := by
            have := List.length_erase_of_mem hm
            omega
           refine ih (g.erase s) c c' hlen hc hcE hc' hcE' (geq.trans ?_ h)
           have k1 : geq G g (s :: g.erase s) := z28 t1.symm
           have k2 : geq G (c ++ [s]) ([s] ++ c) := by
            have : isFirst G.toDep (c ++ [s]) s = true := z35.2 (.inr ⟨h2,by simp [isFirst]⟩)
            have hs : s ∉ c := fun hs => by have := h2 s hs; rw [G.refl] at this; cases this
            have := z28 (z31 this)
            rw [List.erase_append_right _ hs] at this
            simpa using this.symm
           refine geq.trans ?_ ((k1.back.append (geq.refl c)).append k1).symm
           rw [z6d]
           have e : back G (g.erase s) ++ [G.inv s] ++ c ++ s :: g.erase s = back G (g.erase s) ++ (back G [s] ++ (c ++ [s]) ++ g.erase s) := by simp [back]
           have e' : back G (g.erase s) ++ c ++ g.erase s = back G (g.erase s) ++ (([] ++ c) ++ g.erase s) := by simp
           rw [e,e']
           refine (geq.refl _).append (geq.append ?_ (geq.refl _))
           refine geq.trans ?_ ((geq.refl (back G [s])).append k2).symm
           rw [<- List.append_assoc]
           exact (z3g [s]).symm.append (geq.refl _)
         · -- nothing cancels
           have hred : red G (back G g ++ (c ++ g)) := by
            refine red_app (zjm hg) (red_app hc hg fun x h1 h2 => hB ⟨G.inv x,h2,by rw [G.inv2]; exact h1⟩) fun x h1 h2 => ?_
            have hs : isFirst G.toDep g (G.inv x) = true := by
             have e : (back G g).reverse = g.map G.inv := by simp [back]
             rw [e,<- G.inv2 x,zdg] at h1
             exact h1
            rcases z35.1 h2 with h3 | ⟨h3,_⟩
            · exact hA ⟨_,hs,h3⟩
            · exact hC ⟨_,hs,h3⟩
           cases hgn : g with
           | nil =>
             subst hgn
             rw [List.append_nil] at h
             exact .same (red_geq hc hc' h)
           | cons a b =>
             exfalso
             have hne : g ≠ [] := by rw [hgn]; simp
             have eg := List.dropLast_concat_getLast hne
             generalize g.getLast hne = t at eg
             generalize g.dropLast = g' at eg
             rw [List.append_assoc] at h
             have ht := red_geq hred hc' h
             refine hcE' (G.inv t) (zg2 ht ?_)
             rw [<- eg,zc3]
             refine ⟨by simp [back,isFirst],?_⟩
             rw [G.inv2]
             simp [isFirst]
   · -- a shorter word of the same element
     have hle := z7u (G := G) g []
     have hne : (fold G g []).length ≠ g.length := fun e => hg (z4e.1 e)
     have k := geq_red (G := G) g
     refine ih (fold G g []).reverse c c' (by simp at hle ⊢; omega) hc hcE hc' hcE' (geq.trans ?_ h)
     exact (k.back.append (geq.refl c)).append k
end
end Gp

end
