/- Path lemmas (written by Vc.lean). -/
import Derived.Test.YtnhklcbddcoadaaGreatDoorFwMk
import Derived.Test.YtnhklcbddcoadaaGreatDoorFwP10
set_option linter.unusedVariables false
set_option linter.unusedSimpArgs false
set_option linter.unusedSectionVars false
section
set_option maxRecDepth 20000
open Go Go.PR Go.Proofs Go.PR.S
namespace Go.PR.S
end Go.PR.S

end

section
set_option maxRecDepth 20000
namespace Go.PR.S
open Go Go.PR Go.Proofs Gp
def marks (k : Int) (n : Nat) : List Int := (List.range n).map fun i : Nat => k + (i : Int)
abbrev passR (r : Int) (xs : List Int) : Ret := ⟨.int .i64 r,[some ⟨true,.ints .i64 xs⟩],[]⟩
abbrev pairR (xs : List Int) (r : Int) : Ret := ⟨.tup [.rsl 600000 0 xs.length,.int .i64 r],[],[⟨true,.ints .i64 xs⟩]⟩
theorem zag {m : Nat} (hm : m <= 62) {w : List Int} (h : Wd m w) (hl : w.length <= B40) :
  Runs X F.z4i [lD w] [] (if w.length <= 24 then pairR (w.map sign) 0 else pairR [] 3) := by
 split
 · exact zqp (by omega) (zwj hm h hl)
 · exact zqo (by omega)
theorem zt1 {m : Nat} (hm : m <= 62) {c : Int} (h0 : 0 <= c) (h1 : c < m) : ixor c 1 = opp c := by
 have key : ∀ k : Fin 64,ixor (k.val : Int) 1 = opp (k.val : Int) := by decide
 have := key ⟨c.toNat,by omega⟩
 simpa [Int.toNat_of_nonneg h0] using this
theorem zk2 {m : Nat} (hm : m <= 62) {w : List Int} (h : Wd m w) (hl : w.length <= B40) : Runs X F.z33 [lD w] [] (rowR ((w.map opp).reverse)) := by
 have c2 := z8k w (by omega)
 unfold B40 at hl
 have e0 : (w.map opp).reverse = w.reverse.map opp := by rw [List.map_reverse]
 have hr : ∀ i,i < w.reverse.length -> 0 <= w.reverse.getD i 0 /\ w.reverse.getD i 0 < m := fun i hi => by
  rw [getD_lt hi]
  exact h _ (List.mem_reverse.1 (List.getElem_mem hi))
 rw [e0]
 have e2 : w.reverse.length = (w.reverse.map opp).length := by simp
 have hll : w.reverse.length <= 1048576 := by rw [List.length_reverse]; exact hl
 generalize w.reverse = v at *
 have key := loop_to (f := F.z33) (b := 0) (body := lb Tryz.f33 0) (N := v.length) (o := z9h v (v.map opp)) (st := fun i => z6q v i ((v.take i).map opp ++ v.drop i)) (fun i hi Q hq => ?_) (fun Q hq => ?_)
 · have hk := zqv c2 (r3az := v.map opp) (by simpa using key)
   rw [show v.length = (v.map opp).length by simp] at hk
   exact hk
 · have hv := hr i hi
   have hd : ((v.take i).map opp ++ v.drop i).getD (0 + i) 0 = v.getD i 0 := by
    rw [Nat.zero_add,List.getD_eq_getElem?_getD,List.getElem?_append_right (by rw [List.length_map,List.length_take]; omega),List.length_map,List.length_take,Nat.min_eq_left (by omega),Nat.sub_self,List.getElem?_drop,Nat.add_zero,<- List.getD_eq_getElem?_getD]
   have e : ((v.take i).map opp ++ v.drop i).set (0 + i) (ixor (((v.take i).map opp ++ v.drop i).getD (0 + i) 0) 1) = (v.take (i + 1)).map opp ++ v.drop (i + 1) := by
    rw [hd,zt1 hm hv.1 hv.2,Nat.zero_add,List.set_append_right _ _ (by rw [List.length_map,List.length_take]; omega),List.length_map,List.length_take,Nat.min_eq_left (by omega),Nat.sub_self,List.drop_eq_getElem_cons hi,List.set_cons_zero,List.take_succ_eq_append_getElem hi,List.map_append,List.append_assoc,getD_lt hi]
    rfl
   apply zqw
   case hq => rw [e]; exact hq
   all_goals first | (simp only [List.length_append,List.length_map,List.length_take,List.length_drop]; omega) | omega
 · apply zqx
   case hq => simpa using hq
   all_goals first | (simp; done) | omega
theorem sg_one {n : Int} {d w : List Int} (h : sgCode n d [w] = 0) : ∃ (N : Nat) (ha : Al N d),n = (N : Int) /\ 2 * N <= 62 /\ w.length <= 24 /\ Bd w /\ (∀ x ∈ w,x ≠ 0) /\ Wd (2 * N) (w.map code) := by
 have hal : alOK n d = true := by
  unfold sgCode at h
  cases h1 : alOK n d with
  | true => rfl
  | false => rw [h1] at h; simp at h
 have hws : sgOK n w = true := by
  unfold sgCode at h
  rw [hal] at h
  cases h1 : sgOK n w with
  | true => rfl
  | false => simp [h1] at h
 obtain ⟨hn,ha⟩ := Al.of hal
 generalize hN : n.toNat = N at *
 subst hn
 have hN8 := ha.small
 obtain ⟨b1,b2,b3⟩ := sgOK_bd (by omega) hws
 exact ⟨N,ha,rfl,by omega,by simpa using b1,b2,fun x hx => (b3 x hx).1,code_Wd b3⟩
theorem gnf_Wd {N : Nat} {d : List Int} (h : Al N d) {w : List Int} (hw : Wd (2 * N) w) : Wd (2 * N) (gnf h w) := fun x hx => by
 unfold gnf at hx
 exact fold_Wd hw x (((z2t (fold_Wd hw)).mem x).1 hx)
end Go.PR.S

end
