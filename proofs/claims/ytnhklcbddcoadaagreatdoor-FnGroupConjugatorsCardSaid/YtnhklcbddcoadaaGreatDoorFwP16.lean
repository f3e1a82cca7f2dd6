/- Path lemmas (written by Vc.lean). -/
import Derived.Test.YtnhklcbddcoadaaGreatDoorFwMk
import Derived.Test.YtnhklcbddcoadaaGreatDoorFwP12
set_option linter.unusedVariables false
set_option linter.unusedSimpArgs false
set_option linter.unusedSectionVars false
section
set_option maxRecDepth 20000
open Go Go.PR Go.Proofs Go.PR.S
namespace Go.PR.S
end Go.PR.S

end

section
set_option maxRecDepth 20000
namespace Go.PR.S
open Go Go.PR Go.Proofs Gp
def keepC (m : Int) (x : Int) : Bool := tb m (x.tdiv 2)
theorem zog {q : Int -> Bool} {v : List Int} {i : Nat} (hi : i < v.length) : (v.take (i + 1)).filter q = (v.take i).filter q ++ if q (v.getD i 0) = true then [v.getD i 0] else [] := by
 rw [List.take_succ_eq_append_getElem hi,List.filter_append,getD_lt hi]
 congr 1
 rw [List.filter_cons,List.filter_nil]
theorem zhh {x : Int} (h : 0 <= x) : x.tdiv 2 = ((x.toNat / 2 : Nat) : Int) := by
 obtain ⟨k,rfl⟩ := Int.eq_ofNat_of_zero_le h
 rw [Int.tdiv_eq_ediv_of_nonneg (by omega)]
 simp
theorem zw2 {M : Nat} (hM : M < 2 ^ 63) {x : Int} (h0 : 0 <= x) (h1 : x < 62) :
  Runs X F.z2f [iD M,iD (x.tdiv 2)] [] (boolR (keepC M x)) /\ Runs X F.z21 [iD M,iD (x.tdiv 2)] [] (boolR (keepC M x)) := by
 unfold keepC
 rw [zhh h0]
 exact ⟨zai hM (by omega),z74 hM⟩
end Go.PR.S

end
