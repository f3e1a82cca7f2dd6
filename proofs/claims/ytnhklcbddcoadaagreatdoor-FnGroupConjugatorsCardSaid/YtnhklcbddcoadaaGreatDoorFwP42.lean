/- GroupRoot: both functions,and the law. -/
import Derived.Test.YtnhklcbddcoadaaGreatDoorFwP41
import Derived.Test.YtnhklcbddcoadaaGreatDoorFwG32
set_option linter.unusedVariables false
set_option linter.unusedSimpArgs false
set_option linter.unusedSectionVars false
set_option maxRecDepth 20000
namespace Go.PR.S
open Go Go.PR Go.Proofs Gp
abbrev rootR (xs : List Int) (k r : Int) : Ret := ⟨.tup [.rsl 600000 0 xs.length,.int .i64 k,.int .i64 r],[],[⟨true,.ints .i64 xs⟩]⟩
def rootG {N : Nat} {d : List Int} (h : Al N d) (c f : List Int) : List Int := gnf h (f ++ rootW (grp h).toDep (2 * N) c ++ (f.map opp).reverse)
theorem Wd_opps {N : Nat} {f : List Int} (hf : Wd (2 * N) f) : Wd (2 * N) ((f.map opp).reverse) := fun x hx => by
 obtain ⟨y,hy,rfl⟩ := List.mem_map.1 (List.mem_reverse.1 hx)
 exact Wd_opp hf hy
end Go.PR.S
