/- Positive words: letters as codes of the group. Normal forms and conjugates are the same. -/
import Derived.Test.YtnhklcbddcoadaaGreatDoorFwP72
import Derived.Test.YtnhklcbddcoadaaGreatDoorFwP26
import Derived.Test.YtnhklcbddcoadaaGreatDoorFwP73
import Derived.Test.YtnhklcbddcoadaaGreatDoorFwP41
import Derived.Test.YtnhklcbddcoadaaGreatDoorFwG50
set_option linter.unusedVariables false
set_option linter.unusedSimpArgs false
set_option linter.unusedSectionVars false
section
set_option maxRecDepth 20000
namespace Go.PR.S
open Go Go.PR Go.Proofs Gp
def dbl (a : Int) : Int := 2 * a
section
variable {T U : Dep Int} (hd : ∀ a b,U.d (dbl a) (dbl b) = T.d a b)
include hd
def dbp (p : CP) : CP := (p.1.map dbl,p.2.map dbl)
omit hd in
end
def dep1 {n : Nat} {d : List Int} (h : Al n d) : Dep Int where
 d := depZ n d
 sym := zgr h
 refl := fun a => by simp [depZ]
section
variable {n : Nat} {d : List Int} (h : Al n d)
end
end Go.PR.S

end

section
set_option maxRecDepth 20000
namespace Go.PR.S
open Go Go.PR Go.Proofs Gp
def wdOK (n : Int) (w : List Int) : Bool := decide (w.length <= 24) && w.all fun x => decide (0 <= x /\ x <= n - 1)
def wdCode (n : Int) (d : List Int) (ws : List (List Int)) : Int := if alOK n d then (if ws.all (wdOK n) then 0 else 2) else 1
def conjB (T : Dep Int) (m : Nat) (u v : List Int) : Bool := match conjs T m u with
 | none => false
 | some L => decide (nform T m v ∈ L.map (·.1))
def conjE (T : Dep Int) (m : Nat) (u : List Int) : Int := match conjs T m u with
 | none => 3
 | some _ => 0
end Go.PR.S

end
