/- How many members a small mask has: both sides count the same. -/
import Derived.Test.YtkoednplncfgaaaDoorFwP16
import Derived.Test.YtkoednplncfgaaaDoorFwG10
import Derived.Test.YtkoednplncfgaaaDoorFwG12
section
/- How many members a small mask has: both sides count the same. -/
set_option linter.unusedVariables false
set_option linter.unusedSimpArgs false
set_option maxRecDepth 20000
namespace Go.PR.S
open Go Go.PR Go.Proofs Gp

def pcF : Nat → Nat → Nat
  | 0, _ => 0
  | k + 1, m => m % 2 + pcF k (m / 2)

def pc (m : Nat) : Nat := pcF 9 m

def ones1 (a : Int) : Int := uadd (uand (ushr a 1) 6148914691236517205) (uand a 6148914691236517205)
def ones2 (a : Int) : Int := uadd (uand (ushr (ones1 a) 2) 3689348814741910323) (uand (ones1 a) 3689348814741910323)
def ones3 (a : Int) : Int := uand (uadd (ushr (ones2 a) 4) (ones2 a)) 1085102592571150095
def ones4 (a : Int) : Int := uadd (ones3 a) (ushr (ones3 a) 8)
def ones5 (a : Int) : Int := uadd (ones4 a) (ushr (ones4 a) 16)
def ones6 (a : Int) : Int := uadd (ones5 a) (ushr (ones5 a) 32)

end Go.PR.S

end

section
/- The smallest persistent set: both sides come to the same, and the law. -/
set_option linter.unusedVariables false
set_option linter.unusedSimpArgs false
set_option maxRecDepth 20000
namespace Go.PR.S
open Go Go.PR Go.Proofs Gp

def bst (P : Nat) (g : Nat → Bool) : Nat → Nat
  | 0 => P
  | j + 1 => if pc j < pc (bst P g j) ∧ g j = true then j else bst P g j

section
variable {m n s f : Int} {d : List Int} {N : List (List Int)}

theorem poss_small (h : Ov m d n s f N) {q : Nat} (hq : q < N.length) : possM N q < 2 ^ d.length := by
  unfold possM
  have := h.row hq
  rw [Int.toNat_natCast, this]
  exact mkM_lt _ _

theorem two_le (h : Ov m d n s f N) : (2 : Nat) ^ d.length ≤ 256 := by
  have hs8 := h.al.small
  have hlen := h.al.len
  exact Nat.pow_le_pow_right (n := 2) (by omega) (show d.length ≤ 8 by omega)

end

end Go.PR.S

end
