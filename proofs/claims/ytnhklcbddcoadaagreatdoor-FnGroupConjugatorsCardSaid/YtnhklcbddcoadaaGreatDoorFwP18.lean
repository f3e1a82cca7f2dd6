/- slices.Repeat,at short words and few times. -/
import Derived.Test.YtnhklcbddcoadaaGreatDoorFwP12
import Derived.Test.YtnhklcbddcoadaaGreatDoorFwMk
set_option linter.unusedVariables false
set_option linter.unusedSimpArgs false
set_option linter.unusedSectionVars false
section
set_option maxRecDepth 20000
namespace Go.PR.S
open Go Go.PR Go.Proofs Gp
def hiE (l k : Int) : Int := IntKind.u64.wrap (IntKind.u64.wrap (IntKind.u64.wrap ((IntKind.u64.wrap l).fdiv ((2 : Int) ^ (32 : Nat)) * (IntKind.u64.wrap k).fdiv ((2 : Int) ^ (32 : Nat))) + (IntKind.u64.wrap (IntKind.u64.wrap ((IntKind.u64.wrap l).fdiv ((2 : Int) ^ (32 : Nat)) * IntKind.u64.wrap (↑(BitVec.ofInt (64 : Nat) (IntKind.u64.wrap k) &&& BitVec.ofInt (64 : Nat) (4294967295 : Int)).toNat : Int)) + (IntKind.u64.wrap (IntKind.u64.wrap (↑(BitVec.ofInt (64 : Nat) (IntKind.u64.wrap l) &&& BitVec.ofInt (64 : Nat) (4294967295 : Int)).toNat : Int) * IntKind.u64.wrap (↑(BitVec.ofInt (64 : Nat) (IntKind.u64.wrap k) &&& BitVec.ofInt (64 : Nat) (4294967295 : Int)).toNat : Int))).fdiv ((2 : Int) ^ (32 : Nat)))).fdiv ((2 : Int) ^ (32 : Nat))) + (IntKind.u64.wrap (IntKind.u64.wrap (↑(BitVec.ofInt (64 : Nat) (IntKind.u64.wrap (IntKind.u64.wrap ((IntKind.u64.wrap l).fdiv ((2 : Int) ^ (32 : Nat)) * IntKind.u64.wrap (↑(BitVec.ofInt (64 : Nat) (IntKind.u64.wrap k) &&& BitVec.ofInt (64 : Nat) (4294967295 : Int)).toNat : Int)) + (IntKind.u64.wrap (IntKind.u64.wrap (↑(BitVec.ofInt (64 : Nat) (IntKind.u64.wrap l) &&& BitVec.ofInt (64 : Nat) (4294967295 : Int)).toNat : Int) * IntKind.u64.wrap (↑(BitVec.ofInt (64 : Nat) (IntKind.u64.wrap k) &&& BitVec.ofInt (64 : Nat) (4294967295 : Int)).toNat : Int))).fdiv ((2 : Int) ^ (32 : Nat)))) &&& BitVec.ofInt (64 : Nat) (4294967295 : Int)).toNat : Int) + IntKind.u64.wrap (IntKind.u64.wrap (↑(BitVec.ofInt (64 : Nat) (IntKind.u64.wrap l) &&& BitVec.ofInt (64 : Nat) (4294967295 : Int)).toNat : Int) * (IntKind.u64.wrap k).fdiv ((2 : Int) ^ (32 : Nat))))).fdiv ((2 : Int) ^ (32 : Nat)))
def rep (w : List Int) (k : Nat) : List Int := (List.replicate k w).flatten
section
variable {w : List Int} {K : Nat}
end
end Go.PR.S

end

section
set_option maxRecDepth 20000
open Go Go.PR Go.Proofs Go.PR.S
namespace Go.PR.S
end Go.PR.S

end

section
set_option maxRecDepth 20000
namespace Go.PR.S
open Go Go.PR Go.Proofs Gp
end Go.PR.S

end
