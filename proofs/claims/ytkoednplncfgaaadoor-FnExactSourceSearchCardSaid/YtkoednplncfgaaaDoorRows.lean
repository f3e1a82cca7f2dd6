/-
  NARROWER THAN 'FOR EVERY INPUT', by the rows' own cells (each row's printed sentence says how): FnExactCountRuns: laid · FnExactIsPersistent: laid · FnExactIsSource: laid · FnExactIsDesk: laid · FnExactPossibleLetters: laid · FnExactSmallestSource: laid · FnExactSmallestPersistent: laid · FnExactSleepSearch: laid · FnExactSourceSearch: laid · FnExactPersistentSearch: laid.
  DERIVED. THE GIVEN ROWS OF THIS SEAT. 10 by the template 'for every input the law returns true; each argument reads behind the call as it read before'; 0 by the template 'total and deterministic' (their statements: YtkoednplncfgaaaDoorTotals.lean).
  GIVEN WITH THE SEED: the statements are not yours to turn. If you find one false, say at which input.
  Laid BY PROGRAM, IN A SANDBOX (cutbox-rows.mjs): the forced cells as the released guide's own fill.sh prints them over the translation b9231238370936cf… (all of the seat's roots in one cut). By AI agents, Wed Nov 11 2026. No macro, syntax, notation, axiom, sorry.
-/
import Derived.Test.YtkoednplncfgaaaDoorChecked
import GoSem.Claim
import GoSem.ClaimJoined
import GoSem.ClaimMapViews
import Derived.JoinedTies
import Derived.KernelRfl
namespace Go.Proofs.YtkoednplncfgaaaDoor
/- THE CELL 'sum', in the pinned program and in every row, IS THE sha256 OF THE DUMP (.gsa) THAT YtkoednplncfgaaaDoorProg.lean LOADS. Nothing in Lean hashes anything: it is a label: what it is worth is what the hold of that sum in a sandbox is worth. -/
noncomputable def Tryd.pinned : Pinned := { name := "ytkoednplncfgaaadoor", sum := "b9231238370936cf772b8d8c864d946e66799f9008c5bfe8df6539c90ccd1710", checked := Tryd.checked }
namespace Rows
def none {H : Type} : Left H := { results := [], args := [] }

/- WHAT THE LISTED PACKAGE-LEVEL VARIABLES READ AS WHEN THE CALL BEGINS. Each datum BY PROGRAM (the guide's laid-datum.mjs) off the statement by which the dump's own 'gosem.cut.vars' lays the variable. In a bare row this is a premise. The card (YtkoednplncfgaaaDoorCards.lean) ties it to the program's text. -/
def laid_math_bits_deBruijn64tab {H : Type} : DataW H := .agg [.lit (.int .u8 0), .lit (.int .u8 1), .lit (.int .u8 56), .lit (.int .u8 2), .lit (.int .u8 57), .lit (.int .u8 49), .lit (.int .u8 28), .lit (.int .u8 3), .lit (.int .u8 61), .lit (.int .u8 58), .lit (.int .u8 42), .lit (.int .u8 50), .lit (.int .u8 38), .lit (.int .u8 29), .lit (.int .u8 17), .lit (.int .u8 4), .lit (.int .u8 62), .lit (.int .u8 47), .lit (.int .u8 59), .lit (.int .u8 36), .lit (.int .u8 45), .lit (.int .u8 43), .lit (.int .u8 51), .lit (.int .u8 22), .lit (.int .u8 53), .lit (.int .u8 39), .lit (.int .u8 33), .lit (.int .u8 30), .lit (.int .u8 24), .lit (.int .u8 18), .lit (.int .u8 12), .lit (.int .u8 5), .lit (.int .u8 63), .lit (.int .u8 55), .lit (.int .u8 48), .lit (.int .u8 27), .lit (.int .u8 60), .lit (.int .u8 41), .lit (.int .u8 37), .lit (.int .u8 16), .lit (.int .u8 46), .lit (.int .u8 35), .lit (.int .u8 44), .lit (.int .u8 21), .lit (.int .u8 52), .lit (.int .u8 32), .lit (.int .u8 23), .lit (.int .u8 11), .lit (.int .u8 54), .lit (.int .u8 26), .lit (.int .u8 40), .lit (.int .u8 15), .lit (.int .u8 34), .lit (.int .u8 20), .lit (.int .u8 31), .lit (.int .u8 10), .lit (.int .u8 25), .lit (.int .u8 14), .lit (.int .u8 19), .lit (.int .u8 9), .lit (.int .u8 13), .lit (.int .u8 8), .lit (.int .u8 7), .lit (.int .u8 6)]

/-- 'laws.FnExactCountRuns': WHATEVER THE INPUT: true; the input reads as it did. -/
def fnExactCountRunsSpec : ChangeSpec := { name := "fnExactCountRuns", fn := fun _ => fun
  | [d] => { results := [.lit (.bool true)], args := [d] }
  | _ => none }
def fnExactCountRunsRow : OpenClaim := { program := "ytkoednplncfgaaadoor", sum := "b9231238370936cf772b8d8c864d946e66799f9008c5bfe8df6539c90ccd1710", func := "loop.example/g01094/laws.FnExactCountRuns", spec := "fnExactCountRuns", unfollowed := true, recurses := true, named := ["math/bits.deBruijn64tab"], plainKeys := false, apart := false, laid := [("math/bits.deBruijn64tab", laid_math_bits_deBruijn64tab)] }
def FnExactCountRunsSaid : Prop := fnExactCountRunsRow.holds Tryd.pinned (OpenSpec.ofChange fnExactCountRunsSpec)

/-- ITS FALSE NEIGHBOUR: 'it returns false'. Refute it at one input. -/
def fnExactCountRunsWrong : ChangeSpec := { name := "fnExactCountRuns", fn := fun _ => fun
  | [d] => { results := [.lit (.bool false)], args := [d] }
  | _ => none }
def FnExactCountRunsWrongFalsely : Prop := fnExactCountRunsRow.holds Tryd.pinned (OpenSpec.ofChange fnExactCountRunsWrong)

/-- 'laws.FnExactIsPersistent': WHATEVER THE INPUT: true; the input reads as it did. -/
def fnExactIsPersistentSpec : ChangeSpec := { name := "fnExactIsPersistent", fn := fun _ => fun
  | [d1, d2, d3, d4] => { results := [.lit (.bool true)], args := [d1, d2, d3, d4] }
  | _ => none }
def fnExactIsPersistentRow : OpenClaim := { program := "ytkoednplncfgaaadoor", sum := "b9231238370936cf772b8d8c864d946e66799f9008c5bfe8df6539c90ccd1710", func := "loop.example/g01094/laws.FnExactIsPersistent", spec := "fnExactIsPersistent", unfollowed := true, recurses := true, named := ["math/bits.deBruijn64tab"], plainKeys := false, apart := false, laid := [("math/bits.deBruijn64tab", laid_math_bits_deBruijn64tab)] }
def FnExactIsPersistentSaid : Prop := fnExactIsPersistentRow.holds Tryd.pinned (OpenSpec.ofChange fnExactIsPersistentSpec)

/-- ITS FALSE NEIGHBOUR: 'it returns false'. Refute it at one input. -/
def fnExactIsPersistentWrong : ChangeSpec := { name := "fnExactIsPersistent", fn := fun _ => fun
  | [d1, d2, d3, d4] => { results := [.lit (.bool false)], args := [d1, d2, d3, d4] }
  | _ => none }
def FnExactIsPersistentWrongFalsely : Prop := fnExactIsPersistentRow.holds Tryd.pinned (OpenSpec.ofChange fnExactIsPersistentWrong)

/-- 'laws.FnExactIsSource': WHATEVER THE INPUT: true; the input reads as it did. -/
def fnExactIsSourceSpec : ChangeSpec := { name := "fnExactIsSource", fn := fun _ => fun
  | [d1, d2, d3, d4] => { results := [.lit (.bool true)], args := [d1, d2, d3, d4] }
  | _ => none }
def fnExactIsSourceRow : OpenClaim := { program := "ytkoednplncfgaaadoor", sum := "b9231238370936cf772b8d8c864d946e66799f9008c5bfe8df6539c90ccd1710", func := "loop.example/g01094/laws.FnExactIsSource", spec := "fnExactIsSource", unfollowed := true, recurses := true, named := ["math/bits.deBruijn64tab"], plainKeys := false, apart := false, laid := [("math/bits.deBruijn64tab", laid_math_bits_deBruijn64tab)] }
def FnExactIsSourceSaid : Prop := fnExactIsSourceRow.holds Tryd.pinned (OpenSpec.ofChange fnExactIsSourceSpec)

/-- ITS FALSE NEIGHBOUR: 'it returns false'. Refute it at one input. -/
def fnExactIsSourceWrong : ChangeSpec := { name := "fnExactIsSource", fn := fun _ => fun
  | [d1, d2, d3, d4] => { results := [.lit (.bool false)], args := [d1, d2, d3, d4] }
  | _ => none }
def FnExactIsSourceWrongFalsely : Prop := fnExactIsSourceRow.holds Tryd.pinned (OpenSpec.ofChange fnExactIsSourceWrong)

/-- 'laws.FnExactIsDesk': WHATEVER THE INPUT: true; the input reads as it did. -/
def fnExactIsDeskSpec : ChangeSpec := { name := "fnExactIsDesk", fn := fun _ => fun
  | [d] => { results := [.lit (.bool true)], args := [d] }
  | _ => none }
def fnExactIsDeskRow : OpenClaim := { program := "ytkoednplncfgaaadoor", sum := "b9231238370936cf772b8d8c864d946e66799f9008c5bfe8df6539c90ccd1710", func := "loop.example/g01094/laws.FnExactIsDesk", spec := "fnExactIsDesk", unfollowed := true, recurses := true, named := ["math/bits.deBruijn64tab"], plainKeys := false, apart := false, laid := [("math/bits.deBruijn64tab", laid_math_bits_deBruijn64tab)] }
def FnExactIsDeskSaid : Prop := fnExactIsDeskRow.holds Tryd.pinned (OpenSpec.ofChange fnExactIsDeskSpec)

/-- ITS FALSE NEIGHBOUR: 'it returns false'. Refute it at one input. -/
def fnExactIsDeskWrong : ChangeSpec := { name := "fnExactIsDesk", fn := fun _ => fun
  | [d] => { results := [.lit (.bool false)], args := [d] }
  | _ => none }
def FnExactIsDeskWrongFalsely : Prop := fnExactIsDeskRow.holds Tryd.pinned (OpenSpec.ofChange fnExactIsDeskWrong)

/-- 'laws.FnExactPossibleLetters': WHATEVER THE INPUT: true; the input reads as it did. -/
def fnExactPossibleLettersSpec : ChangeSpec := { name := "fnExactPossibleLetters", fn := fun _ => fun
  | [d1, d2] => { results := [.lit (.bool true)], args := [d1, d2] }
  | _ => none }
def fnExactPossibleLettersRow : OpenClaim := { program := "ytkoednplncfgaaadoor", sum := "b9231238370936cf772b8d8c864d946e66799f9008c5bfe8df6539c90ccd1710", func := "loop.example/g01094/laws.FnExactPossibleLetters", spec := "fnExactPossibleLetters", unfollowed := true, recurses := true, named := ["math/bits.deBruijn64tab"], plainKeys := false, apart := false, laid := [("math/bits.deBruijn64tab", laid_math_bits_deBruijn64tab)] }
def FnExactPossibleLettersSaid : Prop := fnExactPossibleLettersRow.holds Tryd.pinned (OpenSpec.ofChange fnExactPossibleLettersSpec)

/-- ITS FALSE NEIGHBOUR: 'it returns false'. Refute it at one input. -/
def fnExactPossibleLettersWrong : ChangeSpec := { name := "fnExactPossibleLetters", fn := fun _ => fun
  | [d1, d2] => { results := [.lit (.bool false)], args := [d1, d2] }
  | _ => none }
def FnExactPossibleLettersWrongFalsely : Prop := fnExactPossibleLettersRow.holds Tryd.pinned (OpenSpec.ofChange fnExactPossibleLettersWrong)

/-- 'laws.FnExactSmallestSource': WHATEVER THE INPUT: true; the input reads as it did. -/
def fnExactSmallestSourceSpec : ChangeSpec := { name := "fnExactSmallestSource", fn := fun _ => fun
  | [d1, d2, d3] => { results := [.lit (.bool true)], args := [d1, d2, d3] }
  | _ => none }
def fnExactSmallestSourceRow : OpenClaim := { program := "ytkoednplncfgaaadoor", sum := "b9231238370936cf772b8d8c864d946e66799f9008c5bfe8df6539c90ccd1710", func := "loop.example/g01094/laws.FnExactSmallestSource", spec := "fnExactSmallestSource", unfollowed := true, recurses := true, named := ["math/bits.deBruijn64tab"], plainKeys := false, apart := false, laid := [("math/bits.deBruijn64tab", laid_math_bits_deBruijn64tab)] }
def FnExactSmallestSourceSaid : Prop := fnExactSmallestSourceRow.holds Tryd.pinned (OpenSpec.ofChange fnExactSmallestSourceSpec)

/-- ITS FALSE NEIGHBOUR: 'it returns false'. Refute it at one input. -/
def fnExactSmallestSourceWrong : ChangeSpec := { name := "fnExactSmallestSource", fn := fun _ => fun
  | [d1, d2, d3] => { results := [.lit (.bool false)], args := [d1, d2, d3] }
  | _ => none }
def FnExactSmallestSourceWrongFalsely : Prop := fnExactSmallestSourceRow.holds Tryd.pinned (OpenSpec.ofChange fnExactSmallestSourceWrong)

/-- 'laws.FnExactSmallestPersistent': WHATEVER THE INPUT: true; the input reads as it did. -/
def fnExactSmallestPersistentSpec : ChangeSpec := { name := "fnExactSmallestPersistent", fn := fun _ => fun
  | [d1, d2, d3] => { results := [.lit (.bool true)], args := [d1, d2, d3] }
  | _ => none }
def fnExactSmallestPersistentRow : OpenClaim := { program := "ytkoednplncfgaaadoor", sum := "b9231238370936cf772b8d8c864d946e66799f9008c5bfe8df6539c90ccd1710", func := "loop.example/g01094/laws.FnExactSmallestPersistent", spec := "fnExactSmallestPersistent", unfollowed := true, recurses := true, named := ["math/bits.deBruijn64tab"], plainKeys := false, apart := false, laid := [("math/bits.deBruijn64tab", laid_math_bits_deBruijn64tab)] }
def FnExactSmallestPersistentSaid : Prop := fnExactSmallestPersistentRow.holds Tryd.pinned (OpenSpec.ofChange fnExactSmallestPersistentSpec)

/-- ITS FALSE NEIGHBOUR: 'it returns false'. Refute it at one input. -/
def fnExactSmallestPersistentWrong : ChangeSpec := { name := "fnExactSmallestPersistent", fn := fun _ => fun
  | [d1, d2, d3] => { results := [.lit (.bool false)], args := [d1, d2, d3] }
  | _ => none }
def FnExactSmallestPersistentWrongFalsely : Prop := fnExactSmallestPersistentRow.holds Tryd.pinned (OpenSpec.ofChange fnExactSmallestPersistentWrong)

/-- 'laws.FnExactSleepSearch': WHATEVER THE INPUT: true; the input reads as it did. -/
def fnExactSleepSearchSpec : ChangeSpec := { name := "fnExactSleepSearch", fn := fun _ => fun
  | [d1, d2] => { results := [.lit (.bool true)], args := [d1, d2] }
  | _ => none }
def fnExactSleepSearchRow : OpenClaim := { program := "ytkoednplncfgaaadoor", sum := "b9231238370936cf772b8d8c864d946e66799f9008c5bfe8df6539c90ccd1710", func := "loop.example/g01094/laws.FnExactSleepSearch", spec := "fnExactSleepSearch", unfollowed := true, recurses := true, named := ["math/bits.deBruijn64tab"], plainKeys := false, apart := false, laid := [("math/bits.deBruijn64tab", laid_math_bits_deBruijn64tab)] }
def FnExactSleepSearchSaid : Prop := fnExactSleepSearchRow.holds Tryd.pinned (OpenSpec.ofChange fnExactSleepSearchSpec)

/-- ITS FALSE NEIGHBOUR: 'it returns false'. Refute it at one input. -/
def fnExactSleepSearchWrong : ChangeSpec := { name := "fnExactSleepSearch", fn := fun _ => fun
  | [d1, d2] => { results := [.lit (.bool false)], args := [d1, d2] }
  | _ => none }
def FnExactSleepSearchWrongFalsely : Prop := fnExactSleepSearchRow.holds Tryd.pinned (OpenSpec.ofChange fnExactSleepSearchWrong)

/-- 'laws.FnExactSourceSearch': WHATEVER THE INPUT: true; the input reads as it did. -/
def fnExactSourceSearchSpec : ChangeSpec := { name := "fnExactSourceSearch", fn := fun _ => fun
  | [d1, d2] => { results := [.lit (.bool true)], args := [d1, d2] }
  | _ => none }
def fnExactSourceSearchRow : OpenClaim := { program := "ytkoednplncfgaaadoor", sum := "b9231238370936cf772b8d8c864d946e66799f9008c5bfe8df6539c90ccd1710", func := "loop.example/g01094/laws.FnExactSourceSearch", spec := "fnExactSourceSearch", unfollowed := true, recurses := true, named := ["math/bits.deBruijn64tab"], plainKeys := false, apart := false, laid := [("math/bits.deBruijn64tab", laid_math_bits_deBruijn64tab)] }
def FnExactSourceSearchSaid : Prop := fnExactSourceSearchRow.holds Tryd.pinned (OpenSpec.ofChange fnExactSourceSearchSpec)

/-- ITS FALSE NEIGHBOUR: 'it returns false'. Refute it at one input. -/
def fnExactSourceSearchWrong : ChangeSpec := { name := "fnExactSourceSearch", fn := fun _ => fun
  | [d1, d2] => { results := [.lit (.bool false)], args := [d1, d2] }
  | _ => none }
def FnExactSourceSearchWrongFalsely : Prop := fnExactSourceSearchRow.holds Tryd.pinned (OpenSpec.ofChange fnExactSourceSearchWrong)

/-- 'laws.FnExactPersistentSearch': WHATEVER THE INPUT: true; the input reads as it did. -/
def fnExactPersistentSearchSpec : ChangeSpec := { name := "fnExactPersistentSearch", fn := fun _ => fun
  | [d1, d2] => { results := [.lit (.bool true)], args := [d1, d2] }
  | _ => none }
def fnExactPersistentSearchRow : OpenClaim := { program := "ytkoednplncfgaaadoor", sum := "b9231238370936cf772b8d8c864d946e66799f9008c5bfe8df6539c90ccd1710", func := "loop.example/g01094/laws.FnExactPersistentSearch", spec := "fnExactPersistentSearch", unfollowed := true, recurses := true, named := ["math/bits.deBruijn64tab"], plainKeys := false, apart := false, laid := [("math/bits.deBruijn64tab", laid_math_bits_deBruijn64tab)] }
def FnExactPersistentSearchSaid : Prop := fnExactPersistentSearchRow.holds Tryd.pinned (OpenSpec.ofChange fnExactPersistentSearchSpec)

/-- ITS FALSE NEIGHBOUR: 'it returns false'. Refute it at one input. -/
def fnExactPersistentSearchWrong : ChangeSpec := { name := "fnExactPersistentSearch", fn := fun _ => fun
  | [d1, d2] => { results := [.lit (.bool false)], args := [d1, d2] }
  | _ => none }
def FnExactPersistentSearchWrongFalsely : Prop := fnExactPersistentSearchRow.holds Tryd.pinned (OpenSpec.ofChange fnExactPersistentSearchWrong)

/- THE SECOND FORM. 'bulk': how many values and letters a reading holds, each counted each time it is reached (what is shared counts as often as it is met; a slice's spare places count too). A statement '..UptoSaid' is the law's where the arguments, and the package variables that the reading takes, are together of bulk at most 1048576: NARROWER than '..Said'. Prove '..Said' where nothing that the law and all that it calls make is longer than what came in: it says more and counts as full. Else prove '..UptoSaid'. A law counts once. -/
mutual
def uptoBulk {H : Type} : DataW H → Nat
  | .lit (.string bytes) => bytes.length + 1
  | .lit _ => 1
  | .nil => 1
  | .ptr d => uptoBulk d + 1
  | .slice elems spare => uptoBulkAll elems + uptoBulkAll spare + 1
  | .agg parts => uptoBulkAll parts + 1
  | .iface _ d => uptoBulk d + 1
  | .map entries => uptoBulkEntries entries + 1
  | .held _ => 1
def uptoBulkAll {H : Type} : List (DataW H) → Nat
  | [] => 0
  | d :: r => uptoBulk d + uptoBulkAll r
def uptoBulkEntries {H : Type} : List (Lit × DataW H) → Nat
  | [] => 0
  | x :: r => uptoBulkEntry x + uptoBulkEntries r
def uptoBulkEntry {H : Type} : Lit × DataW H → Nat
  | (.string bytes, d) => bytes.length + uptoBulk d + 1
  | (_, d) => uptoBulk d + 1
 end
def uptoSmall : (H : Type) → List (DataW H) → Bool := fun _ ds => decide (uptoBulkAll ds ≤ 1048576)
def OpenSpec.upto (s : _root_.Go.ChangeSpec) : _root_.Go.OpenSpec := { _root_.Go.OpenSpec.ofChange s with cond := some uptoSmall }

/-- 'laws.FnExactCountRuns', WHERE WHAT IT READS IS OF BULK AT MOST 1048576: true; the input reads as it did. -/
def fnExactCountRunsUptoRow : OpenClaim := { program := "ytkoednplncfgaaadoor", sum := "b9231238370936cf772b8d8c864d946e66799f9008c5bfe8df6539c90ccd1710", func := "loop.example/g01094/laws.FnExactCountRuns", spec := "fnExactCountRuns", unfollowed := true, recurses := true, named := ["math/bits.deBruijn64tab"], plainKeys := false, apart := false, laid := [("math/bits.deBruijn64tab", laid_math_bits_deBruijn64tab)], narrowed := true }
def FnExactCountRunsUptoSaid : Prop := fnExactCountRunsUptoRow.holds Tryd.pinned (OpenSpec.upto fnExactCountRunsSpec)

/-- 'laws.FnExactIsPersistent', WHERE WHAT IT READS IS OF BULK AT MOST 1048576: true; the input reads as it did. -/
def fnExactIsPersistentUptoRow : OpenClaim := { program := "ytkoednplncfgaaadoor", sum := "b9231238370936cf772b8d8c864d946e66799f9008c5bfe8df6539c90ccd1710", func := "loop.example/g01094/laws.FnExactIsPersistent", spec := "fnExactIsPersistent", unfollowed := true, recurses := true, named := ["math/bits.deBruijn64tab"], plainKeys := false, apart := false, laid := [("math/bits.deBruijn64tab", laid_math_bits_deBruijn64tab)], narrowed := true }
def FnExactIsPersistentUptoSaid : Prop := fnExactIsPersistentUptoRow.holds Tryd.pinned (OpenSpec.upto fnExactIsPersistentSpec)

/-- 'laws.FnExactIsSource', WHERE WHAT IT READS IS OF BULK AT MOST 1048576: true; the input reads as it did. -/
def fnExactIsSourceUptoRow : OpenClaim := { program := "ytkoednplncfgaaadoor", sum := "b9231238370936cf772b8d8c864d946e66799f9008c5bfe8df6539c90ccd1710", func := "loop.example/g01094/laws.FnExactIsSource", spec := "fnExactIsSource", unfollowed := true, recurses := true, named := ["math/bits.deBruijn64tab"], plainKeys := false, apart := false, laid := [("math/bits.deBruijn64tab", laid_math_bits_deBruijn64tab)], narrowed := true }
def FnExactIsSourceUptoSaid : Prop := fnExactIsSourceUptoRow.holds Tryd.pinned (OpenSpec.upto fnExactIsSourceSpec)

/-- 'laws.FnExactIsDesk', WHERE WHAT IT READS IS OF BULK AT MOST 1048576: true; the input reads as it did. -/
def fnExactIsDeskUptoRow : OpenClaim := { program := "ytkoednplncfgaaadoor", sum := "b9231238370936cf772b8d8c864d946e66799f9008c5bfe8df6539c90ccd1710", func := "loop.example/g01094/laws.FnExactIsDesk", spec := "fnExactIsDesk", unfollowed := true, recurses := true, named := ["math/bits.deBruijn64tab"], plainKeys := false, apart := false, laid := [("math/bits.deBruijn64tab", laid_math_bits_deBruijn64tab)], narrowed := true }
def FnExactIsDeskUptoSaid : Prop := fnExactIsDeskUptoRow.holds Tryd.pinned (OpenSpec.upto fnExactIsDeskSpec)

/-- 'laws.FnExactPossibleLetters', WHERE WHAT IT READS IS OF BULK AT MOST 1048576: true; the input reads as it did. -/
def fnExactPossibleLettersUptoRow : OpenClaim := { program := "ytkoednplncfgaaadoor", sum := "b9231238370936cf772b8d8c864d946e66799f9008c5bfe8df6539c90ccd1710", func := "loop.example/g01094/laws.FnExactPossibleLetters", spec := "fnExactPossibleLetters", unfollowed := true, recurses := true, named := ["math/bits.deBruijn64tab"], plainKeys := false, apart := false, laid := [("math/bits.deBruijn64tab", laid_math_bits_deBruijn64tab)], narrowed := true }
def FnExactPossibleLettersUptoSaid : Prop := fnExactPossibleLettersUptoRow.holds Tryd.pinned (OpenSpec.upto fnExactPossibleLettersSpec)

/-- 'laws.FnExactSmallestSource', WHERE WHAT IT READS IS OF BULK AT MOST 1048576: true; the input reads as it did. -/
def fnExactSmallestSourceUptoRow : OpenClaim := { program := "ytkoednplncfgaaadoor", sum := "b9231238370936cf772b8d8c864d946e66799f9008c5bfe8df6539c90ccd1710", func := "loop.example/g01094/laws.FnExactSmallestSource", spec := "fnExactSmallestSource", unfollowed := true, recurses := true, named := ["math/bits.deBruijn64tab"], plainKeys := false, apart := false, laid := [("math/bits.deBruijn64tab", laid_math_bits_deBruijn64tab)], narrowed := true }
def FnExactSmallestSourceUptoSaid : Prop := fnExactSmallestSourceUptoRow.holds Tryd.pinned (OpenSpec.upto fnExactSmallestSourceSpec)

/-- 'laws.FnExactSmallestPersistent', WHERE WHAT IT READS IS OF BULK AT MOST 1048576: true; the input reads as it did. -/
def fnExactSmallestPersistentUptoRow : OpenClaim := { program := "ytkoednplncfgaaadoor", sum := "b9231238370936cf772b8d8c864d946e66799f9008c5bfe8df6539c90ccd1710", func := "loop.example/g01094/laws.FnExactSmallestPersistent", spec := "fnExactSmallestPersistent", unfollowed := true, recurses := true, named := ["math/bits.deBruijn64tab"], plainKeys := false, apart := false, laid := [("math/bits.deBruijn64tab", laid_math_bits_deBruijn64tab)], narrowed := true }
def FnExactSmallestPersistentUptoSaid : Prop := fnExactSmallestPersistentUptoRow.holds Tryd.pinned (OpenSpec.upto fnExactSmallestPersistentSpec)

/-- 'laws.FnExactSleepSearch', WHERE WHAT IT READS IS OF BULK AT MOST 1048576: true; the input reads as it did. -/
def fnExactSleepSearchUptoRow : OpenClaim := { program := "ytkoednplncfgaaadoor", sum := "b9231238370936cf772b8d8c864d946e66799f9008c5bfe8df6539c90ccd1710", func := "loop.example/g01094/laws.FnExactSleepSearch", spec := "fnExactSleepSearch", unfollowed := true, recurses := true, named := ["math/bits.deBruijn64tab"], plainKeys := false, apart := false, laid := [("math/bits.deBruijn64tab", laid_math_bits_deBruijn64tab)], narrowed := true }
def FnExactSleepSearchUptoSaid : Prop := fnExactSleepSearchUptoRow.holds Tryd.pinned (OpenSpec.upto fnExactSleepSearchSpec)

/-- 'laws.FnExactSourceSearch', WHERE WHAT IT READS IS OF BULK AT MOST 1048576: true; the input reads as it did. -/
def fnExactSourceSearchUptoRow : OpenClaim := { program := "ytkoednplncfgaaadoor", sum := "b9231238370936cf772b8d8c864d946e66799f9008c5bfe8df6539c90ccd1710", func := "loop.example/g01094/laws.FnExactSourceSearch", spec := "fnExactSourceSearch", unfollowed := true, recurses := true, named := ["math/bits.deBruijn64tab"], plainKeys := false, apart := false, laid := [("math/bits.deBruijn64tab", laid_math_bits_deBruijn64tab)], narrowed := true }
def FnExactSourceSearchUptoSaid : Prop := fnExactSourceSearchUptoRow.holds Tryd.pinned (OpenSpec.upto fnExactSourceSearchSpec)

/-- 'laws.FnExactPersistentSearch', WHERE WHAT IT READS IS OF BULK AT MOST 1048576: true; the input reads as it did. -/
def fnExactPersistentSearchUptoRow : OpenClaim := { program := "ytkoednplncfgaaadoor", sum := "b9231238370936cf772b8d8c864d946e66799f9008c5bfe8df6539c90ccd1710", func := "loop.example/g01094/laws.FnExactPersistentSearch", spec := "fnExactPersistentSearch", unfollowed := true, recurses := true, named := ["math/bits.deBruijn64tab"], plainKeys := false, apart := false, laid := [("math/bits.deBruijn64tab", laid_math_bits_deBruijn64tab)], narrowed := true }
def FnExactPersistentSearchUptoSaid : Prop := fnExactPersistentSearchUptoRow.holds Tryd.pinned (OpenSpec.upto fnExactPersistentSearchSpec)

end Rows
end Go.Proofs.YtkoednplncfgaaaDoor
