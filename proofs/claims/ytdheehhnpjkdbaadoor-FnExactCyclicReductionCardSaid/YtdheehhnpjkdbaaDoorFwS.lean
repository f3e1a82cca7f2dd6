/- The seat's context: what the evaluator is told of this program. -/
import Derived.Test.YtdheehhnpjkdbaaDoorFwW
import Derived.Test.YtdheehhnpjkdbaaDoorFwNames
import Derived.KernelRfl
import Derived.Lib.TrailingZeros
import Derived.Test.YtdheehhnpjkdbaaDoorProg
namespace Go.PR.S
open Go Go.PR Go.Proofs

/-- What is live at the loops' heads: function, block, temporaries; and behind the loop. -/
def keepTab : List (Nat × Nat × List Nat × List Nat) := [(13, 0, [0, 3, 4, 5, 6, 18, 20, 22, 24], [0, 2, 3, 4, 5, 6]), (13, 2, [3, 4, 5, 6, 25, 26, 27], [3, 4, 5, 6, 26]), (18, 0, [0, 3, 4], [3]), (21, 0, [0, 1, 5], [4]), (22, 0, [6, 8], [4, 5]), (27, 0, [0, 1, 5], [1]), (28, 0, [0, 1, 5], [1, 4]), (31, 0, [2, 3, 9, 10, 11], [3, 9]), (32, 0, [2, 3, 9, 26, 27, 28], [3, 9]), (41, 0, [0, 1, 5], [4]), (42, 0, [0, 5, 6], [5]), (46, 0, [7, 20, 21, 22], [7]), (51, 0, [2, 5, 6], [2, 5]), (51, 2, [2, 5, 6, 7], [2, 5, 6]), (52, 0, [1, 2, 3, 4], [2, 3]), (52, 2, [1, 2, 3, 4, 5, 6], [1, 2, 3, 4, 5]), (53, 0, [0, 3, 4], [3]), (54, 0, [0, 3, 4], [3]), (56, 0, [3, 11, 12, 13], [3]), (56, 2, [3, 6, 11, 12, 13, 18, 19, 20], [3, 6, 11, 12, 13]), (57, 0, [0, 1, 12, 13], [4]), (58, 0, [0, 5, 10, 11, 12], [0, 5]), (58, 2, [0, 5, 7, 8, 10, 11, 12], [0, 5, 7, 8, 10, 11, 12]), (59, 0, [3, 9, 10, 11], [3]), (62, 0, [0, 3, 4], [3]), (64, 0, [0, 3, 9, 10, 11], [0, 3]), (64, 2, [6, 25, 26, 27], [6]), (70, 0, [3, 8, 9], [3]), (71, 0, [2, 6, 7, 8], [2, 6, 7]), (71, 2, [2, 6, 7, 8, 9], [2, 6, 7, 8]), (72, 0, [0, 6, 7], [4, 5]), (73, 0, [3, 9, 10, 11], [3]), (74, 0, [0, 1, 5], [5]), (76, 0, [7, 8], [7]), (78, 0, [1, 3], [2]), (78, 2, [1, 3, 4], [1, 2, 3]), (86, 0, [0, 1, 5], [4]), (90, 0, [2, 5, 6], [5]), (90, 2, [2, 5, 6, 7], [2, 5, 6]), (91, 0, [1, 25, 26, 27], [2]), (95, 0, [0, 3], [3]), (97, 0, [0, 5, 6], [5]), (99, 0, [0, 1, 7, 8], [4]), (103, 0, [1, 2, 3, 7], [6]), (104, 0, [0, 3, 4], [3]), (106, 0, [0, 5, 6, 9, 10, 11], [5]), (112, 0, [0, 3, 4], [3]), (113, 0, [0, 4, 5, 6, 7, 8], [4, 6]), (113, 2, [0, 4, 5, 6, 7, 8, 9], [0, 4, 5, 6, 7, 8]), (115, 1, [0, 4, 7], [7]), (116, 0, [0, 1, 5], [4]), (117, 0, [0, 4, 7, 8], [7]), (120, 0, [3, 11, 12, 13], [3]), (120, 2, [3, 4, 11, 12, 13, 19, 20, 21], [3, 11, 12, 13]), (121, 0, [0, 1, 7, 8], [4]), (126, 0, [0, 2, 3], []), (127, 0, [0, 1, 7, 8], [4]), (130, 0, [0, 2, 3, 4], [2, 3])]

/-- Functions that get the rows themselves. -/
def byrefTab : List Nat := [26, 27, 43, 79, 80, 96, 113, 114, 115, 117, 126]

def byref (f : FuncId) : Bool := byrefTab.contains f

def keepHint (f : FuncId) (b : Nat) : Option Hint :=
  match keepTab.find? (fun p => p.1 == f && p.2.1 == b) with
  | some p => some ⟨p.2.2.1, if byref f then [500000, 500001, 500002] else [], p.2.2.2⟩
  | none => none

/-- math/bits.deBruijn64tab -/
def deBruijn : List Int := [0, 1, 56, 2, 57, 49, 28, 3, 61, 58, 42, 50, 38, 29, 17, 4, 62, 47, 59, 36, 45, 43, 51, 22, 53, 39, 33, 30, 24, 18, 12, 5, 63, 55, 48, 27, 60, 41, 37, 16, 46, 35, 44, 21, 52, 32, 23, 11, 54, 26, 40, 15, 34, 20, 31, 10, 25, 14, 19, 9, 13, 8, 7, 6]

def glob (g : Nat) : Option D := if g = 0 then some (.pim (deBruijn.map (.int .u8))) else none

/-- What is proved over the model itself: slices.Clone of nothing; math/bits.TrailingZeros64. -/
def prim (f : FuncId) (args : List D) (prows : List Row) : Option Ret :=
  if f = F.slices_CloneSint64int64 then match args, prows with
    | [.immI .i64 []], [] => some ⟨.rsl 600000 0 0, [], [⟨true, .ints .i64 []⟩]⟩
    | _, _ => none
  else if f = F.bits_TrailingZeros64 then match args, prows with
    | [.int .u64 x], [] => if 0 ≤ x ∧ x < 18446744073709551616 then some ⟨.int .i64 (Lib.ctz 64 x.toNat), [], []⟩ else none
    | _, _ => none
  else none

noncomputable def X : Ctx := ctxOf Tryd.prog glob byref keepHint prim

end Go.PR.S
