/- The functions' numbers, by name (written by names.py). -/
import GoSem.Core.Code
import Derived.Test.YtkoednplncfgaaaDoorFwAb
import Derived.KernelRfl
import Derived.Lib.TrailingZeros
import Derived.Test.YtkoednplncfgaaaDoorProg
import Derived.WalkKit
import Derived.Lib.SliceRun
import Derived.Laws.Bits64b
import Derived.Test.YtkoednplncfgaaaDoorChecked
section
/- The functions' numbers, by name (written by names.py). -/
namespace Go.PR.S.F
open Go
abbrev main_main : FuncId := 0
abbrev gosem_cut : FuncId := 1
abbrev gosem_cut_init : FuncId := 2
abbrev laws_FnExactCountRuns : FuncId := 3
abbrev laws_FnExactIsPersistent : FuncId := 4
abbrev laws_FnExactIsSource : FuncId := 5
abbrev laws_FnExactIsDesk : FuncId := 6
abbrev laws_FnExactPossibleLetters : FuncId := 7
abbrev laws_FnExactSmallestSource : FuncId := 8
abbrev laws_FnExactSmallestPersistent : FuncId := 9
abbrev laws_FnExactSleepSearch : FuncId := 10
abbrev laws_FnExactSourceSearch : FuncId := 11
abbrev laws_FnExactPersistentSearch : FuncId := 12
abbrev laws_szAutomaton : FuncId := 13
abbrev spec_CountRuns : FuncId := 14
abbrev laws_toAutomaton : FuncId := 15
abbrev impl_CountRuns : FuncId := 16
abbrev laws_eqAutomaton : FuncId := 17
abbrev laws_szAlphabet : FuncId := 18
abbrev spec_IsPersistent : FuncId := 19
abbrev laws_toAlphabet : FuncId := 20
abbrev impl_IsPersistent : FuncId := 21
abbrev laws_eqAlphabet : FuncId := 22
abbrev spec_IsSource : FuncId := 23
abbrev impl_IsSource : FuncId := 24
abbrev laws_szDesk : FuncId := 25
abbrev spec_IsDesk : FuncId := 26
abbrev laws_toDesk : FuncId := 27
abbrev impl_IsDesk : FuncId := 28
abbrev laws_eqDesk : FuncId := 29
abbrev laws_szAsynchronous : FuncId := 30
abbrev spec_PossibleLetters : FuncId := 31
abbrev laws_toAsynchronous : FuncId := 32
abbrev laws_toInt64S : FuncId := 33
abbrev impl_PossibleLetters : FuncId := 34
abbrev laws_eqAsynchronous : FuncId := 35
abbrev laws_eqInt64S : FuncId := 36
abbrev spec_SmallestSource : FuncId := 37
abbrev impl_SmallestSource : FuncId := 38
abbrev spec_SmallestPersistent : FuncId := 39
abbrev impl_SmallestPersistent : FuncId := 40
abbrev spec_SleepSearch : FuncId := 41
abbrev impl_SleepSearch : FuncId := 42
abbrev laws_eqInt64SS : FuncId := 43
abbrev laws_markAlphabet : FuncId := 44
abbrev laws_markAutomaton : FuncId := 45
abbrev laws_markInt64SS : FuncId := 46
abbrev laws_heldInt64SS : FuncId := 47
abbrev spec_SourceSearch : FuncId := 48
abbrev impl_SourceSearch : FuncId := 49
abbrev spec_PersistentSearch : FuncId := 50
abbrev impl_PersistentSearch : FuncId := 51
abbrev laws_szInt64SS : FuncId := 52
abbrev spec_l11Is : FuncId := 53
abbrev spec_l19Ends : FuncId := 54
abbrev spec_l19Counts : FuncId := 55
abbrev laws_toInt64SS : FuncId := 56
abbrev impl_IsAutomaton : FuncId := 57
abbrev impl_machineOf : FuncId := 58
abbrev impl_machine_ends : FuncId := 59
abbrev impl_machine_countRuns : FuncId := 60
abbrev laws_szInt64S : FuncId := 61
abbrev spec_l19Code : FuncId := 62
abbrev spec_l19Persistent : FuncId := 63
abbrev impl_checkState : FuncId := 64
abbrev impl_machine_isPersistent : FuncId := 65
abbrev spec_l19Source : FuncId := 66
abbrev impl_machine_isSource : FuncId := 67
abbrev laws_szNet : FuncId := 68
abbrev spec_l02Is : FuncId := 69
abbrev spec_l03Is : FuncId := 70
abbrev spec_l01Same : FuncId := 71
abbrev spec_l03Normal : FuncId := 72
abbrev spec_l11Over : FuncId := 73
abbrev spec_l17Is : FuncId := 74
abbrev laws_toNet : FuncId := 75
abbrev impl_IsWord : FuncId := 76
abbrev slices_EqualSint64int64 : FuncId := 77
abbrev impl_Alphabet_ties : FuncId := 78
abbrev impl_ties_normal : FuncId := 79
abbrev impl_checkOver : FuncId := 80
abbrev impl_IsNet : FuncId := 81
abbrev laws_eqNet : FuncId := 82
abbrev laws_szJointS : FuncId := 83
abbrev spec_IsAsynchronous : FuncId := 84
abbrev spec_l14Global : FuncId := 85
abbrev spec_l14Possible : FuncId := 86
abbrev laws_toJointS : FuncId := 87
abbrev impl_IsAsynchronous : FuncId := 88
abbrev impl_isGlobal : FuncId := 89
abbrev impl_Asynchronous_possible : FuncId := 90
abbrev laws_eqJointS : FuncId := 91
abbrev spec_l19Smallest : FuncId := 92
abbrev impl_machine_smallestSource : FuncId := 93
abbrev impl_machine_smallestPersistent : FuncId := 94
abbrev spec_l19Run : FuncId := 95
abbrev impl_explore : FuncId := 96
abbrev impl_machine_possible : FuncId := 97
abbrev laws_markInt64S : FuncId := 98
abbrev laws_heldInt64S : FuncId := 99
abbrev impl_SourceSearchk1 : FuncId := 100
abbrev impl_PersistentSearchk1 : FuncId := 101
abbrev spec_l11States : FuncId := 102
abbrev spec_l01In : FuncId := 103
abbrev spec_l01Full : FuncId := 104
abbrev spec_l01Bit : FuncId := 105
abbrev spec_l01One : FuncId := 106
abbrev spec_l19Possible : FuncId := 107
abbrev impl_lengthSint64 : FuncId := 108
abbrev impl_inRange : FuncId := 109
abbrev impl_IsMask : FuncId := 110
abbrev slices_ContainsFuncSSint64Sint64 : FuncId := 111
abbrev impl_IsAutomatonk1 : FuncId := 112
abbrev impl_lengthint64 : FuncId := 113
abbrev impl_allIn : FuncId := 114
abbrev impl_has : FuncId := 115
abbrev slices_ContainsFuncSint64int64 : FuncId := 116
abbrev impl_machine_endsk1 : FuncId := 117
abbrev slices_ContainsSboolbool : FuncId := 118
abbrev impl_members : FuncId := 119
abbrev spec_l11Fault : FuncId := 120
abbrev spec_l19Goes : FuncId := 121
abbrev impl_checkExploration : FuncId := 122
abbrev impl_machine_escapes : FuncId := 123
abbrev spec_l01Masks : FuncId := 124
abbrev spec_l03Word : FuncId := 125
abbrev spec_l01Own : FuncId := 126
abbrev spec_l03First : FuncId := 127
abbrev spec_l03Without : FuncId := 128
abbrev impl_IsAlphabet : FuncId := 129
abbrev impl_isWord : FuncId := 130
abbrev impl_least : FuncId := 131
abbrev impl_ties_firsts : FuncId := 132
abbrev impl_withoutFirst : FuncId := 133
abbrev slices_ContainsFuncSimpl_Automatonimpl_Automaton : FuncId := 134
abbrev impl_checkOverk1 : FuncId := 135
abbrev impl_checkOverk2 : FuncId := 136
abbrev laws_szJoint : FuncId := 137
abbrev spec_l14Places : FuncId := 138
abbrev spec_l14Joints : FuncId := 139
abbrev spec_l01Less : FuncId := 140
abbrev spec_l14Local : FuncId := 141
abbrev spec_l14Step : FuncId := 142
abbrev laws_toJoint : FuncId := 143
abbrev impl_arePlaces : FuncId := 144
abbrev impl_goodJoints : FuncId := 145
abbrev slices_CompareSint64int64 : FuncId := 146
abbrev impl_Asynchronous_move : FuncId := 147
abbrev impl_one : FuncId := 148
abbrev laws_eqJoint : FuncId := 149
abbrev spec_l01Bits : FuncId := 150
abbrev impl_machine_smallest : FuncId := 151
abbrev impl_machine_smallestSourcek1 : FuncId := 152
abbrev impl_machine_smallestPersistentk1 : FuncId := 153
abbrev spec_l19Search : FuncId := 154
abbrev impl_exploration_visit : FuncId := 155
abbrev slices_IndexFuncSSint64Sint64 : FuncId := 156
abbrev impl_allInk1 : FuncId := 157
abbrev slices_IndexFuncSint64int64 : FuncId := 158
abbrev slices_IndexSboolbool : FuncId := 159
abbrev spec_l02Dep : FuncId := 160
abbrev spec_l11Read : FuncId := 161
abbrev impl_machine_diamondFault : FuncId := 162
abbrev impl_machine_goesOn : FuncId := 163
abbrev impl_IsRelation : FuncId := 164
abbrev impl_converse : FuncId := 165
abbrev bits_TrailingZeros64 : FuncId := 166
abbrev slices_IndexSint64int64 : FuncId := 167
abbrev slices_ConcatSint64int64 : FuncId := 168
abbrev slices_IndexFuncSimpl_Automatonimpl_Automaton : FuncId := 169
abbrev spec_l14Part : FuncId := 170
abbrev impl_locals : FuncId := 171
abbrev impl_compareJoints : FuncId := 172
abbrev cmp_Compareint64 : FuncId := 173
abbrev slices_BinarySearchFuncSimpl_Jointimpl_Jointimpl_Joint : FuncId := 174
abbrev slices_CloneSint64int64 : FuncId := 175
abbrev impl_size : FuncId := 176
abbrev impl_depend : FuncId := 177
abbrev impl_machine_step : FuncId := 178
abbrev slices_GrowSint64int64 : FuncId := 179
abbrev cmp_isNaNint64 : FuncId := 180
abbrev bits_OnesCount64 : FuncId := 181
abbrev runtime_boundsError_Error : FuncId := 182
abbrev runtime_boundsError_RuntimeError : FuncId := 183
abbrev runtime_errorString_Error : FuncId := 184
abbrev runtime_errorString_RuntimeError : FuncId := 185
abbrev runtime_plainError_Error : FuncId := 186
abbrev runtime_plainError_RuntimeError : FuncId := 187
abbrev runtime_errorAddressString_Error : FuncId := 188
abbrev runtime_errorAddressString_RuntimeError : FuncId := 189
abbrev runtime_TypeAssertionError_Error : FuncId := 190
abbrev runtime_TypeAssertionError_RuntimeError : FuncId := 191
abbrev runtime_PanicNilError_Error : FuncId := 192
abbrev runtime_PanicNilError_RuntimeError : FuncId := 193
abbrev abi_Type_Align : FuncId := 194
abbrev maps_unhashableTypeError_Error : FuncId := 195
abbrev maps_unhashableTypeError_RuntimeError : FuncId := 196
abbrev impl_Alphabet_tie : FuncId := 197
abbrev impl_Net_enabled : FuncId := 198
abbrev impl_Desk_failed : FuncId := 199
abbrev impl_Asynchronous_reachable : FuncId := 200
abbrev impl_ties_follows : FuncId := 201
abbrev abi_Kind_String : FuncId := 202
abbrev gosem_cut_vars : FuncId := 206
end Go.PR.S.F

end

section
/- The seat's context: what the evaluator is told of this program. -/
namespace Go.PR.S
open Go Go.PR Go.Proofs

def keepTab : List (Nat × Nat × List Nat × List Nat) := [(33, 0, [0, 3, 4], [3]), (36, 0, [0, 1, 5], [4]), (43, 0, [0, 1, 5], [4]), (46, 0, [0, 1, 5], [1]), (47, 0, [0, 1, 5], [1, 4]), (52, 0, [0, 1, 5], [1, 4]), (53, 0, [1, 3, 4], [2]), (53, 2, [1, 3, 4, 5], [1, 2, 3, 4]), (54, 0, [1, 3, 4], [1, 3]), (54, 2, [1, 3, 4, 5], [1, 3, 4]), (54, 4, [1, 3, 4, 5, 6, 7], [1, 3, 4, 5, 6]), (55, 0, [1, 3, 4], [3]), (55, 2, [1, 3, 4, 5], [1, 3, 4]), (55, 4, [1, 3, 4, 5, 6, 7, 8], [1, 3, 4, 5, 6, 7]), (56, 0, [0, 3, 4], [3]), (58, 0, [1, 2, 3, 14, 15], [2, 3]), (59, 0, [1, 3, 4], [3]), (59, 2, [1, 3, 4, 13, 14, 15], [1, 3, 4]), (60, 0, [1, 2, 3, 9, 27, 28, 29], [1, 2, 9]), (63, 0, [3, 4, 5, 10, 11], [8]), (63, 2, [3, 4, 5, 10, 11, 12], [3, 4, 5, 8, 10, 11]), (63, 4, [3, 4, 5, 10, 11, 12, 13], [3, 4, 5, 8, 10, 11, 12]), (65, 0, [2, 3, 4, 5, 9, 36, 37, 38], [2, 3, 4, 9]), (65, 2, [3, 4, 9, 12, 13, 14], [8]), (65, 4, [3, 4, 9, 12, 13, 14, 74, 75, 76], [3, 4, 9, 12, 13, 14]), (66, 0, [3, 4, 5, 9, 10, 11], [8]), (66, 2, [3, 4, 5, 9, 10, 11, 12], [3, 4, 5, 9, 10, 11]), (66, 4, [3, 4, 5, 9, 10, 11, 12, 13, 14, 15], [3, 4, 5, 9, 10, 11, 12, 13, 14, 15]), (69, 0, [1, 3], [2]), (69, 2, [1, 3, 4], [1, 2, 3]), (71, 0, [0, 1, 5], [4]), (72, 0, [2, 5, 6], [5]), (72, 2, [2, 5, 6, 7], [2, 5, 6]), (74, 0, [1, 3], [2]), (77, 0, [0, 1, 12, 13], [4]), (79, 0, [0, 5, 6], [5]), (81, 0, [1, 33, 34], [2]), (83, 0, [0, 1, 5], [1, 4]), (84, 0, [1, 3], [1, 2]), (84, 2, [1, 4], [1, 2]), (86, 0, [1, 2, 5, 6], [5]), (87, 0, [0, 3, 4], [3]), (88, 0, [1, 38, 39, 40], [2]), (89, 0, [0, 12, 13, 14], [4]), (90, 0, [1, 2, 5, 11, 12], [5]), (91, 0, [0, 1, 5], [4]), (92, 0, [2, 3, 4, 5, 9, 10], [9]), (95, 0, [2, 3, 4, 10, 11], [3, 4, 10]), (96, 0, [2, 9, 11, 28, 29], [9, 11]), (97, 0, [5, 12, 13, 14], [5]), (98, 0, [0, 1, 5], [1]), (99, 0, [0, 1, 5], [1, 4]), (107, 0, [1, 2, 5, 6], [5]), (119, 0, [0, 3], [3]), (120, 0, [2, 3, 5], [4]), (120, 2, [2, 3, 5, 6], [2, 3, 4, 5]), (120, 4, [2, 3, 5, 6, 7], [2, 3, 4, 5, 6]), (121, 0, [2, 3, 5], [4]), (121, 2, [2, 3, 5, 6], [2, 3, 4, 5]), (121, 4, [2, 3, 5, 6, 7], [2, 3, 4, 5, 6]), (123, 0, [2, 3, 4, 5, 6, 7, 13, 33, 34, 35], [5, 12, 13]), (124, 0, [0, 1, 5], [4]), (125, 0, [0, 1, 5], [4]), (127, 0, [1, 2, 3, 7], [6]), (129, 0, [1, 25, 26, 27], [2]), (132, 0, [0, 5, 6, 9, 10, 11], [5]), (138, 0, [0, 1, 5], [0, 1, 4]), (139, 0, [1, 3], [1, 2]), (140, 0, [0, 1, 5], [0, 1, 4]), (141, 0, [1, 2, 3, 7, 8], [2, 6, 7]), (142, 0, [1, 2, 3, 8, 9], [6, 7]), (142, 2, [1, 2, 3, 9, 10, 11, 12], [10]), (145, 0, [1, 7, 8, 9], [1, 2]), (146, 0, [0, 1, 9, 10, 11], [0, 1, 4]), (147, 0, [3, 9, 11, 39, 40, 41], [11]), (150, 0, [0, 3], [3]), (151, 0, [1, 2, 3, 7, 14, 15], [7]), (154, 1, [2, 3, 4, 5, 7, 8, 13, 14, 15, 16], [13, 14]), (155, 0, [0, 1, 2, 3, 8, 61, 62, 63], []), (156, 0, [0, 1, 7, 8], [4]), (158, 0, [0, 1, 7, 8], [4]), (159, 0, [0, 1, 7, 8], [4]), (161, 0, [1, 2, 3, 7], [1]), (162, 0, [2, 3, 10, 11], [4]), (162, 2, [2, 3, 5, 10, 11, 15, 16], [2, 3, 4, 10, 11]), (162, 4, [2, 3, 5, 6, 7, 10, 11, 15, 16], [2, 3, 4, 5, 10, 11, 15, 16]), (163, 0, [2, 3, 12, 13], [4]), (163, 2, [2, 3, 5, 12, 13, 19, 20, 21], [2, 3, 4, 12, 13]), (163, 4, [2, 3, 5, 7, 12, 13, 19, 20, 21, 34, 35, 36], [2, 3, 4, 5, 12, 13, 19, 20, 21]), (165, 0, [3, 11, 12, 13], [3]), (165, 2, [3, 4, 11, 12, 13, 19, 20, 21], [3, 11, 12, 13]), (167, 0, [0, 1, 7, 8], [4]), (168, 0, [0, 3, 9, 10, 11], [0, 3]), (168, 2, [6, 25, 26, 27], [6]), (169, 0, [0, 1, 7, 8], [4]), (170, 0, [0, 1, 5, 6], [5]), (171, 0, [0, 5, 10, 11, 12], [5]), (174, 0, [0, 2, 4, 8, 9, 10], [0, 2, 4, 8, 9])]

def byrefTab : List Nat := [44, 45, 46, 60, 98, 123, 154, 155]

def byref (f : FuncId) : Bool := byrefTab.contains f

def keepHint (f : FuncId) (b : Nat) : Option Hint :=
  match keepTab.find? (fun p => p.1 == f && p.2.1 == b) with
  | some p => some ⟨p.2.2.1, if byref f then [500000, 500001, 500002, 500003, 500004, 501000007] else [], p.2.2.2⟩
  | none => none

def deBruijn : List Int := [0, 1, 56, 2, 57, 49, 28, 3, 61, 58, 42, 50, 38, 29, 17, 4, 62, 47, 59, 36, 45, 43, 51, 22, 53, 39, 33, 30, 24, 18, 12, 5, 63, 55, 48, 27, 60, 41, 37, 16, 46, 35, 44, 21, 52, 32, 23, 11, 54, 26, 40, 15, 34, 20, 31, 10, 25, 14, 19, 9, 13, 8, 7, 6]

def glob (g : Nat) : Option D := if g = 0 then some (.pim (deBruijn.map (.int .u8))) else none

def prim (f : FuncId) (args : List D) (prows : List Row) : Option Ret :=
  if f = F.slices_CloneSint64int64 then match args, prows with
    | [.immI .i64 []], [] => some ⟨.rsl 600000 0 0, [], [⟨true, .ints .i64 []⟩]⟩
    | _, _ => none
  else if f = F.bits_TrailingZeros64 then match args, prows with
    | [.int .u64 x], [] => if 0 ≤ x ∧ x < 18446744073709551616 then some ⟨.int .i64 (Lib.ctz 64 x.toNat), [], []⟩ else none
    | _, _ => none
  else none

def nilPos (s : String) : Bool := s == "l11_automata.go:257"

def nestPos (s : String) : Bool := ["exact.go:229", "exact.go:230", "exact.go:234", "l19_exploration.go:265", "l19_exploration.go:267", "l19_exploration.go:281", "l19_exploration.go:284", "l19_exploration.go:286", "l19_exploration.go:292", "l19_exploration.go:294", "l19_exploration.go:296", "l19_exploration.go:298", "l19_exploration.go:300", "l19_exploration.go:301", "l19_exploration.go:302", "l19_exploration.go:303", "l19_exploration.go:305", "l19_exploration.go:306", "l19_exploration.go:309", "l19_exploration.go:310"].contains s

noncomputable def X : Ctx := ctxOf Tryd.prog glob byref keepHint prim nilPos nestPos

abbrev wq (f : FuncId) (b : Nat) (fn : Func) (k : Nat) (s : LSt) (Q : Out → Prop) : Prop := WpL X f b (lb fn k) s.st Q
abbrev wl (f : FuncId) (b : Nat) (fn : Func) (k : Nat) (s : LSt) (o : OutL) : Prop := WpL X f b (lb fn k) s.st fun x => x = o.out
end Go.PR.S

end

section
/- What the evaluator is told of the library's functions, shown over the model. -/
set_option linter.unusedVariables false
set_option linter.unusedSimpArgs false
namespace Go.PR.S
open Go Go.PR Go.Proofs Go.RowKit

set_option maxHeartbeats 1000000 in
theorem tz_core (x k idx : Nat) (w : World) (hx0 : ((x : Int) == 0) = false)
    (key : IntKind.u64.wrap (bits BinOp.and IntKind.u64 (x : Int) (IntKind.u64.wrap (-(x : Int))) * 285870213051353865) / 288230376151711744 = (idx : Int))
    (hi : idx < 64) (hk : k < 64) (hcell : w.cell? ⟨0, idx, none⟩ = some (.int .u8 k)) :
    Calls Tryd.prog 166 #[.int .u64 x] w fun e w' => e = .returned (.int .i64 k) ∧ w' = w := by
  go_enter Tryd.func166, Tryd.ntmps166
  go_wp2_with (simp only [key])
  go_ret
  exact ⟨rfl, rfl⟩

theorem tz_zero (w : World) : Calls Tryd.prog 166 #[.int .u64 0] w fun e w' => e = .returned (.int .i64 64) ∧ w' = w := by
  go_enter Tryd.func166, Tryd.ntmps166
  go_wp2
  go_ret
  exact ⟨rfl, rfl⟩

set_option maxRecDepth 100000 in
theorem clone_none (c : Nat) (w : World) : Calls Tryd.prog 175 #[.slice none 0 c] w fun e w' => ∃ A', e = .returned (.slice A' 0 0) ∧ Keeps (fun _ => False) w w' := by
  go_enter Tryd.func175, Tryd.ntmps175
  have t22 := Tryd.underlying32
  have hn : ∀ w' : World, (binOp .eql 32 (.slice none 0 c) (.slice none 0 0)).run Tryd.prog w' = .ok (.bool (none.isNone)) w' := fun w' => Go.Lib.run_eql_slice_nil w' 32 2 none 0 c 0 0 t22
  go_wp2
  go_ret
  exact ⟨_, rfl, Keeps.refl _ _⟩

set_option maxRecDepth 100000 in
theorem clone_some (A : Addr) (c : Nat) (w : World) : Calls Tryd.prog 175 #[.slice (some A) 0 c] w fun e w' => ∃ A', e = .returned (.slice A' 0 0) ∧ Keeps (fun _ => False) w w' := by
  go_enter Tryd.func175, Tryd.ntmps175
  have t22 := Tryd.underlying32
  have hn : ∀ w' : World, (binOp .eql 32 (.slice (some A) 0 c) (.slice none 0 0)).run Tryd.prog w' = .ok (.bool ((some A).isNone)) w' := fun w' => Go.Lib.run_eql_slice_nil w' 32 2 (some A) 0 c 0 0 t22
  go_wp2
  go_ret
  exact ⟨_, rfl, Keeps.alloc _ _ _⟩

theorem back_nil (r : D) : rowsBack ⟨r, [], []⟩ = fun _ => none := by
  funext i; unfold rowsBack; split
  · simp
  · split <;> simp

theorem one_row {id : Nat} {row rw0 : Row} {d : D} (hr : rowsBack ⟨d, [], [rw0]⟩ id = some row) : id = 600000 ∧ row = rw0 := by
  unfold rowsBack XB PB at hr
  split at hr
  · rename_i hge
    have : id - 600000 = 0 := by
      rcases Nat.eq_zero_or_pos (id - 600000) with h | h
      · exact h
      · rw [List.getElem?_eq_none (by simp only [List.length_singleton]; omega)] at hr; cases hr
    rw [this] at hr
    simp at hr
    exact ⟨by omega, hr.symm⟩
  · split at hr <;> simp at hr

theorem tz_key (x a : Nat) (hx : x < 18446744073709551616) (hx0 : x ≠ 0) (hlow : x &&& (18446744073709551616 - x) = a) :
    IntKind.u64.wrap (bits BinOp.and IntKind.u64 (x : Int) (IntKind.u64.wrap (-(x : Int))) * 285870213051353865) / 288230376151711744 = ((a * 285870213051353865 % 18446744073709551616 / 288230376151711744 : Nat) : Int) := by
  have e1 : IntKind.u64.wrap (-(x : Int)) = ((18446744073709551616 - x : Nat) : Int) := by rw [IntKind.wrap_u64]; omega
  rw [e1, bits_and_u64_nat x _ hx (by omega), hlow, IntKind.wrap_u64]
  omega

theorem tz_calls (x : Nat) (hx : x < 18446744073709551616) (w : World) (hT : ∀ j, j < 64 → w.cell? ⟨0, j, none⟩ = some (.int .u8 (Lib.deBruijn64tab.getD j 0 : Nat))) :
    Calls Tryd.prog 166 #[.int .u64 x] w fun e w' => e = .returned (.int .i64 (Lib.ctz 64 x)) ∧ w' = w := by
  by_cases hx0 : x = 0
  · subst hx0
    exact tz_zero w
  · obtain ⟨hlow, hk⟩ := Lib.lowest_bit 64 x hx0 hx
    obtain ⟨hi, htab⟩ := Lib.deBruijn64_at _ hk
    have hcell := hT _ hi
    rw [htab] at hcell
    exact tz_core x _ _ w (by simp; omega) (tz_key x _ hx hx0 hlow) hi hk hcell

theorem tab_eq : ∀ j, j < 64 → deBruijn.getD j 0 = (Lib.deBruijn64tab.getD j 0 : Nat) := by decide +kernel

theorem prim_sound : ∀ f args prows r, X.prim f args prows = some r → Sound Tryd.prog X f args prows r := by
  intro f args prows r h
  have h' : prim f args prows = some r := h
  unfold prim at h'
  split at h'
  · rename_i hf
    subst hf
    split at h'
    case h_2 => cases h'
    cases h'
    intro w M mu vs hs
    have hv := hs.env
    simp only [List.toList_toArray] at hv
    cases vs with
    | nil => simp only [RepL] at hv
    | cons v vs =>
      cases vs with
      | cons => simp only [RepL] at hv; exact hv.2.elim
      | nil =>
        simp only [RepL, Rep] at hv
        obtain ⟨⟨A, c, rfl, _, _⟩, _⟩ := hv
        have key : Calls Tryd.prog 175 #[.slice A 0 c] w fun e w' => ∃ A', e = .returned (.slice A' 0 0) ∧ Keeps (fun _ => False) w w' := by
          cases A with
          | none => exact clone_none c w
          | some A => exact clone_some A c w
        refine key.mono ?_
        rintro e w' ⟨A', rfl, hk⟩
        let mu' : Nat → Option Loc := fun i => if i = 600000 then some .nowhere else mu i
        have hs' := hs.world hk
        refine ⟨_, M, mu', rfl, { hs' with env := ?_, rows := ?_, apart := ?_, pin := ?_ }⟩
        · simp only [RepL, Rep]
          exact ⟨⟨.nowhere, by simp [mu'], rfl, A', rfl⟩, trivial⟩
        · intro id row hr
          have hid := one_row hr
          obtain ⟨rfl, rfl⟩ := hid
          exact ⟨.nowhere, by simp [mu'], by simp [ContRep, intsV]⟩
        · intro i j ri rj b hij hi hj
          have one : ∀ i ri, rowsBack ⟨.rsl 600000 0 0, [], [⟨true, .ints .i64 []⟩]⟩ i = some ri → i = 600000 := fun i ri hr => (one_row hr).1
          exact (hij ((one i ri hi).trans (one j rj hj).symm)).elim
        · intro i hi
          have : i ≠ 600000 := fun e => by have := hi.2; unfold XB at this; omega
          simp [mu', this]
  · split at h'
    · rename_i hf
      subst hf
      split at h'
      case h_2 => cases h'
      rename_i x
      split at h'
      case isFalse => cases h'
      rename_i hx
      cases h'
      intro w M mu vs hs
      have hv := hs.env
      simp only [List.toList_toArray] at hv
      cases vs with
      | nil => simp only [RepL] at hv
      | cons v vs =>
        cases vs with
        | cons => simp only [RepL] at hv; exact hv.2.elim
        | nil =>
          simp only [RepL, Rep] at hv
          obtain ⟨rfl, _⟩ := hv
          have hg := hs.glob 0 (.pim (deBruijn.map (.int .u8))) rfl
          simp only [Rep] at hg
          obtain ⟨ad, cv, e1, hr, hh⟩ := hg
          cases e1
          have hT : ∀ j, j < 64 → w.cell? ⟨0, j, none⟩ = some (.int .u8 (Lib.deBruijn64tab.getD j 0 : Nat)) := by
            intro j hj
            have hlen : deBruijn.length = 64 := by decide
            obtain ⟨u, hu, hru⟩ := hr.get j (.int .u8 (deBruijn.getD j 0)) (by
              rw [List.getElem?_map, List.getElem?_eq_getElem (by omega)]
              simp [List.getD, List.getElem?_eq_getElem (show j < deBruijn.length by omega)])
            simp only [Rep] at hru
            subst hru
            have := (held_cell hh hu).1
            rw [addr_add_lit, Nat.zero_add] at this
            rw [this, tab_eq j hj]
          obtain ⟨m, rfl⟩ : ∃ m : Nat, x = m := ⟨x.toNat, by omega⟩
          refine (tz_calls m (by omega) w hT).mono ?_
          rintro e w' ⟨rfl, rfl⟩
          refine ⟨_, M, mu, rfl, { hs with env := ?_, rows := ?_, apart := ?_ }⟩
          · simp only [RepL, Rep, Int.toNat_natCast, and_self]
          · intro id row hr; rw [back_nil] at hr; cases hr
          · intro i j ri rj b hij hi; rw [back_nil] at hi; cases hi
    · cases h'

theorem X_ok : XOK Tryd.prog X := ctxOf_ok (by kernel_rfl)

theorem Runs.sound {f : FuncId} {args : List D} {prows : List Row} {r : Ret} (h : Runs X f args prows r) : Sound Tryd.prog X f args prows r := by
  obtain ⟨K, hK⟩ := h
  exact evalFn_sound X_ok prim_sound K f args prows r (hK K (Nat.le_refl _))

end Go.PR.S

end

section
/- Masks: the operations on bits, told on natural numbers. -/
set_option linter.unusedVariables false
namespace Go.PR
open Go

def tb (m i : Int) : Bool := m.toNat.testBit i.toNat

theorem wrap_nat {a : Nat} (h : a < 2 ^ 63) : IntKind.i64.wrap (a : Int) = a := by
  rw [IntKind.wrap_i64]; omega

theorem ofInt_toNat {a : Nat} (h : a < 2 ^ 63) : (BitVec.ofInt 64 (a : Int)).toNat = a := by
  rw [BitVec.toNat_ofInt]; omega

theorem iand_nat {a b : Nat} (ha : a < 2 ^ 63) (hb : b < 2 ^ 63) : iand a b = (a &&& b : Nat) := by
  show IntKind.i64.wrap (BitVec.ofInt 64 (a : Int) &&& BitVec.ofInt 64 (b : Int)).toNat = _
  simp only [BitVec.toNat_and, ofInt_toNat ha, ofInt_toNat hb]
  exact wrap_nat (Nat.lt_of_le_of_lt Nat.and_le_left ha)

theorem ior_nat {a b : Nat} (ha : a < 2 ^ 63) (hb : b < 2 ^ 63) : ior a b = (a ||| b : Nat) := by
  show IntKind.i64.wrap (BitVec.ofInt 64 (a : Int) ||| BitVec.ofInt 64 (b : Int)).toNat = _
  simp only [BitVec.toNat_or, ofInt_toNat ha, ofInt_toNat hb]
  exact wrap_nat (Nat.or_lt_two_pow ha hb)

theorem ishr_nat (a i : Nat) : ishr a i = (a / 2 ^ min i 64 : Nat) := by
  unfold ishr
  rw [Int.toNat_natCast]
  have : (2 : Int) ^ min i 64 = ((2 ^ min i 64 : Nat) : Int) := by simp
  rw [this, Int.fdiv_eq_ediv_of_nonneg _ (Int.natCast_nonneg _)]
  rfl

theorem ishl_nat (a i : Nat) : ishl a i = (a * 2 ^ min i 64 : Nat) := by
  unfold ishl
  rw [Int.toNat_natCast]
  simp

theorem one_nat {i : Nat} (h : i ≤ 62) : ishl 1 i = (2 ^ i : Nat) := by
  have := ishl_nat 1 i
  rw [Nat.min_eq_left (by omega), Nat.one_mul] at this
  exact this

theorem pow62 {i : Nat} (h : i ≤ 62) : 2 ^ i < 2 ^ 63 := Nat.pow_lt_pow_right (by omega) (by omega)

theorem has_nat {m i : Nat} (h : m < 2 ^ 63) : (iand (ishr m i) 1 == 1) = tb m i := by
  have hs : m / 2 ^ min i 64 < 2 ^ 63 := Nat.lt_of_le_of_lt (Nat.div_le_self _ _) h
  have h1 : iand (ishr m i) 1 = ((m / 2 ^ min i 64 &&& 1 : Nat) : Int) := by rw [ishr_nat]; exact iand_nat (b := 1) hs (by omega)
  rw [h1]
  unfold tb
  simp only [Int.toNat_natCast]
  rw [Nat.and_one_is_mod]
  by_cases hi : i ≤ 64
  · rw [Nat.min_eq_left hi, Nat.testBit_eq_decide_div_mod_eq]
    rw [Bool.eq_iff_iff, beq_iff_eq, decide_eq_true_iff]; omega
  · rw [Nat.min_eq_right (by omega), Nat.div_eq_of_lt (by omega)]
    have : m.testBit i = false := Nat.testBit_lt_two_pow (Nat.lt_of_lt_of_le h (Nat.pow_le_pow_right (by omega) (by omega)))
    rw [this]; decide

def mkM (f : Nat → Bool) : Nat → Nat
  | 0 => 0
  | m + 1 => mkM f m ||| (if f m then 2 ^ m else 0)

theorem mkM_bit (f : Nat → Bool) : ∀ (m i : Nat), (mkM f m).testBit i = (decide (i < m) && f i)
  | 0, i => by simp [mkM]
  | m + 1, i => by
    simp only [mkM, Nat.testBit_or, mkM_bit f m i]
    by_cases h : f m
    · rw [if_pos h, Nat.testBit_two_pow]
      by_cases e : m = i
      · subst e; simp [h]
      · have : decide (i < m + 1) = decide (i < m) := by rw [Bool.eq_iff_iff]; simp; omega
        simp [e, this]
    · rw [if_neg h]
      by_cases e : m = i
      · subst e; simp at h; simp [h]
      · have : decide (i < m + 1) = decide (i < m) := by rw [Bool.eq_iff_iff]; simp; omega
        simp [this]

theorem mkM_lt (f : Nat → Bool) (m : Nat) : mkM f m < 2 ^ m := by
  refine Nat.lt_pow_two_of_testBit _ fun i hi => ?_
  rw [mkM_bit]; simp; omega

theorem bit_lt {a m i : Nat} (ha : a < 2 ^ m) (h : a.testBit i = true) : i < m := by
  rcases Nat.lt_or_ge i m with hh | hh
  · exact hh
  · rw [Nat.testBit_lt_two_pow (Nat.lt_of_lt_of_le ha (Nat.pow_le_pow_right (by omega) hh))] at h
    cases h

end Go.PR

end
