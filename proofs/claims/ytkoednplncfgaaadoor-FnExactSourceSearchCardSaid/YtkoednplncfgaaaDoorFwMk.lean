/- The functions' numbers, by name (written by names.py). -/
import GoSem.Core.Code
import Derived.Test.YtkoednplncfgaaaDoorFwAb
import Derived.KernelRfl
import Derived.Lib.TrailingZeros
import Derived.Test.YtkoednplncfgaaaDoorProg
import Derived.WalkKit
import Derived.Lib.SliceRun
import Derived.Laws.Bits64b
import Derived.Test.YtkoednplncfgaaaDoorChecked
set_option linter.unusedVariables false
set_option linter.unusedSimpArgs false
section
namespace Go.PR.S.F
open Go
abbrev z11m : FuncId := 0
abbrev zzw : FuncId := 1
abbrev zzx : FuncId := 2
abbrev z10y : FuncId := 3
abbrev z110 : FuncId := 4
abbrev z111 : FuncId := 5
abbrev z10z : FuncId := 6
abbrev z113 : FuncId := 7
abbrev z116 : FuncId := 8
abbrev z115 : FuncId := 9
abbrev z114 : FuncId := 10
abbrev z75 : FuncId := 11
abbrev z112 : FuncId := 12
abbrev z64 : FuncId := 13
abbrev z127 : FuncId := 14
abbrev z55 : FuncId := 15
abbrev z104 : FuncId := 16
abbrev z8q : FuncId := 17
abbrev z53 : FuncId := 18
abbrev z12a : FuncId := 19
abbrev z54 : FuncId := 20
abbrev z109 : FuncId := 21
abbrev z8p : FuncId := 22
abbrev z12b : FuncId := 23
abbrev z10a : FuncId := 24
abbrev z11d : FuncId := 25
abbrev z129 : FuncId := 26
abbrev z11i : FuncId := 27
abbrev z107 : FuncId := 28
abbrev z118 : FuncId := 29
abbrev z11c : FuncId := 30
abbrev z12d : FuncId := 31
abbrev z11h : FuncId := 32
abbrev z35 : FuncId := 33
abbrev z10f : FuncId := 34
abbrev z117 : FuncId := 35
abbrev z32 : FuncId := 36
abbrev z12g : FuncId := 37
abbrev z10i : FuncId := 38
abbrev z12f : FuncId := 39
abbrev z10h : FuncId := 40
abbrev z12e : FuncId := 41
abbrev z10g : FuncId := 42
abbrev z2d : FuncId := 43
abbrev z8v : FuncId := 44
abbrev z8w : FuncId := 45
abbrev z34 : FuncId := 46
abbrev z33 : FuncId := 47
abbrev zcy : FuncId := 48
abbrev z7w : FuncId := 49
abbrev z12c : FuncId := 50
abbrev z10d : FuncId := 51
abbrev z1w : FuncId := 52
abbrev zi : FuncId := 53
abbrev zh : FuncId := 54
abbrev z12w : FuncId := 55
abbrev z3n : FuncId := 56
abbrev z46 : FuncId := 57
abbrev z1u : FuncId := 58
abbrev zz : FuncId := 59
abbrev z10q : FuncId := 60
abbrev z49 : FuncId := 61
abbrev z2j : FuncId := 62
abbrev z12x : FuncId := 63
abbrev z10k : FuncId := 64
abbrev z10r : FuncId := 65
abbrev z6 : FuncId := 66
abbrev z4x : FuncId := 67
abbrev z11g : FuncId := 68
abbrev zj : FuncId := 69
abbrev z12k : FuncId := 70
abbrev z12i : FuncId := 71
abbrev z12l : FuncId := 72
abbrev z2a : FuncId := 73
abbrev z12v : FuncId := 74
abbrev z11l : FuncId := 75
abbrev z10b : FuncId := 76
abbrev z124 : FuncId := 77
abbrev z100 : FuncId := 78
abbrev z10w : FuncId := 79
abbrev z2o : FuncId := 80
abbrev z108 : FuncId := 81
abbrev z11b : FuncId := 82
abbrev z11f : FuncId := 83
abbrev z128 : FuncId := 84
abbrev z12o : FuncId := 85
abbrev z12t : FuncId := 86
abbrev z11k : FuncId := 87
abbrev z106 : FuncId := 88
abbrev z10n : FuncId := 89
abbrev z102 : FuncId := 90
abbrev z11a : FuncId := 91
abbrev z1h : FuncId := 92
abbrev z8i : FuncId := 93
abbrev z10s : FuncId := 94
abbrev z2k : FuncId := 95
abbrev z23 : FuncId := 96
abbrev za : FuncId := 97
abbrev z1d : FuncId := 98
abbrev z3l : FuncId := 99
abbrev z3g : FuncId := 100
abbrev z10e : FuncId := 101
abbrev zq : FuncId := 102
abbrev z7 : FuncId := 103
abbrev z11 : FuncId := 104
abbrev zo : FuncId := 105
abbrev z4f : FuncId := 106
abbrev zu : FuncId := 107
abbrev z1t : FuncId := 108
abbrev zk : FuncId := 109
abbrev z6z : FuncId := 110
abbrev z9h : FuncId := 111
abbrev z1r : FuncId := 112
abbrev z4u : FuncId := 113
abbrev z2b : FuncId := 114
abbrev z48 : FuncId := 115
abbrev z2u : FuncId := 116
abbrev z1j : FuncId := 117
abbrev z9i : FuncId := 118
abbrev zw : FuncId := 119
abbrev zb : FuncId := 120
abbrev z8 : FuncId := 121
abbrev z2z : FuncId := 122
abbrev z14 : FuncId := 123
abbrev z22 : FuncId := 124
abbrev z12n : FuncId := 125
abbrev z5h : FuncId := 126
abbrev z12j : FuncId := 127
abbrev z12m : FuncId := 128
abbrev z12 : FuncId := 129
abbrev z10o : FuncId := 130
abbrev zn0 : FuncId := 131
abbrev z10u : FuncId := 132
abbrev z10x : FuncId := 133
abbrev z2t : FuncId := 134
abbrev z1i : FuncId := 135
abbrev z1s : FuncId := 136
abbrev z11e : FuncId := 137
abbrev z12s : FuncId := 138
abbrev z12p : FuncId := 139
abbrev z12h : FuncId := 140
abbrev z12q : FuncId := 141
abbrev z12u : FuncId := 142
abbrev z11j : FuncId := 143
abbrev z10j : FuncId := 144
abbrev z10m : FuncId := 145
abbrev z122 : FuncId := 146
abbrev z101 : FuncId := 147
abbrev z1v : FuncId := 148
abbrev z119 : FuncId := 149
abbrev zp : FuncId := 150
abbrev z20 : FuncId := 151
abbrev z4y : FuncId := 152
abbrev z10t : FuncId := 153
abbrev zd : FuncId := 154
abbrev ze : FuncId := 155
abbrev z2f : FuncId := 156
abbrev z13 : FuncId := 157
abbrev zf : FuncId := 158
abbrev z2g : FuncId := 159
abbrev z2h : FuncId := 160
abbrev z2i : FuncId := 161
abbrev z9 : FuncId := 162
abbrev zg : FuncId := 163
abbrev z5t : FuncId := 164
abbrev z1a : FuncId := 165
abbrev z6p : FuncId := 166
abbrev z126 : FuncId := 167
abbrev z123 : FuncId := 168
abbrev zn : FuncId := 169
abbrev z12r : FuncId := 170
abbrev z10p : FuncId := 171
abbrev z10l : FuncId := 172
abbrev zzu : FuncId := 173
abbrev z121 : FuncId := 174
abbrev z6e : FuncId := 175
abbrev z3k : FuncId := 176
abbrev z5v : FuncId := 177
abbrev z1b : FuncId := 178
abbrev z125 : FuncId := 179
abbrev zzv : FuncId := 180
abbrev z7n : FuncId := 181
abbrev z11t : FuncId := 182
abbrev z11u : FuncId := 183
abbrev z11x : FuncId := 184
abbrev z11y : FuncId := 185
abbrev z11z : FuncId := 186
abbrev z120 : FuncId := 187
abbrev z11v : FuncId := 188
abbrev z11w : FuncId := 189
abbrev z11r : FuncId := 190
abbrev z11s : FuncId := 191
abbrev z11p : FuncId := 192
abbrev z11q : FuncId := 193
abbrev zzt : FuncId := 194
abbrev z11n : FuncId := 195
abbrev z11o : FuncId := 196
abbrev zzz : FuncId := 197
abbrev z10c : FuncId := 198
abbrev z105 : FuncId := 199
abbrev z103 : FuncId := 200
abbrev z10v : FuncId := 201
abbrev zzs : FuncId := 202
abbrev zzy : FuncId := 206
end Go.PR.S.F

end

section
namespace Go.PR.S
open Go Go.PR Go.Proofs
def keepTab : List (Nat × Nat × List Nat × List Nat) := [(33, 0, [0, 3, 4], [3]), (36, 0, [0, 1, 5], [4]), (43, 0, [0, 1, 5], [4]), (46, 0, [0, 1, 5], [1]), (47, 0, [0, 1, 5], [1, 4]), (52, 0, [0, 1, 5], [1, 4]), (53, 0, [1, 3, 4], [2]), (53, 2, [1, 3, 4, 5], [1, 2, 3, 4]), (54, 0, [1, 3, 4], [1, 3]), (54, 2, [1, 3, 4, 5], [1, 3, 4]), (54, 4, [1, 3, 4, 5, 6, 7], [1, 3, 4, 5, 6]), (55, 0, [1, 3, 4], [3]), (55, 2, [1, 3, 4, 5], [1, 3, 4]), (55, 4, [1, 3, 4, 5, 6, 7, 8], [1, 3, 4, 5, 6, 7]), (56, 0, [0, 3, 4], [3]), (58, 0, [1, 2, 3, 14, 15], [2, 3]), (59, 0, [1, 3, 4], [3]), (59, 2, [1, 3, 4, 13, 14, 15], [1, 3, 4]), (60, 0, [1, 2, 3, 9, 27, 28, 29], [1, 2, 9]), (63, 0, [3, 4, 5, 10, 11], [8]), (63, 2, [3, 4, 5, 10, 11, 12], [3, 4, 5, 8, 10, 11]), (63, 4, [3, 4, 5, 10, 11, 12, 13], [3, 4, 5, 8, 10, 11, 12]), (65, 0, [2, 3, 4, 5, 9, 36, 37, 38], [2, 3, 4, 9]), (65, 2, [3, 4, 9, 12, 13, 14], [8]), (65, 4, [3, 4, 9, 12, 13, 14, 74, 75, 76], [3, 4, 9, 12, 13, 14]), (66, 0, [3, 4, 5, 9, 10, 11], [8]), (66, 2, [3, 4, 5, 9, 10, 11, 12], [3, 4, 5, 9, 10, 11]), (66, 4, [3, 4, 5, 9, 10, 11, 12, 13, 14, 15], [3, 4, 5, 9, 10, 11, 12, 13, 14, 15]), (69, 0, [1, 3], [2]), (69, 2, [1, 3, 4], [1, 2, 3]), (71, 0, [0, 1, 5], [4]), (72, 0, [2, 5, 6], [5]), (72, 2, [2, 5, 6, 7], [2, 5, 6]), (74, 0, [1, 3], [2]), (77, 0, [0, 1, 12, 13], [4]), (79, 0, [0, 5, 6], [5]), (81, 0, [1, 33, 34], [2]), (83, 0, [0, 1, 5], [1, 4]), (84, 0, [1, 3], [1, 2]), (84, 2, [1, 4], [1, 2]), (86, 0, [1, 2, 5, 6], [5]), (87, 0, [0, 3, 4], [3]), (88, 0, [1, 38, 39, 40], [2]), (89, 0, [0, 12, 13, 14], [4]), (90, 0, [1, 2, 5, 11, 12], [5]), (91, 0, [0, 1, 5], [4]), (92, 0, [2, 3, 4, 5, 9, 10], [9]), (95, 0, [2, 3, 4, 10, 11], [3, 4, 10]), (96, 0, [2, 9, 11, 28, 29], [9, 11]), (97, 0, [5, 12, 13, 14], [5]), (98, 0, [0, 1, 5], [1]), (99, 0, [0, 1, 5], [1, 4]), (107, 0, [1, 2, 5, 6], [5]), (119, 0, [0, 3], [3]), (120, 0, [2, 3, 5], [4]), (120, 2, [2, 3, 5, 6], [2, 3, 4, 5]), (120, 4, [2, 3, 5, 6, 7], [2, 3, 4, 5, 6]), (121, 0, [2, 3, 5], [4]), (121, 2, [2, 3, 5, 6], [2, 3, 4, 5]), (121, 4, [2, 3, 5, 6, 7], [2, 3, 4, 5, 6]), (123, 0, [2, 3, 4, 5, 6, 7, 13, 33, 34, 35], [5, 12, 13]), (124, 0, [0, 1, 5], [4]), (125, 0, [0, 1, 5], [4]), (127, 0, [1, 2, 3, 7], [6]), (129, 0, [1, 25, 26, 27], [2]), (132, 0, [0, 5, 6, 9, 10, 11], [5]), (138, 0, [0, 1, 5], [0, 1, 4]), (139, 0, [1, 3], [1, 2]), (140, 0, [0, 1, 5], [0, 1, 4]), (141, 0, [1, 2, 3, 7, 8], [2, 6, 7]), (142, 0, [1, 2, 3, 8, 9], [6, 7]), (142, 2, [1, 2, 3, 9, 10, 11, 12], [10]), (145, 0, [1, 7, 8, 9], [1, 2]), (146, 0, [0, 1, 9, 10, 11], [0, 1, 4]), (147, 0, [3, 9, 11, 39, 40, 41], [11]), (150, 0, [0, 3], [3]), (151, 0, [1, 2, 3, 7, 14, 15], [7]), (154, 1, [2, 3, 4, 5, 7, 8, 13, 14, 15, 16], [13, 14]), (155, 0, [0, 1, 2, 3, 8, 61, 62, 63], []), (156, 0, [0, 1, 7, 8], [4]), (158, 0, [0, 1, 7, 8], [4]), (159, 0, [0, 1, 7, 8], [4]), (161, 0, [1, 2, 3, 7], [1]), (162, 0, [2, 3, 10, 11], [4]), (162, 2, [2, 3, 5, 10, 11, 15, 16], [2, 3, 4, 10, 11]), (162, 4, [2, 3, 5, 6, 7, 10, 11, 15, 16], [2, 3, 4, 5, 10, 11, 15, 16]), (163, 0, [2, 3, 12, 13], [4]), (163, 2, [2, 3, 5, 12, 13, 19, 20, 21], [2, 3, 4, 12, 13]), (163, 4, [2, 3, 5, 7, 12, 13, 19, 20, 21, 34, 35, 36], [2, 3, 4, 5, 12, 13, 19, 20, 21]), (165, 0, [3, 11, 12, 13], [3]), (165, 2, [3, 4, 11, 12, 13, 19, 20, 21], [3, 11, 12, 13]), (167, 0, [0, 1, 7, 8], [4]), (168, 0, [0, 3, 9, 10, 11], [0, 3]), (168, 2, [6, 25, 26, 27], [6]), (169, 0, [0, 1, 7, 8], [4]), (170, 0, [0, 1, 5, 6], [5]), (171, 0, [0, 5, 10, 11, 12], [5]), (174, 0, [0, 2, 4, 8, 9, 10], [0, 2, 4, 8, 9])]
def zjv : List Nat := [44, 45, 46, 60, 98, 123, 154, 155]
def byref (f : FuncId) : Bool := zjv.contains f
def zp4 (f : FuncId) (b : Nat) : Option Hint :=
  match keepTab.find? (fun p => p.1 == f && p.2.1 == b) with
  | some p => some ⟨p.2.2.1, if byref f then [500000, 500001, 500002, 500003, 500004, 501000007] else [], p.2.2.2⟩
  | none => none
def z1o : List Int := [0, 1, 56, 2, 57, 49, 28, 3, 61, 58, 42, 50, 38, 29, 17, 4, 62, 47, 59, 36, 45, 43, 51, 22, 53, 39, 33, 30, 24, 18, 12, 5, 63, 55, 48, 27, 60, 41, 37, 16, 46, 35, 44, 21, 52, 32, 23, 11, 54, 26, 40, 15, 34, 20, 31, 10, 25, 14, 19, 9, 13, 8, 7, 6]
def glob (g : Nat) : Option D := if g = 0 then some (.pim (z1o.map (.int .u8))) else none
def prim (f : FuncId) (args : List D) (prows : List Row) : Option Ret :=
  if f = F.z6e then match args, prows with
    | [.immI .i64 []], [] => some ⟨.rsl 600000 0 0, [], [⟨true, .ints .i64 []⟩]⟩
    | _, _ => none
  else if f = F.z6p then match args, prows with
    | [.int .u64 x], [] => if 0 ≤ x ∧ x < 18446744073709551616 then some ⟨.int .i64 (Lib.ctz 64 x.toNat), [], []⟩ else none
    | _, _ => none
  else none
def nilPos (s : String) : Bool := s == "l11_automata.go:257"
def nestPos (s : String) : Bool := ["exact.go:229", "exact.go:230", "exact.go:234", "l19_exploration.go:265", "l19_exploration.go:267", "l19_exploration.go:281", "l19_exploration.go:284", "l19_exploration.go:286", "l19_exploration.go:292", "l19_exploration.go:294", "l19_exploration.go:296", "l19_exploration.go:298", "l19_exploration.go:300", "l19_exploration.go:301", "l19_exploration.go:302", "l19_exploration.go:303", "l19_exploration.go:305", "l19_exploration.go:306", "l19_exploration.go:309", "l19_exploration.go:310"].contains s
noncomputable def X : Ctx := ctxOf Tryd.prog glob byref zp4 prim nilPos nestPos
abbrev wq (f : FuncId) (b : Nat) (fn : Func) (k : Nat) (s : LSt) (Q : Out → Prop) : Prop := WpL X f b (lb fn k) s.st Q
abbrev wl (f : FuncId) (b : Nat) (fn : Func) (k : Nat) (s : LSt) (o : OutL) : Prop := WpL X f b (lb fn k) s.st fun x => x = o.out
end Go.PR.S

end

section
namespace Go.PR.S
open Go Go.PR Go.Proofs Go.RowKit
set_option maxHeartbeats 1000000 in
theorem tz_core (x k idx : Nat) (w : World) (hx0 : ((x : Int) == 0) = false)
    (key : IntKind.u64.wrap (bits BinOp.and IntKind.u64 (x : Int) (IntKind.u64.wrap (-(x : Int))) * 285870213051353865) / 288230376151711744 = (idx : Int))
    (hi : idx < 64) (hk : k < 64) (hcell : w.cell? ⟨0, idx, none⟩ = some (.int .u8 k)) :
    Calls Tryd.prog 166 #[.int .u64 x] w fun e w' => e = .returned (.int .i64 k) ∧ w' = w := by
  go_enter Tryd.func166, Tryd.ntmps166
  go_wp2_with (simp only [key])
  go_ret
  exact ⟨rfl, rfl⟩
theorem tz_zero (w : World) : Calls Tryd.prog 166 #[.int .u64 0] w fun e w' => e = .returned (.int .i64 64) ∧ w' = w := by
  go_enter Tryd.func166, Tryd.ntmps166
  go_wp2
  go_ret
  exact ⟨rfl, rfl⟩
set_option maxRecDepth 100000 in
theorem zk0 (c : Nat) (w : World) : Calls Tryd.prog 175 #[.slice none 0 c] w fun e w' => ∃ A', e = .returned (.slice A' 0 0) ∧ Keeps (fun _ => False) w w' := by
  go_enter Tryd.func175, Tryd.ntmps175
  have t22 := Tryd.underlying32
  have hn : ∀ w' : World, (binOp .eql 32 (.slice none 0 c) (.slice none 0 0)).run Tryd.prog w' = .ok (.bool (none.isNone)) w' := fun w' => Go.Lib.run_eql_slice_nil w' 32 2 none 0 c 0 0 t22
  go_wp2
  go_ret
  exact ⟨_, rfl, Keeps.refl _ _⟩
set_option maxRecDepth 100000 in
theorem zk1 (A : Addr) (c : Nat) (w : World) : Calls Tryd.prog 175 #[.slice (some A) 0 c] w fun e w' => ∃ A', e = .returned (.slice A' 0 0) ∧ Keeps (fun _ => False) w w' := by
  go_enter Tryd.func175, Tryd.ntmps175
  have t22 := Tryd.underlying32
  have hn : ∀ w' : World, (binOp .eql 32 (.slice (some A) 0 c) (.slice none 0 0)).run Tryd.prog w' = .ok (.bool ((some A).isNone)) w' := fun w' => Go.Lib.run_eql_slice_nil w' 32 2 (some A) 0 c 0 0 t22
  go_wp2
  go_ret
  exact ⟨_, rfl, Keeps.alloc _ _ _⟩
theorem zdn (r : D) : z10 ⟨r, [], []⟩ = fun _ => none := by
  funext i; unfold z10; split
  · simp
  · split <;> simp
theorem one_row {id : Nat} {row rw0 : Row} {d : D} (hr : z10 ⟨d, [], [rw0]⟩ id = some row) : id = 600000 ∧ row = rw0 := by
  unfold z10 XB PB at hr
  split at hr
  · rename_i hge
    have : id - 600000 = 0 := by
      rcases Nat.eq_zero_or_pos (id - 600000) with h | h
      · exact h
      · rw [List.getElem?_eq_none (by simp only [List.length_singleton]; omega)] at hr; cases hr
    rw [this] at hr
    simp at hr
    exact ⟨by omega, hr.symm⟩
  · split at hr <;> simp at hr
theorem tz_key (x a : Nat) (hx : x < 18446744073709551616) (hx0 : x ≠ 0) (hlow : x &&& (18446744073709551616 - x) = a) :
    IntKind.u64.wrap (bits BinOp.and IntKind.u64 (x : Int) (IntKind.u64.wrap (-(x : Int))) * 285870213051353865) / 288230376151711744 = ((a * 285870213051353865 % 18446744073709551616 / 288230376151711744 : Nat) : Int) := by
  have e1 : IntKind.u64.wrap (-(x : Int)) = ((18446744073709551616 - x : Nat) : Int) := by rw [IntKind.wrap_u64]; omega
  rw [e1, bits_and_u64_nat x _ hx (by omega), hlow, IntKind.wrap_u64]
  omega
theorem zzj (x : Nat) (hx : x < 18446744073709551616) (w : World) (hT : ∀ j, j < 64 → w.cell? ⟨0, j, none⟩ = some (.int .u8 (Lib.deBruijn64tab.getD j 0 : Nat))) :
    Calls Tryd.prog 166 #[.int .u64 x] w fun e w' => e = .returned (.int .i64 (Lib.ctz 64 x)) ∧ w' = w := by
  by_cases hx0 : x = 0
  · subst hx0
    exact tz_zero w
  · obtain ⟨hlow, hk⟩ := Lib.lowest_bit 64 x hx0 hx
    obtain ⟨hi, htab⟩ := Lib.deBruijn64_at _ hk
    have hcell := hT _ hi
    rw [htab] at hcell
    exact tz_core x _ _ w (by simp; omega) (tz_key x _ hx hx0 hlow) hi hk hcell
theorem tab_eq : ∀ j, j < 64 → z1o.getD j 0 = (Lib.deBruijn64tab.getD j 0 : Nat) := by decide +kernel
theorem zs1 : ∀ f args prows r, X.prim f args prows = some r → Sound Tryd.prog X f args prows r := by
  intro f args prows r h
  have h' : prim f args prows = some r := h
  unfold prim at h'
  split at h'
  · rename_i hf
    subst hf
    split at h'
    case h_2 => cases h'
    cases h'
    intro w M mu vs hs
    have hv := hs.env
    simp only [List.toList_toArray] at hv
    cases vs with
    | nil => simp only [RepL] at hv
    | cons v vs =>
      cases vs with
      | cons => simp only [RepL] at hv; exact hv.2.elim
      | nil =>
        simp only [RepL, Rep] at hv
        obtain ⟨⟨A, c, rfl, _, _⟩, _⟩ := hv
        have key : Calls Tryd.prog 175 #[.slice A 0 c] w fun e w' => ∃ A', e = .returned (.slice A' 0 0) ∧ Keeps (fun _ => False) w w' := by
          cases A with
          | none => exact zk0 c w
          | some A => exact zk1 A c w
        refine key.mono ?_
        rintro e w' ⟨A', rfl, hk⟩
        let mu' : Nat → Option Loc := fun i => if i = 600000 then some .nowhere else mu i
        have hs' := hs.world hk
        refine ⟨_, M, mu', rfl, { hs' with env := ?_, rows := ?_, apart := ?_, pin := ?_ }⟩
        · simp only [RepL, Rep]
          exact ⟨⟨.nowhere, by simp [mu'], rfl, A', rfl⟩, trivial⟩
        · intro id row hr
          have hid := one_row hr
          obtain ⟨rfl, rfl⟩ := hid
          exact ⟨.nowhere, by simp [mu'], by simp [ContRep, intsV]⟩
        · intro i j ri rj b hij hi hj
          have one : ∀ i ri, z10 ⟨.rsl 600000 0 0, [], [⟨true, .ints .i64 []⟩]⟩ i = some ri → i = 600000 := fun i ri hr => (one_row hr).1
          exact (hij ((one i ri hi).trans (one j rj hj).symm)).elim
        · intro i hi
          have : i ≠ 600000 := fun e => by have := hi.2; unfold XB at this; omega
          simp [mu', this]
  · split at h'
    · rename_i hf
      subst hf
      split at h'
      case h_2 => cases h'
      rename_i x
      split at h'
      case isFalse => cases h'
      rename_i hx
      cases h'
      intro w M mu vs hs
      have hv := hs.env
      simp only [List.toList_toArray] at hv
      cases vs with
      | nil => simp only [RepL] at hv
      | cons v vs =>
        cases vs with
        | cons => simp only [RepL] at hv; exact hv.2.elim
        | nil =>
          simp only [RepL, Rep] at hv
          obtain ⟨rfl, _⟩ := hv
          have hg := hs.glob 0 (.pim (z1o.map (.int .u8))) rfl
          simp only [Rep] at hg
          obtain ⟨ad, cv, e1, hr, hh⟩ := hg
          cases e1
          have hT : ∀ j, j < 64 → w.cell? ⟨0, j, none⟩ = some (.int .u8 (Lib.deBruijn64tab.getD j 0 : Nat)) := by
            intro j hj
            have hlen : z1o.length = 64 := by decide
            obtain ⟨u, hu, hru⟩ := hr.get j (.int .u8 (z1o.getD j 0)) (by
              rw [List.getElem?_map, List.getElem?_eq_getElem (by omega)]
              simp [List.getD, List.getElem?_eq_getElem (show j < z1o.length by omega)])
            simp only [Rep] at hru
            subst hru
            have := (zez hh hu).1
            rw [z18, Nat.zero_add] at this
            rw [this, tab_eq j hj]
          obtain ⟨m, rfl⟩ : ∃ m : Nat, x = m := ⟨x.toNat, by omega⟩
          refine (zzj m (by omega) w hT).mono ?_
          rintro e w' ⟨rfl, rfl⟩
          refine ⟨_, M, mu, rfl, { hs with env := ?_, rows := ?_, apart := ?_ }⟩
          · simp only [RepL, Rep, Int.toNat_natCast, and_self]
          · intro id row hr; rw [zdn] at hr; cases hr
          · intro i j ri rj b hij hi; rw [zdn] at hi; cases hi
    · cases h'
theorem X_ok : XOK Tryd.prog X := zk2 (by kernel_rfl)
theorem Runs.sound {f : FuncId} {args : List D} {prows : List Row} {r : Ret} (h : Runs X f args prows r) : Sound Tryd.prog X f args prows r := by
  obtain ⟨K, hK⟩ := h
  exact zb3 X_ok zs1 K f args prows r (hK K (Nat.le_refl _))
end Go.PR.S

end

section
namespace Go.PR
open Go
def tb (m i : Int) : Bool := m.toNat.testBit i.toNat
theorem zdc {a : Nat} (h : a < 2 ^ 63) : IntKind.i64.wrap (a : Int) = a := by
  rw [IntKind.wrap_i64]; omega
theorem z78 {a : Nat} (h : a < 2 ^ 63) : (BitVec.ofInt 64 (a : Int)).toNat = a := by
  rw [BitVec.toNat_ofInt]; omega
theorem zbb {a b : Nat} (ha : a < 2 ^ 63) (hb : b < 2 ^ 63) : iand a b = (a &&& b : Nat) := by
  show IntKind.i64.wrap (BitVec.ofInt 64 (a : Int) &&& BitVec.ofInt 64 (b : Int)).toNat = _
  simp only [BitVec.toNat_and, z78 ha, z78 hb]
  exact zdc (Nat.lt_of_le_of_lt Nat.and_le_left ha)
theorem ior_nat {a b : Nat} (ha : a < 2 ^ 63) (hb : b < 2 ^ 63) : ior a b = (a ||| b : Nat) := by
  show IntKind.i64.wrap (BitVec.ofInt 64 (a : Int) ||| BitVec.ofInt 64 (b : Int)).toNat = _
  simp only [BitVec.toNat_or, z78 ha, z78 hb]
  exact zdc (Nat.or_lt_two_pow ha hb)
theorem zp3 (a i : Nat) : ishr a i = (a / 2 ^ min i 64 : Nat) := by
  unfold ishr
  rw [Int.toNat_natCast]
  have : (2 : Int) ^ min i 64 = ((2 ^ min i 64 : Nat) : Int) := by simp
  rw [this, Int.fdiv_eq_ediv_of_nonneg _ (Int.natCast_nonneg _)]
  rfl
theorem zp2 (a i : Nat) : ishl a i = (a * 2 ^ min i 64 : Nat) := by
  unfold ishl
  rw [Int.toNat_natCast]
  simp
theorem one_nat {i : Nat} (h : i ≤ 62) : ishl 1 i = (2 ^ i : Nat) := by
  have := zp2 1 i
  rw [Nat.min_eq_left (by omega), Nat.one_mul] at this
  exact this
theorem pow62 {i : Nat} (h : i ≤ 62) : 2 ^ i < 2 ^ 63 := Nat.pow_lt_pow_right (by omega) (by omega)
theorem has_nat {m i : Nat} (h : m < 2 ^ 63) : (iand (ishr m i) 1 == 1) = tb m i := by
  have hs : m / 2 ^ min i 64 < 2 ^ 63 := Nat.lt_of_le_of_lt (Nat.div_le_self _ _) h
  have h1 : iand (ishr m i) 1 = ((m / 2 ^ min i 64 &&& 1 : Nat) : Int) := by rw [zp3]; exact zbb (b := 1) hs (by omega)
  rw [h1]
  unfold tb
  simp only [Int.toNat_natCast]
  rw [Nat.and_one_is_mod]
  by_cases hi : i ≤ 64
  · rw [Nat.min_eq_left hi, Nat.testBit_eq_decide_div_mod_eq]
    rw [Bool.eq_iff_iff, beq_iff_eq, decide_eq_true_iff]; omega
  · rw [Nat.min_eq_right (by omega), Nat.div_eq_of_lt (by omega)]
    have : m.testBit i = false := Nat.testBit_lt_two_pow (Nat.lt_of_lt_of_le h (Nat.pow_le_pow_right (by omega) (by omega)))
    rw [this]; decide
def mkM (f : Nat → Bool) : Nat → Nat
  | 0 => 0
  | m + 1 => mkM f m ||| (if f m then 2 ^ m else 0)
theorem mkM_bit (f : Nat → Bool) : ∀ (m i : Nat), (mkM f m).testBit i = (decide (i < m) && f i)
  | 0, i => by simp [mkM]
  | m + 1, i => by
    simp only [mkM, Nat.testBit_or, mkM_bit f m i]
    by_cases h : f m
    · rw [if_pos h, Nat.testBit_two_pow]
      by_cases e : m = i
      · subst e; simp [h]
      · have : decide (i < m + 1) = decide (i < m) := by rw [Bool.eq_iff_iff]; simp; omega
        simp [e, this]
    · rw [if_neg h]
      by_cases e : m = i
      · subst e; simp at h; simp [h]
      · have : decide (i < m + 1) = decide (i < m) := by rw [Bool.eq_iff_iff]; simp; omega
        simp [this]
theorem mkM_lt (f : Nat → Bool) (m : Nat) : mkM f m < 2 ^ m := by
  refine Nat.lt_pow_two_of_testBit _ fun i hi => ?_
  rw [mkM_bit]; simp; omega
theorem bit_lt {a m i : Nat} (ha : a < 2 ^ m) (h : a.testBit i = true) : i < m := by
  rcases Nat.lt_or_ge i m with hh | hh
  · exact hh
  · rw [Nat.testBit_lt_two_pow (Nat.lt_of_lt_of_le ha (Nat.pow_le_pow_right (by omega) hh))] at h
    cases h
end Go.PR

end
