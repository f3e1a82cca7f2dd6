/- The functions' numbers, by name (written by names.py). -/
import GoSem.Core.Code
import Derived.Test.YtmjbhacjgjihpaaDoorFwAb
import Derived.KernelRfl
import Derived.Lib.TrailingZeros
import Derived.Test.YtmjbhacjgjihpaaDoorProg
import Derived.WalkKit
import Derived.Lib.SliceRun
import Derived.Laws.Bits64b
import Derived.Test.YtmjbhacjgjihpaaDoorChecked
set_option linter.unusedVariables false
set_option linter.unusedSimpArgs false
set_option linter.unusedSectionVars false
section
namespace Go.PR.S.F
open Go
abbrev zrc : FuncId := 0
abbrev zpt : FuncId := 1
abbrev zpu : FuncId := 2
abbrev z4b : FuncId := 3
abbrev zr6 : FuncId := 4
abbrev zr5 : FuncId := 5
abbrev z27 : FuncId := 6
abbrev z4q : FuncId := 7
abbrev z4f : FuncId := 8
abbrev z11 : FuncId := 9
abbrev z49 : FuncId := 10
abbrev z5w : FuncId := 11
abbrev z1c : FuncId := 12
abbrev zr7 : FuncId := 13
abbrev zsk : FuncId := 14
abbrev zq4 : FuncId := 15
abbrev zsl : FuncId := 16
abbrev zq6 : FuncId := 17
abbrev zq7 : FuncId := 18
abbrev zq8 : FuncId := 19
abbrev zr8 : FuncId := 20
abbrev zra : FuncId := 21
abbrev zsj : FuncId := 22
abbrev zrb : FuncId := 23
abbrev zpz : FuncId := 24
abbrev zr9 : FuncId := 25
abbrev z9 : FuncId := 26
abbrev z19 : FuncId := 27
abbrev z1d : FuncId := 28
abbrev z6 : FuncId := 29
abbrev z1m : FuncId := 30
abbrev z2g : FuncId := 31
abbrev z2o : FuncId := 32
abbrev z2n : FuncId := 33
abbrev ze : FuncId := 34
abbrev z7 : FuncId := 35
abbrev z23 : FuncId := 36
abbrev z2z : FuncId := 37
abbrev z2k : FuncId := 38
abbrev ztg : FuncId := 39
abbrev zsm : FuncId := 40
abbrev zsp : FuncId := 41
abbrev z2r : FuncId := 42
abbrev zo : FuncId := 43
abbrev ztk : FuncId := 44
abbrev zsq : FuncId := 45
abbrev zqd : FuncId := 46
abbrev zqr : FuncId := 47
abbrev zte : FuncId := 48
abbrev ztj : FuncId := 49
abbrev zqs : FuncId := 50
abbrev zqv : FuncId := 51
abbrev zqx : FuncId := 52
abbrev zsu : FuncId := 53
abbrev zsy : FuncId := 54
abbrev ztb : FuncId := 55
abbrev zqe : FuncId := 56
abbrev zpx : FuncId := 57
abbrev zr1 : FuncId := 58
abbrev z4e : FuncId := 59
abbrev zp : FuncId := 60
abbrev zg : FuncId := 61
abbrev z15 : FuncId := 62
abbrev z8 : FuncId := 63
abbrev zh : FuncId := 64
abbrev z5c : FuncId := 65
abbrev z87 : FuncId := 66
abbrev z1o : FuncId := 67
abbrev zm : FuncId := 68
abbrev z24 : FuncId := 69
abbrev zj : FuncId := 70
abbrev zt : FuncId := 71
abbrev z18 : FuncId := 72
abbrev z1y : FuncId := 73
abbrev z52 : FuncId := 74
abbrev z82 : FuncId := 75
abbrev zss : FuncId := 76
abbrev zt4 : FuncId := 77
abbrev ztf : FuncId := 78
abbrev zqa : FuncId := 79
abbrev zq3 : FuncId := 80
abbrev zq9 : FuncId := 81
abbrev zqt : FuncId := 82
abbrev z1z : FuncId := 83
abbrev zt7 : FuncId := 84
abbrev zt9 : FuncId := 85
abbrev zt5 : FuncId := 86
abbrev zti : FuncId := 87
abbrev zth : FuncId := 88
abbrev z1s : FuncId := 89
abbrev zqp : FuncId := 90
abbrev zqu : FuncId := 91
abbrev zqw : FuncId := 92
abbrev zqy : FuncId := 93
abbrev zso : FuncId := 94
abbrev zt0 : FuncId := 95
abbrev ztd : FuncId := 96
abbrev ztc : FuncId := 97
abbrev zsw : FuncId := 98
abbrev zsn : FuncId := 99
abbrev zta : FuncId := 100
abbrev zq0 : FuncId := 101
abbrev zru : FuncId := 102
abbrev zqf : FuncId := 103
abbrev zqj : FuncId := 104
abbrev zpp : FuncId := 105
abbrev zs1 : FuncId := 106
abbrev zs2 : FuncId := 107
abbrev zrt : FuncId := 108
abbrev zr3 : FuncId := 109
abbrev zr2 : FuncId := 110
abbrev zpr : FuncId := 111
abbrev z3d : FuncId := 112
abbrev zr0 : FuncId := 113
abbrev z16 : FuncId := 114
abbrev z1h : FuncId := 115
abbrev z3y : FuncId := 116
abbrev z94 : FuncId := 117
abbrev z1j : FuncId := 118
abbrev zz : FuncId := 119
abbrev zi : FuncId := 120
abbrev z1g : FuncId := 121
abbrev z4m : FuncId := 122
abbrev zst : FuncId := 123
abbrev zsv : FuncId := 124
abbrev zt1 : FuncId := 125
abbrev zt3 : FuncId := 126
abbrev zsr : FuncId := 127
abbrev zrv : FuncId := 128
abbrev zqb : FuncId := 129
abbrev zq1 : FuncId := 130
abbrev zqc : FuncId := 131
abbrev zqk : FuncId := 132
abbrev zql : FuncId := 133
abbrev zqm : FuncId := 134
abbrev zqq : FuncId := 135
abbrev zqn : FuncId := 136
abbrev zhn : FuncId := 137
abbrev zt6 : FuncId := 138
abbrev zt8 : FuncId := 139
abbrev zsx : FuncId := 140
abbrev zq5 : FuncId := 141
abbrev zqg : FuncId := 142
abbrev zqi : FuncId := 143
abbrev zrx : FuncId := 144
abbrev zps : FuncId := 145
abbrev zrs : FuncId := 146
abbrev zs0 : FuncId := 147
abbrev zs3 : FuncId := 148
abbrev z45 : FuncId := 149
abbrev zpo : FuncId := 150
abbrev z1q : FuncId := 151
abbrev zt2 : FuncId := 152
abbrev zry : FuncId := 153
abbrev zq2 : FuncId := 154
abbrev zqh : FuncId := 155
abbrev zqz : FuncId := 156
abbrev zqo : FuncId := 157
abbrev zrw : FuncId := 158
abbrev z4x : FuncId := 159
abbrev zrr : FuncId := 160
abbrev zsf : FuncId := 161
abbrev zpl : FuncId := 162
abbrev zrz : FuncId := 163
abbrev zs7 : FuncId := 164
abbrev zs6 : FuncId := 165
abbrev zs4 : FuncId := 166
abbrev zs5 : FuncId := 167
abbrev zsg : FuncId := 168
abbrev zsc : FuncId := 169
abbrev zpq : FuncId := 170
abbrev zsd : FuncId := 171
abbrev zse : FuncId := 172
abbrev zpm : FuncId := 173
abbrev zpn : FuncId := 174
abbrev zsh : FuncId := 175
abbrev zsa : FuncId := 176
abbrev zsi : FuncId := 177
abbrev zs8 : FuncId := 178
abbrev zs9 : FuncId := 179
abbrev zsb : FuncId := 180
abbrev zrj : FuncId := 181
abbrev zrk : FuncId := 182
abbrev zrn : FuncId := 183
abbrev zro : FuncId := 184
abbrev zrp : FuncId := 185
abbrev zrq : FuncId := 186
abbrev zrl : FuncId := 187
abbrev zrm : FuncId := 188
abbrev zrh : FuncId := 189
abbrev zri : FuncId := 190
abbrev zrf : FuncId := 191
abbrev zrg : FuncId := 192
abbrev zpk : FuncId := 193
abbrev zrd : FuncId := 194
abbrev zre : FuncId := 195
abbrev zpy : FuncId := 196
abbrev zpw : FuncId := 197
abbrev zr4 : FuncId := 198
abbrev zpj : FuncId := 199
abbrev zpv : FuncId := 203
end Go.PR.S.F

end

section
namespace Go.PR.S
open Go Go.PR Go.Proofs
def keepTab : List (Nat × Nat × List Nat × List Nat) := [(9, 0, [0, 3, 4], [3]), (12, 0, [0, 1, 5], [4]), (20, 0, [0, 3], [3]), (27, 0, [0, 1, 5], [1, 4]), (28, 0, [0, 1, 5], [1, 4]), (29, 0, [1, 3], [1, 2]), (29, 2, [1, 4], [1, 2]), (31, 0, [1, 2, 5, 6], [5]), (32, 0, [0, 3, 4], [3]), (33, 0, [0, 3, 4], [3]), (34, 0, [1, 38, 39, 40], [2]), (35, 0, [0, 12, 13, 14], [4]), (36, 0, [1, 2, 5, 11, 12], [5]), (37, 0, [0, 1, 5], [4]), (38, 0, [0, 1, 5], [4]), (39, 0, [0, 2, 3, 4, 5], [0, 2, 3, 4, 5]), (40, 0, [0, 3, 4], [3]), (44, 0, [1, 2, 5, 6], [5]), (47, 0, [2, 3, 4, 5, 9, 36, 37, 38], [2, 3, 4, 9]), (47, 2, [3, 4, 9, 12, 13, 14], [8]), (47, 4, [3, 4, 9, 12, 13, 14, 74, 75, 76], [3, 4, 9, 12, 13, 14]), (49, 0, [3, 4, 5, 10, 11], [8]), (49, 2, [3, 4, 5, 10, 11, 12], [3, 4, 5, 8, 10, 11]), (49, 4, [3, 4, 5, 10, 11, 12, 13], [3, 4, 5, 8, 10, 11, 12]), (53, 0, [1, 3], [2]), (53, 2, [1, 3, 4], [1, 2, 3]), (55, 0, [8, 9, 10], [6]), (60, 0, [0, 1, 5], [0, 1, 4]), (61, 0, [1, 3], [1, 2]), (62, 0, [0, 1, 5], [0, 1, 4]), (63, 0, [1, 2, 3, 7, 8], [2, 6, 7]), (64, 0, [1, 2, 3, 8, 9], [6, 7]), (64, 2, [1, 2, 3, 9, 10, 11, 12], [10]), (70, 0, [1, 7, 8, 9], [1, 2]), (71, 0, [0, 1, 9, 10, 11], [0, 1, 4]), (73, 0, [3, 9, 11, 39, 40, 41], [11]), (76, 0, [0, 4, 5, 6, 7, 8], [4, 6]), (76, 2, [0, 4, 5, 6, 7, 8, 9], [0, 4, 5, 6, 7, 8]), (78, 0, [0, 3, 4, 5, 6, 7, 8], [0, 3, 4, 5, 6, 7]), (78, 2, [0, 3, 4, 5, 6, 7, 9, 10, 11, 12], [3, 4, 5, 6, 7, 9, 10, 11]), (78, 4, [0, 3, 4, 5, 6, 7, 9, 10, 11, 12, 15, 16], [0, 3, 4, 5, 6, 7, 9, 10, 11, 12, 15]), (78, 6, [3, 4, 5, 6, 7, 9, 10, 11, 17], [4, 6]), (78, 8, [3, 4, 5, 6, 7, 9, 10, 11, 17, 18, 19], [3, 4, 5, 6, 7, 9, 10, 11, 17, 18]), (78, 10, [3, 4, 5, 6, 7, 9, 10, 11, 17, 18, 19, 20, 21, 22, 23, 24, 25], [3, 4, 5, 6, 7, 9, 10, 11, 17, 18, 19, 20, 21, 24]), (82, 0, [5, 12, 13, 14], [5]), (83, 0, [0, 3], [3]), (86, 0, [2, 3, 5], [4]), (86, 2, [2, 3, 5, 6], [2, 3, 4, 5]), (86, 4, [2, 3, 5, 6, 7], [2, 3, 4, 5, 6]), (87, 0, [2, 3, 5], [4]), (87, 2, [2, 3, 5, 6], [2, 3, 4, 5]), (87, 4, [2, 3, 5, 6, 7], [2, 3, 4, 5, 6]), (88, 0, [1, 3, 4], [1, 3]), (88, 2, [1, 3, 4, 5], [1, 3, 4]), (88, 4, [1, 3, 4, 5, 6, 7], [1, 3, 4, 5, 6]), (90, 0, [2, 3, 4, 5, 6, 7, 13, 33, 34, 35], [5, 12, 13]), (91, 0, [1, 2, 3, 7, 14, 15], [7]), (94, 0, [0, 1, 5], [4]), (95, 0, [0, 1, 5], [4]), (97, 0, [0, 3, 4], [3]), (97, 2, [0, 3, 4, 5], [0, 3, 4]), (98, 0, [1, 5, 6, 7], [5]), (98, 2, [1, 5, 6, 7], [1, 5, 6, 7]), (99, 0, [0, 3, 4], [3]), (101, 0, [1, 25, 26, 27], [2]), (108, 0, [0, 1, 2, 11, 12, 13], [0, 1, 6]), (109, 0, [0, 5, 10, 11, 12], [5]), (109, 2, [0, 5, 7, 8, 10, 11, 12], [0, 5, 7, 8, 10, 11, 12]), (111, 0, [3, 6, 7, 8], [2, 3]), (114, 0, [0, 1, 5, 6], [5]), (115, 0, [0, 1, 5], [4]), (119, 0, [0, 5, 10, 11, 12], [5]), (121, 0, [0, 2, 4, 8, 9, 10], [0, 2, 4, 8, 9]), (123, 0, [0, 2, 3, 4], [2, 3]), (126, 0, [0, 1, 4, 5, 6, 7], [4, 6]), (126, 2, [0, 1, 4, 5, 6, 7, 8, 9], [0, 1, 4, 5, 6, 7, 8]), (133, 0, [1, 2, 3, 14, 15], [2, 3]), (134, 0, [2, 3, 10, 11], [4]), (134, 2, [2, 3, 5, 10, 11, 15, 16], [2, 3, 4, 10, 11]), (134, 4, [2, 3, 5, 6, 7, 10, 11, 15, 16], [2, 3, 4, 5, 10, 11, 15, 16]), (135, 0, [2, 3, 12, 13], [4]), (135, 2, [2, 3, 5, 12, 13, 19, 20, 21], [2, 3, 4, 12, 13]), (135, 4, [2, 3, 5, 7, 12, 13, 19, 20, 21, 34, 35, 36], [2, 3, 4, 5, 12, 13, 19, 20, 21]), (136, 0, [1, 3, 4], [3]), (136, 2, [1, 3, 4, 13, 14, 15], [1, 3, 4]), (138, 0, [1, 3, 4], [2]), (138, 2, [1, 3, 4, 5], [1, 2, 3, 4]), (139, 0, [1, 2, 3, 7], [1]), (140, 0, [1, 2, 5, 6], [5]), (140, 2, [1, 2, 5, 6, 7, 8], [1, 2, 5, 6, 7]), (142, 0, [3, 11, 12, 13], [3]), (142, 2, [3, 4, 11, 12, 13, 19, 20, 21], [3, 11, 12, 13]), (144, 0, [0, 1, 7, 8], [4]), (148, 0, [0, 5, 6, 7], []), (151, 0, [0, 1, 7, 8], [4]), (152, 0, [0, 3, 4, 5, 6, 7, 8, 9], [0, 3, 4, 5, 6, 7, 8]), (152, 2, [3, 4, 5, 6, 7, 8, 12, 13, 14, 15], [4, 13]), (152, 4, [3, 4, 5, 6, 7, 8, 12, 13, 14, 15, 16, 17], [3, 4, 5, 6, 7, 8, 12, 13, 14, 15, 16]), (152, 6, [3, 4, 5, 6, 7, 8, 12, 13, 14, 15, 16, 17, 18, 19, 20], [3, 4, 5, 6, 7, 8, 12, 13, 14, 15, 16, 17, 18, 19]), (153, 0, [0, 1, 7, 8], [4]), (161, 0, [0, 1, 2, 3, 8, 9], []), (163, 0, [0, 1, 7, 8], [4]), (164, 0, [0, 1, 2, 6], []), (164, 2, [0, 1, 2, 6, 7], [0, 1, 2, 6]), (165, 0, [0, 6, 7, 8, 9], [0, 6, 7, 8]), (165, 2, [0, 6, 7, 10], []), (166, 0, [0, 1, 6, 7, 8, 9], []), (168, 0, [0, 6, 7], []), (169, 0, [0, 1, 2, 7, 8], [6]), (169, 2, [0, 1, 2, 7, 8], [0, 1, 2, 7, 8]), (169, 4, [0, 1, 2, 7, 8, 9], [0, 1, 2, 7, 8]), (169, 6, [0, 1, 2, 7, 8, 10], [0, 1, 2, 7, 8]), (171, 0, [0, 1, 9, 10], [9]), (171, 2, [0, 1, 9, 10], [0, 1, 9, 10]), (171, 4, [0, 1, 9, 10], [0, 1, 9, 10]), (172, 0, [0, 1, 10, 11], [0, 1, 10, 11]), (172, 2, [0, 1, 10, 11], [0, 1, 10, 11]), (172, 4, [0, 1, 10, 11], [0, 1, 11]), (172, 6, [0, 1, 10, 11], [0, 1, 10, 11]), (172, 8, [0, 1, 10, 11], [0, 1, 10, 11]), (175, 0, [0, 2, 3, 8], [])]
def zf0 : List Nat := [41, 45, 76, 78, 90, 124, 125, 126, 152]
def byref (f : FuncId) : Bool := zf0.contains f
def zi3 (f : FuncId) (b : Nat) : Option Hint :=
  match keepTab.find? (fun p => p.1 == f && p.2.1 == b) with
  | some p => some ⟨p.2.2.1, if byref f then [500000, 500001, 500002] else [], p.2.2.2⟩
  | none => none
def z1a : List Int := [0, 1, 56, 2, 57, 49, 28, 3, 61, 58, 42, 50, 38, 29, 17, 4, 62, 47, 59, 36, 45, 43, 51, 22, 53, 39, 33, 30, 24, 18, 12, 5, 63, 55, 48, 27, 60, 41, 37, 16, 46, 35, 44, 21, 52, 32, 23, 11, 54, 26, 40, 15, 34, 20, 31, 10, 25, 14, 19, 9, 13, 8, 7, 6]
def glob (g : Nat) : Option D := if g = 0 then some (.pim (z1a.map (.int .u8))) else none
def prim (f : FuncId) (args : List D) (prows : List Row) : Option Ret :=
  if f = F.z4m then match args, prows with
    | [.immI .i64 []], [] => some ⟨.rsl 600000 0 0, [], [⟨true, .ints .i64 []⟩]⟩
    | _, _ => none
  else if f = F.z4x then match args, prows with
    | [.int .u64 x], [] => if 0 ≤ x ∧ x < 18446744073709551616 then some ⟨.int .i64 (Lib.ctz 64 x.toNat), [], []⟩ else none
    | _, _ => none
  else none
def nilPos (s : String) : Bool := s == "l11_automata.go:257"
def nestPos (s : String) : Bool := ["exact.go:551", "exact.go:553", "exact.go:559", "l19_exploration.go:318", "l19_exploration.go:363"].contains s
noncomputable def X : Ctx := ctxOf Tryd.prog glob byref zi3 prim nilPos nestPos
abbrev wq (f : FuncId) (b : Nat) (fn : Func) (k : Nat) (s : LSt) (Q : Out → Prop) : Prop := WpL X f b (lb fn k) s.st Q
abbrev wl (f : FuncId) (b : Nat) (fn : Func) (k : Nat) (s : LSt) (o : OutL) : Prop := WpL X f b (lb fn k) s.st fun x => x = o.out
end Go.PR.S

end

section
namespace Go.PR.S
open Go Go.PR Go.Proofs Go.RowKit
set_option maxHeartbeats 1000000 in
theorem tz_core (x k idx : Nat) (w : World) (hx0 : ((x : Int) == 0) = false)
    (key : IntKind.u64.wrap (bits BinOp.and IntKind.u64 (x : Int) (IntKind.u64.wrap (-(x : Int))) * 285870213051353865) / 288230376151711744 = (idx : Int))
    (hi : idx < 64) (hk : k < 64) (hcell : w.cell? ⟨0, idx, none⟩ = some (.int .u8 k)) :
    Calls Tryd.prog 159 #[.int .u64 x] w fun e w' => e = .returned (.int .i64 k) ∧ w' = w := by
  go_enter Tryd.func159, Tryd.ntmps159
  go_wp2_with (simp only [key])
  go_ret
  exact ⟨rfl, rfl⟩
theorem tz_zero (w : World) : Calls Tryd.prog 159 #[.int .u64 0] w fun e w' => e = .returned (.int .i64 64) ∧ w' = w := by
  go_enter Tryd.func159, Tryd.ntmps159
  go_wp2
  go_ret
  exact ⟨rfl, rfl⟩
set_option maxRecDepth 100000 in
theorem zf7 (c : Nat) (w : World) : Calls Tryd.prog 122 #[.slice none 0 c] w fun e w' => ∃ A', e = .returned (.slice A' 0 0) ∧ Keeps (fun _ => False) w w' := by
  go_enter Tryd.func122, Tryd.ntmps122
  have t22 := Tryd.underlying22
  have hn : ∀ w' : World, (binOp .eql 22 (.slice none 0 c) (.slice none 0 0)).run Tryd.prog w' = .ok (.bool (none.isNone)) w' := fun w' => Go.Lib.run_eql_slice_nil w' 22 2 none 0 c 0 0 t22
  go_wp2
  go_ret
  exact ⟨_, rfl, Keeps.refl _ _⟩
set_option maxRecDepth 100000 in
theorem zf8 (A : Addr) (c : Nat) (w : World) : Calls Tryd.prog 122 #[.slice (some A) 0 c] w fun e w' => ∃ A', e = .returned (.slice A' 0 0) ∧ Keeps (fun _ => False) w w' := by
  go_enter Tryd.func122, Tryd.ntmps122
  have t22 := Tryd.underlying22
  have hn : ∀ w' : World, (binOp .eql 22 (.slice (some A) 0 c) (.slice none 0 0)).run Tryd.prog w' = .ok (.bool ((some A).isNone)) w' := fun w' => Go.Lib.run_eql_slice_nil w' 22 2 (some A) 0 c 0 0 t22
  go_wp2
  go_ret
  exact ⟨_, rfl, Keeps.alloc _ _ _⟩
theorem z9q (r : D) : zn ⟨r, [], []⟩ = fun _ => none := by
  funext i; unfold zn; split
  · simp
  · split <;> simp
theorem one_row {id : Nat} {row rw0 : Row} {d : D} (hr : zn ⟨d, [], [rw0]⟩ id = some row) : id = 600000 ∧ row = rw0 := by
  unfold zn XB PB at hr
  split at hr
  · rename_i hge
    have : id - 600000 = 0 := by
      rcases Nat.eq_zero_or_pos (id - 600000) with h | h
      · exact h
      · rw [List.getElem?_eq_none (by simp only [List.length_singleton]; omega)] at hr; cases hr
    rw [this] at hr
    simp at hr
    exact ⟨by omega, hr.symm⟩
  · split at hr <;> simp at hr
theorem tz_key (x a : Nat) (hx : x < 18446744073709551616) (hx0 : x ≠ 0) (hlow : x &&& (18446744073709551616 - x) = a) :
    IntKind.u64.wrap (bits BinOp.and IntKind.u64 (x : Int) (IntKind.u64.wrap (-(x : Int))) * 285870213051353865) / 288230376151711744 = ((a * 285870213051353865 % 18446744073709551616 / 288230376151711744 : Nat) : Int) := by
  have e1 : IntKind.u64.wrap (-(x : Int)) = ((18446744073709551616 - x : Nat) : Int) := by rw [IntKind.wrap_u64]; omega
  rw [e1, bits_and_u64_nat x _ hx (by omega), hlow, IntKind.wrap_u64]
  omega
theorem zp9 (x : Nat) (hx : x < 18446744073709551616) (w : World) (hT : ∀ j, j < 64 → w.cell? ⟨0, j, none⟩ = some (.int .u8 (Lib.deBruijn64tab.getD j 0 : Nat))) :
    Calls Tryd.prog 159 #[.int .u64 x] w fun e w' => e = .returned (.int .i64 (Lib.ctz 64 x)) ∧ w' = w := by
  by_cases hx0 : x = 0
  · subst hx0
    exact tz_zero w
  · obtain ⟨hlow, hk⟩ := Lib.lowest_bit 64 x hx0 hx
    obtain ⟨hi, htab⟩ := Lib.deBruijn64_at _ hk
    have hcell := hT _ hi
    rw [htab] at hcell
    exact tz_core x _ _ w (by simp; omega) (tz_key x _ hx hx0 hlow) hi hk hcell
theorem tab_eq : ∀ j, j < 64 → z1a.getD j 0 = (Lib.deBruijn64tab.getD j 0 : Nat) := by decide +kernel
theorem zks : ∀ f args prows r, X.prim f args prows = some r → Sound Tryd.prog X f args prows r := by
  intro f args prows r h
  have h' : prim f args prows = some r := h
  unfold prim at h'
  split at h'
  · rename_i hf
    subst hf
    split at h'
    case h_2 => cases h'
    cases h'
    intro w M mu vs hs
    have hv := hs.env
    simp only [List.toList_toArray] at hv
    cases vs with
    | nil => simp only [RepL] at hv
    | cons v vs =>
      cases vs with
      | cons => simp only [RepL] at hv; exact hv.2.elim
      | nil =>
        simp only [RepL, Rep] at hv
        obtain ⟨⟨A, c, rfl, _, _⟩, _⟩ := hv
        have key : Calls Tryd.prog 122 #[.slice A 0 c] w fun e w' => ∃ A', e = .returned (.slice A' 0 0) ∧ Keeps (fun _ => False) w w' := by
          cases A with
          | none => exact zf7 c w
          | some A => exact zf8 A c w
        refine key.mono ?_
        rintro e w' ⟨A', rfl, hk⟩
        let mu' : Nat → Option Loc := fun i => if i = 600000 then some .nowhere else mu i
        have hs' := hs.world hk
        refine ⟨_, M, mu', rfl, { hs' with env := ?_, rows := ?_, apart := ?_, pin := ?_ }⟩
        · simp only [RepL, Rep]
          exact ⟨⟨.nowhere, by simp [mu'], rfl, A', rfl⟩, trivial⟩
        · intro id row hr
          have hid := one_row hr
          obtain ⟨rfl, rfl⟩ := hid
          exact ⟨.nowhere, by simp [mu'], by simp [ContRep, intsV]⟩
        · intro i j ri rj b hij hi hj
          have one : ∀ i ri, zn ⟨.rsl 600000 0 0, [], [⟨true, .ints .i64 []⟩]⟩ i = some ri → i = 600000 := fun i ri hr => (one_row hr).1
          exact (hij ((one i ri hi).trans (one j rj hj).symm)).elim
        · intro i hi
          have : i ≠ 600000 := fun e => by have := hi.2; unfold XB at this; omega
          simp [mu', this]
  · split at h'
    · rename_i hf
      subst hf
      split at h'
      case h_2 => cases h'
      rename_i x
      split at h'
      case isFalse => cases h'
      rename_i hx
      cases h'
      intro w M mu vs hs
      have hv := hs.env
      simp only [List.toList_toArray] at hv
      cases vs with
      | nil => simp only [RepL] at hv
      | cons v vs =>
        cases vs with
        | cons => simp only [RepL] at hv; exact hv.2.elim
        | nil =>
          simp only [RepL, Rep] at hv
          obtain ⟨rfl, _⟩ := hv
          have hg := hs.glob 0 (.pim (z1a.map (.int .u8))) rfl
          simp only [Rep] at hg
          obtain ⟨ad, cv, e1, hr, hh⟩ := hg
          cases e1
          have hT : ∀ j, j < 64 → w.cell? ⟨0, j, none⟩ = some (.int .u8 (Lib.deBruijn64tab.getD j 0 : Nat)) := by
            intro j hj
            have hlen : z1a.length = 64 := by decide
            obtain ⟨u, hu, hru⟩ := hr.get j (.int .u8 (z1a.getD j 0)) (by
              rw [List.getElem?_map, List.getElem?_eq_getElem (by omega)]
              simp [List.getD, List.getElem?_eq_getElem (show j < z1a.length by omega)])
            simp only [Rep] at hru
            subst hru
            have := (zax hh hu).1
            rw [zb, Nat.zero_add] at this
            rw [this, tab_eq j hj]
          obtain ⟨m, rfl⟩ : ∃ m : Nat, x = m := ⟨x.toNat, by omega⟩
          refine (zp9 m (by omega) w hT).mono ?_
          rintro e w' ⟨rfl, rfl⟩
          refine ⟨_, M, mu, rfl, { hs with env := ?_, rows := ?_, apart := ?_ }⟩
          · simp only [RepL, Rep, Int.toNat_natCast, and_self]
          · intro id row hr; rw [z9q] at hr; cases hr
          · intro i j ri rj b hij hi; rw [z9q] at hi; cases hi
    · cases h'
theorem X_ok : XOK Tryd.prog X := zfd (by kernel_rfl)
theorem Runs.sound {f : FuncId} {args : List D} {prows : List Row} {r : Ret} (h : Runs X f args prows r) : Sound Tryd.prog X f args prows r := by
  obtain ⟨K, hK⟩ := h
  exact z7k X_ok zks K f args prows r (hK K (Nat.le_refl _))
end Go.PR.S

end

section
namespace Go.PR
open Go
def tb (m i : Int) : Bool := m.toNat.testBit i.toNat
theorem zpe {a : Nat} (h : a < 2 ^ 63) : IntKind.i64.wrap (a : Int) = a := by
  rw [IntKind.wrap_i64]; omega
theorem zc9 {a : Nat} (h : a < 2 ^ 63) : (BitVec.ofInt 64 (a : Int)).toNat = a := by
  rw [BitVec.toNat_ofInt]; omega
theorem zaz {a b : Nat} (ha : a < 2 ^ 63) (hb : b < 2 ^ 63) : iand a b = (a &&& b : Nat) := by
  show IntKind.i64.wrap (BitVec.ofInt 64 (a : Int) &&& BitVec.ofInt 64 (b : Int)).toNat = _
  simp only [BitVec.toNat_and, zc9 ha, zc9 hb]
  exact zpe (Nat.lt_of_le_of_lt Nat.and_le_left ha)
theorem zi2 (a i : Nat) : ishr a i = (a / 2 ^ min i 64 : Nat) := by
  unfold ishr
  rw [Int.toNat_natCast]
  have : (2 : Int) ^ min i 64 = ((2 ^ min i 64 : Nat) : Int) := by simp
  rw [this, Int.fdiv_eq_ediv_of_nonneg _ (Int.natCast_nonneg _)]
  rfl
theorem zi1 (a i : Nat) : ishl a i = (a * 2 ^ min i 64 : Nat) := by
  unfold ishl
  rw [Int.toNat_natCast]
  simp
theorem one_nat {i : Nat} (h : i ≤ 62) : ishl 1 i = (2 ^ i : Nat) := by
  have := zi1 1 i
  rw [Nat.min_eq_left (by omega), Nat.one_mul] at this
  exact this
theorem pow62 {i : Nat} (h : i ≤ 62) : 2 ^ i < 2 ^ 63 := Nat.pow_lt_pow_right (by omega) (by omega)
theorem has_nat {m i : Nat} (h : m < 2 ^ 63) : (iand (ishr m i) 1 == 1) = tb m i := by
  have hs : m / 2 ^ min i 64 < 2 ^ 63 := Nat.lt_of_le_of_lt (Nat.div_le_self _ _) h
  have h1 : iand (ishr m i) 1 = ((m / 2 ^ min i 64 &&& 1 : Nat) : Int) := by rw [zi2]; exact zaz (b := 1) hs (by omega)
  rw [h1]
  unfold tb
  simp only [Int.toNat_natCast]
  rw [Nat.and_one_is_mod]
  by_cases hi : i ≤ 64
  · rw [Nat.min_eq_left hi, Nat.testBit_eq_decide_div_mod_eq]
    rw [Bool.eq_iff_iff, beq_iff_eq, decide_eq_true_iff]; omega
  · rw [Nat.min_eq_right (by omega), Nat.div_eq_of_lt (by omega)]
    have : m.testBit i = false := Nat.testBit_lt_two_pow (Nat.lt_of_lt_of_le h (Nat.pow_le_pow_right (by omega) (by omega)))
    rw [this]; decide
def mkM (f : Nat → Bool) : Nat → Nat
  | 0 => 0
  | m + 1 => mkM f m ||| (if f m then 2 ^ m else 0)
theorem bit_lt {a m i : Nat} (ha : a < 2 ^ m) (h : a.testBit i = true) : i < m := by
  rcases Nat.lt_or_ge i m with hh | hh
  · exact hh
  · rw [Nat.testBit_lt_two_pow (Nat.lt_of_lt_of_le ha (Nat.pow_le_pow_right (by omega) hh))] at h
    cases h
end Go.PR

end
