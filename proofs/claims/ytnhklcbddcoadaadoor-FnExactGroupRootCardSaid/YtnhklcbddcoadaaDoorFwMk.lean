/- The functions' numbers, by name (written by names.py). -/
import GoSem.Core.Code
import Derived.Test.YtnhklcbddcoadaaDoorFwMp
import Derived.KernelRfl
import Derived.Lib.TrailingZeros
import Derived.Test.YtnhklcbddcoadaaDoorProg
import Derived.WalkKit
import Derived.Lib.SliceRun
import Derived.Laws.Bits64b
import Derived.Test.YtnhklcbddcoadaaDoorChecked
section
/- The functions' numbers, by name (written by names.py). -/
namespace Go.PR.S.F
open Go
abbrev main_main : FuncId := 0
abbrev gosem_cut : FuncId := 1
abbrev gosem_cut_init : FuncId := 2
abbrev laws_FnExactGroupRoot : FuncId := 3
abbrev laws_FnGroupPowers : FuncId := 4
abbrev laws_FnExactAreGroupConjugate : FuncId := 5
abbrev laws_FnExactGroupConjugator : FuncId := 6
abbrev laws_szAlphabet : FuncId := 7
abbrev spec_GroupRoot : FuncId := 8
abbrev laws_toAlphabet : FuncId := 9
abbrev laws_toInt64S : FuncId := 10
abbrev impl_GroupRoot : FuncId := 11
abbrev laws_eqInt64S : FuncId := 12
abbrev laws_eqAlphabet : FuncId := 13
abbrev laws_markAlphabet : FuncId := 14
abbrev laws_markInt64S : FuncId := 15
abbrev laws_heldInt64S : FuncId := 16
abbrev laws_big : FuncId := 17
abbrev spec_DrawGroupRoot : FuncId := 18
abbrev laws_likeInts : FuncId := 19
abbrev impl_GroupPower : FuncId := 20
abbrev impl_GroupForm : FuncId := 21
abbrev impl_GroupProduct : FuncId := 22
abbrev impl_GroupInverse : FuncId := 23
abbrev spec_AreGroupConjugate : FuncId := 24
abbrev impl_AreGroupConjugate : FuncId := 25
abbrev spec_GroupConjugator : FuncId := 26
abbrev impl_GroupConjugator : FuncId := 27
abbrev laws_szInt64S : FuncId := 28
abbrev spec_l09Code : FuncId := 29
abbrev spec_l09Double : FuncId := 30
abbrev spec_l09Core : FuncId := 31
abbrev spec_l09Reduce : FuncId := 32
abbrev spec_l09In : FuncId := 33
abbrev spec_l07Root : FuncId := 34
abbrev spec_l09Out : FuncId := 35
abbrev spec_l01Own : FuncId := 36
abbrev spec_l09Back : FuncId := 37
abbrev impl_checkSigned : FuncId := 38
abbrev impl_signedTies : FuncId := 39
abbrev impl_ties_cyclic : FuncId := 40
abbrev impl_codesOf : FuncId := 41
abbrev impl_ties_root : FuncId := 42
abbrev impl_element : FuncId := 43
abbrev impl_ties_group : FuncId := 44
abbrev slices_ConcatSint64int64 : FuncId := 45
abbrev impl_inverted : FuncId := 46
abbrev spec_l09Pair : FuncId := 47
abbrev spec_l09Is : FuncId := 48
abbrev spec_l09Draw : FuncId := 49
abbrev spec_l01Next : FuncId := 50
abbrev spec_l07Power : FuncId := 51
abbrev impl_inRange : FuncId := 52
abbrev slices_RepeatSint64int64 : FuncId := 53
abbrev spec_l07Class : FuncId := 54
abbrev spec_l07Find : FuncId := 55
abbrev impl_conjugation : FuncId := 56
abbrev spec_l01Same : FuncId := 57
abbrev spec_l07Rotate : FuncId := 58
abbrev spec_l02Is : FuncId := 59
abbrev spec_l09Word : FuncId := 60
abbrev spec_l02Dep : FuncId := 61
abbrev spec_l01One : FuncId := 62
abbrev spec_l03First : FuncId := 63
abbrev spec_l03Without : FuncId := 64
abbrev spec_l03Back : FuncId := 65
abbrev spec_l09Opposite : FuncId := 66
abbrev spec_l03Normal : FuncId := 67
abbrev spec_l03Content : FuncId := 68
abbrev spec_l03Same : FuncId := 69
abbrev impl_IsAlphabet : FuncId := 70
abbrev slices_ContainsFuncSSint64Sint64 : FuncId := 71
abbrev impl_checkSignedk1 : FuncId := 72
abbrev impl_isSigned : FuncId := 73
abbrev impl_members : FuncId := 74
abbrev impl_ties_lasts : FuncId := 75
abbrev slices_IndexFuncSint64int64 : FuncId := 76
abbrev impl_ties_firsts : FuncId := 77
abbrev impl_ties_cyclick1 : FuncId := 78
abbrev impl_has : FuncId := 79
abbrev impl_ties_normal : FuncId := 80
abbrev impl_withoutLast : FuncId := 81
abbrev impl_withoutFirst : FuncId := 82
abbrev impl_codeOf : FuncId := 83
abbrev impl_lengthint64 : FuncId := 84
abbrev impl_firstsOf : FuncId := 85
abbrev impl_ties_same : FuncId := 86
abbrev impl_signsOf : FuncId := 87
abbrev slices_DeleteSint64int64 : FuncId := 88
abbrev slices_GrowSint64int64 : FuncId := 89
abbrev impl_reversed : FuncId := 90
abbrev spec_l01From : FuncId := 91
abbrev spec_l02Draw : FuncId := 92
abbrev spec_l02Spoil : FuncId := 93
abbrev spec_l09Spoil : FuncId := 94
abbrev bits_Mul : FuncId := 95
abbrev impl_ties_conjugates : FuncId := 96
abbrev impl_conjugator : FuncId := 97
abbrev spec_l01In : FuncId := 98
abbrev spec_l01Masks : FuncId := 99
abbrev spec_l01Bit : FuncId := 100
abbrev impl_IsRelation : FuncId := 101
abbrev impl_converse : FuncId := 102
abbrev slices_IndexFuncSSint64Sint64 : FuncId := 103
abbrev impl_allIn : FuncId := 104
abbrev slices_ContainsSint64int64 : FuncId := 105
abbrev impl_least : FuncId := 106
abbrev impl_one : FuncId := 107
abbrev slices_IndexSint64int64 : FuncId := 108
abbrev slices_EqualSint64int64 : FuncId := 109
abbrev impl_signOf : FuncId := 110
abbrev slices_CloneSint64int64 : FuncId := 111
abbrev slices_ReverseSint64int64 : FuncId := 112
abbrev spec_l02Free : FuncId := 113
abbrev spec_l01Pick : FuncId := 114
abbrev spec_l02Join : FuncId := 115
abbrev bits_Mul32 : FuncId := 116
abbrev bits_Mul64 : FuncId := 117
abbrev impl_wordKey : FuncId := 118
abbrev impl_ties_rotated : FuncId := 119
abbrev slices_IndexFuncSimpl_turnedimpl_turned : FuncId := 120
abbrev impl_conjugatork1 : FuncId := 121
abbrev spec_l01Full : FuncId := 122
abbrev slices_ContainsFuncSint64int64 : FuncId := 123
abbrev impl_allInk1 : FuncId := 124
abbrev bits_TrailingZeros64 : FuncId := 125
abbrev runtime_boundsError_Error : FuncId := 126
abbrev runtime_boundsError_RuntimeError : FuncId := 127
abbrev runtime_errorString_Error : FuncId := 128
abbrev runtime_errorString_RuntimeError : FuncId := 129
abbrev runtime_plainError_Error : FuncId := 130
abbrev runtime_plainError_RuntimeError : FuncId := 131
abbrev runtime_errorAddressString_Error : FuncId := 132
abbrev runtime_errorAddressString_RuntimeError : FuncId := 133
abbrev runtime_TypeAssertionError_Error : FuncId := 134
abbrev runtime_TypeAssertionError_RuntimeError : FuncId := 135
abbrev runtime_PanicNilError_Error : FuncId := 136
abbrev runtime_PanicNilError_RuntimeError : FuncId := 137
abbrev abi_Type_Align : FuncId := 138
abbrev maps_unhashableTypeError_Error : FuncId := 139
abbrev maps_unhashableTypeError_RuntimeError : FuncId := 140
abbrev impl_Alphabet_tie : FuncId := 141
abbrev impl_ties_follows : FuncId := 142
abbrev abi_Kind_String : FuncId := 143
abbrev gosem_cut_vars : FuncId := 147
end Go.PR.S.F

end

section
/- The seat's context: what the evaluator is told of this program. -/
namespace Go.PR.S
open Go Go.PR Go.Proofs

def keepTab : List (Nat × Nat × List Nat × List Nat) := [(10, 0, [0, 3, 4], [3]), (12, 0, [0, 1, 5], [4]), (15, 0, [0, 1, 5], [1]), (16, 0, [0, 1, 5], [1, 4]), (19, 0, [0, 1, 5], [4]), (26, 0, [10, 12, 13, 14, 15, 16, 17], [6, 7]), (26, 2, [10, 12, 13, 14, 15, 16, 17, 19], [10, 12, 13, 14, 15, 16, 17]), (30, 0, [1, 2, 3, 4], [2, 3]), (30, 2, [1, 2, 3, 4, 5, 6], [1, 2, 3, 4, 5]), (31, 0, [2, 6, 7, 8], [2, 6, 7]), (31, 2, [2, 6, 7, 8, 9], [2, 6, 7, 8]), (32, 0, [2, 5, 6], [2, 5]), (32, 2, [2, 5, 6, 7], [2, 5, 6]), (33, 0, [0, 3, 4], [3]), (34, 0, [1, 2, 6, 7], [1, 2, 4, 5]), (34, 2, [1, 2, 6, 7, 8, 9], [1, 2, 6, 7, 8]), (34, 4, [1, 2, 6, 7, 10, 11, 12], [1, 2, 6, 7, 11]), (35, 0, [0, 3, 4], [3]), (37, 0, [0, 3, 4], [3]), (39, 0, [3, 11, 12, 13], [3]), (39, 2, [3, 6, 11, 12, 13, 18, 19, 20], [3, 6, 11, 12, 13]), (40, 0, [0, 6, 7], [4, 5]), (41, 0, [3, 9, 10, 11], [3]), (42, 0, [0, 1, 6], [0, 1, 4, 5]), (44, 0, [0, 5, 10, 11, 12], [0, 5]), (44, 2, [0, 5, 7, 8, 10, 11, 12], [0, 5, 7, 8, 10, 11, 12]), (45, 0, [0, 3, 9, 10, 11], [0, 3]), (45, 2, [6, 25, 26, 27], [6]), (46, 0, [3, 8, 9], [3]), (49, 0, [0, 4, 7, 8], [7]), (51, 0, [0, 1, 5], [5]), (53, 0, [7, 8], [7]), (54, 0, [2, 7, 8, 9], [4, 5, 6, 7, 8]), (54, 2, [2, 7, 8, 9, 10], [2, 4, 5, 6, 7, 8, 9]), (55, 0, [0, 1, 5], [4]), (57, 0, [0, 1, 5], [4]), (59, 0, [1, 3], [2]), (59, 2, [1, 3, 4], [1, 2, 3]), (60, 0, [0, 1, 5], [4]), (63, 0, [1, 2, 3, 7], [6]), (65, 0, [0, 3, 4], [3]), (67, 0, [2, 5, 6], [5]), (67, 2, [2, 5, 6, 7], [2, 5, 6]), (68, 0, [1, 5, 6], [5]), (69, 0, [1, 3, 7, 8], [6, 7]), (70, 0, [1, 25, 26, 27], [2]), (74, 0, [0, 3], [3]), (76, 0, [0, 1, 7, 8], [4]), (77, 0, [0, 5, 6, 9, 10, 11], [5]), (80, 0, [0, 5, 6], [5]), (85, 0, [0, 1, 5, 6, 14, 15, 16], [0, 1, 5, 6]), (85, 2, [1, 5, 6, 9, 26, 27, 28], [6]), (87, 0, [3, 9, 10, 11], [3]), (91, 0, [0, 3, 4], [3]), (92, 0, [0, 4, 5, 6, 7, 8], [4, 6]), (92, 2, [0, 4, 5, 6, 7, 8, 9], [0, 4, 5, 6, 7, 8]), (94, 1, [0, 4, 7], [7]), (96, 0, [0, 5, 6, 7], [4, 5]), (96, 2, [0, 5, 6, 7, 37, 38, 39], [0, 4, 5, 6, 7]), (99, 0, [0, 1, 5], [4]), (102, 0, [3, 11, 12, 13], [3]), (102, 2, [3, 4, 11, 12, 13, 19, 20, 21], [3, 11, 12, 13]), (103, 0, [0, 1, 7, 8], [4]), (108, 0, [0, 1, 7, 8], [4]), (109, 0, [0, 1, 12, 13], [4]), (112, 0, [0, 2, 3], []), (113, 0, [0, 2, 3, 4], [2, 3]), (118, 0, [3, 9, 10, 11], [3]), (120, 0, [0, 1, 7, 8], [4])]

def byrefTab : List Nat := [14, 15, 49, 50, 88, 92, 93, 94, 112, 114, 115]

def byref (f : FuncId) : Bool := byrefTab.contains f

def keepHint (f : FuncId) (b : Nat) : Option Hint :=
  match keepTab.find? (fun p => p.1 == f && p.2.1 == b) with
  | some p => some ⟨p.2.2.1, if byref f then [500000, 500001, 500002] else [], p.2.2.2⟩
  | none => none

def deBruijn : List Int := [0, 1, 56, 2, 57, 49, 28, 3, 61, 58, 42, 50, 38, 29, 17, 4, 62, 47, 59, 36, 45, 43, 51, 22, 53, 39, 33, 30, 24, 18, 12, 5, 63, 55, 48, 27, 60, 41, 37, 16, 46, 35, 44, 21, 52, 32, 23, 11, 54, 26, 40, 15, 34, 20, 31, 10, 25, 14, 19, 9, 13, 8, 7, 6]

def glob (g : Nat) : Option D := if g = 0 then some (.pim (deBruijn.map (.int .u8))) else none

def prim (f : FuncId) (args : List D) (prows : List Row) : Option Ret :=
  if f = F.slices_CloneSint64int64 then match args, prows with
    | [.immI .i64 []], [] => some ⟨.rsl 600000 0 0, [], [⟨true, .ints .i64 []⟩]⟩
    | _, _ => none
  else if f = F.bits_TrailingZeros64 then match args, prows with
    | [.int .u64 x], [] => if 0 ≤ x ∧ x < 18446744073709551616 then some ⟨.int .i64 (Lib.ctz 64 x.toNat), [], []⟩ else none
    | _, _ => none
  else none

def nilPos (s : String) : Bool := s == "l11_automata.go:257"

noncomputable def X : Ctx := ctxOf Tryd.prog glob byref keepHint prim nilPos

abbrev wq (f : FuncId) (b : Nat) (fn : Func) (k : Nat) (s : LSt) (Q : Out → Prop) : Prop := WpL X f b (lb fn k) s.st Q
abbrev wl (f : FuncId) (b : Nat) (fn : Func) (k : Nat) (s : LSt) (o : OutL) : Prop := WpL X f b (lb fn k) s.st fun x => x = o.out
end Go.PR.S

end

section
/- What the evaluator is told of the library's functions, shown over the model. -/
set_option linter.unusedVariables false
set_option linter.unusedSimpArgs false
namespace Go.PR.S
open Go Go.PR Go.Proofs Go.RowKit

set_option maxHeartbeats 1000000 in
theorem tz_core (x k idx : Nat) (w : World) (hx0 : ((x : Int) == 0) = false)
    (key : IntKind.u64.wrap (bits BinOp.and IntKind.u64 (x : Int) (IntKind.u64.wrap (-(x : Int))) * 285870213051353865) / 288230376151711744 = (idx : Int))
    (hi : idx < 64) (hk : k < 64) (hcell : w.cell? ⟨0, idx, none⟩ = some (.int .u8 k)) :
    Calls Tryd.prog 125 #[.int .u64 x] w fun e w' => e = .returned (.int .i64 k) ∧ w' = w := by
  go_enter Tryd.func125, Tryd.ntmps125
  go_wp2_with (simp only [key])
  go_ret
  exact ⟨rfl, rfl⟩

theorem tz_zero (w : World) : Calls Tryd.prog 125 #[.int .u64 0] w fun e w' => e = .returned (.int .i64 64) ∧ w' = w := by
  go_enter Tryd.func125, Tryd.ntmps125
  go_wp2
  go_ret
  exact ⟨rfl, rfl⟩

set_option maxRecDepth 100000 in
theorem clone_none (c : Nat) (w : World) : Calls Tryd.prog 111 #[.slice none 0 c] w fun e w' => ∃ A', e = .returned (.slice A' 0 0) ∧ Keeps (fun _ => False) w w' := by
  go_enter Tryd.func111, Tryd.ntmps111
  have t22 := Tryd.underlying22
  have hn : ∀ w' : World, (binOp .eql 22 (.slice none 0 c) (.slice none 0 0)).run Tryd.prog w' = .ok (.bool (none.isNone)) w' := fun w' => Go.Lib.run_eql_slice_nil w' 22 2 none 0 c 0 0 t22
  go_wp2
  go_ret
  exact ⟨_, rfl, Keeps.refl _ _⟩

set_option maxRecDepth 100000 in
theorem clone_some (A : Addr) (c : Nat) (w : World) : Calls Tryd.prog 111 #[.slice (some A) 0 c] w fun e w' => ∃ A', e = .returned (.slice A' 0 0) ∧ Keeps (fun _ => False) w w' := by
  go_enter Tryd.func111, Tryd.ntmps111
  have t22 := Tryd.underlying22
  have hn : ∀ w' : World, (binOp .eql 22 (.slice (some A) 0 c) (.slice none 0 0)).run Tryd.prog w' = .ok (.bool ((some A).isNone)) w' := fun w' => Go.Lib.run_eql_slice_nil w' 22 2 (some A) 0 c 0 0 t22
  go_wp2
  go_ret
  exact ⟨_, rfl, Keeps.alloc _ _ _⟩

theorem back_nil (r : D) : rowsBack ⟨r, [], []⟩ = fun _ => none := by
  funext i; unfold rowsBack; split
  · simp
  · split <;> simp

theorem one_row {id : Nat} {row rw0 : Row} {d : D} (hr : rowsBack ⟨d, [], [rw0]⟩ id = some row) : id = 600000 ∧ row = rw0 := by
  unfold rowsBack XB PB at hr
  split at hr
  · rename_i hge
    have : id - 600000 = 0 := by
      rcases Nat.eq_zero_or_pos (id - 600000) with h | h
      · exact h
      · rw [List.getElem?_eq_none (by simp only [List.length_singleton]; omega)] at hr; cases hr
    rw [this] at hr
    simp at hr
    exact ⟨by omega, hr.symm⟩
  · split at hr <;> simp at hr

theorem tz_key (x a : Nat) (hx : x < 18446744073709551616) (hx0 : x ≠ 0) (hlow : x &&& (18446744073709551616 - x) = a) :
    IntKind.u64.wrap (bits BinOp.and IntKind.u64 (x : Int) (IntKind.u64.wrap (-(x : Int))) * 285870213051353865) / 288230376151711744 = ((a * 285870213051353865 % 18446744073709551616 / 288230376151711744 : Nat) : Int) := by
  have e1 : IntKind.u64.wrap (-(x : Int)) = ((18446744073709551616 - x : Nat) : Int) := by rw [IntKind.wrap_u64]; omega
  rw [e1, bits_and_u64_nat x _ hx (by omega), hlow, IntKind.wrap_u64]
  omega

theorem tz_calls (x : Nat) (hx : x < 18446744073709551616) (w : World) (hT : ∀ j, j < 64 → w.cell? ⟨0, j, none⟩ = some (.int .u8 (Lib.deBruijn64tab.getD j 0 : Nat))) :
    Calls Tryd.prog 125 #[.int .u64 x] w fun e w' => e = .returned (.int .i64 (Lib.ctz 64 x)) ∧ w' = w := by
  by_cases hx0 : x = 0
  · subst hx0
    exact tz_zero w
  · obtain ⟨hlow, hk⟩ := Lib.lowest_bit 64 x hx0 hx
    obtain ⟨hi, htab⟩ := Lib.deBruijn64_at _ hk
    have hcell := hT _ hi
    rw [htab] at hcell
    exact tz_core x _ _ w (by simp; omega) (tz_key x _ hx hx0 hlow) hi hk hcell

theorem tab_eq : ∀ j, j < 64 → deBruijn.getD j 0 = (Lib.deBruijn64tab.getD j 0 : Nat) := by decide +kernel

theorem prim_sound : ∀ f args prows r, X.prim f args prows = some r → Sound Tryd.prog X f args prows r := by
  intro f args prows r h
  have h' : prim f args prows = some r := h
  unfold prim at h'
  split at h'
  · rename_i hf
    subst hf
    split at h'
    case h_2 => cases h'
    cases h'
    intro w M mu vs hs
    have hv := hs.env
    simp only [List.toList_toArray] at hv
    cases vs with
    | nil => simp only [RepL] at hv
    | cons v vs =>
      cases vs with
      | cons => simp only [RepL] at hv; exact hv.2.elim
      | nil =>
        simp only [RepL, Rep] at hv
        obtain ⟨⟨A, c, rfl, _, _⟩, _⟩ := hv
        have key : Calls Tryd.prog 111 #[.slice A 0 c] w fun e w' => ∃ A', e = .returned (.slice A' 0 0) ∧ Keeps (fun _ => False) w w' := by
          cases A with
          | none => exact clone_none c w
          | some A => exact clone_some A c w
        refine key.mono ?_
        rintro e w' ⟨A', rfl, hk⟩
        let mu' : Nat → Option Loc := fun i => if i = 600000 then some .nowhere else mu i
        have hs' := hs.world hk
        refine ⟨_, M, mu', rfl, { hs' with env := ?_, rows := ?_, apart := ?_, pin := ?_ }⟩
        · simp only [RepL, Rep]
          exact ⟨⟨.nowhere, by simp [mu'], rfl, A', rfl⟩, trivial⟩
        · intro id row hr
          have hid := one_row hr
          obtain ⟨rfl, rfl⟩ := hid
          exact ⟨.nowhere, by simp [mu'], by simp [ContRep, intsV]⟩
        · intro i j ri rj b hij hi hj
          have one : ∀ i ri, rowsBack ⟨.rsl 600000 0 0, [], [⟨true, .ints .i64 []⟩]⟩ i = some ri → i = 600000 := fun i ri hr => (one_row hr).1
          exact (hij ((one i ri hi).trans (one j rj hj).symm)).elim
        · intro i hi
          have : i ≠ 600000 := fun e => by have := hi.2; unfold XB at this; omega
          simp [mu', this]
  · split at h'
    · rename_i hf
      subst hf
      split at h'
      case h_2 => cases h'
      rename_i x
      split at h'
      case isFalse => cases h'
      rename_i hx
      cases h'
      intro w M mu vs hs
      have hv := hs.env
      simp only [List.toList_toArray] at hv
      cases vs with
      | nil => simp only [RepL] at hv
      | cons v vs =>
        cases vs with
        | cons => simp only [RepL] at hv; exact hv.2.elim
        | nil =>
          simp only [RepL, Rep] at hv
          obtain ⟨rfl, _⟩ := hv
          have hg := hs.glob 0 (.pim (deBruijn.map (.int .u8))) rfl
          simp only [Rep] at hg
          obtain ⟨ad, cv, e1, hr, hh⟩ := hg
          cases e1
          have hT : ∀ j, j < 64 → w.cell? ⟨0, j, none⟩ = some (.int .u8 (Lib.deBruijn64tab.getD j 0 : Nat)) := by
            intro j hj
            have hlen : deBruijn.length = 64 := by decide
            obtain ⟨u, hu, hru⟩ := hr.get j (.int .u8 (deBruijn.getD j 0)) (by
              rw [List.getElem?_map, List.getElem?_eq_getElem (by omega)]
              simp [List.getD, List.getElem?_eq_getElem (show j < deBruijn.length by omega)])
            simp only [Rep] at hru
            subst hru
            have := (held_cell hh hu).1
            rw [addr_add_lit, Nat.zero_add] at this
            rw [this, tab_eq j hj]
          obtain ⟨m, rfl⟩ : ∃ m : Nat, x = m := ⟨x.toNat, by omega⟩
          refine (tz_calls m (by omega) w hT).mono ?_
          rintro e w' ⟨rfl, rfl⟩
          refine ⟨_, M, mu, rfl, { hs with env := ?_, rows := ?_, apart := ?_ }⟩
          · simp only [RepL, Rep, Int.toNat_natCast, and_self]
          · intro id row hr; rw [back_nil] at hr; cases hr
          · intro i j ri rj b hij hi; rw [back_nil] at hi; cases hi
    · cases h'

theorem X_ok : XOK Tryd.prog X := ctxOf_ok (by kernel_rfl)

theorem Runs.sound {f : FuncId} {args : List D} {prows : List Row} {r : Ret} (h : Runs X f args prows r) : Sound Tryd.prog X f args prows r := by
  obtain ⟨K, hK⟩ := h
  exact evalFn_sound X_ok prim_sound K f args prows r (hK K (Nat.le_refl _))

end Go.PR.S

end

section
/- Masks: the operations on bits, told on natural numbers. -/
set_option linter.unusedVariables false
namespace Go.PR
open Go

def tb (m i : Int) : Bool := m.toNat.testBit i.toNat

theorem wrap_nat {a : Nat} (h : a < 2 ^ 63) : IntKind.i64.wrap (a : Int) = a := by
  rw [IntKind.wrap_i64]; omega

theorem ofInt_toNat {a : Nat} (h : a < 2 ^ 63) : (BitVec.ofInt 64 (a : Int)).toNat = a := by
  rw [BitVec.toNat_ofInt]; omega

theorem iand_nat {a b : Nat} (ha : a < 2 ^ 63) (hb : b < 2 ^ 63) : iand a b = (a &&& b : Nat) := by
  show IntKind.i64.wrap (BitVec.ofInt 64 (a : Int) &&& BitVec.ofInt 64 (b : Int)).toNat = _
  simp only [BitVec.toNat_and, ofInt_toNat ha, ofInt_toNat hb]
  exact wrap_nat (Nat.lt_of_le_of_lt Nat.and_le_left ha)

theorem ior_nat {a b : Nat} (ha : a < 2 ^ 63) (hb : b < 2 ^ 63) : ior a b = (a ||| b : Nat) := by
  show IntKind.i64.wrap (BitVec.ofInt 64 (a : Int) ||| BitVec.ofInt 64 (b : Int)).toNat = _
  simp only [BitVec.toNat_or, ofInt_toNat ha, ofInt_toNat hb]
  exact wrap_nat (Nat.or_lt_two_pow ha hb)

theorem ixor_nat {a b : Nat} (ha : a < 2 ^ 63) (hb : b < 2 ^ 63) : ixor a b = (a ^^^ b : Nat) := by
  show IntKind.i64.wrap (BitVec.ofInt 64 (a : Int) ^^^ BitVec.ofInt 64 (b : Int)).toNat = _
  simp only [BitVec.toNat_xor, ofInt_toNat ha, ofInt_toNat hb]
  exact wrap_nat (Nat.xor_lt_two_pow ha hb)

theorem ishr_nat (a i : Nat) : ishr a i = (a / 2 ^ min i 64 : Nat) := by
  unfold ishr
  rw [Int.toNat_natCast]
  have : (2 : Int) ^ min i 64 = ((2 ^ min i 64 : Nat) : Int) := by simp
  rw [this, Int.fdiv_eq_ediv_of_nonneg _ (Int.natCast_nonneg _)]
  rfl

theorem ishl_nat (a i : Nat) : ishl a i = (a * 2 ^ min i 64 : Nat) := by
  unfold ishl
  rw [Int.toNat_natCast]
  simp

theorem one_nat {i : Nat} (h : i ≤ 62) : ishl 1 i = (2 ^ i : Nat) := by
  have := ishl_nat 1 i
  rw [Nat.min_eq_left (by omega), Nat.one_mul] at this
  exact this

theorem pow62 {i : Nat} (h : i ≤ 62) : 2 ^ i < 2 ^ 63 := Nat.pow_lt_pow_right (by omega) (by omega)

theorem has_nat {m i : Nat} (h : m < 2 ^ 63) : (iand (ishr m i) 1 == 1) = tb m i := by
  have hs : m / 2 ^ min i 64 < 2 ^ 63 := Nat.lt_of_le_of_lt (Nat.div_le_self _ _) h
  have h1 : iand (ishr m i) 1 = ((m / 2 ^ min i 64 &&& 1 : Nat) : Int) := by rw [ishr_nat]; exact iand_nat (b := 1) hs (by omega)
  rw [h1]
  unfold tb
  simp only [Int.toNat_natCast]
  rw [Nat.and_one_is_mod]
  by_cases hi : i ≤ 64
  · rw [Nat.min_eq_left hi, Nat.testBit_eq_decide_div_mod_eq]
    rw [Bool.eq_iff_iff, beq_iff_eq, decide_eq_true_iff]; omega
  · rw [Nat.min_eq_right (by omega), Nat.div_eq_of_lt (by omega)]
    have : m.testBit i = false := Nat.testBit_lt_two_pow (Nat.lt_of_lt_of_le h (Nat.pow_le_pow_right (by omega) (by omega)))
    rw [this]; decide

def mkM (f : Nat → Bool) : Nat → Nat
  | 0 => 0
  | m + 1 => mkM f m ||| (if f m then 2 ^ m else 0)

theorem mkM_bit (f : Nat → Bool) : ∀ (m i : Nat), (mkM f m).testBit i = (decide (i < m) && f i)
  | 0, i => by simp [mkM]
  | m + 1, i => by
    simp only [mkM, Nat.testBit_or, mkM_bit f m i]
    by_cases h : f m
    · rw [if_pos h, Nat.testBit_two_pow]
      by_cases e : m = i
      · subst e; simp [h]
      · have : decide (i < m + 1) = decide (i < m) := by rw [Bool.eq_iff_iff]; simp; omega
        simp [e, this]
    · rw [if_neg h]
      by_cases e : m = i
      · subst e; simp at h; simp [h]
      · have : decide (i < m + 1) = decide (i < m) := by rw [Bool.eq_iff_iff]; simp; omega
        simp [this]

theorem mkM_lt (f : Nat → Bool) (m : Nat) : mkM f m < 2 ^ m := by
  refine Nat.lt_pow_two_of_testBit _ fun i hi => ?_
  rw [mkM_bit]; simp; omega

theorem bit_lt {a m i : Nat} (ha : a < 2 ^ m) (h : a.testBit i = true) : i < m := by
  rcases Nat.lt_or_ge i m with hh | hh
  · exact hh
  · rw [Nat.testBit_lt_two_pow (Nat.lt_of_lt_of_le ha (Nat.pow_le_pow_right (by omega) hh))] at h
    cases h

end Go.PR

end
