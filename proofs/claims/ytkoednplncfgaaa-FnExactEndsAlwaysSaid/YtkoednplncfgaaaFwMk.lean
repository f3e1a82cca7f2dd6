/- The functions' numbers, by name (written by names.py). -/
import GoSem.Core.Code
import Derived.Test.YtkoednplncfgaaaFwW
import Derived.KernelRfl
import Derived.Test.YtkoednplncfgaaaProg
import Derived.Test.YtkoednplncfgaaaChecked
section
/- The functions' numbers, by name (written by names.py). -/
namespace Go.PR.S.F
open Go
abbrev main_main : FuncId := 0
abbrev gosem_cut : FuncId := 1
abbrev gosem_cut_init : FuncId := 2
abbrev laws_FnExactNewDesk : FuncId := 3
abbrev laws_FnExactEndsAlways : FuncId := 4
abbrev spec_NewDesk : FuncId := 5
abbrev impl_NewDesk : FuncId := 6
abbrev laws_eqDesk : FuncId := 7
abbrev laws_markDesk : FuncId := 8
abbrev laws_heldDesk : FuncId := 9
abbrev laws_szAutomaton : FuncId := 10
abbrev spec_EndsAlways : FuncId := 11
abbrev laws_toAutomaton : FuncId := 12
abbrev impl_EndsAlways : FuncId := 13
abbrev laws_eqAutomaton : FuncId := 14
abbrev spec_l20New : FuncId := 15
abbrev impl_loose : FuncId := 16
abbrev impl_allWords : FuncId := 17
abbrev laws_eqAlphabet : FuncId := 18
abbrev laws_eqInt64S : FuncId := 19
abbrev laws_eqNet : FuncId := 20
abbrev laws_markAlphabet : FuncId := 21
abbrev laws_markInt64S : FuncId := 22
abbrev laws_markAutomaton : FuncId := 23
abbrev laws_markNet : FuncId := 24
abbrev laws_heldAlphabet : FuncId := 25
abbrev laws_heldInt64S : FuncId := 26
abbrev laws_heldAutomaton : FuncId := 27
abbrev laws_heldNet : FuncId := 28
abbrev laws_szInt64SS : FuncId := 29
abbrev spec_l11Is : FuncId := 30
abbrev spec_l19Ends : FuncId := 31
abbrev laws_toInt64SS : FuncId := 32
abbrev impl_IsAutomaton : FuncId := 33
abbrev impl_machineOf : FuncId := 34
abbrev impl_machine_ends : FuncId := 35
abbrev laws_eqInt64SS : FuncId := 36
abbrev spec_l11All : FuncId := 37
abbrev impl_one : FuncId := 38
abbrev laws_markInt64SS : FuncId := 39
abbrev laws_heldInt64SS : FuncId := 40
abbrev laws_szInt64S : FuncId := 41
abbrev spec_l11States : FuncId := 42
abbrev spec_l01In : FuncId := 43
abbrev spec_l01Full : FuncId := 44
abbrev spec_l01Bit : FuncId := 45
abbrev spec_l01One : FuncId := 46
abbrev laws_toInt64S : FuncId := 47
abbrev impl_lengthSint64 : FuncId := 48
abbrev impl_inRange : FuncId := 49
abbrev impl_IsMask : FuncId := 50
abbrev slices_ContainsFuncSSint64Sint64 : FuncId := 51
abbrev impl_IsAutomatonk1 : FuncId := 52
abbrev impl_lengthint64 : FuncId := 53
abbrev impl_allIn : FuncId := 54
abbrev impl_has : FuncId := 55
abbrev slices_ContainsFuncSint64int64 : FuncId := 56
abbrev impl_machine_endsk1 : FuncId := 57
abbrev slices_ContainsSboolbool : FuncId := 58
abbrev slices_IndexFuncSSint64Sint64 : FuncId := 59
abbrev impl_allInk1 : FuncId := 60
abbrev slices_IndexFuncSint64int64 : FuncId := 61
abbrev slices_IndexSboolbool : FuncId := 62
abbrev runtime_boundsError_Error : FuncId := 63
abbrev runtime_boundsError_RuntimeError : FuncId := 64
abbrev runtime_errorString_Error : FuncId := 65
abbrev runtime_errorString_RuntimeError : FuncId := 66
abbrev runtime_plainError_Error : FuncId := 67
abbrev runtime_plainError_RuntimeError : FuncId := 68
abbrev runtime_errorAddressString_Error : FuncId := 69
abbrev runtime_errorAddressString_RuntimeError : FuncId := 70
abbrev runtime_TypeAssertionError_Error : FuncId := 71
abbrev runtime_TypeAssertionError_RuntimeError : FuncId := 72
abbrev runtime_PanicNilError_Error : FuncId := 73
abbrev runtime_PanicNilError_RuntimeError : FuncId := 74
abbrev abi_Type_Align : FuncId := 75
abbrev maps_unhashableTypeError_Error : FuncId := 76
abbrev maps_unhashableTypeError_RuntimeError : FuncId := 77
abbrev impl_Alphabet_tie : FuncId := 78
abbrev impl_Net_enabled : FuncId := 79
abbrev impl_Desk_failed : FuncId := 80
abbrev abi_Kind_String : FuncId := 81
end Go.PR.S.F

end

section
/- The seat's context: what the evaluator is told of this program. -/
namespace Go.PR.S
open Go Go.PR Go.Proofs

def keepTab : List (Nat × Nat × List Nat × List Nat) := [(16, 0, [2, 3, 7, 8], [2, 3]),  (19, 0, [0, 1, 5], [4]),  (22, 0, [0, 1, 5], [1]),  (26, 0, [0, 1, 5], [1, 4]),  (29, 0, [0, 1, 5], [1, 4]),  (30, 0, [1, 3, 4], [2]),  (30, 2, [1, 3, 4, 5], [1, 2, 3, 4]),  (31, 0, [1, 3, 4], [1, 3]),  (31, 2, [1, 3, 4, 5], [1, 3, 4]),  (31, 4, [1, 3, 4, 5, 6, 7], [1, 3, 4, 5, 6]),  (32, 0, [0, 3, 4], [3]),  (34, 0, [1, 2, 3, 14, 15], [2, 3]),  (35, 0, [1, 3, 4], [3]),  (35, 2, [1, 3, 4, 13, 14, 15], [1, 3, 4]),  (36, 0, [0, 1, 5], [4]),  (39, 0, [0, 1, 5], [1]),  (40, 0, [0, 1, 5], [1, 4]),  (47, 0, [0, 3, 4], [3]),  (59, 0, [0, 1, 7, 8], [4]),  (61, 0, [0, 1, 7, 8], [4]),  (62, 0, [0, 1, 7, 8], [4])]

def byrefTab : List Nat := [8, 21, 22, 23, 24, 39]

def byref (f : FuncId) : Bool := byrefTab.contains f

def keepHint (f : FuncId) (b : Nat) : Option Hint :=
  match keepTab.find? (fun p => p.1 == f && p.2.1 == b) with
  | some p => some ⟨p.2.2.1, if byref f then [500000, 500001, 500002] else [], p.2.2.2⟩
  | none => none

def glob (g : Nat) : Option D := none
def prim (f : FuncId) (args : List D) (prows : List Row) : Option Ret := none
def nilPos (s : String) : Bool := false

noncomputable def X : Ctx := ctxOf Try.prog glob byref keepHint prim nilPos

end Go.PR.S

end

section
/- What the evaluator says holds of the model. -/
set_option linter.unusedVariables false
namespace Go.PR.S
open Go Go.PR Go.Proofs

theorem prim_sound : ∀ f args prows r, X.prim f args prows = some r → Sound Try.prog X f args prows r := by
  intro f args prows r h
  cases h

theorem X_ok : XOK Try.prog X := ctxOf_ok (by kernel_rfl)

theorem Runs.sound {f : FuncId} {args : List D} {prows : List Row} {r : Ret} (h : Runs X f args prows r) : Sound Try.prog X f args prows r := by
  obtain ⟨K, hK⟩ := h
  exact evalFn_sound X_ok prim_sound K f args prows r (hK K (Nat.le_refl _))

end Go.PR.S

end

section
/- Masks: the operations on bits, told on natural numbers. -/
set_option linter.unusedVariables false
namespace Go.PR
open Go

def tb (m i : Int) : Bool := m.toNat.testBit i.toNat

theorem wrap_nat {a : Nat} (h : a < 2 ^ 63) : IntKind.i64.wrap (a : Int) = a := by
  rw [IntKind.wrap_i64]; omega

theorem ofInt_toNat {a : Nat} (h : a < 2 ^ 63) : (BitVec.ofInt 64 (a : Int)).toNat = a := by
  rw [BitVec.toNat_ofInt]; omega

theorem iand_nat {a b : Nat} (ha : a < 2 ^ 63) (hb : b < 2 ^ 63) : iand a b = (a &&& b : Nat) := by
  show IntKind.i64.wrap (BitVec.ofInt 64 (a : Int) &&& BitVec.ofInt 64 (b : Int)).toNat = _
  simp only [BitVec.toNat_and, ofInt_toNat ha, ofInt_toNat hb]
  exact wrap_nat (Nat.lt_of_le_of_lt Nat.and_le_left ha)

theorem ior_nat {a b : Nat} (ha : a < 2 ^ 63) (hb : b < 2 ^ 63) : ior a b = (a ||| b : Nat) := by
  show IntKind.i64.wrap (BitVec.ofInt 64 (a : Int) ||| BitVec.ofInt 64 (b : Int)).toNat = _
  simp only [BitVec.toNat_or, ofInt_toNat ha, ofInt_toNat hb]
  exact wrap_nat (Nat.or_lt_two_pow ha hb)

theorem ishr_nat (a i : Nat) : ishr a i = (a / 2 ^ min i 64 : Nat) := by
  unfold ishr
  rw [Int.toNat_natCast]
  have : (2 : Int) ^ min i 64 = ((2 ^ min i 64 : Nat) : Int) := by simp
  rw [this, Int.fdiv_eq_ediv_of_nonneg _ (Int.natCast_nonneg _)]
  rfl

theorem ishl_nat (a i : Nat) : ishl a i = (a * 2 ^ min i 64 : Nat) := by
  unfold ishl
  rw [Int.toNat_natCast]
  simp

theorem one_nat {i : Nat} (h : i ≤ 62) : ishl 1 i = (2 ^ i : Nat) := by
  have := ishl_nat 1 i
  rw [Nat.min_eq_left (by omega), Nat.one_mul] at this
  exact this

theorem pow62 {i : Nat} (h : i ≤ 62) : 2 ^ i < 2 ^ 63 := Nat.pow_lt_pow_right (by omega) (by omega)

theorem has_nat {m i : Nat} (h : m < 2 ^ 63) : (iand (ishr m i) 1 == 1) = tb m i := by
  have hs : m / 2 ^ min i 64 < 2 ^ 63 := Nat.lt_of_le_of_lt (Nat.div_le_self _ _) h
  have h1 : iand (ishr m i) 1 = ((m / 2 ^ min i 64 &&& 1 : Nat) : Int) := by rw [ishr_nat]; exact iand_nat (b := 1) hs (by omega)
  rw [h1]
  unfold tb
  simp only [Int.toNat_natCast]
  rw [Nat.and_one_is_mod]
  by_cases hi : i ≤ 64
  · rw [Nat.min_eq_left hi, Nat.testBit_eq_decide_div_mod_eq]
    rw [Bool.eq_iff_iff, beq_iff_eq, decide_eq_true_iff]; omega
  · rw [Nat.min_eq_right (by omega), Nat.div_eq_of_lt (by omega)]
    have : m.testBit i = false := Nat.testBit_lt_two_pow (Nat.lt_of_lt_of_le h (Nat.pow_le_pow_right (by omega) (by omega)))
    rw [this]; decide

def mkM (f : Nat → Bool) : Nat → Nat
  | 0 => 0
  | m + 1 => mkM f m ||| (if f m then 2 ^ m else 0)

theorem mkM_bit (f : Nat → Bool) : ∀ (m i : Nat), (mkM f m).testBit i = (decide (i < m) && f i)
  | 0, i => by simp [mkM]
  | m + 1, i => by
    simp only [mkM, Nat.testBit_or, mkM_bit f m i]
    by_cases h : f m
    · rw [if_pos h, Nat.testBit_two_pow]
      by_cases e : m = i
      · subst e; simp [h]
      · have : decide (i < m + 1) = decide (i < m) := by rw [Bool.eq_iff_iff]; simp; omega
        simp [e, this]
    · rw [if_neg h]
      by_cases e : m = i
      · subst e; simp at h; simp [h]
      · have : decide (i < m + 1) = decide (i < m) := by rw [Bool.eq_iff_iff]; simp; omega
        simp [this]

theorem mkM_lt (f : Nat → Bool) (m : Nat) : mkM f m < 2 ^ m := by
  refine Nat.lt_pow_two_of_testBit _ fun i hi => ?_
  rw [mkM_bit]; simp; omega

end Go.PR

end
