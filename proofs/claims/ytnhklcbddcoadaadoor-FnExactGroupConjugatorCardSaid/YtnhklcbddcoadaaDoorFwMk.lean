/- The functions' numbers, by name (written by names.py). -/
import GoSem.Core.Code
import Derived.Test.YtnhklcbddcoadaaDoorFwMp
import Derived.KernelRfl
import Derived.Lib.TrailingZeros
import Derived.Test.YtnhklcbddcoadaaDoorProg
import Derived.WalkKit
import Derived.Lib.SliceRun
import Derived.Laws.Bits64b
import Derived.Test.YtnhklcbddcoadaaDoorChecked
set_option linter.unusedVariables false
set_option linter.unusedSimpArgs false
set_option linter.unusedSectionVars false
section
namespace Go.PR.S.F
open Go
abbrev zzo : FuncId := 0
abbrev zz5 : FuncId := 1
abbrev zz6 : FuncId := 2
abbrev zzk : FuncId := 3
abbrev zzl : FuncId := 4
abbrev zzj : FuncId := 5
abbrev z5r : FuncId := 6
abbrev z5v : FuncId := 7
abbrev z105 : FuncId := 8
abbrev z4p : FuncId := 9
abbrev z1e : FuncId := 10
abbrev zze : FuncId := 11
abbrev zy : FuncId := 12
abbrev z5s : FuncId := 13
abbrev z8m : FuncId := 14
abbrev z25 : FuncId := 15
abbrev z2l : FuncId := 16
abbrev zzm : FuncId := 17
abbrev z104 : FuncId := 18
abbrev zzn : FuncId := 19
abbrev zzc : FuncId := 20
abbrev zza : FuncId := 21
abbrev zzd : FuncId := 22
abbrev zzb : FuncId := 23
abbrev z4z : FuncId := 24
abbrev zz9 : FuncId := 25
abbrev zj : FuncId := 26
abbrev z3r : FuncId := 27
abbrev z6x : FuncId := 28
abbrev z3h : FuncId := 29
abbrev z18 : FuncId := 30
abbrev zd : FuncId := 31
abbrev z9 : FuncId := 32
abbrev z1o : FuncId := 33
abbrev z10g : FuncId := 34
abbrev z2u : FuncId := 35
abbrev z2f : FuncId := 36
abbrev z2s : FuncId := 37
abbrev z1p : FuncId := 38
abbrev zo : FuncId := 39
abbrev zp : FuncId := 40
abbrev zt : FuncId := 41
abbrev zzh : FuncId := 42
abbrev z6s : FuncId := 43
abbrev zi : FuncId := 44
abbrev za : FuncId := 45
abbrev z2z : FuncId := 46
abbrev z10j : FuncId := 47
abbrev z10i : FuncId := 48
abbrev z10h : FuncId := 49
abbrev z107 : FuncId := 50
abbrev z10f : FuncId := 51
abbrev z2i : FuncId := 52
abbrev z103 : FuncId := 53
abbrev z8 : FuncId := 54
abbrev z17 : FuncId := 55
abbrev z7v : FuncId := 56
abbrev z11 : FuncId := 57
abbrev z1n : FuncId := 58
abbrev zb : FuncId := 59
abbrev z19 : FuncId := 60
abbrev z2q : FuncId := 61
abbrev z7g : FuncId := 62
abbrev zh : FuncId := 63
abbrev z2r : FuncId := 64
abbrev z2g : FuncId := 65
abbrev z3j : FuncId := 66
abbrev z16 : FuncId := 67
abbrev z10d : FuncId := 68
abbrev z10e : FuncId := 69
abbrev z13 : FuncId := 70
abbrev z9e : FuncId := 71
abbrev z1q : FuncId := 72
abbrev z5j : FuncId := 73
abbrev zu : FuncId := 74
abbrev z87 : FuncId := 75
abbrev zg : FuncId := 76
abbrev zw : FuncId := 77
abbrev z23 : FuncId := 78
abbrev z2d : FuncId := 79
abbrev z1c : FuncId := 80
abbrev z89 : FuncId := 81
abbrev z3u : FuncId := 82
abbrev z6r : FuncId := 83
abbrev z3s : FuncId := 84
abbrev zzf : FuncId := 85
abbrev zzi : FuncId := 86
abbrev z3t : FuncId := 87
abbrev z9g : FuncId := 88
abbrev zif : FuncId := 89
abbrev z4i : FuncId := 90
abbrev z106 : FuncId := 91
abbrev z109 : FuncId := 92
abbrev z10c : FuncId := 93
abbrev z10k : FuncId := 94
abbrev zz2 : FuncId := 95
abbrev z6 : FuncId := 96
abbrev z7w : FuncId := 97
abbrev z1z : FuncId := 98
abbrev z1s : FuncId := 99
abbrev z29 : FuncId := 100
abbrev z5e : FuncId := 101
abbrev z14 : FuncId := 102
abbrev z27 : FuncId := 103
abbrev z5f : FuncId := 104
abbrev z9f : FuncId := 105
abbrev z5k : FuncId := 106
abbrev z5m : FuncId := 107
abbrev z1y : FuncId := 108
abbrev z1x : FuncId := 109
abbrev z6t : FuncId := 110
abbrev z43 : FuncId := 111
abbrev z3b : FuncId := 112
abbrev z10a : FuncId := 113
abbrev z108 : FuncId := 114
abbrev z10b : FuncId := 115
abbrev zz3 : FuncId := 116
abbrev zz4 : FuncId := 117
abbrev z1v : FuncId := 118
abbrev z4m : FuncId := 119
abbrev z1j : FuncId := 120
abbrev z1u : FuncId := 121
abbrev z7f : FuncId := 122
abbrev zcw : FuncId := 123
abbrev z1t : FuncId := 124
abbrev z7k : FuncId := 125
abbrev zzv : FuncId := 126
abbrev zzw : FuncId := 127
abbrev zzz : FuncId := 128
abbrev z100 : FuncId := 129
abbrev z101 : FuncId := 130
abbrev z102 : FuncId := 131
abbrev zzx : FuncId := 132
abbrev zzy : FuncId := 133
abbrev zzt : FuncId := 134
abbrev zzu : FuncId := 135
abbrev zzr : FuncId := 136
abbrev zzs : FuncId := 137
abbrev zz1 : FuncId := 138
abbrev zzp : FuncId := 139
abbrev zzq : FuncId := 140
abbrev zz8 : FuncId := 141
abbrev zzg : FuncId := 142
abbrev zz0 : FuncId := 143
abbrev zz7 : FuncId := 147
end Go.PR.S.F

end

section
namespace Go.PR.S
open Go Go.PR Go.Proofs
def keepTab : List (Nat × Nat × List Nat × List Nat) := [(10, 0, [0, 3, 4], [3]), (12, 0, [0, 1, 5], [4]), (15, 0, [0, 1, 5], [1]), (16, 0, [0, 1, 5], [1, 4]), (19, 0, [0, 1, 5], [4]), (26, 0, [10, 12, 13, 14, 15, 16, 17], [6, 7]), (26, 2, [10, 12, 13, 14, 15, 16, 17, 19], [10, 12, 13, 14, 15, 16, 17]), (30, 0, [1, 2, 3, 4], [2, 3]), (30, 2, [1, 2, 3, 4, 5, 6], [1, 2, 3, 4, 5]), (31, 0, [2, 6, 7, 8], [2, 6, 7]), (31, 2, [2, 6, 7, 8, 9], [2, 6, 7, 8]), (32, 0, [2, 5, 6], [2, 5]), (32, 2, [2, 5, 6, 7], [2, 5, 6]), (33, 0, [0, 3, 4], [3]), (34, 0, [1, 2, 6, 7], [1, 2, 4, 5]), (34, 2, [1, 2, 6, 7, 8, 9], [1, 2, 6, 7, 8]), (34, 4, [1, 2, 6, 7, 10, 11, 12], [1, 2, 6, 7, 11]), (35, 0, [0, 3, 4], [3]), (37, 0, [0, 3, 4], [3]), (39, 0, [3, 11, 12, 13], [3]), (39, 2, [3, 6, 11, 12, 13, 18, 19, 20], [3, 6, 11, 12, 13]), (40, 0, [0, 6, 7], [4, 5]), (41, 0, [3, 9, 10, 11], [3]), (42, 0, [0, 1, 6], [0, 1, 4, 5]), (44, 0, [0, 5, 10, 11, 12], [0, 5]), (44, 2, [0, 5, 7, 8, 10, 11, 12], [0, 5, 7, 8, 10, 11, 12]), (45, 0, [0, 3, 9, 10, 11], [0, 3]), (45, 2, [6, 25, 26, 27], [6]), (46, 0, [3, 8, 9], [3]), (49, 0, [0, 4, 7, 8], [7]), (51, 0, [0, 1, 5], [5]), (53, 0, [7, 8], [7]), (54, 0, [2, 7, 8, 9], [4, 5, 6, 7, 8]), (54, 2, [2, 7, 8, 9, 10], [2, 4, 5, 6, 7, 8, 9]), (55, 0, [0, 1, 5], [4]), (57, 0, [0, 1, 5], [4]), (59, 0, [1, 3], [2]), (59, 2, [1, 3, 4], [1, 2, 3]), (60, 0, [0, 1, 5], [4]), (63, 0, [1, 2, 3, 7], [6]), (65, 0, [0, 3, 4], [3]), (67, 0, [2, 5, 6], [5]), (67, 2, [2, 5, 6, 7], [2, 5, 6]), (68, 0, [1, 5, 6], [5]), (69, 0, [1, 3, 7, 8], [6, 7]), (70, 0, [1, 25, 26, 27], [2]), (74, 0, [0, 3], [3]), (76, 0, [0, 1, 7, 8], [4]), (77, 0, [0, 5, 6, 9, 10, 11], [5]), (80, 0, [0, 5, 6], [5]), (85, 0, [0, 1, 5, 6, 14, 15, 16], [0, 1, 5, 6]), (85, 2, [1, 5, 6, 9, 26, 27, 28], [6]), (87, 0, [3, 9, 10, 11], [3]), (91, 0, [0, 3, 4], [3]), (92, 0, [0, 4, 5, 6, 7, 8], [4, 6]), (92, 2, [0, 4, 5, 6, 7, 8, 9], [0, 4, 5, 6, 7, 8]), (94, 1, [0, 4, 7], [7]), (96, 0, [0, 5, 6, 7], [4, 5]), (96, 2, [0, 5, 6, 7, 37, 38, 39], [0, 4, 5, 6, 7]), (99, 0, [0, 1, 5], [4]), (102, 0, [3, 11, 12, 13], [3]), (102, 2, [3, 4, 11, 12, 13, 19, 20, 21], [3, 11, 12, 13]), (103, 0, [0, 1, 7, 8], [4]), (108, 0, [0, 1, 7, 8], [4]), (109, 0, [0, 1, 12, 13], [4]), (112, 0, [0, 2, 3], []), (113, 0, [0, 2, 3, 4], [2, 3]), (118, 0, [3, 9, 10, 11], [3]), (120, 0, [0, 1, 7, 8], [4])]
def zks : List Nat := [14, 15, 49, 50, 88, 92, 93, 94, 112, 114, 115]
def byref (f : FuncId) : Bool := zks.contains f
def zpv (f : FuncId) (b : Nat) : Option Hint :=
  match keepTab.find? (fun p => p.1 == f && p.2.1 == b) with
  | some p => some ⟨p.2.2.1, if byref f then [500000, 500001, 500002] else [], p.2.2.2⟩
  | none => none
def z1k : List Int := [0, 1, 56, 2, 57, 49, 28, 3, 61, 58, 42, 50, 38, 29, 17, 4, 62, 47, 59, 36, 45, 43, 51, 22, 53, 39, 33, 30, 24, 18, 12, 5, 63, 55, 48, 27, 60, 41, 37, 16, 46, 35, 44, 21, 52, 32, 23, 11, 54, 26, 40, 15, 34, 20, 31, 10, 25, 14, 19, 9, 13, 8, 7, 6]
def glob (g : Nat) : Option D := if g = 0 then some (.pim (z1k.map (.int .u8))) else none
def prim (f : FuncId) (args : List D) (prows : List Row) : Option Ret :=
  if f = F.z43 then match args, prows with
    | [.immI .i64 []], [] => some ⟨.rsl 600000 0 0, [], [⟨true, .ints .i64 []⟩]⟩
    | _, _ => none
  else if f = F.z7k then match args, prows with
    | [.int .u64 x], [] => if 0 ≤ x ∧ x < 18446744073709551616 then some ⟨.int .i64 (Lib.ctz 64 x.toNat), [], []⟩ else none
    | _, _ => none
  else none
def nilPos (s : String) : Bool := s == "l11_automata.go:257" || s == "l09_groups.go:282"
def nestPos (s : String) : Bool := s == "l07_conjugacy.go:156" || s == "l07_conjugacy.go:163"
noncomputable def X : Ctx := ctxOf Tryd.prog glob byref zpv prim nilPos nestPos
abbrev wq (f : FuncId) (b : Nat) (fn : Func) (k : Nat) (s : LSt) (Q : Out → Prop) : Prop := WpL X f b (lb fn k) s.st Q
abbrev wl (f : FuncId) (b : Nat) (fn : Func) (k : Nat) (s : LSt) (o : OutL) : Prop := WpL X f b (lb fn k) s.st fun x => x = o.out
end Go.PR.S

end

section
namespace Go.PR.S
open Go Go.PR Go.Proofs Go.RowKit
set_option maxHeartbeats 1000000 in
theorem tz_core (x k idx : Nat) (w : World) (hx0 : ((x : Int) == 0) = false)
    (key : IntKind.u64.wrap (bits BinOp.and IntKind.u64 (x : Int) (IntKind.u64.wrap (-(x : Int))) * 285870213051353865) / 288230376151711744 = (idx : Int))
    (hi : idx < 64) (hk : k < 64) (hcell : w.cell? ⟨0, idx, none⟩ = some (.int .u8 k)) :
    Calls Tryd.prog 125 #[.int .u64 x] w fun e w' => e = .returned (.int .i64 k) ∧ w' = w := by
  go_enter Tryd.func125, Tryd.ntmps125
  go_wp2_with (simp only [key])
  go_ret
  exact ⟨rfl, rfl⟩
theorem tz_zero (w : World) : Calls Tryd.prog 125 #[.int .u64 0] w fun e w' => e = .returned (.int .i64 64) ∧ w' = w := by
  go_enter Tryd.func125, Tryd.ntmps125
  go_wp2
  go_ret
  exact ⟨rfl, rfl⟩
set_option maxRecDepth 100000 in
theorem zky (c : Nat) (w : World) : Calls Tryd.prog 111 #[.slice none 0 c] w fun e w' => ∃ A', e = .returned (.slice A' 0 0) ∧ Keeps (fun _ => False) w w' := by
  go_enter Tryd.func111, Tryd.ntmps111
  have t22 := Tryd.underlying22
  have hn : ∀ w' : World, (binOp .eql 22 (.slice none 0 c) (.slice none 0 0)).run Tryd.prog w' = .ok (.bool (none.isNone)) w' := fun w' => Go.Lib.run_eql_slice_nil w' 22 2 none 0 c 0 0 t22
  go_wp2
  go_ret
  exact ⟨_, rfl, Keeps.refl _ _⟩
set_option maxRecDepth 100000 in
theorem zkz (A : Addr) (c : Nat) (w : World) : Calls Tryd.prog 111 #[.slice (some A) 0 c] w fun e w' => ∃ A', e = .returned (.slice A' 0 0) ∧ Keeps (fun _ => False) w w' := by
  go_enter Tryd.func111, Tryd.ntmps111
  have t22 := Tryd.underlying22
  have hn : ∀ w' : World, (binOp .eql 22 (.slice (some A) 0 c) (.slice none 0 0)).run Tryd.prog w' = .ok (.bool ((some A).isNone)) w' := fun w' => Go.Lib.run_eql_slice_nil w' 22 2 (some A) 0 c 0 0 t22
  go_wp2
  go_ret
  exact ⟨_, rfl, Keeps.alloc _ _ _⟩
theorem zdr (r : D) : zq ⟨r, [], []⟩ = fun _ => none := by
  funext i; unfold zq; split
  · simp
  · split <;> simp
theorem one_row {id : Nat} {row rw0 : Row} {d : D} (hr : zq ⟨d, [], [rw0]⟩ id = some row) : id = 600000 ∧ row = rw0 := by
  unfold zq XB PB at hr
  split at hr
  · rename_i hge
    have : id - 600000 = 0 := by
      rcases Nat.eq_zero_or_pos (id - 600000) with h | h
      · exact h
      · rw [List.getElem?_eq_none (by simp only [List.length_singleton]; omega)] at hr; cases hr
    rw [this] at hr
    simp at hr
    exact ⟨by omega, hr.symm⟩
  · split at hr <;> simp at hr
theorem tz_key (x a : Nat) (hx : x < 18446744073709551616) (hx0 : x ≠ 0) (hlow : x &&& (18446744073709551616 - x) = a) :
    IntKind.u64.wrap (bits BinOp.and IntKind.u64 (x : Int) (IntKind.u64.wrap (-(x : Int))) * 285870213051353865) / 288230376151711744 = ((a * 285870213051353865 % 18446744073709551616 / 288230376151711744 : Nat) : Int) := by
  have e1 : IntKind.u64.wrap (-(x : Int)) = ((18446744073709551616 - x : Nat) : Int) := by rw [IntKind.wrap_u64]; omega
  rw [e1, bits_and_u64_nat x _ hx (by omega), hlow, IntKind.wrap_u64]
  omega
theorem zys (x : Nat) (hx : x < 18446744073709551616) (w : World) (hT : ∀ j, j < 64 → w.cell? ⟨0, j, none⟩ = some (.int .u8 (Lib.deBruijn64tab.getD j 0 : Nat))) :
    Calls Tryd.prog 125 #[.int .u64 x] w fun e w' => e = .returned (.int .i64 (Lib.ctz 64 x)) ∧ w' = w := by
  by_cases hx0 : x = 0
  · subst hx0
    exact tz_zero w
  · obtain ⟨hlow, hk⟩ := Lib.lowest_bit 64 x hx0 hx
    obtain ⟨hi, htab⟩ := Lib.deBruijn64_at _ hk
    have hcell := hT _ hi
    rw [htab] at hcell
    exact tz_core x _ _ w (by simp; omega) (tz_key x _ hx hx0 hlow) hi hk hcell
theorem tab_eq : ∀ j, j < 64 → z1k.getD j 0 = (Lib.deBruijn64tab.getD j 0 : Nat) := by decide +kernel
theorem zs1 : ∀ f args prows r, X.prim f args prows = some r → Sound Tryd.prog X f args prows r := by
  intro f args prows r h
  have h' : prim f args prows = some r := h
  unfold prim at h'
  split at h'
  · rename_i hf
    subst hf
    split at h'
    case h_2 => cases h'
    cases h'
    intro w M mu vs hs
    have hv := hs.env
    simp only [List.toList_toArray] at hv
    cases vs with
    | nil => simp only [RepL] at hv
    | cons v vs =>
      cases vs with
      | cons => simp only [RepL] at hv; exact hv.2.elim
      | nil =>
        simp only [RepL, Rep] at hv
        obtain ⟨⟨A, c, rfl, _, _⟩, _⟩ := hv
        have key : Calls Tryd.prog 111 #[.slice A 0 c] w fun e w' => ∃ A', e = .returned (.slice A' 0 0) ∧ Keeps (fun _ => False) w w' := by
          cases A with
          | none => exact zky c w
          | some A => exact zkz A c w
        refine key.mono ?_
        rintro e w' ⟨A', rfl, hk⟩
        let mu' : Nat → Option Loc := fun i => if i = 600000 then some .nowhere else mu i
        have hs' := hs.world hk
        refine ⟨_, M, mu', rfl, { hs' with env := ?_, rows := ?_, apart := ?_, pin := ?_ }⟩
        · simp only [RepL, Rep]
          exact ⟨⟨.nowhere, by simp [mu'], rfl, A', rfl⟩, trivial⟩
        · intro id row hr
          have hid := one_row hr
          obtain ⟨rfl, rfl⟩ := hid
          exact ⟨.nowhere, by simp [mu'], by simp [ContRep, intsV]⟩
        · intro i j ri rj b hij hi hj
          have one : ∀ i ri, zq ⟨.rsl 600000 0 0, [], [⟨true, .ints .i64 []⟩]⟩ i = some ri → i = 600000 := fun i ri hr => (one_row hr).1
          exact (hij ((one i ri hi).trans (one j rj hj).symm)).elim
        · intro i hi
          have : i ≠ 600000 := fun e => by have := hi.2; unfold XB at this; omega
          simp [mu', this]
  · split at h'
    · rename_i hf
      subst hf
      split at h'
      case h_2 => cases h'
      rename_i x
      split at h'
      case isFalse => cases h'
      rename_i hx
      cases h'
      intro w M mu vs hs
      have hv := hs.env
      simp only [List.toList_toArray] at hv
      cases vs with
      | nil => simp only [RepL] at hv
      | cons v vs =>
        cases vs with
        | cons => simp only [RepL] at hv; exact hv.2.elim
        | nil =>
          simp only [RepL, Rep] at hv
          obtain ⟨rfl, _⟩ := hv
          have hg := hs.glob 0 (.pim (z1k.map (.int .u8))) rfl
          simp only [Rep] at hg
          obtain ⟨ad, cv, e1, hr, hh⟩ := hg
          cases e1
          have hT : ∀ j, j < 64 → w.cell? ⟨0, j, none⟩ = some (.int .u8 (Lib.deBruijn64tab.getD j 0 : Nat)) := by
            intro j hj
            have hlen : z1k.length = 64 := by decide
            obtain ⟨u, hu, hru⟩ := hr.get j (.int .u8 (z1k.getD j 0)) (by
              rw [List.getElem?_map, List.getElem?_eq_getElem (by omega)]
              simp [List.getD, List.getElem?_eq_getElem (show j < z1k.length by omega)])
            simp only [Rep] at hru
            subst hru
            have := (zfe hh hu).1
            rw [ze, Nat.zero_add] at this
            rw [this, tab_eq j hj]
          obtain ⟨m, rfl⟩ : ∃ m : Nat, x = m := ⟨x.toNat, by omega⟩
          refine (zys m (by omega) w hT).mono ?_
          rintro e w' ⟨rfl, rfl⟩
          refine ⟨_, M, mu, rfl, { hs with env := ?_, rows := ?_, apart := ?_ }⟩
          · simp only [RepL, Rep, Int.toNat_natCast, and_self]
          · intro id row hr; rw [zdr] at hr; cases hr
          · intro i j ri rj b hij hi; rw [zdr] at hi; cases hi
    · cases h'
theorem X_ok : XOK Tryd.prog X := zl4 (by kernel_rfl)
theorem Runs.sound {f : FuncId} {args : List D} {prows : List Row} {r : Ret} (h : Runs X f args prows r) : Sound Tryd.prog X f args prows r := by
  obtain ⟨K, hK⟩ := h
  exact zb1 X_ok zs1 K f args prows r (hK K (Nat.le_refl _))
end Go.PR.S

end

section
namespace Go.PR
open Go
def tb (m i : Int) : Bool := m.toNat.testBit i.toNat
theorem zdh {a : Nat} (h : a < 2 ^ 63) : IntKind.i64.wrap (a : Int) = a := by
  rw [IntKind.wrap_i64]; omega
theorem z5z {a : Nat} (h : a < 2 ^ 63) : (BitVec.ofInt 64 (a : Int)).toNat = a := by
  rw [BitVec.toNat_ofInt]; omega
theorem zfg {a b : Nat} (ha : a < 2 ^ 63) (hb : b < 2 ^ 63) : iand a b = (a &&& b : Nat) := by
  show IntKind.i64.wrap (BitVec.ofInt 64 (a : Int) &&& BitVec.ofInt 64 (b : Int)).toNat = _
  simp only [BitVec.toNat_and, z5z ha, z5z hb]
  exact zdh (Nat.lt_of_le_of_lt Nat.and_le_left ha)
theorem ior_nat {a b : Nat} (ha : a < 2 ^ 63) (hb : b < 2 ^ 63) : ior a b = (a ||| b : Nat) := by
  show IntKind.i64.wrap (BitVec.ofInt 64 (a : Int) ||| BitVec.ofInt 64 (b : Int)).toNat = _
  simp only [BitVec.toNat_or, z5z ha, z5z hb]
  exact zdh (Nat.or_lt_two_pow ha hb)
theorem zpt {a b : Nat} (ha : a < 2 ^ 63) (hb : b < 2 ^ 63) : ixor a b = (a ^^^ b : Nat) := by
  show IntKind.i64.wrap (BitVec.ofInt 64 (a : Int) ^^^ BitVec.ofInt 64 (b : Int)).toNat = _
  simp only [BitVec.toNat_xor, z5z ha, z5z hb]
  exact zdh (Nat.xor_lt_two_pow ha hb)
theorem zps (a i : Nat) : ishr a i = (a / 2 ^ min i 64 : Nat) := by
  unfold ishr
  rw [Int.toNat_natCast]
  have : (2 : Int) ^ min i 64 = ((2 ^ min i 64 : Nat) : Int) := by simp
  rw [this, Int.fdiv_eq_ediv_of_nonneg _ (Int.natCast_nonneg _)]
  rfl
theorem zg3 (a i : Nat) : ishl a i = (a * 2 ^ min i 64 : Nat) := by
  unfold ishl
  rw [Int.toNat_natCast]
  simp
theorem one_nat {i : Nat} (h : i ≤ 62) : ishl 1 i = (2 ^ i : Nat) := by
  have := zg3 1 i
  rw [Nat.min_eq_left (by omega), Nat.one_mul] at this
  exact this
theorem pow62 {i : Nat} (h : i ≤ 62) : 2 ^ i < 2 ^ 63 := Nat.pow_lt_pow_right (by omega) (by omega)
theorem has_nat {m i : Nat} (h : m < 2 ^ 63) : (iand (ishr m i) 1 == 1) = tb m i := by
  have hs : m / 2 ^ min i 64 < 2 ^ 63 := Nat.lt_of_le_of_lt (Nat.div_le_self _ _) h
  have h1 : iand (ishr m i) 1 = ((m / 2 ^ min i 64 &&& 1 : Nat) : Int) := by rw [zps]; exact zfg (b := 1) hs (by omega)
  rw [h1]
  unfold tb
  simp only [Int.toNat_natCast]
  rw [Nat.and_one_is_mod]
  by_cases hi : i ≤ 64
  · rw [Nat.min_eq_left hi, Nat.testBit_eq_decide_div_mod_eq]
    rw [Bool.eq_iff_iff, beq_iff_eq, decide_eq_true_iff]; omega
  · rw [Nat.min_eq_right (by omega), Nat.div_eq_of_lt (by omega)]
    have : m.testBit i = false := Nat.testBit_lt_two_pow (Nat.lt_of_lt_of_le h (Nat.pow_le_pow_right (by omega) (by omega)))
    rw [this]; decide
def mkM (f : Nat → Bool) : Nat → Nat
  | 0 => 0
  | m + 1 => mkM f m ||| (if f m then 2 ^ m else 0)
theorem mkM_bit (f : Nat → Bool) : ∀ (m i : Nat), (mkM f m).testBit i = (decide (i < m) && f i)
  | 0, i => by simp [mkM]
  | m + 1, i => by
    simp only [mkM, Nat.testBit_or, mkM_bit f m i]
    by_cases h : f m
    · rw [if_pos h, Nat.testBit_two_pow]
      by_cases e : m = i
      · subst e; simp [h]
      · have : decide (i < m + 1) = decide (i < m) := by rw [Bool.eq_iff_iff]; simp; omega
        simp [e, this]
    · rw [if_neg h]
      by_cases e : m = i
      · subst e; simp at h; simp [h]
      · have : decide (i < m + 1) = decide (i < m) := by rw [Bool.eq_iff_iff]; simp; omega
        simp [this]
theorem mkM_lt (f : Nat → Bool) (m : Nat) : mkM f m < 2 ^ m := by
  refine Nat.lt_pow_two_of_testBit _ fun i hi => ?_
  rw [mkM_bit]; simp; omega
theorem bit_lt {a m i : Nat} (ha : a < 2 ^ m) (h : a.testBit i = true) : i < m := by
  rcases Nat.lt_or_ge i m with hh | hh
  · exact hh
  · rw [Nat.testBit_lt_two_pow (Nat.lt_of_lt_of_le ha (Nat.pow_le_pow_right (by omega) hh))] at h
    cases h
end Go.PR

end
