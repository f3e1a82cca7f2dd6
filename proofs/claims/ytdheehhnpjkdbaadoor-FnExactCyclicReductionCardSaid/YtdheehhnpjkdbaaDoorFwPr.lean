/- What the evaluator is told of the library's functions, shown over the model. -/
import Derived.Test.YtdheehhnpjkdbaaDoorFwS
import Derived.WalkKit
import Derived.Lib.SliceRun
import Derived.Laws.Bits64b
import Derived.Test.YtdheehhnpjkdbaaDoorChecked
set_option linter.unusedVariables false
set_option linter.unusedSimpArgs false
namespace Go.PR.S
open Go Go.PR Go.Proofs Go.RowKit

set_option maxHeartbeats 1000000 in
theorem tz_core (x k idx : Nat) (w : World) (hx0 : ((x : Int) == 0) = false)
    (key : IntKind.u64.wrap (bits BinOp.and IntKind.u64 (x : Int) (IntKind.u64.wrap (-(x : Int))) * 285870213051353865) / 288230376151711744 = (idx : Int))
    (hi : idx < 64) (hk : k < 64) (hcell : w.cell? ⟨0, idx, none⟩ = some (.int .u8 k)) :
    Calls Tryd.prog 133 #[.int .u64 x] w fun e w' => e = .returned (.int .i64 k) ∧ w' = w := by
  go_enter Tryd.func133, Tryd.ntmps133
  go_wp2_with (simp only [key])
  go_ret
  exact ⟨rfl, rfl⟩

theorem tz_zero (w : World) : Calls Tryd.prog 133 #[.int .u64 0] w fun e w' => e = .returned (.int .i64 64) ∧ w' = w := by
  go_enter Tryd.func133, Tryd.ntmps133
  go_wp2
  go_ret
  exact ⟨rfl, rfl⟩

set_option maxRecDepth 100000 in
theorem clone_none (c : Nat) (w : World) : Calls Tryd.prog 125 #[.slice none 0 c] w fun e w' => ∃ A', e = .returned (.slice A' 0 0) ∧ Keeps (fun _ => False) w w' := by
  go_enter Tryd.func125, Tryd.ntmps125
  have t22 := Tryd.underlying22
  have hn : ∀ w' : World, (binOp .eql 22 (.slice none 0 c) (.slice none 0 0)).run Tryd.prog w' = .ok (.bool (none.isNone)) w' := fun w' => Go.Lib.run_eql_slice_nil w' 22 2 none 0 c 0 0 t22
  go_wp2
  go_ret
  exact ⟨_, rfl, Keeps.refl _ _⟩

set_option maxRecDepth 100000 in
theorem clone_some (A : Addr) (c : Nat) (w : World) : Calls Tryd.prog 125 #[.slice (some A) 0 c] w fun e w' => ∃ A', e = .returned (.slice A' 0 0) ∧ Keeps (fun _ => False) w w' := by
  go_enter Tryd.func125, Tryd.ntmps125
  have t22 := Tryd.underlying22
  have hn : ∀ w' : World, (binOp .eql 22 (.slice (some A) 0 c) (.slice none 0 0)).run Tryd.prog w' = .ok (.bool ((some A).isNone)) w' := fun w' => Go.Lib.run_eql_slice_nil w' 22 2 (some A) 0 c 0 0 t22
  go_wp2
  go_ret
  exact ⟨_, rfl, Keeps.alloc _ _ _⟩

theorem no_rows {i : Nat} : rowsIn [] i = none := by unfold rowsIn; split <;> simp

theorem back_nil (r : D) : rowsBack ⟨r, [], []⟩ = fun _ => none := by
  funext i; unfold rowsBack; split
  · simp
  · split <;> simp

theorem one_row {id : Nat} {row rw0 : Row} {d : D} (hr : rowsBack ⟨d, [], [rw0]⟩ id = some row) : id = 600000 ∧ row = rw0 := by
  unfold rowsBack XB PB at hr
  split at hr
  · rename_i hge
    have : id - 600000 = 0 := by
      rcases Nat.eq_zero_or_pos (id - 600000) with h | h
      · exact h
      · rw [List.getElem?_eq_none (by simp only [List.length_singleton]; omega)] at hr; cases hr
    rw [this] at hr
    simp at hr
    exact ⟨by omega, hr.symm⟩
  · split at hr <;> simp at hr

theorem tz_key (x a : Nat) (hx : x < 18446744073709551616) (hx0 : x ≠ 0) (hlow : x &&& (18446744073709551616 - x) = a) :
    IntKind.u64.wrap (bits BinOp.and IntKind.u64 (x : Int) (IntKind.u64.wrap (-(x : Int))) * 285870213051353865) / 288230376151711744 = ((a * 285870213051353865 % 18446744073709551616 / 288230376151711744 : Nat) : Int) := by
  have e1 : IntKind.u64.wrap (-(x : Int)) = ((18446744073709551616 - x : Nat) : Int) := by rw [IntKind.wrap_u64]; omega
  rw [e1, bits_and_u64_nat x _ hx (by omega), hlow, IntKind.wrap_u64]
  omega

theorem tz_calls (x : Nat) (hx : x < 18446744073709551616) (w : World) (hT : ∀ j, j < 64 → w.cell? ⟨0, j, none⟩ = some (.int .u8 (Lib.deBruijn64tab.getD j 0 : Nat))) :
    Calls Tryd.prog 133 #[.int .u64 x] w fun e w' => e = .returned (.int .i64 (Lib.ctz 64 x)) ∧ w' = w := by
  by_cases hx0 : x = 0
  · subst hx0
    exact tz_zero w
  · obtain ⟨hlow, hk⟩ := Lib.lowest_bit 64 x hx0 hx
    obtain ⟨hi, htab⟩ := Lib.deBruijn64_at _ hk
    have hcell := hT _ hi
    rw [htab] at hcell
    exact tz_core x _ _ w (by simp; omega) (tz_key x _ hx hx0 hlow) hi hk hcell

theorem tab_eq : ∀ j, j < 64 → deBruijn.getD j 0 = (Lib.deBruijn64tab.getD j 0 : Nat) := by decide +kernel

theorem prim_sound : ∀ f args prows r, X.prim f args prows = some r → Sound Tryd.prog X f args prows r := by
  intro f args prows r h
  have h' : prim f args prows = some r := h
  unfold prim at h'
  split at h'
  · rename_i hf
    subst hf
    split at h'
    case h_2 => cases h'
    cases h'
    intro w M mu vs hs
    have hv := hs.env
    simp only [List.toList_toArray] at hv
    cases vs with
    | nil => simp only [RepL] at hv
    | cons v vs =>
      cases vs with
      | cons => simp only [RepL] at hv; exact hv.2.elim
      | nil =>
        simp only [RepL, Rep] at hv
        obtain ⟨⟨A, c, rfl, _, _⟩, _⟩ := hv
        have key : Calls Tryd.prog 125 #[.slice A 0 c] w fun e w' => ∃ A', e = .returned (.slice A' 0 0) ∧ Keeps (fun _ => False) w w' := by
          cases A with
          | none => exact clone_none c w
          | some A => exact clone_some A c w
        refine key.mono ?_
        rintro e w' ⟨A', rfl, hk⟩
        let mu' : Nat → Option Loc := fun i => if i = 600000 then some .nowhere else mu i
        have hs' := hs.world hk
        refine ⟨_, M, mu', rfl, { hs' with env := ?_, rows := ?_, apart := ?_, pin := ?_ }⟩
        · simp only [RepL, Rep]
          exact ⟨⟨.nowhere, by simp [mu'], rfl, A', rfl⟩, trivial⟩
        · intro id row hr
          have hid := one_row hr
          obtain ⟨rfl, rfl⟩ := hid
          exact ⟨.nowhere, by simp [mu'], by simp [ContRep, intsV]⟩
        · intro i j ri rj b hij hi hj
          have one : ∀ i ri, rowsBack ⟨.rsl 600000 0 0, [], [⟨true, .ints .i64 []⟩]⟩ i = some ri → i = 600000 := fun i ri hr => (one_row hr).1
          exact (hij ((one i ri hi).trans (one j rj hj).symm)).elim
        · intro i hi
          have : i ≠ 600000 := fun e => by have := hi.2; unfold XB at this; omega
          simp [mu', this]
  · split at h'
    · rename_i hf
      subst hf
      split at h'
      case h_2 => cases h'
      rename_i x
      split at h'
      case isFalse => cases h'
      rename_i hx
      cases h'
      intro w M mu vs hs
      have hv := hs.env
      simp only [List.toList_toArray] at hv
      cases vs with
      | nil => simp only [RepL] at hv
      | cons v vs =>
        cases vs with
        | cons => simp only [RepL] at hv; exact hv.2.elim
        | nil =>
          simp only [RepL, Rep] at hv
          obtain ⟨rfl, _⟩ := hv
          have hg := hs.glob 0 (.pim (deBruijn.map (.int .u8))) rfl
          simp only [Rep] at hg
          obtain ⟨ad, cv, e1, hr, hh⟩ := hg
          cases e1
          have hT : ∀ j, j < 64 → w.cell? ⟨0, j, none⟩ = some (.int .u8 (Lib.deBruijn64tab.getD j 0 : Nat)) := by
            intro j hj
            have hlen : deBruijn.length = 64 := by decide
            obtain ⟨u, hu, hru⟩ := hr.get j (.int .u8 (deBruijn.getD j 0)) (by
              rw [List.getElem?_map, List.getElem?_eq_getElem (by omega)]
              simp [List.getD, List.getElem?_eq_getElem (show j < deBruijn.length by omega)])
            simp only [Rep] at hru
            subst hru
            have := (held_cell hh hu).1
            rw [addr_add_lit, Nat.zero_add] at this
            rw [this, tab_eq j hj]
          obtain ⟨m, rfl⟩ : ∃ m : Nat, x = m := ⟨x.toNat, by omega⟩
          refine (tz_calls m (by omega) w hT).mono ?_
          rintro e w' ⟨rfl, rfl⟩
          refine ⟨_, M, mu, rfl, { hs with env := ?_, rows := ?_, apart := ?_ }⟩
          · simp only [RepL, Rep, Int.toNat_natCast, and_self]
          · intro id row hr; rw [back_nil] at hr; cases hr
          · intro i j ri rj b hij hi; rw [back_nil] at hi; cases hi
    · cases h'

theorem X_ok : XOK Tryd.prog X := ctxOf_ok (by kernel_rfl)

/-- What the evaluator says holds of the model. -/
theorem Runs.sound {f : FuncId} {args : List D} {prows : List Row} {r : Ret} (h : Runs X f args prows r) : Sound Tryd.prog X f args prows r := by
  obtain ⟨K, hK⟩ := h
  exact evalFn_sound X_ok prim_sound K f args prows r (hK K (Nat.le_refl _))

end Go.PR.S
