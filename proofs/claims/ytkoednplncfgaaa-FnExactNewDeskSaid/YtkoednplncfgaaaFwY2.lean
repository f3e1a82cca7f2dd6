/- The law FnExactNewDesk comes to true. Condition: none. -/
import Derived.Test.YtkoednplncfgaaaFwZ
/- The law FnExactNewDesk comes to true. Condition: none. -/
set_option linter.unusedVariables false
set_option maxRecDepth 100000
namespace Go.PR.S
open Go Go.PR Go.Proofs Go.ChangeShapes Go.WideShapes Go.ChangeAt Go.RowKit Go.Proofs.Ytkoednplncfgaaa

theorem own : ownKnob Try.prog.godebug = none := by kernel_rfl

theorem fnExactNewDesk_lifted (os : Os) (started : os.Started) (H : Type) (enc : TypeId × Value → H) :
    ReturnsInHanded {} Try.checked os 3 .any (Rows.fnExactNewDeskSpec.pre6 enc Try.prog Try.f3 Rows.fnExactNewDeskRow.domain false) (Rows.fnExactNewDeskSpec.post enc Try.prog Try.f3 false true false false) := by
  refine returnsInHanded_of_change (C := Try.checked) own started (by kernel_rfl) Try.func3
    (ChangeSpec.witness6 (enc := enc) (C := Try.checked) false ⟨#[], #[], []⟩ 8 (by kernel_rfl) (by kernel_rfl) (by kernel_rfl) (by kernel_rfl)) ?_
  intro W base args ds gs before hval0 hW hcnd _
  have hW' : DataW.Whole enc Try.prog Try.f3.params.toList Rows.fnExactNewDeskSpec.vars false W args.toList ds gs before := hW
  obtain ⟨p, q, hA0, hV, rfl, hfz, hnd⟩ := hW
  have hA : DataW.TrodAll enc Try.prog W 0 (fun _ => true) true Try.f3.params.toList args.toList ds p := hA0
  clear hA0
  rw [Try.params3] at hA
  obtain ⟨rfl, rfl⟩ : args = #[] ∧ ds = [] := by
    obtain ⟨l⟩ := args
    cases l with
    | nil => cases ds with
      | nil => exact ⟨rfl, rfl⟩
      | cons _ _ => exact hA.elim
    | cons _ _ => exact hA.elim
  obtain ⟨rfl, rfl⟩ := trodVars_none hV
  refine (law_calls (vs := []) eval_NewDesk trivial).mono fun e W' ⟨he, hb⟩ => ?_
  exact ⟨_, he, law_post (by rw [Try.params3]; kernel_rfl) (by kernel_rfl) rfl hW' rfl rfl rfl hb⟩

end Go.PR.S

namespace Go.Proofs.Ytkoednplncfgaaa
open Go Go.PR.S
theorem fnExactNewDesk_holds : Rows.FnExactNewDeskSaid :=
  OpenClaim.holds_of_wide 3 Try.f3 rfl rfl rfl rfl rfl rfl rfl ⟨rfl, rfl, rfl, rfl, rfl⟩ rfl rfl rfl rfl rfl (by kernel_rfl) Try.func3 (by kernel_rfl)
    (of_decide_eq_true (by kernel_rfl)) (by unfold Func.isWrapper; first | (rw [if_pos (by decide +kernel)]; kernel_rfl) | (rw [if_neg (by decide +kernel)]; exact ⟨rfl, rfl⟩))
    (fun os started H enc _ => fnExactNewDesk_lifted os started H enc)
end Go.Proofs.Ytkoednplncfgaaa
