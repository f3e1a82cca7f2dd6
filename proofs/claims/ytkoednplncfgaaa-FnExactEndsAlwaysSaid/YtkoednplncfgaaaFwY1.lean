/- The law FnExactEndsAlways comes to true at every input, and leaves its input as it was. Condition: none. -/
import Derived.Test.YtkoednplncfgaaaFwZ2
import Derived.Test.YtkoednplncfgaaaFwP9
import Derived.ProofKit
/- The law FnExactEndsAlways comes to true at every input, and leaves its input as it was. Condition: none. -/
set_option linter.unusedVariables false
set_option maxRecDepth 100000
namespace Go.PR.S
open Go Go.PR Go.Proofs Go.ChangeShapes Go.WideShapes Go.ChangeAt Go.RowKit Go.Proofs.Ytkoednplncfgaaa

theorem own : ownKnob Try.prog.godebug = none := by kernel_rfl

theorem fnExactEndsAlways_lifted (os : Os) (started : os.Started) (H : Type) (enc : TypeId × Value → H) :
    ReturnsInHanded {} Try.checked os 4 .any (Rows.fnExactEndsAlwaysSpec.pre6 enc Try.prog Try.f4 Rows.fnExactEndsAlwaysRow.domain false) (Rows.fnExactEndsAlwaysSpec.post enc Try.prog Try.f4 false true false false) := by
  refine returnsInHanded_of_change (C := Try.checked) own started (by kernel_rfl) Try.func4
    (ChangeSpec.witness6 (enc := enc) (C := Try.checked) false ⟨#[], #[.agg #[.int .i64 0, .int .i64 0, .int .i64 0, .slice none 0 0]], []⟩ 8 (by kernel_rfl) (by kernel_rfl) (by kernel_rfl) (by kernel_rfl)) ?_
  intro W base args ds gs before hval0 hW hcnd _
  have hval : ∀ (j : Nat) t v, Try.f4.params[j]? = some t → args[j]? = some v → Value.okWide Try.prog W .any base t v := hval0
  clear hval0
  have hW' : DataW.Whole enc Try.prog Try.f4.params.toList Rows.fnExactEndsAlwaysSpec.vars false W args.toList ds gs before := hW
  obtain ⟨p, q, hA0, hV, rfl, hfz, hnd⟩ := hW
  have hA : DataW.TrodAll enc Try.prog W 0 (fun _ => true) true Try.f4.params.toList args.toList ds p := hA0
  clear hA0
  rw [Try.params4] at hA hval
  obtain ⟨v0, d0, rfl, rfl, h0⟩ := trodAll_one hA
  obtain ⟨rfl, rfl⟩ := trodVars_none hV
  obtain ⟨m0, s0, f0, N0, hl0, hr0, r0⟩ := open_auD (hval 0 36 v0 rfl rfl) h0
  refine (law_calls (vs := [v0]) (run_FnExactEndsAlways m0 s0 f0 N0 hl0 hr0) ⟨r0, trivial⟩).mono fun e W' ⟨he, hb⟩ => ?_
  exact ⟨_, he, law_post (by rw [Try.params4]; kernel_rfl) (by kernel_rfl) rfl hW' rfl rfl rfl hb⟩

end Go.PR.S

namespace Go.Proofs.Ytkoednplncfgaaa
open Go Go.PR.S
theorem fnExactEndsAlways_holds : Rows.FnExactEndsAlwaysSaid :=
  OpenClaim.holds_of_wide 4 Try.f4 rfl rfl rfl rfl rfl rfl rfl ⟨rfl, rfl, rfl, rfl, rfl⟩ rfl rfl rfl rfl rfl (by kernel_rfl) Try.func4 (by kernel_rfl)
    (of_decide_eq_true (by kernel_rfl)) (by unfold Func.isWrapper; first | (rw [if_pos (by decide +kernel)]; kernel_rfl) | (rw [if_neg (by decide +kernel)]; exact ⟨rfl, rfl⟩))
    (fun os started H enc _ => fnExactEndsAlways_lifted os started H enc)
end Go.Proofs.Ytkoednplncfgaaa
