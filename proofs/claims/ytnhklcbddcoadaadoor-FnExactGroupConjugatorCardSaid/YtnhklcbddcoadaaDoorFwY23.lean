/- The law FnExactGroupConjugator comes to true at every input, and leaves its input as it was: the given tied card is proved. Condition: none beyond the card's own (the table of math/bits reads as the program's text lays it, which the given tie shows). -/
import Derived.Test.YtnhklcbddcoadaaDoorFwZ2
import Derived.Test.YtnhklcbddcoadaaDoorFwP77
import Derived.Test.YtnhklcbddcoadaaDoorCards
import Derived.SevenTiedAt
set_option linter.unusedVariables false
set_option linter.unusedSimpArgs false
set_option linter.unusedSectionVars false
set_option maxRecDepth 100000
namespace Go.PR.S
open Go Go.PR Go.Proofs Go.ChangeShapes Go.WideShapes Go.ChangeAt Go.RowKit Go.Proofs.YtnhklcbddcoadaaDoor
theorem fnExactGroupConjugator_own : ownKnob Tryd.prog.godebug = none := by kernel_rfl
theorem fnExactGroupConjugator_lifted (os : Os) (started : os.Started) (H : Type) (enc : TypeId × Value → H) :
    ReturnsInHanded {} Tryd.checked os 6 .any (fun w args => (Rows.fnExactGroupConjugatorSpec.pre enc Tryd.prog Tryd.f6 [] false w args ∧ laidMetH Tryd.prog laid w) ∧ sizedMet enc Tryd.prog Tryd.f6 (OpenSpec.ofChange Rows.fnExactGroupConjugatorSpec) false w args)
      (Rows.fnExactGroupConjugatorSpec.post enc Tryd.prog Tryd.f6 false true false false) := by
  refine returnsInHanded_of_change_and (C := Tryd.checked) (X := fun w _ => laidMetH Tryd.prog laid w) (fun _ _ _ hh h => h.of_heap hh) fnExactGroupConjugator_own started (by kernel_rfl) Tryd.func6
    (ChangeSpec.witness_shaped (enc := enc) (C := Tryd.checked) (os := os) (X := fun w _ => laidMetH Tryd.prog laid w) false (World.doorLaid Tryd.prog 400 os) #[.agg #[.int .i64 0, .slice none 0 0], .slice none 0 0, .slice none 0 0] 8 rfl (World.shaped_of_RefB (by kernel_rfl) (by kernel_rfl)) (by kernel_rfl) (by kernel_rfl) (by kernel_rfl) (door_met os _)) ?_
  intro W base args ds gs before hval0 hW _ _ hL _
  have hval : ∀ (j : Nat) t v, Tryd.f6.params[j]? = some t → args[j]? = some v → Value.okWide Tryd.prog W .any base t v := hval0
  clear hval0
  have hW' : DataW.Whole enc Tryd.prog Tryd.f6.params.toList Rows.fnExactGroupConjugatorSpec.vars false W args.toList ds gs before := hW
  obtain ⟨p, q, hA0, hV, rfl, hfz, hnd⟩ := hW
  have hA : DataW.TrodAll enc Tryd.prog W 0 (fun _ => true) true Tryd.f6.params.toList args.toList ds p := hA0
  clear hA0
  rw [Tryd.params6] at hA hval
  obtain ⟨v0, v1, v2, d0, d1, d2, p0, p1, p2, rfl, rfl, rfl, h0, h1, h2⟩ := trodAll_three hA
  obtain ⟨rfl, rfl⟩ := trodVars_none hV
  obtain ⟨n0, d0, hd0, r0⟩ := open_alD (hval 0 24 v0 rfl rfl) h0
  obtain ⟨u1, hu1, r1⟩ := open_lD (hval 1 22 v1 rfl rfl) h1
  obtain ⟨u2, hu2, r2⟩ := open_lD (hval 2 22 v2 rfl rfl) h2
  refine (law_calls (vs := [v0, v1, v2]) (run_FnExactGroupConjugator n0 d0 u1 u2 hd0) (tab_of_laid hL) ⟨r0, r1, r2, trivial⟩).mono fun e W' ⟨he, hb⟩ => ?_
  exact ⟨_, he, law_post (by rw [Tryd.params6]; kernel_rfl) (by kernel_rfl) rfl hW' rfl rfl rfl hb⟩
theorem fnExactGroupConjugator_said : Rows.FnExactGroupConjugatorSaid :=
  OpenClaim.holds_of_wide 6 Tryd.f6 rfl rfl rfl rfl rfl rfl rfl ⟨rfl, rfl, rfl, rfl, rfl⟩ rfl rfl rfl rfl rfl (by kernel_rfl) Tryd.func6 (by kernel_rfl)
    (of_decide_eq_true (by kernel_rfl)) (by unfold Func.isWrapper; first | (rw [if_pos (by decide +kernel)]; kernel_rfl) | (rw [if_neg (by decide +kernel)]; exact ⟨rfl, rfl⟩))
    (fun os started H enc _ => fnExactGroupConjugator_lifted os started H enc)
end Go.PR.S
namespace Go.Proofs.YtnhklcbddcoadaaDoor
open Go Go.PR.S
theorem fnExactGroupConjugator_card_holds : Rows.FnExactGroupConjugatorCardSaid :=
  Claim7.holds_tied_plain_at .later [] [.data] true (true, "a72af8033575e21d57df78c1c14ed463ebd70da51685bc97c8a68aeded8a3e66") false
    fnExactGroupConjugator_said (fun _ h => by cases h) (by kernel_rfl) (fun _ h => by cases h) fnExactGroupConjugator_row_tie rfl ⟨rfl, rfl⟩ (by kernel_rfl) rfl
    (fun f fn hf hfn => by
      obtain rfl : f = 6 := Option.some.inj ((show Tryd.prog.funcNamed "loop.example/g01094/laws.FnExactGroupConjugator" = some 6 by kernel_rfl).symm.trans hf) |>.symm
      obtain rfl : fn = Tryd.f6 := (Option.some.inj (Tryd.func6.symm.trans hfn)).symm
      exact ⟨by kernel_rfl, fun j t ht => by
        rw [Tryd.params6] at ht
        have hm : t ∈ [24, 22, 22] := by simpa using Array.mem_of_getElem? ht
        have hall : ([24, 22, 22].all fun u => !Tryd.prog.wantsStandIn u) = true := by kernel_rfl
        exact (show Tryd.prog.wantsStandIn t = false by simpa using List.all_eq_true.1 hall t hm)⟩)
    (by kernel_rfl)
end Go.Proofs.YtnhklcbddcoadaaDoor
