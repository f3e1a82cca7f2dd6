/- The law FnGroupConjugators comes to true at every input, and leaves its input as it was: the given tied card is proved. Condition: none beyond the card's own (the table of math/bits reads as the program's text lays it, which the given tie shows). -/
import Derived.Test.YtnhklcbddcoadaaGreatDoorFwZ2
import Derived.Test.YtnhklcbddcoadaaGreatDoorFwP90
import Derived.Test.YtnhklcbddcoadaaGreatDoorCards
import Derived.SevenTiedAt
set_option linter.unusedVariables false
set_option linter.unusedSimpArgs false
set_option linter.unusedSectionVars false
set_option maxRecDepth 100000
namespace Go.PR.S
open Go Go.PR Go.Proofs Go.ChangeShapes Go.WideShapes Go.ChangeAt Go.RowKit Go.Proofs.YtnhklcbddcoadaaGreatDoor
theorem fnGroupConjugators_own : ownKnob Tryz.prog.godebug = none := by kernel_rfl
theorem fnGroupConjugators_lifted (os : Os) (started : os.Started) (H : Type) (enc : TypeId × Value → H) :
  ReturnsInHanded {} Tryz.checked os 3 .any (fun w args => (Rows.fnGroupConjugatorsSpec.pre enc Tryz.prog Tryz.f3 [] false w args ∧ laidMetH Tryz.prog laid w) ∧ sizedMet enc Tryz.prog Tryz.f3 (OpenSpec.ofChange Rows.fnGroupConjugatorsSpec) false w args)
   (Rows.fnGroupConjugatorsSpec.post enc Tryz.prog Tryz.f3 false true false false) := by
 refine returnsInHanded_of_change_and (C := Tryz.checked) (X := fun w _ => laidMetH Tryz.prog laid w) (fun _ _ _ hh h => h.of_heap hh) fnGroupConjugators_own started (by kernel_rfl) Tryz.func3
  (ChangeSpec.witness_shaped (enc := enc) (C := Tryz.checked) (os := os) (X := fun w _ => laidMetH Tryz.prog laid w) false (World.doorLaid Tryz.prog 400 os) #[.slice none 0 0] 8 rfl (World.shaped_of_RefB (by kernel_rfl) (by kernel_rfl)) (by kernel_rfl) (by kernel_rfl) (by kernel_rfl) (door_met os _)) ?_
 intro W base args ds gs before hval0 hW _ _ hL _
 have hval : ∀ (j : Nat) t v, Tryz.f3.params[j]? = some t → args[j]? = some v → Value.okWide Tryz.prog W .any base t v := hval0
 clear hval0
 have hW' : DataW.Whole enc Tryz.prog Tryz.f3.params.toList Rows.fnGroupConjugatorsSpec.vars false W args.toList ds gs before := hW
 obtain ⟨p, q, hA0, hV, rfl, hfz, hnd⟩ := hW
 have hA : DataW.TrodAll enc Tryz.prog W 0 (fun _ => true) true Tryz.f3.params.toList args.toList ds p := hA0
 clear hA0
 rw [Tryz.params3] at hA hval
 obtain ⟨v0, d0, rfl, rfl, h0⟩ := trodAll_one hA
 obtain ⟨rfl, rfl⟩ := trodVars_none hV
 obtain ⟨u0, hd0, r0⟩ := open_bD (hval 0 22 v0 rfl rfl) h0
 refine (law_calls (vs := [v0]) (run_FnGroupConjugators u0 hd0) (tab_of_laid hL) ⟨r0, trivial⟩).mono fun e W' ⟨he, hb⟩ => ?_
 exact ⟨_, he, law_post (by rw [Tryz.params3]; kernel_rfl) (by kernel_rfl) rfl hW' rfl rfl rfl hb⟩
theorem fnGroupConjugators_said : Rows.FnGroupConjugatorsSaid :=
 OpenClaim.holds_of_wide 3 Tryz.f3 rfl rfl rfl rfl rfl rfl rfl ⟨rfl, rfl, rfl, rfl, rfl⟩ rfl rfl rfl rfl rfl (by kernel_rfl) Tryz.func3 (by kernel_rfl)
  (of_decide_eq_true (by kernel_rfl)) (by unfold Func.isWrapper; first | (rw [if_pos (by decide +kernel)]; kernel_rfl) | (rw [if_neg (by decide +kernel)]; exact ⟨rfl, rfl⟩))
  (fun os started H enc _ => fnGroupConjugators_lifted os started H enc)
end Go.PR.S
namespace Go.Proofs.YtnhklcbddcoadaaGreatDoor
open Go Go.PR.S
theorem fnGroupConjugators_card_holds : Rows.FnGroupConjugatorsCardSaid :=
 Claim7.holds_tied_plain_at .later [] [.data] true (true, "8a693fd13d612efbb5c17d61847bbc25e8b70710c81c7276a3efc1703b277104") false
  fnGroupConjugators_said (fun _ h => by cases h) (by kernel_rfl) (fun _ h => by cases h) fnGroupConjugators_row_tie rfl ⟨rfl, rfl⟩ (by kernel_rfl) rfl
  (fun f fn hf hfn => by
   obtain rfl : f = 3 := Option.some.inj ((show Tryz.prog.funcNamed "loop.example/g01094/laws.FnGroupConjugators" = some 3 by kernel_rfl).symm.trans hf) |>.symm
   obtain rfl : fn = Tryz.f3 := (Option.some.inj (Tryz.func3.symm.trans hfn)).symm
   exact ⟨by kernel_rfl, fun j t ht => by
    rw [Tryz.params3] at ht
    have hm : t ∈ [22] := by simpa using Array.mem_of_getElem? ht
    have hall : ([22].all fun u => !Tryz.prog.wantsStandIn u) = true := by kernel_rfl
    exact (show Tryz.prog.wantsStandIn t = false by simpa using List.all_eq_true.1 hall t hm)⟩)
  (by kernel_rfl)
end Go.Proofs.YtnhklcbddcoadaaGreatDoor
