/- The law FnExactPossibleLetters comes to true at every input, and leaves its input as it was: the given tied card is proved. Condition: none beyond the card's own (the table of math/bits reads as the program's text lays it, which the given tie shows). -/
import Derived.Test.YtmjbhacjgjihpaaDoorFwZ3
import Derived.Test.YtmjbhacjgjihpaaDoorFwP67
import Derived.Test.YtmjbhacjgjihpaaDoorCards
import Derived.SevenTiedAt
set_option linter.unusedVariables false
set_option linter.unusedSimpArgs false
set_option linter.unusedSectionVars false
set_option maxRecDepth 100000
namespace Go.PR.S
open Go Go.PR Go.Proofs Go.ChangeShapes Go.WideShapes Go.ChangeAt Go.RowKit Go.Proofs.YtmjbhacjgjihpaaDoor
theorem fnExactPossibleLetters_own : ownKnob Tryd.prog.godebug = none := by kernel_rfl
theorem fnExactPossibleLetters_lifted (os : Os) (started : os.Started) (H : Type) (enc : TypeId × Value → H) :
    ReturnsInHanded {} Tryd.checked os 3 .any (fun w args => (Rows.fnExactPossibleLettersSpec.pre enc Tryd.prog Tryd.f3 [] false w args ∧ laidMetH Tryd.prog laid w) ∧ sizedMet enc Tryd.prog Tryd.f3 (OpenSpec.ofChange Rows.fnExactPossibleLettersSpec) false w args)
      (Rows.fnExactPossibleLettersSpec.post enc Tryd.prog Tryd.f3 false true false false) := by
  refine returnsInHanded_of_change_and (C := Tryd.checked) (X := fun w _ => laidMetH Tryd.prog laid w) (fun _ _ _ hh h => h.of_heap hh) fnExactPossibleLetters_own started (by kernel_rfl) Tryd.func3
    (ChangeSpec.witness_shaped (enc := enc) (C := Tryd.checked) (os := os) (X := fun w _ => laidMetH Tryd.prog laid w) false (World.doorLaid Tryd.prog 400 os) #[.agg #[.slice none 0 0, .slice none 0 0, .slice none 0 0, .slice none 0 0, .slice none 0 0], .slice none 0 0] 8 rfl (World.shaped_of_RefB (by kernel_rfl) (by kernel_rfl)) (by kernel_rfl) (by kernel_rfl) (by kernel_rfl) (door_met os _)) ?_
  intro W base args ds gs before hval0 hW _ _ hL _
  have hval : ∀ (j : Nat) t v, Tryd.f3.params[j]? = some t → args[j]? = some v → Value.okWide Tryd.prog W .any base t v := hval0
  clear hval0
  have hW' : DataW.Whole enc Tryd.prog Tryd.f3.params.toList Rows.fnExactPossibleLettersSpec.vars false W args.toList ds gs before := hW
  obtain ⟨p, q, hA0, hV, rfl, hfz, hnd⟩ := hW
  have hA : DataW.TrodAll enc Tryd.prog W 0 (fun _ => true) true Tryd.f3.params.toList args.toList ds p := hA0
  clear hA0
  rw [Tryd.params3] at hA hval
  obtain ⟨v0, v1, d0, d1, p0, p1, rfl, rfl, rfl, h0, h1⟩ := trodAll_two hA
  obtain ⟨rfl, rfl⟩ := trodVars_none hV
  obtain ⟨ps0, ss0, st0, js0, fs0, ha0, hb0, hc0, hd0, he0, hf0, hg0, r0⟩ := open_asD (hval 0 26 v0 rfl rfl) h0
  obtain ⟨u1, hu1, r1⟩ := open_lD (hval 1 22 v1 rfl rfl) h1
  refine (law_calls (vs := [v0, v1]) (run_FnExactPossibleLetters ps0 ss0 st0 js0 fs0 u1 ha0 hb0 hc0 hd0 he0 hf0 hg0) (tab_of_laid hL) ⟨r0, r1, trivial⟩).mono fun e W' ⟨he, hb⟩ => ?_
  exact ⟨_, he, law_post (by rw [Tryd.params3]; kernel_rfl) (by kernel_rfl) rfl hW' rfl rfl rfl hb⟩
theorem fnExactPossibleLetters_said : Rows.FnExactPossibleLettersSaid :=
  OpenClaim.holds_of_wide 3 Tryd.f3 rfl rfl rfl rfl rfl rfl rfl ⟨rfl, rfl, rfl, rfl, rfl⟩ rfl rfl rfl rfl rfl (by kernel_rfl) Tryd.func3 (by kernel_rfl)
    (of_decide_eq_true (by kernel_rfl)) (by unfold Func.isWrapper; first | (rw [if_pos (by decide +kernel)]; kernel_rfl) | (rw [if_neg (by decide +kernel)]; exact ⟨rfl, rfl⟩))
    (fun os started H enc _ => fnExactPossibleLetters_lifted os started H enc)
end Go.PR.S
namespace Go.Proofs.YtmjbhacjgjihpaaDoor
open Go Go.PR.S
theorem fnExactPossibleLetters_card_holds : Rows.FnExactPossibleLettersCardSaid :=
  Claim7.holds_tied_plain_at .later [] [.data] true (true, "5028b5b1cf8b1a8a17104fd7a385e9840c7741b0a836afbe967dde85aeac4040") false
    fnExactPossibleLetters_said (fun _ h => by cases h) (by kernel_rfl) (fun _ h => by cases h) fnExactPossibleLetters_row_tie rfl ⟨rfl, rfl⟩ (by kernel_rfl) rfl
    (fun f fn hf hfn => by
      obtain rfl : f = 3 := Option.some.inj ((show Tryd.prog.funcNamed "loop.example/g01094/laws.FnExactPossibleLetters" = some 3 by kernel_rfl).symm.trans hf) |>.symm
      obtain rfl : fn = Tryd.f3 := (Option.some.inj (Tryd.func3.symm.trans hfn)).symm
      exact ⟨by kernel_rfl, fun j t ht => by
        rw [Tryd.params3] at ht
        have hm : t ∈ [26, 22] := by simpa using Array.mem_of_getElem? ht
        have hall : ([26, 22].all fun u => !Tryd.prog.wantsStandIn u) = true := by kernel_rfl
        exact (show Tryd.prog.wantsStandIn t = false by simpa using List.all_eq_true.1 hall t hm)⟩)
    (by kernel_rfl)
end Go.Proofs.YtmjbhacjgjihpaaDoor
