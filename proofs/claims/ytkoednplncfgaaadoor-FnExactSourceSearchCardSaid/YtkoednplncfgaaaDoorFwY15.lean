/- The law FnExactSourceSearch comes to true at every input, and leaves its input as it was: the given tied card is proved. Condition: none beyond the card's own (the table of math/bits reads as the program's text lays it, which the given tie shows). -/
import Derived.Test.YtkoednplncfgaaaDoorFwZ2
import Derived.Test.YtkoednplncfgaaaDoorFwP50
import Derived.Test.YtkoednplncfgaaaDoorCards
import Derived.SevenTiedAt
set_option linter.unusedVariables false
set_option linter.unusedSimpArgs false
set_option maxRecDepth 100000
namespace Go.PR.S
open Go Go.PR Go.Proofs Go.ChangeShapes Go.WideShapes Go.ChangeAt Go.RowKit Go.Proofs.YtkoednplncfgaaaDoor
theorem fnExactSourceSearch_own : ownKnob Tryd.prog.godebug = none := by kernel_rfl
theorem fnExactSourceSearch_lifted (os : Os) (started : os.Started) (H : Type) (enc : TypeId × Value → H) :
    ReturnsInHanded {} Tryd.checked os 11 .any (fun w args => (Rows.fnExactSourceSearchSpec.pre enc Tryd.prog Tryd.f11 [] false w args ∧ laidMetH Tryd.prog laid w) ∧ sizedMet enc Tryd.prog Tryd.f11 (OpenSpec.ofChange Rows.fnExactSourceSearchSpec) false w args)
      (Rows.fnExactSourceSearchSpec.post enc Tryd.prog Tryd.f11 false true false false) := by
  refine returnsInHanded_of_change_and (C := Tryd.checked) (X := fun w _ => laidMetH Tryd.prog laid w) (fun _ _ _ hh h => h.of_heap hh) fnExactSourceSearch_own started (by kernel_rfl) Tryd.func11
    (ChangeSpec.witness_shaped (enc := enc) (C := Tryd.checked) (os := os) (X := fun w _ => laidMetH Tryd.prog laid w) false (World.doorLaid Tryd.prog 400 os) #[.agg #[.int .i64 0, .slice none 0 0], .agg #[.int .i64 0, .int .i64 0, .int .i64 0, .slice none 0 0]] 8 rfl (World.shaped_of_RefB (by kernel_rfl) (by kernel_rfl)) (by kernel_rfl) (by kernel_rfl) (by kernel_rfl) (door_met os _)) ?_
  intro W base args ds gs before hval0 hW _ _ hL _
  have hval : ∀ (j : Nat) t v, Tryd.f11.params[j]? = some t → args[j]? = some v → Value.okWide Tryd.prog W .any base t v := hval0
  clear hval0
  have hW' : DataW.Whole enc Tryd.prog Tryd.f11.params.toList Rows.fnExactSourceSearchSpec.vars false W args.toList ds gs before := hW
  obtain ⟨p, q, hA0, hV, rfl, hfz, hnd⟩ := hW
  have hA : DataW.TrodAll enc Tryd.prog W 0 (fun _ => true) true Tryd.f11.params.toList args.toList ds p := hA0
  clear hA0
  rw [Tryd.params11] at hA hval
  obtain ⟨v0, v1, d0, d1, p0, p1, rfl, rfl, rfl, h0, h1⟩ := trodAll_two hA
  obtain ⟨rfl, rfl⟩ := trodVars_none hV
  obtain ⟨n0, d0, hd0, r0⟩ := open_alD (hval 0 34 v0 rfl rfl) h0
  obtain ⟨m1, s1, f1, N1, hl1, hr1, r1⟩ := open_auD (hval 1 24 v1 rfl rfl) h1
  refine (law_calls (vs := [v0, v1]) (run_FnExactSourceSearch n0 d0 m1 s1 f1 N1 hd0 hl1 hr1) (tab_of_laid hL) ⟨r0, r1, trivial⟩).mono fun e W' ⟨he, hb⟩ => ?_
  exact ⟨_, he, law_post (by rw [Tryd.params11]; kernel_rfl) (by kernel_rfl) rfl hW' rfl rfl rfl hb⟩
theorem fnExactSourceSearch_said : Rows.FnExactSourceSearchSaid :=
  OpenClaim.holds_of_wide 11 Tryd.f11 rfl rfl rfl rfl rfl rfl rfl ⟨rfl, rfl, rfl, rfl, rfl⟩ rfl rfl rfl rfl rfl (by kernel_rfl) Tryd.func11 (by kernel_rfl)
    (of_decide_eq_true (by kernel_rfl)) (by unfold Func.isWrapper; first | (rw [if_pos (by decide +kernel)]; kernel_rfl) | (rw [if_neg (by decide +kernel)]; exact ⟨rfl, rfl⟩))
    (fun os started H enc _ => fnExactSourceSearch_lifted os started H enc)
end Go.PR.S
namespace Go.Proofs.YtkoednplncfgaaaDoor
open Go Go.PR.S
theorem fnExactSourceSearch_card_holds : Rows.FnExactSourceSearchCardSaid :=
  Claim7.holds_tied_plain_at .later [] [.data] true (true, "7e7a2ac52f19882ed78bc0e603397241b45b1f4eb1db47a58a92ef10866fdf73") false
    fnExactSourceSearch_said (fun _ h => by cases h) (by kernel_rfl) (fun _ h => by cases h) fnExactSourceSearch_row_tie rfl ⟨rfl, rfl⟩ (by kernel_rfl) rfl
    (fun f fn hf hfn => by
      obtain rfl : f = 11 := Option.some.inj ((show Tryd.prog.funcNamed "loop.example/g01094/laws.FnExactSourceSearch" = some 11 by kernel_rfl).symm.trans hf) |>.symm
      obtain rfl : fn = Tryd.f11 := (Option.some.inj (Tryd.func11.symm.trans hfn)).symm
      exact ⟨by kernel_rfl, fun j t ht => by
        rw [Tryd.params11] at ht
        have hm : t ∈ [34, 24] := by simpa using Array.mem_of_getElem? ht
        have hall : ([34, 24].all fun u => !Tryd.prog.wantsStandIn u) = true := by kernel_rfl
        exact (show Tryd.prog.wantsStandIn t = false by simpa using List.all_eq_true.1 hall t hm)⟩)
    (by kernel_rfl)
end Go.Proofs.YtkoednplncfgaaaDoor
