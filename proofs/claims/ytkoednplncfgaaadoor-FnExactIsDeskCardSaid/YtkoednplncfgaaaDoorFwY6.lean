/- The law FnExactIsDesk comes to true at every input, and leaves its input as it was: the given tied card is proved. Condition: none beyond the card's own (the table of math/bits reads as the program's text lays it, which the given tie shows). -/
import Derived.Test.YtkoednplncfgaaaDoorFwZ3
import Derived.Test.YtkoednplncfgaaaDoorFwP23
import Derived.Test.YtkoednplncfgaaaDoorCards
import Derived.SevenTiedAt
/- The law FnExactIsDesk comes to true at every input, and leaves its input as it was: the given tied card is proved. Condition: none beyond the card's own (the table of math/bits reads as the program's text lays it, which the given tie shows). -/
set_option linter.unusedVariables false
set_option maxRecDepth 100000
namespace Go.PR.S
open Go Go.PR Go.Proofs Go.ChangeShapes Go.WideShapes Go.ChangeAt Go.RowKit Go.Proofs.YtkoednplncfgaaaDoor

theorem fnExactIsDesk_own : ownKnob Tryd.prog.godebug = none := by kernel_rfl

theorem fnExactIsDesk_lifted (os : Os) (started : os.Started) (H : Type) (enc : TypeId × Value → H) :
    ReturnsInHanded {} Tryd.checked os 6 .any (fun w args => (Rows.fnExactIsDeskSpec.pre enc Tryd.prog Tryd.f6 [] false w args ∧ laidMetH Tryd.prog laid w) ∧ sizedMet enc Tryd.prog Tryd.f6 (OpenSpec.ofChange Rows.fnExactIsDeskSpec) false w args)
      (Rows.fnExactIsDeskSpec.post enc Tryd.prog Tryd.f6 false true false false) := by
  refine returnsInHanded_of_change_and (C := Tryd.checked) (X := fun w _ => laidMetH Tryd.prog laid w) (fun _ _ _ hh h => h.of_heap hh) fnExactIsDesk_own started (by kernel_rfl) Tryd.func6
    (ChangeSpec.witness_shaped (enc := enc) (C := Tryd.checked) (os := os) (X := fun w _ => laidMetH Tryd.prog laid w) false (World.doorLaid Tryd.prog 400 os) #[.agg #[.int .i64 0, .slice none 0 0, .slice none 0 0, .int .i64 0, .int .i64 0, .int .i64 0, .slice none 0 0, .int .i64 0, .slice none 0 0, .slice none 0 0, .int .i64 0]] 8 rfl (World.shaped_of_RefB (by kernel_rfl) (by kernel_rfl)) (by kernel_rfl) (by kernel_rfl) (by kernel_rfl) (door_met os _)) ?_
  intro W base args ds gs before hval0 hW _ _ hL _
  have hval : ∀ (j : Nat) t v, Tryd.f6.params[j]? = some t → args[j]? = some v → Value.okWide Tryd.prog W .any base t v := hval0
  clear hval0
  have hW' : DataW.Whole enc Tryd.prog Tryd.f6.params.toList Rows.fnExactIsDeskSpec.vars false W args.toList ds gs before := hW
  obtain ⟨p, q, hA0, hV, rfl, hfz, hnd⟩ := hW
  have hA : DataW.TrodAll enc Tryd.prog W 0 (fun _ => true) true Tryd.f6.params.toList args.toList ds p := hA0
  clear hA0
  rw [Tryd.params6] at hA hval
  obtain ⟨v0, d0, rfl, rfl, h0⟩ := trodAll_one hA
  obtain ⟨rfl, rfl⟩ := trodVars_none hV
  obtain ⟨m0, al0, w0, n0, s0, f0, N0, np0, pre0, post0, z0, ha0, hb0, hc0, hd0, he0, hf0, r0⟩ := open_dkD (hval 0 45 v0 rfl rfl) h0
  refine (law_calls (vs := [v0]) (run_FnExactIsDesk m0 al0 w0 n0 s0 f0 N0 np0 pre0 post0 z0 ha0 hb0 hc0 hd0 he0 hf0) (tab_of_laid hL) ⟨r0, trivial⟩).mono fun e W' ⟨he, hb⟩ => ?_
  exact ⟨_, he, law_post (by rw [Tryd.params6]; kernel_rfl) (by kernel_rfl) rfl hW' rfl rfl rfl hb⟩

theorem fnExactIsDesk_said : Rows.FnExactIsDeskSaid :=
  OpenClaim.holds_of_wide 6 Tryd.f6 rfl rfl rfl rfl rfl rfl rfl ⟨rfl, rfl, rfl, rfl, rfl⟩ rfl rfl rfl rfl rfl (by kernel_rfl) Tryd.func6 (by kernel_rfl)
    (of_decide_eq_true (by kernel_rfl)) (by unfold Func.isWrapper; first | (rw [if_pos (by decide +kernel)]; kernel_rfl) | (rw [if_neg (by decide +kernel)]; exact ⟨rfl, rfl⟩))
    (fun os started H enc _ => fnExactIsDesk_lifted os started H enc)
end Go.PR.S

namespace Go.Proofs.YtkoednplncfgaaaDoor
open Go Go.PR.S
theorem fnExactIsDesk_card_holds : Rows.FnExactIsDeskCardSaid :=
  Claim7.holds_tied_plain_at .later [] [.data] true (true, "7e7a2ac52f19882ed78bc0e603397241b45b1f4eb1db47a58a92ef10866fdf73") false
    fnExactIsDesk_said (fun _ h => by cases h) (by kernel_rfl) (fun _ h => by cases h) fnExactIsDesk_row_tie rfl ⟨rfl, rfl⟩ (by kernel_rfl) rfl
    (fun f fn hf hfn => by
      obtain rfl : f = 6 := Option.some.inj ((show Tryd.prog.funcNamed "loop.example/g01094/laws.FnExactIsDesk" = some 6 by kernel_rfl).symm.trans hf) |>.symm
      obtain rfl : fn = Tryd.f6 := (Option.some.inj (Tryd.func6.symm.trans hfn)).symm
      exact ⟨by kernel_rfl, fun j t ht => by
        rw [Tryd.params6] at ht
        have hm : t ∈ [45] := by simpa using Array.mem_of_getElem? ht
        have hall : ([45].all fun u => !Tryd.prog.wantsStandIn u) = true := by kernel_rfl
        exact (show Tryd.prog.wantsStandIn t = false by simpa using List.all_eq_true.1 hall t hm)⟩)
    (by kernel_rfl)
end Go.Proofs.YtkoednplncfgaaaDoor
