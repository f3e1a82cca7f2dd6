/-
  DERIVED. GIVEN WITH THE SEED: THE CARDS: each row of YtnhklcbddcoadaaDoorRows.lean that lists a variable, with what it lists TIED to the program's text (the seventh form; the later family's looks); each row that meets fmt, with fmt's text TOLD by the authors' own Lean function (tested against real Go, not proved from fmt's source: count such statements apart). THE CARD IS WHAT COUNTS. Prove the row's statement (the work); the ties are given (YtnhklcbddcoadaaDoorTie.lean); close each card by the builder's one call (the guide's Derived/Test/ToyasCard.lean, 'card_holds'). Laid BY PROGRAM, IN A SANDBOX (cutbox-door.mjs). By AI agents, Wed Nov 11 2026. No macro, syntax, notation, axiom, sorry.
-/
import Derived.Test.YtnhklcbddcoadaaDoorRows
import GoSem.ClaimSeven
namespace Go.Proofs.YtnhklcbddcoadaaDoor
namespace Rows

/-- THE TIED CARD OF 'laws.FnExactGroupRoot'. -/
def fnExactGroupRootCard : Claim7 := { stood := { row := fnExactGroupRootRow, standIns := [], harness := (true, "a72af8033575e21d57df78c1c14ed463ebd70da51685bc97c8a68aeded8a3e66"), looks := false }, kinds := [], alts := [], laidByText := true, laidKinds := [.data], laidTests := true, laidLooks := .later }
def FnExactGroupRootCardSaid : Prop := Claim7.holds Tryd.pinned (.plain (OpenSpec.ofChange fnExactGroupRootSpec)) fnExactGroupRootCard

/-- THE TIED CARD OF 'laws.FnGroupPowers'. -/
def fnGroupPowersCard : Claim7 := { stood := { row := fnGroupPowersRow, standIns := [], harness := (true, "a72af8033575e21d57df78c1c14ed463ebd70da51685bc97c8a68aeded8a3e66"), looks := false }, kinds := [], alts := [], laidByText := true, laidKinds := [.data], laidTests := true, laidLooks := .later }
def FnGroupPowersCardSaid : Prop := Claim7.holds Tryd.pinned (.plain (OpenSpec.ofChange fnGroupPowersSpec)) fnGroupPowersCard

/-- THE TIED CARD OF 'laws.FnExactAreGroupConjugate'. -/
def fnExactAreGroupConjugateCard : Claim7 := { stood := { row := fnExactAreGroupConjugateRow, standIns := [], harness := (true, "a72af8033575e21d57df78c1c14ed463ebd70da51685bc97c8a68aeded8a3e66"), looks := false }, kinds := [], alts := [], laidByText := true, laidKinds := [.data], laidTests := true, laidLooks := .later }
def FnExactAreGroupConjugateCardSaid : Prop := Claim7.holds Tryd.pinned (.plain (OpenSpec.ofChange fnExactAreGroupConjugateSpec)) fnExactAreGroupConjugateCard

/-- THE TIED CARD OF 'laws.FnExactGroupConjugator'. -/
def fnExactGroupConjugatorCard : Claim7 := { stood := { row := fnExactGroupConjugatorRow, standIns := [], harness := (true, "a72af8033575e21d57df78c1c14ed463ebd70da51685bc97c8a68aeded8a3e66"), looks := false }, kinds := [], alts := [], laidByText := true, laidKinds := [.data], laidTests := true, laidLooks := .later }
def FnExactGroupConjugatorCardSaid : Prop := Claim7.holds Tryd.pinned (.plain (OpenSpec.ofChange fnExactGroupConjugatorSpec)) fnExactGroupConjugatorCard

/-- THE SECOND FORM's CARD OF 'laws.FnExactGroupRoot'. -/
def fnExactGroupRootUptoCard : Claim7 := { stood := { row := fnExactGroupRootUptoRow, standIns := [], harness := (true, "a72af8033575e21d57df78c1c14ed463ebd70da51685bc97c8a68aeded8a3e66"), looks := false }, kinds := [], alts := [], laidByText := true, laidKinds := [.data], laidTests := true, laidLooks := .later }
def FnExactGroupRootUptoCardSaid : Prop := Claim7.holds Tryd.pinned (.plain (OpenSpec.upto fnExactGroupRootSpec)) fnExactGroupRootUptoCard

/-- THE SECOND FORM's CARD OF 'laws.FnGroupPowers'. -/
def fnGroupPowersUptoCard : Claim7 := { stood := { row := fnGroupPowersUptoRow, standIns := [], harness := (true, "a72af8033575e21d57df78c1c14ed463ebd70da51685bc97c8a68aeded8a3e66"), looks := false }, kinds := [], alts := [], laidByText := true, laidKinds := [.data], laidTests := true, laidLooks := .later }
def FnGroupPowersUptoCardSaid : Prop := Claim7.holds Tryd.pinned (.plain (OpenSpec.upto fnGroupPowersSpec)) fnGroupPowersUptoCard

/-- THE SECOND FORM's CARD OF 'laws.FnExactAreGroupConjugate'. -/
def fnExactAreGroupConjugateUptoCard : Claim7 := { stood := { row := fnExactAreGroupConjugateUptoRow, standIns := [], harness := (true, "a72af8033575e21d57df78c1c14ed463ebd70da51685bc97c8a68aeded8a3e66"), looks := false }, kinds := [], alts := [], laidByText := true, laidKinds := [.data], laidTests := true, laidLooks := .later }
def FnExactAreGroupConjugateUptoCardSaid : Prop := Claim7.holds Tryd.pinned (.plain (OpenSpec.upto fnExactAreGroupConjugateSpec)) fnExactAreGroupConjugateUptoCard

/-- THE SECOND FORM's CARD OF 'laws.FnExactGroupConjugator'. -/
def fnExactGroupConjugatorUptoCard : Claim7 := { stood := { row := fnExactGroupConjugatorUptoRow, standIns := [], harness := (true, "a72af8033575e21d57df78c1c14ed463ebd70da51685bc97c8a68aeded8a3e66"), looks := false }, kinds := [], alts := [], laidByText := true, laidKinds := [.data], laidTests := true, laidLooks := .later }
def FnExactGroupConjugatorUptoCardSaid : Prop := Claim7.holds Tryd.pinned (.plain (OpenSpec.upto fnExactGroupConjugatorSpec)) fnExactGroupConjugatorUptoCard
end Rows
end Go.Proofs.YtnhklcbddcoadaaDoor
