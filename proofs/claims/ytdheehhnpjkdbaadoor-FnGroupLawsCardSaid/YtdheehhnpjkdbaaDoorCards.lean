/-
  DERIVED. GIVEN WITH THE SEED: THE CARDS: each row of YtdheehhnpjkdbaaDoorRows.lean that lists a variable, with what it lists TIED to the program's text (the seventh form; the later family's looks); each row that meets fmt, with fmt's text TOLD by the authors' own Lean function (tested against real Go, not proved from fmt's source: count such statements apart). THE CARD IS WHAT COUNTS. Prove the row's statement (the work); the ties are given (YtdheehhnpjkdbaaDoorTie.lean); close each card by the builder's one call (the guide's Derived/Test/ToyasCard.lean, 'card_holds'). Laid BY PROGRAM, IN A SANDBOX (cutbox-door.mjs). By AI agents, Wed Nov 11 2026. No macro, syntax, notation, axiom, sorry.
-/
import Derived.Test.YtdheehhnpjkdbaaDoorRows
import GoSem.ClaimSeven
namespace Go.Proofs.YtdheehhnpjkdbaaDoor
namespace Rows

/-- THE TIED CARD OF 'laws.FnExactAreGroupEqual'. -/
def fnExactAreGroupEqualCard : Claim7 := { stood := { row := fnExactAreGroupEqualRow, standIns := [], harness := (true, "23789b3a8e5d592eeb0aebdb185f21038815cf85c785c1c80c7f16b20ca6161a"), looks := false }, kinds := [], alts := [], laidByText := true, laidKinds := [.data], laidTests := true, laidLooks := .later }
def FnExactAreGroupEqualCardSaid : Prop := Claim7.holds Tryd.pinned (.plain (OpenSpec.ofChange fnExactAreGroupEqualSpec)) fnExactAreGroupEqualCard

/-- THE TIED CARD OF 'laws.FnExactIsPositive'. -/
def fnExactIsPositiveCard : Claim7 := { stood := { row := fnExactIsPositiveRow, standIns := [], harness := (true, "23789b3a8e5d592eeb0aebdb185f21038815cf85c785c1c80c7f16b20ca6161a"), looks := false }, kinds := [], alts := [], laidByText := true, laidKinds := [.data], laidTests := true, laidLooks := .later }
def FnExactIsPositiveCardSaid : Prop := Claim7.holds Tryd.pinned (.plain (OpenSpec.ofChange fnExactIsPositiveSpec)) fnExactIsPositiveCard

/-- THE TIED CARD OF 'laws.FnExactGroupForm'. -/
def fnExactGroupFormCard : Claim7 := { stood := { row := fnExactGroupFormRow, standIns := [], harness := (true, "23789b3a8e5d592eeb0aebdb185f21038815cf85c785c1c80c7f16b20ca6161a"), looks := false }, kinds := [], alts := [], laidByText := true, laidKinds := [.data], laidTests := true, laidLooks := .later }
def FnExactGroupFormCardSaid : Prop := Claim7.holds Tryd.pinned (.plain (OpenSpec.ofChange fnExactGroupFormSpec)) fnExactGroupFormCard

/-- THE TIED CARD OF 'laws.FnExactGroupProduct'. -/
def fnExactGroupProductCard : Claim7 := { stood := { row := fnExactGroupProductRow, standIns := [], harness := (true, "23789b3a8e5d592eeb0aebdb185f21038815cf85c785c1c80c7f16b20ca6161a"), looks := false }, kinds := [], alts := [], laidByText := true, laidKinds := [.data], laidTests := true, laidLooks := .later }
def FnExactGroupProductCardSaid : Prop := Claim7.holds Tryd.pinned (.plain (OpenSpec.ofChange fnExactGroupProductSpec)) fnExactGroupProductCard

/-- THE TIED CARD OF 'laws.FnExactRetractOn'. -/
def fnExactRetractOnCard : Claim7 := { stood := { row := fnExactRetractOnRow, standIns := [], harness := (true, "23789b3a8e5d592eeb0aebdb185f21038815cf85c785c1c80c7f16b20ca6161a"), looks := false }, kinds := [], alts := [], laidByText := true, laidKinds := [.data], laidTests := true, laidLooks := .later }
def FnExactRetractOnCardSaid : Prop := Claim7.holds Tryd.pinned (.plain (OpenSpec.ofChange fnExactRetractOnSpec)) fnExactRetractOnCard

/-- THE TIED CARD OF 'laws.FnExactGroupInverse'. -/
def fnExactGroupInverseCard : Claim7 := { stood := { row := fnExactGroupInverseRow, standIns := [], harness := (true, "23789b3a8e5d592eeb0aebdb185f21038815cf85c785c1c80c7f16b20ca6161a"), looks := false }, kinds := [], alts := [], laidByText := true, laidKinds := [.data], laidTests := true, laidLooks := .later }
def FnExactGroupInverseCardSaid : Prop := Claim7.holds Tryd.pinned (.plain (OpenSpec.ofChange fnExactGroupInverseSpec)) fnExactGroupInverseCard

/-- THE TIED CARD OF 'laws.FnExactCyclicReduction'. -/
def fnExactCyclicReductionCard : Claim7 := { stood := { row := fnExactCyclicReductionRow, standIns := [], harness := (true, "23789b3a8e5d592eeb0aebdb185f21038815cf85c785c1c80c7f16b20ca6161a"), looks := false }, kinds := [], alts := [], laidByText := true, laidKinds := [.data], laidTests := true, laidLooks := .later }
def FnExactCyclicReductionCardSaid : Prop := Claim7.holds Tryd.pinned (.plain (OpenSpec.ofChange fnExactCyclicReductionSpec)) fnExactCyclicReductionCard

/-- THE TIED CARD OF 'laws.FnExactGroupPower'. -/
def fnExactGroupPowerCard : Claim7 := { stood := { row := fnExactGroupPowerRow, standIns := [], harness := (true, "23789b3a8e5d592eeb0aebdb185f21038815cf85c785c1c80c7f16b20ca6161a"), looks := false }, kinds := [], alts := [], laidByText := true, laidKinds := [.data], laidTests := true, laidLooks := .later }
def FnExactGroupPowerCardSaid : Prop := Claim7.holds Tryd.pinned (.plain (OpenSpec.ofChange fnExactGroupPowerSpec)) fnExactGroupPowerCard

/-- THE TIED CARD OF 'laws.FnRetracts'. -/
def fnRetractsCard : Claim7 := { stood := { row := fnRetractsRow, standIns := [], harness := (true, "23789b3a8e5d592eeb0aebdb185f21038815cf85c785c1c80c7f16b20ca6161a"), looks := false }, kinds := [], alts := [], laidByText := true, laidKinds := [.data], laidTests := true, laidLooks := .later }
def FnRetractsCardSaid : Prop := Claim7.holds Tryd.pinned (.plain (OpenSpec.ofChange fnRetractsSpec)) fnRetractsCard

/-- THE TIED CARD OF 'laws.FnGroupEquality'. -/
def fnGroupEqualityCard : Claim7 := { stood := { row := fnGroupEqualityRow, standIns := [], harness := (true, "23789b3a8e5d592eeb0aebdb185f21038815cf85c785c1c80c7f16b20ca6161a"), looks := false }, kinds := [], alts := [], laidByText := true, laidKinds := [.data], laidTests := true, laidLooks := .later }
def FnGroupEqualityCardSaid : Prop := Claim7.holds Tryd.pinned (.plain (OpenSpec.ofChange fnGroupEqualitySpec)) fnGroupEqualityCard

/-- THE TIED CARD OF 'laws.FnGroupLaws'. -/
def fnGroupLawsCard : Claim7 := { stood := { row := fnGroupLawsRow, standIns := [], harness := (true, "23789b3a8e5d592eeb0aebdb185f21038815cf85c785c1c80c7f16b20ca6161a"), looks := false }, kinds := [], alts := [], laidByText := true, laidKinds := [.data], laidTests := true, laidLooks := .later }
def FnGroupLawsCardSaid : Prop := Claim7.holds Tryd.pinned (.plain (OpenSpec.ofChange fnGroupLawsSpec)) fnGroupLawsCard

/-- THE TIED CARD OF 'laws.FnCyclicReductions'. -/
def fnCyclicReductionsCard : Claim7 := { stood := { row := fnCyclicReductionsRow, standIns := [], harness := (true, "23789b3a8e5d592eeb0aebdb185f21038815cf85c785c1c80c7f16b20ca6161a"), looks := false }, kinds := [], alts := [], laidByText := true, laidKinds := [.data], laidTests := true, laidLooks := .later }
def FnCyclicReductionsCardSaid : Prop := Claim7.holds Tryd.pinned (.plain (OpenSpec.ofChange fnCyclicReductionsSpec)) fnCyclicReductionsCard

/-- THE SECOND FORM's CARD OF 'laws.FnExactAreGroupEqual'. -/
def fnExactAreGroupEqualUptoCard : Claim7 := { stood := { row := fnExactAreGroupEqualUptoRow, standIns := [], harness := (true, "23789b3a8e5d592eeb0aebdb185f21038815cf85c785c1c80c7f16b20ca6161a"), looks := false }, kinds := [], alts := [], laidByText := true, laidKinds := [.data], laidTests := true, laidLooks := .later }
def FnExactAreGroupEqualUptoCardSaid : Prop := Claim7.holds Tryd.pinned (.plain (OpenSpec.upto fnExactAreGroupEqualSpec)) fnExactAreGroupEqualUptoCard

/-- THE SECOND FORM's CARD OF 'laws.FnExactIsPositive'. -/
def fnExactIsPositiveUptoCard : Claim7 := { stood := { row := fnExactIsPositiveUptoRow, standIns := [], harness := (true, "23789b3a8e5d592eeb0aebdb185f21038815cf85c785c1c80c7f16b20ca6161a"), looks := false }, kinds := [], alts := [], laidByText := true, laidKinds := [.data], laidTests := true, laidLooks := .later }
def FnExactIsPositiveUptoCardSaid : Prop := Claim7.holds Tryd.pinned (.plain (OpenSpec.upto fnExactIsPositiveSpec)) fnExactIsPositiveUptoCard

/-- THE SECOND FORM's CARD OF 'laws.FnExactGroupForm'. -/
def fnExactGroupFormUptoCard : Claim7 := { stood := { row := fnExactGroupFormUptoRow, standIns := [], harness := (true, "23789b3a8e5d592eeb0aebdb185f21038815cf85c785c1c80c7f16b20ca6161a"), looks := false }, kinds := [], alts := [], laidByText := true, laidKinds := [.data], laidTests := true, laidLooks := .later }
def FnExactGroupFormUptoCardSaid : Prop := Claim7.holds Tryd.pinned (.plain (OpenSpec.upto fnExactGroupFormSpec)) fnExactGroupFormUptoCard

/-- THE SECOND FORM's CARD OF 'laws.FnExactGroupProduct'. -/
def fnExactGroupProductUptoCard : Claim7 := { stood := { row := fnExactGroupProductUptoRow, standIns := [], harness := (true, "23789b3a8e5d592eeb0aebdb185f21038815cf85c785c1c80c7f16b20ca6161a"), looks := false }, kinds := [], alts := [], laidByText := true, laidKinds := [.data], laidTests := true, laidLooks := .later }
def FnExactGroupProductUptoCardSaid : Prop := Claim7.holds Tryd.pinned (.plain (OpenSpec.upto fnExactGroupProductSpec)) fnExactGroupProductUptoCard

/-- THE SECOND FORM's CARD OF 'laws.FnExactRetractOn'. -/
def fnExactRetractOnUptoCard : Claim7 := { stood := { row := fnExactRetractOnUptoRow, standIns := [], harness := (true, "23789b3a8e5d592eeb0aebdb185f21038815cf85c785c1c80c7f16b20ca6161a"), looks := false }, kinds := [], alts := [], laidByText := true, laidKinds := [.data], laidTests := true, laidLooks := .later }
def FnExactRetractOnUptoCardSaid : Prop := Claim7.holds Tryd.pinned (.plain (OpenSpec.upto fnExactRetractOnSpec)) fnExactRetractOnUptoCard

/-- THE SECOND FORM's CARD OF 'laws.FnExactGroupInverse'. -/
def fnExactGroupInverseUptoCard : Claim7 := { stood := { row := fnExactGroupInverseUptoRow, standIns := [], harness := (true, "23789b3a8e5d592eeb0aebdb185f21038815cf85c785c1c80c7f16b20ca6161a"), looks := false }, kinds := [], alts := [], laidByText := true, laidKinds := [.data], laidTests := true, laidLooks := .later }
def FnExactGroupInverseUptoCardSaid : Prop := Claim7.holds Tryd.pinned (.plain (OpenSpec.upto fnExactGroupInverseSpec)) fnExactGroupInverseUptoCard

/-- THE SECOND FORM's CARD OF 'laws.FnExactCyclicReduction'. -/
def fnExactCyclicReductionUptoCard : Claim7 := { stood := { row := fnExactCyclicReductionUptoRow, standIns := [], harness := (true, "23789b3a8e5d592eeb0aebdb185f21038815cf85c785c1c80c7f16b20ca6161a"), looks := false }, kinds := [], alts := [], laidByText := true, laidKinds := [.data], laidTests := true, laidLooks := .later }
def FnExactCyclicReductionUptoCardSaid : Prop := Claim7.holds Tryd.pinned (.plain (OpenSpec.upto fnExactCyclicReductionSpec)) fnExactCyclicReductionUptoCard

/-- THE SECOND FORM's CARD OF 'laws.FnExactGroupPower'. -/
def fnExactGroupPowerUptoCard : Claim7 := { stood := { row := fnExactGroupPowerUptoRow, standIns := [], harness := (true, "23789b3a8e5d592eeb0aebdb185f21038815cf85c785c1c80c7f16b20ca6161a"), looks := false }, kinds := [], alts := [], laidByText := true, laidKinds := [.data], laidTests := true, laidLooks := .later }
def FnExactGroupPowerUptoCardSaid : Prop := Claim7.holds Tryd.pinned (.plain (OpenSpec.upto fnExactGroupPowerSpec)) fnExactGroupPowerUptoCard

/-- THE SECOND FORM's CARD OF 'laws.FnRetracts'. -/
def fnRetractsUptoCard : Claim7 := { stood := { row := fnRetractsUptoRow, standIns := [], harness := (true, "23789b3a8e5d592eeb0aebdb185f21038815cf85c785c1c80c7f16b20ca6161a"), looks := false }, kinds := [], alts := [], laidByText := true, laidKinds := [.data], laidTests := true, laidLooks := .later }
def FnRetractsUptoCardSaid : Prop := Claim7.holds Tryd.pinned (.plain (OpenSpec.upto fnRetractsSpec)) fnRetractsUptoCard

/-- THE SECOND FORM's CARD OF 'laws.FnGroupEquality'. -/
def fnGroupEqualityUptoCard : Claim7 := { stood := { row := fnGroupEqualityUptoRow, standIns := [], harness := (true, "23789b3a8e5d592eeb0aebdb185f21038815cf85c785c1c80c7f16b20ca6161a"), looks := false }, kinds := [], alts := [], laidByText := true, laidKinds := [.data], laidTests := true, laidLooks := .later }
def FnGroupEqualityUptoCardSaid : Prop := Claim7.holds Tryd.pinned (.plain (OpenSpec.upto fnGroupEqualitySpec)) fnGroupEqualityUptoCard

/-- THE SECOND FORM's CARD OF 'laws.FnGroupLaws'. -/
def fnGroupLawsUptoCard : Claim7 := { stood := { row := fnGroupLawsUptoRow, standIns := [], harness := (true, "23789b3a8e5d592eeb0aebdb185f21038815cf85c785c1c80c7f16b20ca6161a"), looks := false }, kinds := [], alts := [], laidByText := true, laidKinds := [.data], laidTests := true, laidLooks := .later }
def FnGroupLawsUptoCardSaid : Prop := Claim7.holds Tryd.pinned (.plain (OpenSpec.upto fnGroupLawsSpec)) fnGroupLawsUptoCard

/-- THE SECOND FORM's CARD OF 'laws.FnCyclicReductions'. -/
def fnCyclicReductionsUptoCard : Claim7 := { stood := { row := fnCyclicReductionsUptoRow, standIns := [], harness := (true, "23789b3a8e5d592eeb0aebdb185f21038815cf85c785c1c80c7f16b20ca6161a"), looks := false }, kinds := [], alts := [], laidByText := true, laidKinds := [.data], laidTests := true, laidLooks := .later }
def FnCyclicReductionsUptoCardSaid : Prop := Claim7.holds Tryd.pinned (.plain (OpenSpec.upto fnCyclicReductionsSpec)) fnCyclicReductionsUptoCard
end Rows
end Go.Proofs.YtdheehhnpjkdbaaDoor
