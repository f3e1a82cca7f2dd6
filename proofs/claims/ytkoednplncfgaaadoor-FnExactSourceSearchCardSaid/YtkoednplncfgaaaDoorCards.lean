/-
  DERIVED. GIVEN WITH THE SEED: THE CARDS: each row of YtkoednplncfgaaaDoorRows.lean that lists a variable, with what it lists TIED to the program's text (the seventh form; the later family's looks); each row that meets fmt, with fmt's text TOLD by the authors' own Lean function (tested against real Go, not proved from fmt's source: count such statements apart). THE CARD IS WHAT COUNTS. Prove the row's statement (the work); the ties are given (YtkoednplncfgaaaDoorTie.lean); close each card by the builder's one call (the guide's Derived/Test/ToyasCard.lean, 'card_holds'). Laid BY PROGRAM, IN A SANDBOX (cutbox-door.mjs). By AI agents, Wed Nov 11 2026. No macro, syntax, notation, axiom, sorry.
-/
import Derived.Test.YtkoednplncfgaaaDoorRows
import GoSem.ClaimSeven
namespace Go.Proofs.YtkoednplncfgaaaDoor
namespace Rows

/-- THE TIED CARD OF 'laws.FnExactCountRuns'. -/
def fnExactCountRunsCard : Claim7 := { stood := { row := fnExactCountRunsRow, standIns := [], harness := (true, "7e7a2ac52f19882ed78bc0e603397241b45b1f4eb1db47a58a92ef10866fdf73"), looks := false }, kinds := [], alts := [], laidByText := true, laidKinds := [.data], laidTests := true, laidLooks := .later }
def FnExactCountRunsCardSaid : Prop := Claim7.holds Tryd.pinned (.plain (OpenSpec.ofChange fnExactCountRunsSpec)) fnExactCountRunsCard

/-- THE TIED CARD OF 'laws.FnExactIsPersistent'. -/
def fnExactIsPersistentCard : Claim7 := { stood := { row := fnExactIsPersistentRow, standIns := [], harness := (true, "7e7a2ac52f19882ed78bc0e603397241b45b1f4eb1db47a58a92ef10866fdf73"), looks := false }, kinds := [], alts := [], laidByText := true, laidKinds := [.data], laidTests := true, laidLooks := .later }
def FnExactIsPersistentCardSaid : Prop := Claim7.holds Tryd.pinned (.plain (OpenSpec.ofChange fnExactIsPersistentSpec)) fnExactIsPersistentCard

/-- THE TIED CARD OF 'laws.FnExactIsSource'. -/
def fnExactIsSourceCard : Claim7 := { stood := { row := fnExactIsSourceRow, standIns := [], harness := (true, "7e7a2ac52f19882ed78bc0e603397241b45b1f4eb1db47a58a92ef10866fdf73"), looks := false }, kinds := [], alts := [], laidByText := true, laidKinds := [.data], laidTests := true, laidLooks := .later }
def FnExactIsSourceCardSaid : Prop := Claim7.holds Tryd.pinned (.plain (OpenSpec.ofChange fnExactIsSourceSpec)) fnExactIsSourceCard

/-- THE TIED CARD OF 'laws.FnExactIsDesk'. -/
def fnExactIsDeskCard : Claim7 := { stood := { row := fnExactIsDeskRow, standIns := [], harness := (true, "7e7a2ac52f19882ed78bc0e603397241b45b1f4eb1db47a58a92ef10866fdf73"), looks := false }, kinds := [], alts := [], laidByText := true, laidKinds := [.data], laidTests := true, laidLooks := .later }
def FnExactIsDeskCardSaid : Prop := Claim7.holds Tryd.pinned (.plain (OpenSpec.ofChange fnExactIsDeskSpec)) fnExactIsDeskCard

/-- THE TIED CARD OF 'laws.FnExactPossibleLetters'. -/
def fnExactPossibleLettersCard : Claim7 := { stood := { row := fnExactPossibleLettersRow, standIns := [], harness := (true, "7e7a2ac52f19882ed78bc0e603397241b45b1f4eb1db47a58a92ef10866fdf73"), looks := false }, kinds := [], alts := [], laidByText := true, laidKinds := [.data], laidTests := true, laidLooks := .later }
def FnExactPossibleLettersCardSaid : Prop := Claim7.holds Tryd.pinned (.plain (OpenSpec.ofChange fnExactPossibleLettersSpec)) fnExactPossibleLettersCard

/-- THE TIED CARD OF 'laws.FnExactSmallestSource'. -/
def fnExactSmallestSourceCard : Claim7 := { stood := { row := fnExactSmallestSourceRow, standIns := [], harness := (true, "7e7a2ac52f19882ed78bc0e603397241b45b1f4eb1db47a58a92ef10866fdf73"), looks := false }, kinds := [], alts := [], laidByText := true, laidKinds := [.data], laidTests := true, laidLooks := .later }
def FnExactSmallestSourceCardSaid : Prop := Claim7.holds Tryd.pinned (.plain (OpenSpec.ofChange fnExactSmallestSourceSpec)) fnExactSmallestSourceCard

/-- THE TIED CARD OF 'laws.FnExactSmallestPersistent'. -/
def fnExactSmallestPersistentCard : Claim7 := { stood := { row := fnExactSmallestPersistentRow, standIns := [], harness := (true, "7e7a2ac52f19882ed78bc0e603397241b45b1f4eb1db47a58a92ef10866fdf73"), looks := false }, kinds := [], alts := [], laidByText := true, laidKinds := [.data], laidTests := true, laidLooks := .later }
def FnExactSmallestPersistentCardSaid : Prop := Claim7.holds Tryd.pinned (.plain (OpenSpec.ofChange fnExactSmallestPersistentSpec)) fnExactSmallestPersistentCard

/-- THE TIED CARD OF 'laws.FnExactSleepSearch'. -/
def fnExactSleepSearchCard : Claim7 := { stood := { row := fnExactSleepSearchRow, standIns := [], harness := (true, "7e7a2ac52f19882ed78bc0e603397241b45b1f4eb1db47a58a92ef10866fdf73"), looks := false }, kinds := [], alts := [], laidByText := true, laidKinds := [.data], laidTests := true, laidLooks := .later }
def FnExactSleepSearchCardSaid : Prop := Claim7.holds Tryd.pinned (.plain (OpenSpec.ofChange fnExactSleepSearchSpec)) fnExactSleepSearchCard

/-- THE TIED CARD OF 'laws.FnExactSourceSearch'. -/
def fnExactSourceSearchCard : Claim7 := { stood := { row := fnExactSourceSearchRow, standIns := [], harness := (true, "7e7a2ac52f19882ed78bc0e603397241b45b1f4eb1db47a58a92ef10866fdf73"), looks := false }, kinds := [], alts := [], laidByText := true, laidKinds := [.data], laidTests := true, laidLooks := .later }
def FnExactSourceSearchCardSaid : Prop := Claim7.holds Tryd.pinned (.plain (OpenSpec.ofChange fnExactSourceSearchSpec)) fnExactSourceSearchCard

/-- THE TIED CARD OF 'laws.FnExactPersistentSearch'. -/
def fnExactPersistentSearchCard : Claim7 := { stood := { row := fnExactPersistentSearchRow, standIns := [], harness := (true, "7e7a2ac52f19882ed78bc0e603397241b45b1f4eb1db47a58a92ef10866fdf73"), looks := false }, kinds := [], alts := [], laidByText := true, laidKinds := [.data], laidTests := true, laidLooks := .later }
def FnExactPersistentSearchCardSaid : Prop := Claim7.holds Tryd.pinned (.plain (OpenSpec.ofChange fnExactPersistentSearchSpec)) fnExactPersistentSearchCard

/-- THE SECOND FORM's CARD OF 'laws.FnExactCountRuns'. -/
def fnExactCountRunsUptoCard : Claim7 := { stood := { row := fnExactCountRunsUptoRow, standIns := [], harness := (true, "7e7a2ac52f19882ed78bc0e603397241b45b1f4eb1db47a58a92ef10866fdf73"), looks := false }, kinds := [], alts := [], laidByText := true, laidKinds := [.data], laidTests := true, laidLooks := .later }
def FnExactCountRunsUptoCardSaid : Prop := Claim7.holds Tryd.pinned (.plain (OpenSpec.upto fnExactCountRunsSpec)) fnExactCountRunsUptoCard

/-- THE SECOND FORM's CARD OF 'laws.FnExactIsPersistent'. -/
def fnExactIsPersistentUptoCard : Claim7 := { stood := { row := fnExactIsPersistentUptoRow, standIns := [], harness := (true, "7e7a2ac52f19882ed78bc0e603397241b45b1f4eb1db47a58a92ef10866fdf73"), looks := false }, kinds := [], alts := [], laidByText := true, laidKinds := [.data], laidTests := true, laidLooks := .later }
def FnExactIsPersistentUptoCardSaid : Prop := Claim7.holds Tryd.pinned (.plain (OpenSpec.upto fnExactIsPersistentSpec)) fnExactIsPersistentUptoCard

/-- THE SECOND FORM's CARD OF 'laws.FnExactIsSource'. -/
def fnExactIsSourceUptoCard : Claim7 := { stood := { row := fnExactIsSourceUptoRow, standIns := [], harness := (true, "7e7a2ac52f19882ed78bc0e603397241b45b1f4eb1db47a58a92ef10866fdf73"), looks := false }, kinds := [], alts := [], laidByText := true, laidKinds := [.data], laidTests := true, laidLooks := .later }
def FnExactIsSourceUptoCardSaid : Prop := Claim7.holds Tryd.pinned (.plain (OpenSpec.upto fnExactIsSourceSpec)) fnExactIsSourceUptoCard

/-- THE SECOND FORM's CARD OF 'laws.FnExactIsDesk'. -/
def fnExactIsDeskUptoCard : Claim7 := { stood := { row := fnExactIsDeskUptoRow, standIns := [], harness := (true, "7e7a2ac52f19882ed78bc0e603397241b45b1f4eb1db47a58a92ef10866fdf73"), looks := false }, kinds := [], alts := [], laidByText := true, laidKinds := [.data], laidTests := true, laidLooks := .later }
def FnExactIsDeskUptoCardSaid : Prop := Claim7.holds Tryd.pinned (.plain (OpenSpec.upto fnExactIsDeskSpec)) fnExactIsDeskUptoCard

/-- THE SECOND FORM's CARD OF 'laws.FnExactPossibleLetters'. -/
def fnExactPossibleLettersUptoCard : Claim7 := { stood := { row := fnExactPossibleLettersUptoRow, standIns := [], harness := (true, "7e7a2ac52f19882ed78bc0e603397241b45b1f4eb1db47a58a92ef10866fdf73"), looks := false }, kinds := [], alts := [], laidByText := true, laidKinds := [.data], laidTests := true, laidLooks := .later }
def FnExactPossibleLettersUptoCardSaid : Prop := Claim7.holds Tryd.pinned (.plain (OpenSpec.upto fnExactPossibleLettersSpec)) fnExactPossibleLettersUptoCard

/-- THE SECOND FORM's CARD OF 'laws.FnExactSmallestSource'. -/
def fnExactSmallestSourceUptoCard : Claim7 := { stood := { row := fnExactSmallestSourceUptoRow, standIns := [], harness := (true, "7e7a2ac52f19882ed78bc0e603397241b45b1f4eb1db47a58a92ef10866fdf73"), looks := false }, kinds := [], alts := [], laidByText := true, laidKinds := [.data], laidTests := true, laidLooks := .later }
def FnExactSmallestSourceUptoCardSaid : Prop := Claim7.holds Tryd.pinned (.plain (OpenSpec.upto fnExactSmallestSourceSpec)) fnExactSmallestSourceUptoCard

/-- THE SECOND FORM's CARD OF 'laws.FnExactSmallestPersistent'. -/
def fnExactSmallestPersistentUptoCard : Claim7 := { stood := { row := fnExactSmallestPersistentUptoRow, standIns := [], harness := (true, "7e7a2ac52f19882ed78bc0e603397241b45b1f4eb1db47a58a92ef10866fdf73"), looks := false }, kinds := [], alts := [], laidByText := true, laidKinds := [.data], laidTests := true, laidLooks := .later }
def FnExactSmallestPersistentUptoCardSaid : Prop := Claim7.holds Tryd.pinned (.plain (OpenSpec.upto fnExactSmallestPersistentSpec)) fnExactSmallestPersistentUptoCard

/-- THE SECOND FORM's CARD OF 'laws.FnExactSleepSearch'. -/
def fnExactSleepSearchUptoCard : Claim7 := { stood := { row := fnExactSleepSearchUptoRow, standIns := [], harness := (true, "7e7a2ac52f19882ed78bc0e603397241b45b1f4eb1db47a58a92ef10866fdf73"), looks := false }, kinds := [], alts := [], laidByText := true, laidKinds := [.data], laidTests := true, laidLooks := .later }
def FnExactSleepSearchUptoCardSaid : Prop := Claim7.holds Tryd.pinned (.plain (OpenSpec.upto fnExactSleepSearchSpec)) fnExactSleepSearchUptoCard

/-- THE SECOND FORM's CARD OF 'laws.FnExactSourceSearch'. -/
def fnExactSourceSearchUptoCard : Claim7 := { stood := { row := fnExactSourceSearchUptoRow, standIns := [], harness := (true, "7e7a2ac52f19882ed78bc0e603397241b45b1f4eb1db47a58a92ef10866fdf73"), looks := false }, kinds := [], alts := [], laidByText := true, laidKinds := [.data], laidTests := true, laidLooks := .later }
def FnExactSourceSearchUptoCardSaid : Prop := Claim7.holds Tryd.pinned (.plain (OpenSpec.upto fnExactSourceSearchSpec)) fnExactSourceSearchUptoCard

/-- THE SECOND FORM's CARD OF 'laws.FnExactPersistentSearch'. -/
def fnExactPersistentSearchUptoCard : Claim7 := { stood := { row := fnExactPersistentSearchUptoRow, standIns := [], harness := (true, "7e7a2ac52f19882ed78bc0e603397241b45b1f4eb1db47a58a92ef10866fdf73"), looks := false }, kinds := [], alts := [], laidByText := true, laidKinds := [.data], laidTests := true, laidLooks := .later }
def FnExactPersistentSearchUptoCardSaid : Prop := Claim7.holds Tryd.pinned (.plain (OpenSpec.upto fnExactPersistentSearchSpec)) fnExactPersistentSearchUptoCard
end Rows
end Go.Proofs.YtkoednplncfgaaaDoor
