/-
  DERIVED. GIVEN WITH THE SEED: THE CARDS: each row of YtmjbhacjgjihpaaDoorRows.lean that lists a variable, with what it lists TIED to the program's text (the seventh form; the later family's looks); each row that meets fmt, with fmt's text TOLD by the authors' own Lean function (tested against real Go, not proved from fmt's source: count such statements apart). THE CARD IS WHAT COUNTS. Prove the row's statement (the work); the ties are given (YtmjbhacjgjihpaaDoorTie.lean); close each card by the builder's one call (the guide's Derived/Test/ToyasCard.lean, 'card_holds'). Laid BY PROGRAM, IN A SANDBOX (cutbox-door.mjs). By AI agents, Wed Nov 11 2026. No macro, syntax, notation, axiom, sorry.
-/
import Derived.Test.YtmjbhacjgjihpaaDoorRows
import GoSem.ClaimSeven
namespace Go.Proofs.YtmjbhacjgjihpaaDoor
namespace Rows

/-- THE TIED CARD OF 'laws.FnExactPossibleLetters'. -/
def fnExactPossibleLettersCard : Claim7 := { stood := { row := fnExactPossibleLettersRow, standIns := [], harness := (true, "5028b5b1cf8b1a8a17104fd7a385e9840c7741b0a836afbe967dde85aeac4040"), looks := false }, kinds := [], alts := [], laidByText := true, laidKinds := [.data], laidTests := true, laidLooks := .later }
def FnExactPossibleLettersCardSaid : Prop := Claim7.holds Tryd.pinned (.plain (OpenSpec.ofChange fnExactPossibleLettersSpec)) fnExactPossibleLettersCard

/-- THE TIED CARD OF 'laws.FnPersistentSets'. -/
def fnPersistentSetsCard : Claim7 := { stood := { row := fnPersistentSetsRow, standIns := [], harness := (true, "5028b5b1cf8b1a8a17104fd7a385e9840c7741b0a836afbe967dde85aeac4040"), looks := false }, kinds := [], alts := [], laidByText := true, laidKinds := [.data], laidTests := true, laidLooks := .later }
def FnPersistentSetsCardSaid : Prop := Claim7.holds Tryd.pinned (.plain (OpenSpec.ofChange fnPersistentSetsSpec)) fnPersistentSetsCard

/-- THE TIED CARD OF 'laws.FnExactCompareTraces'. -/
def fnExactCompareTracesCard : Claim7 := { stood := { row := fnExactCompareTracesRow, standIns := [], harness := (true, "5028b5b1cf8b1a8a17104fd7a385e9840c7741b0a836afbe967dde85aeac4040"), looks := false }, kinds := [], alts := [], laidByText := true, laidKinds := [.data], laidTests := true, laidLooks := .later }
def FnExactCompareTracesCardSaid : Prop := Claim7.holds Tryd.pinned (.plain (OpenSpec.ofChange fnExactCompareTracesSpec)) fnExactCompareTracesCard

/-- THE SECOND FORM's CARD OF 'laws.FnExactPossibleLetters'. -/
def fnExactPossibleLettersUptoCard : Claim7 := { stood := { row := fnExactPossibleLettersUptoRow, standIns := [], harness := (true, "5028b5b1cf8b1a8a17104fd7a385e9840c7741b0a836afbe967dde85aeac4040"), looks := false }, kinds := [], alts := [], laidByText := true, laidKinds := [.data], laidTests := true, laidLooks := .later }
def FnExactPossibleLettersUptoCardSaid : Prop := Claim7.holds Tryd.pinned (.plain (OpenSpec.upto fnExactPossibleLettersSpec)) fnExactPossibleLettersUptoCard

/-- THE SECOND FORM's CARD OF 'laws.FnPersistentSets'. -/
def fnPersistentSetsUptoCard : Claim7 := { stood := { row := fnPersistentSetsUptoRow, standIns := [], harness := (true, "5028b5b1cf8b1a8a17104fd7a385e9840c7741b0a836afbe967dde85aeac4040"), looks := false }, kinds := [], alts := [], laidByText := true, laidKinds := [.data], laidTests := true, laidLooks := .later }
def FnPersistentSetsUptoCardSaid : Prop := Claim7.holds Tryd.pinned (.plain (OpenSpec.upto fnPersistentSetsSpec)) fnPersistentSetsUptoCard

/-- THE SECOND FORM's CARD OF 'laws.FnExactCompareTraces'. -/
def fnExactCompareTracesUptoCard : Claim7 := { stood := { row := fnExactCompareTracesUptoRow, standIns := [], harness := (true, "5028b5b1cf8b1a8a17104fd7a385e9840c7741b0a836afbe967dde85aeac4040"), looks := false }, kinds := [], alts := [], laidByText := true, laidKinds := [.data], laidTests := true, laidLooks := .later }
def FnExactCompareTracesUptoCardSaid : Prop := Claim7.holds Tryd.pinned (.plain (OpenSpec.upto fnExactCompareTracesSpec)) fnExactCompareTracesUptoCard
end Rows
end Go.Proofs.YtmjbhacjgjihpaaDoor
