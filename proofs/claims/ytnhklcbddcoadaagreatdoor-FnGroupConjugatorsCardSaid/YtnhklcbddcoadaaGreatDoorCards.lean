/-
  DERIVED. GIVEN WITH THE SEED: THE CARDS: each row of YtnhklcbddcoadaaGreatDoorRows.lean that lists a variable, with what it lists TIED to the program's text (the seventh form; the later family's looks); each row that meets fmt, with fmt's text TOLD by the authors' own Lean function (tested against real Go, not proved from fmt's source: count such statements apart). THE CARD IS WHAT COUNTS. Prove the row's statement (the work); the ties are given (YtnhklcbddcoadaaGreatDoorTie.lean); close each card by the builder's one call (the guide's Derived/Test/ToyasCard.lean, 'card_holds'). Laid BY PROGRAM, IN A SANDBOX (cutbox-door.mjs). By AI agents, Wed Nov 11 2026. No macro, syntax, notation, axiom, sorry.
-/
import Derived.Test.YtnhklcbddcoadaaGreatDoorRows
import GoSem.ClaimSeven
namespace Go.Proofs.YtnhklcbddcoadaaGreatDoor
namespace Rows

/-- THE TIED CARD OF 'laws.FnGroupConjugators'. -/
def fnGroupConjugatorsCard : Claim7 := { stood := { row := fnGroupConjugatorsRow, standIns := [], harness := (true, "8a693fd13d612efbb5c17d61847bbc25e8b70710c81c7276a3efc1703b277104"), looks := false }, kinds := [], alts := [], laidByText := true, laidKinds := [.data], laidTests := true, laidLooks := .later }
def FnGroupConjugatorsCardSaid : Prop := Claim7.holds Tryz.pinned (.plain (OpenSpec.ofChange fnGroupConjugatorsSpec)) fnGroupConjugatorsCard

/-- THE TIED CARD OF 'laws.FnEmbedding'. -/
def fnEmbeddingCard : Claim7 := { stood := { row := fnEmbeddingRow, standIns := [], harness := (true, "8a693fd13d612efbb5c17d61847bbc25e8b70710c81c7276a3efc1703b277104"), looks := false }, kinds := [], alts := [], laidByText := true, laidKinds := [.data], laidTests := true, laidLooks := .later }
def FnEmbeddingCardSaid : Prop := Claim7.holds Tryz.pinned (.plain (OpenSpec.ofChange fnEmbeddingSpec)) fnEmbeddingCard

/-- THE SECOND FORM's CARD OF 'laws.FnGroupConjugators'. -/
def fnGroupConjugatorsUptoCard : Claim7 := { stood := { row := fnGroupConjugatorsUptoRow, standIns := [], harness := (true, "8a693fd13d612efbb5c17d61847bbc25e8b70710c81c7276a3efc1703b277104"), looks := false }, kinds := [], alts := [], laidByText := true, laidKinds := [.data], laidTests := true, laidLooks := .later }
def FnGroupConjugatorsUptoCardSaid : Prop := Claim7.holds Tryz.pinned (.plain (OpenSpec.upto fnGroupConjugatorsSpec)) fnGroupConjugatorsUptoCard

/-- THE SECOND FORM's CARD OF 'laws.FnEmbedding'. -/
def fnEmbeddingUptoCard : Claim7 := { stood := { row := fnEmbeddingUptoRow, standIns := [], harness := (true, "8a693fd13d612efbb5c17d61847bbc25e8b70710c81c7276a3efc1703b277104"), looks := false }, kinds := [], alts := [], laidByText := true, laidKinds := [.data], laidTests := true, laidLooks := .later }
def FnEmbeddingUptoCardSaid : Prop := Claim7.holds Tryz.pinned (.plain (OpenSpec.upto fnEmbeddingSpec)) fnEmbeddingUptoCard
end Rows
end Go.Proofs.YtnhklcbddcoadaaGreatDoor
