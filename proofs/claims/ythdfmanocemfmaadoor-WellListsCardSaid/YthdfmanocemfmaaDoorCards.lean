/-
  DERIVED. GIVEN WITH THE SEED: THE CARDS: each row of YthdfmanocemfmaaDoorRows.lean that lists a variable, with what it lists TIED to the program's text (the seventh form; the later family's looks); each row that meets fmt, with fmt's text TOLD by the authors' own Lean function (tested against real Go, not proved from fmt's source: count such statements apart). THE CARD IS WHAT COUNTS. Prove the row's statement (the work); the ties are given (YthdfmanocemfmaaDoorTie.lean); close each card by the builder's one call (the guide's Derived/Test/ToyasCard.lean, 'card_holds'). Laid BY PROGRAM, IN A SANDBOX (cutbox-door.mjs). By AI agents, Wed Nov 11 2026. No macro, syntax, notation, axiom, sorry.
-/
import Derived.Test.YthdfmanocemfmaaDoorRows
import GoSem.ClaimSeven
namespace Go.Proofs.YthdfmanocemfmaaDoor
namespace Rows

/-- THE TIED CARD OF 'deckhandlaw06.WellNames'. -/
def wellNamesCard : Claim7 := { stood := { row := wellNamesRow, standIns := [], harness := (true, "0d83cb8813025139c63d45488c5b0d3c2f96fa6f7cda2809a251c2df93f01a3b"), looks := false }, kinds := [], alts := [], laidByText := true, laidKinds := [.data, .data, .data], laidTests := true, laidLooks := .later }
def WellNamesCardSaid : Prop := Claim7.holds Tryd.pinned (.plain (OpenSpec.ofChange wellNamesSpec)) wellNamesCard

/-- THE TIED CARD OF 'deckhandlaw06.WellLists'. -/
def wellListsCard : Claim7 := { stood := { row := wellListsRow, standIns := [], harness := (true, "0d83cb8813025139c63d45488c5b0d3c2f96fa6f7cda2809a251c2df93f01a3b"), looks := false }, kinds := [], alts := [], laidByText := true, laidKinds := [.data, .data, .data], laidTests := true, laidLooks := .later }
def WellListsCardSaid : Prop := Claim7.holds Tryd.pinned (.plain (OpenSpec.ofChange wellListsSpec)) wellListsCard

/-- THE TIED CARD OF 'deckhandlaw06.WellTexts'. -/
def wellTextsCard : Claim7 := { stood := { row := wellTextsRow, standIns := [], harness := (true, "0d83cb8813025139c63d45488c5b0d3c2f96fa6f7cda2809a251c2df93f01a3b"), looks := false }, kinds := [], alts := [], laidByText := true, laidKinds := [.data, .data, .data], laidTests := true, laidLooks := .later }
def WellTextsCardSaid : Prop := Claim7.holds Tryd.pinned (.plain (OpenSpec.ofChange wellTextsSpec)) wellTextsCard

/-- THE SECOND FORM's CARD OF 'deckhandlaw06.WellNames'. -/
def wellNamesUptoCard : Claim7 := { stood := { row := wellNamesUptoRow, standIns := [], harness := (true, "0d83cb8813025139c63d45488c5b0d3c2f96fa6f7cda2809a251c2df93f01a3b"), looks := false }, kinds := [], alts := [], laidByText := true, laidKinds := [.data, .data, .data], laidTests := true, laidLooks := .later }
def WellNamesUptoCardSaid : Prop := Claim7.holds Tryd.pinned (.plain (OpenSpec.upto wellNamesSpec)) wellNamesUptoCard

/-- THE SECOND FORM's CARD OF 'deckhandlaw06.WellLists'. -/
def wellListsUptoCard : Claim7 := { stood := { row := wellListsUptoRow, standIns := [], harness := (true, "0d83cb8813025139c63d45488c5b0d3c2f96fa6f7cda2809a251c2df93f01a3b"), looks := false }, kinds := [], alts := [], laidByText := true, laidKinds := [.data, .data, .data], laidTests := true, laidLooks := .later }
def WellListsUptoCardSaid : Prop := Claim7.holds Tryd.pinned (.plain (OpenSpec.upto wellListsSpec)) wellListsUptoCard

/-- THE SECOND FORM's CARD OF 'deckhandlaw06.WellTexts'. -/
def wellTextsUptoCard : Claim7 := { stood := { row := wellTextsUptoRow, standIns := [], harness := (true, "0d83cb8813025139c63d45488c5b0d3c2f96fa6f7cda2809a251c2df93f01a3b"), looks := false }, kinds := [], alts := [], laidByText := true, laidKinds := [.data, .data, .data], laidTests := true, laidLooks := .later }
def WellTextsUptoCardSaid : Prop := Claim7.holds Tryd.pinned (.plain (OpenSpec.upto wellTextsSpec)) wellTextsUptoCard
end Rows
end Go.Proofs.YthdfmanocemfmaaDoor
