/-
  DERIVED. GIVEN WITH THE SEED: THE CARDS: each row of YtfckciblnojniaaDoorRows.lean that lists a variable, with what it lists TIED to the program's text (the seventh form; the later family's looks); each row that meets fmt, with fmt's text TOLD by the authors' own Lean function (tested against real Go, not proved from fmt's source: count such statements apart). THE CARD IS WHAT COUNTS. Prove the row's statement (the work); the ties are given (YtfckciblnojniaaDoorTie.lean); close each card by the builder's one call (the guide's Derived/Test/ToyasCard.lean, 'card_holds'). Laid BY PROGRAM, IN A SANDBOX (cutbox-door.mjs). By AI agents, Wed Nov 11 2026. No macro, syntax, notation, axiom, sorry.
-/
import Derived.Test.YtfckciblnojniaaDoorRows
import GoSem.ClaimSeven
namespace Go.Proofs.YtfckciblnojniaaDoor
namespace Rows

/-- THE TIED CARD OF 'deckhandlaw08.DeckChecks'. -/
def deckChecksCard : Claim7 := { stood := { row := deckChecksRow, standIns := [], harness := (true, "f64158c806da3347b1e2e081f4e8c28522afc9934fd7ff3a1da1bda2ae439687"), looks := false }, kinds := [], alts := [], laidByText := true, laidKinds := [.data, .data, .data], laidTests := true, laidLooks := .later }
def DeckChecksCardSaid : Prop := Claim7.holds Tryd.pinned (.plain (OpenSpec.ofChange deckChecksSpec)) deckChecksCard

/-- THE TIED CARD OF 'deckhandlaw08.DeckParts'. -/
def deckPartsCard : Claim7 := { stood := { row := deckPartsRow, standIns := [], harness := (true, "f64158c806da3347b1e2e081f4e8c28522afc9934fd7ff3a1da1bda2ae439687"), looks := false }, kinds := [], alts := [], laidByText := true, laidKinds := [.data, .data, .data], laidTests := true, laidLooks := .later }
def DeckPartsCardSaid : Prop := Claim7.holds Tryd.pinned (.plain (OpenSpec.ofChange deckPartsSpec)) deckPartsCard

/-- THE TIED CARD OF 'deckhandlaw08.DeckNames'. -/
def deckNamesCard : Claim7 := { stood := { row := deckNamesRow, standIns := [], harness := (true, "f64158c806da3347b1e2e081f4e8c28522afc9934fd7ff3a1da1bda2ae439687"), looks := false }, kinds := [], alts := [], laidByText := true, laidKinds := [.data, .data, .data], laidTests := true, laidLooks := .later }
def DeckNamesCardSaid : Prop := Claim7.holds Tryd.pinned (.plain (OpenSpec.ofChange deckNamesSpec)) deckNamesCard

/-- THE SECOND FORM's CARD OF 'deckhandlaw08.DeckChecks'. -/
def deckChecksUptoCard : Claim7 := { stood := { row := deckChecksUptoRow, standIns := [], harness := (true, "f64158c806da3347b1e2e081f4e8c28522afc9934fd7ff3a1da1bda2ae439687"), looks := false }, kinds := [], alts := [], laidByText := true, laidKinds := [.data, .data, .data], laidTests := true, laidLooks := .later }
def DeckChecksUptoCardSaid : Prop := Claim7.holds Tryd.pinned (.plain (OpenSpec.upto deckChecksSpec)) deckChecksUptoCard

/-- THE SECOND FORM's CARD OF 'deckhandlaw08.DeckParts'. -/
def deckPartsUptoCard : Claim7 := { stood := { row := deckPartsUptoRow, standIns := [], harness := (true, "f64158c806da3347b1e2e081f4e8c28522afc9934fd7ff3a1da1bda2ae439687"), looks := false }, kinds := [], alts := [], laidByText := true, laidKinds := [.data, .data, .data], laidTests := true, laidLooks := .later }
def DeckPartsUptoCardSaid : Prop := Claim7.holds Tryd.pinned (.plain (OpenSpec.upto deckPartsSpec)) deckPartsUptoCard

/-- THE SECOND FORM's CARD OF 'deckhandlaw08.DeckNames'. -/
def deckNamesUptoCard : Claim7 := { stood := { row := deckNamesUptoRow, standIns := [], harness := (true, "f64158c806da3347b1e2e081f4e8c28522afc9934fd7ff3a1da1bda2ae439687"), looks := false }, kinds := [], alts := [], laidByText := true, laidKinds := [.data, .data, .data], laidTests := true, laidLooks := .later }
def DeckNamesUptoCardSaid : Prop := Claim7.holds Tryd.pinned (.plain (OpenSpec.upto deckNamesSpec)) deckNamesUptoCard
end Rows
end Go.Proofs.YtfckciblnojniaaDoor
