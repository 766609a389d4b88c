/-
  DERIVED. GIVEN WITH THE SEED: THE CARDS: each row of YtbgakceljbigjaaDoorRows.lean that lists a variable, with what it lists TIED to the program's text (the seventh form; the later family's looks); each row that meets fmt, with fmt's text TOLD by the authors' own Lean function (tested against real Go, not proved from fmt's source: count such statements apart). THE CARD IS WHAT COUNTS. Prove the row's statement (the work); the ties are given (YtbgakceljbigjaaDoorTie.lean); close each card by the builder's one call (the guide's Derived/Test/ToyasCard.lean, 'card_holds'). Laid BY PROGRAM, IN A SANDBOX (cutbox-door.mjs). By AI agents, Wed Nov 11 2026. No macro, syntax, notation, axiom, sorry.
-/
import Derived.Test.YtbgakceljbigjaaDoorRows
import GoSem.ClaimSeven
namespace Go.Proofs.YtbgakceljbigjaaDoor
namespace Rows

/-- THE TIED CARD OF 'deckhandlaw03.NumShares'. -/
def numSharesCard : Claim7 := { stood := { row := numSharesRow, standIns := [], harness := (true, "f744898ef49af1c94dc192b956f88beeb3f8869c5617af6d521abcb17b305216"), looks := false }, kinds := [], alts := [], laidByText := true, laidKinds := [.data, .data, .data], laidTests := true, laidLooks := .later }
def NumSharesCardSaid : Prop := Claim7.holds Tryd.pinned (.plain (OpenSpec.ofChange numSharesSpec)) numSharesCard

/-- THE TIED CARD OF 'deckhandlaw03.NumTexts'. -/
def numTextsCard : Claim7 := { stood := { row := numTextsRow, standIns := [], harness := (true, "f744898ef49af1c94dc192b956f88beeb3f8869c5617af6d521abcb17b305216"), looks := false }, kinds := [], alts := [], laidByText := true, laidKinds := [.data, .data, .data], laidTests := true, laidLooks := .later }
def NumTextsCardSaid : Prop := Claim7.holds Tryd.pinned (.plain (OpenSpec.ofChange numTextsSpec)) numTextsCard

/-- THE TIED CARD OF 'deckhandlaw03.NumSums'. -/
def numSumsCard : Claim7 := { stood := { row := numSumsRow, standIns := [], harness := (true, "f744898ef49af1c94dc192b956f88beeb3f8869c5617af6d521abcb17b305216"), looks := false }, kinds := [], alts := [], laidByText := true, laidKinds := [.data, .data, .data], laidTests := true, laidLooks := .later }
def NumSumsCardSaid : Prop := Claim7.holds Tryd.pinned (.plain (OpenSpec.ofChange numSumsSpec)) numSumsCard

/-- THE TIED CARD OF 'deckhandlaw03.NumRanges'. -/
def numRangesCard : Claim7 := { stood := { row := numRangesRow, standIns := [], harness := (true, "f744898ef49af1c94dc192b956f88beeb3f8869c5617af6d521abcb17b305216"), looks := false }, kinds := [], alts := [], laidByText := true, laidKinds := [.data, .data, .data], laidTests := true, laidLooks := .later }
def NumRangesCardSaid : Prop := Claim7.holds Tryd.pinned (.plain (OpenSpec.ofChange numRangesSpec)) numRangesCard

/-- THE TIED CARD OF 'deckhandlaw03.NumTwo'. -/
def numTwoCard : Claim7 := { stood := { row := numTwoRow, standIns := [], harness := (true, "f744898ef49af1c94dc192b956f88beeb3f8869c5617af6d521abcb17b305216"), looks := false }, kinds := [], alts := [], laidByText := true, laidKinds := [.data, .data, .data], laidTests := true, laidLooks := .later }
def NumTwoCardSaid : Prop := Claim7.holds Tryd.pinned (.plain (OpenSpec.ofChange numTwoSpec)) numTwoCard

/-- THE SECOND FORM's CARD OF 'deckhandlaw03.NumShares'. -/
def numSharesUptoCard : Claim7 := { stood := { row := numSharesUptoRow, standIns := [], harness := (true, "f744898ef49af1c94dc192b956f88beeb3f8869c5617af6d521abcb17b305216"), looks := false }, kinds := [], alts := [], laidByText := true, laidKinds := [.data, .data, .data], laidTests := true, laidLooks := .later }
def NumSharesUptoCardSaid : Prop := Claim7.holds Tryd.pinned (.plain (OpenSpec.upto numSharesSpec)) numSharesUptoCard

/-- THE SECOND FORM's CARD OF 'deckhandlaw03.NumTexts'. -/
def numTextsUptoCard : Claim7 := { stood := { row := numTextsUptoRow, standIns := [], harness := (true, "f744898ef49af1c94dc192b956f88beeb3f8869c5617af6d521abcb17b305216"), looks := false }, kinds := [], alts := [], laidByText := true, laidKinds := [.data, .data, .data], laidTests := true, laidLooks := .later }
def NumTextsUptoCardSaid : Prop := Claim7.holds Tryd.pinned (.plain (OpenSpec.upto numTextsSpec)) numTextsUptoCard

/-- THE SECOND FORM's CARD OF 'deckhandlaw03.NumSums'. -/
def numSumsUptoCard : Claim7 := { stood := { row := numSumsUptoRow, standIns := [], harness := (true, "f744898ef49af1c94dc192b956f88beeb3f8869c5617af6d521abcb17b305216"), looks := false }, kinds := [], alts := [], laidByText := true, laidKinds := [.data, .data, .data], laidTests := true, laidLooks := .later }
def NumSumsUptoCardSaid : Prop := Claim7.holds Tryd.pinned (.plain (OpenSpec.upto numSumsSpec)) numSumsUptoCard

/-- THE SECOND FORM's CARD OF 'deckhandlaw03.NumRanges'. -/
def numRangesUptoCard : Claim7 := { stood := { row := numRangesUptoRow, standIns := [], harness := (true, "f744898ef49af1c94dc192b956f88beeb3f8869c5617af6d521abcb17b305216"), looks := false }, kinds := [], alts := [], laidByText := true, laidKinds := [.data, .data, .data], laidTests := true, laidLooks := .later }
def NumRangesUptoCardSaid : Prop := Claim7.holds Tryd.pinned (.plain (OpenSpec.upto numRangesSpec)) numRangesUptoCard

/-- THE SECOND FORM's CARD OF 'deckhandlaw03.NumTwo'. -/
def numTwoUptoCard : Claim7 := { stood := { row := numTwoUptoRow, standIns := [], harness := (true, "f744898ef49af1c94dc192b956f88beeb3f8869c5617af6d521abcb17b305216"), looks := false }, kinds := [], alts := [], laidByText := true, laidKinds := [.data, .data, .data], laidTests := true, laidLooks := .later }
def NumTwoUptoCardSaid : Prop := Claim7.holds Tryd.pinned (.plain (OpenSpec.upto numTwoSpec)) numTwoUptoCard
end Rows
end Go.Proofs.YtbgakceljbigjaaDoor
