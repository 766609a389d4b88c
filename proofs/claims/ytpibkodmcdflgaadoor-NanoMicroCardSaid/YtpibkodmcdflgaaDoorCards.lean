/-
  DERIVED. GIVEN WITH THE SEED: THE CARDS: each row of YtpibkodmcdflgaaDoorRows.lean that lists a variable, with what it lists TIED to the program's text (the seventh form; the later family's looks); each row that meets fmt, with fmt's text TOLD by the authors' own Lean function (tested against real Go, not proved from fmt's source: count such statements apart). THE CARD IS WHAT COUNTS. Prove the row's statement (the work); the ties are given (YtpibkodmcdflgaaDoorTie.lean); close each card by the builder's one call (the guide's Derived/Test/ToyasCard.lean, 'card_holds'). Laid BY PROGRAM, IN A SANDBOX (cutbox-door.mjs). By AI agents, Wed Nov 11 2026. No macro, syntax, notation, axiom, sorry.
-/
import Derived.Test.YtpibkodmcdflgaaDoorRows
import GoSem.ClaimSeven
namespace Go.Proofs.YtpibkodmcdflgaaDoor
namespace Rows

/-- THE TIED CARD OF 'deckhandlaw02.NanoOf'. -/
def nanoOfCard : Claim7 := { stood := { row := nanoOfRow, standIns := [], harness := (true, "a48b31dddc0ec16d7f8dcf94905c940c986fa7bf24b0b5a9f4d43afdba18d041"), looks := false }, kinds := [], alts := [], laidByText := true, laidKinds := [.data], laidTests := true, laidLooks := .later }
def NanoOfCardSaid : Prop := Claim7.holds Tryd.pinned (.plain (OpenSpec.ofChange nanoOfSpec)) nanoOfCard

/-- THE TIED CARD OF 'deckhandlaw02.NanoMicro'. -/
def nanoMicroCard : Claim7 := { stood := { row := nanoMicroRow, standIns := [], harness := (true, "a48b31dddc0ec16d7f8dcf94905c940c986fa7bf24b0b5a9f4d43afdba18d041"), looks := false }, kinds := [], alts := [], laidByText := true, laidKinds := [.data], laidTests := true, laidLooks := .later }
def NanoMicroCardSaid : Prop := Claim7.holds Tryd.pinned (.plain (OpenSpec.ofChange nanoMicroSpec)) nanoMicroCard

/-- THE TIED CARD OF 'deckhandlaw02.NanoOrders'. -/
def nanoOrdersCard : Claim7 := { stood := { row := nanoOrdersRow, standIns := [], harness := (true, "a48b31dddc0ec16d7f8dcf94905c940c986fa7bf24b0b5a9f4d43afdba18d041"), looks := false }, kinds := [], alts := [], laidByText := true, laidKinds := [.data], laidTests := true, laidLooks := .later }
def NanoOrdersCardSaid : Prop := Claim7.holds Tryd.pinned (.plain (OpenSpec.ofChange nanoOrdersSpec)) nanoOrdersCard

/-- THE TIED CARD OF 'deckhandlaw02.NanoSums'. -/
def nanoSumsCard : Claim7 := { stood := { row := nanoSumsRow, standIns := [], harness := (true, "a48b31dddc0ec16d7f8dcf94905c940c986fa7bf24b0b5a9f4d43afdba18d041"), looks := false }, kinds := [], alts := [], laidByText := true, laidKinds := [.data], laidTests := true, laidLooks := .later }
def NanoSumsCardSaid : Prop := Claim7.holds Tryd.pinned (.plain (OpenSpec.ofChange nanoSumsSpec)) nanoSumsCard

/-- THE SECOND FORM's CARD OF 'deckhandlaw02.NanoOf'. -/
def nanoOfUptoCard : Claim7 := { stood := { row := nanoOfUptoRow, standIns := [], harness := (true, "a48b31dddc0ec16d7f8dcf94905c940c986fa7bf24b0b5a9f4d43afdba18d041"), looks := false }, kinds := [], alts := [], laidByText := true, laidKinds := [.data], laidTests := true, laidLooks := .later }
def NanoOfUptoCardSaid : Prop := Claim7.holds Tryd.pinned (.plain (OpenSpec.upto nanoOfSpec)) nanoOfUptoCard

/-- THE SECOND FORM's CARD OF 'deckhandlaw02.NanoMicro'. -/
def nanoMicroUptoCard : Claim7 := { stood := { row := nanoMicroUptoRow, standIns := [], harness := (true, "a48b31dddc0ec16d7f8dcf94905c940c986fa7bf24b0b5a9f4d43afdba18d041"), looks := false }, kinds := [], alts := [], laidByText := true, laidKinds := [.data], laidTests := true, laidLooks := .later }
def NanoMicroUptoCardSaid : Prop := Claim7.holds Tryd.pinned (.plain (OpenSpec.upto nanoMicroSpec)) nanoMicroUptoCard

/-- THE SECOND FORM's CARD OF 'deckhandlaw02.NanoOrders'. -/
def nanoOrdersUptoCard : Claim7 := { stood := { row := nanoOrdersUptoRow, standIns := [], harness := (true, "a48b31dddc0ec16d7f8dcf94905c940c986fa7bf24b0b5a9f4d43afdba18d041"), looks := false }, kinds := [], alts := [], laidByText := true, laidKinds := [.data], laidTests := true, laidLooks := .later }
def NanoOrdersUptoCardSaid : Prop := Claim7.holds Tryd.pinned (.plain (OpenSpec.upto nanoOrdersSpec)) nanoOrdersUptoCard

/-- THE SECOND FORM's CARD OF 'deckhandlaw02.NanoSums'. -/
def nanoSumsUptoCard : Claim7 := { stood := { row := nanoSumsUptoRow, standIns := [], harness := (true, "a48b31dddc0ec16d7f8dcf94905c940c986fa7bf24b0b5a9f4d43afdba18d041"), looks := false }, kinds := [], alts := [], laidByText := true, laidKinds := [.data], laidTests := true, laidLooks := .later }
def NanoSumsUptoCardSaid : Prop := Claim7.holds Tryd.pinned (.plain (OpenSpec.upto nanoSumsSpec)) nanoSumsUptoCard
end Rows
end Go.Proofs.YtpibkodmcdflgaaDoor
