/-
  DERIVED. GIVEN WITH THE SEED: THE CARDS: each row of YtddifbgdjdahfaaDoorRows.lean that lists a variable, with what it lists TIED to the program's text (the seventh form; the later family's looks); each row that meets fmt, with fmt's text TOLD by the authors' own Lean function (tested against real Go, not proved from fmt's source: count such statements apart). THE CARD IS WHAT COUNTS. Prove the row's statement (the work); the ties are given (YtddifbgdjdahfaaDoorTie.lean); close each card by the builder's one call (the guide's Derived/Test/ToyasCard.lean, 'card_holds'). Laid BY PROGRAM, IN A SANDBOX (cutbox-door.mjs). By AI agents, Wed Nov 11 2026. No macro, syntax, notation, axiom, sorry.
-/
import Derived.Test.YtddifbgdjdahfaaDoorRows
import GoSem.ClaimSeven
namespace Go.Proofs.YtddifbgdjdahfaaDoor
namespace Rows

/-- THE TIED CARD OF 'deckhandlaw01.RealParts'. -/
def realPartsCard : Claim7 := { stood := { row := realPartsRow, standIns := [], harness := (true, "f95adc76f38a790e3f657d70488bddf96d70a8ef6cbc94f78963b6fc7be88861"), looks := false }, kinds := [], alts := [], laidByText := true, laidKinds := [.data], laidTests := true, laidLooks := .later }
def RealPartsCardSaid : Prop := Claim7.holds Tryd.pinned (.plain (OpenSpec.ofChange realPartsSpec)) realPartsCard

/-- THE TIED CARD OF 'deckhandlaw01.RealMakes'. -/
def realMakesCard : Claim7 := { stood := { row := realMakesRow, standIns := [], harness := (true, "f95adc76f38a790e3f657d70488bddf96d70a8ef6cbc94f78963b6fc7be88861"), looks := false }, kinds := [], alts := [], laidByText := true, laidKinds := [.data], laidTests := true, laidLooks := .later }
def RealMakesCardSaid : Prop := Claim7.holds Tryd.pinned (.plain (OpenSpec.ofChange realMakesSpec)) realMakesCard

/-- THE TIED CARD OF 'deckhandlaw01.RealOrders'. -/
def realOrdersCard : Claim7 := { stood := { row := realOrdersRow, standIns := [], harness := (true, "f95adc76f38a790e3f657d70488bddf96d70a8ef6cbc94f78963b6fc7be88861"), looks := false }, kinds := [], alts := [], laidByText := true, laidKinds := [.data], laidTests := true, laidLooks := .later }
def RealOrdersCardSaid : Prop := Claim7.holds Tryd.pinned (.plain (OpenSpec.ofChange realOrdersSpec)) realOrdersCard

/-- THE TIED CARD OF 'deckhandlaw01.RealSorts'. -/
def realSortsCard : Claim7 := { stood := { row := realSortsRow, standIns := [], harness := (true, "f95adc76f38a790e3f657d70488bddf96d70a8ef6cbc94f78963b6fc7be88861"), looks := false }, kinds := [], alts := [], laidByText := true, laidKinds := [.data], laidTests := true, laidLooks := .later }
def RealSortsCardSaid : Prop := Claim7.holds Tryd.pinned (.plain (OpenSpec.ofChange realSortsSpec)) realSortsCard

/-- THE SECOND FORM's CARD OF 'deckhandlaw01.RealParts'. -/
def realPartsUptoCard : Claim7 := { stood := { row := realPartsUptoRow, standIns := [], harness := (true, "f95adc76f38a790e3f657d70488bddf96d70a8ef6cbc94f78963b6fc7be88861"), looks := false }, kinds := [], alts := [], laidByText := true, laidKinds := [.data], laidTests := true, laidLooks := .later }
def RealPartsUptoCardSaid : Prop := Claim7.holds Tryd.pinned (.plain (OpenSpec.upto realPartsSpec)) realPartsUptoCard

/-- THE SECOND FORM's CARD OF 'deckhandlaw01.RealMakes'. -/
def realMakesUptoCard : Claim7 := { stood := { row := realMakesUptoRow, standIns := [], harness := (true, "f95adc76f38a790e3f657d70488bddf96d70a8ef6cbc94f78963b6fc7be88861"), looks := false }, kinds := [], alts := [], laidByText := true, laidKinds := [.data], laidTests := true, laidLooks := .later }
def RealMakesUptoCardSaid : Prop := Claim7.holds Tryd.pinned (.plain (OpenSpec.upto realMakesSpec)) realMakesUptoCard

/-- THE SECOND FORM's CARD OF 'deckhandlaw01.RealOrders'. -/
def realOrdersUptoCard : Claim7 := { stood := { row := realOrdersUptoRow, standIns := [], harness := (true, "f95adc76f38a790e3f657d70488bddf96d70a8ef6cbc94f78963b6fc7be88861"), looks := false }, kinds := [], alts := [], laidByText := true, laidKinds := [.data], laidTests := true, laidLooks := .later }
def RealOrdersUptoCardSaid : Prop := Claim7.holds Tryd.pinned (.plain (OpenSpec.upto realOrdersSpec)) realOrdersUptoCard

/-- THE SECOND FORM's CARD OF 'deckhandlaw01.RealSorts'. -/
def realSortsUptoCard : Claim7 := { stood := { row := realSortsUptoRow, standIns := [], harness := (true, "f95adc76f38a790e3f657d70488bddf96d70a8ef6cbc94f78963b6fc7be88861"), looks := false }, kinds := [], alts := [], laidByText := true, laidKinds := [.data], laidTests := true, laidLooks := .later }
def RealSortsUptoCardSaid : Prop := Claim7.holds Tryd.pinned (.plain (OpenSpec.upto realSortsSpec)) realSortsUptoCard
end Rows
end Go.Proofs.YtddifbgdjdahfaaDoor
