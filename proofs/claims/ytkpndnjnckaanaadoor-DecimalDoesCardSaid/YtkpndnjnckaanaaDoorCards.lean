/-
  DERIVED. GIVEN WITH THE SEED: THE CARDS: each row of YtkpndnjnckaanaaDoorRows.lean that lists a variable, with what it lists TIED to the program's text (the seventh form; the later family's looks); each row that meets fmt, with fmt's text TOLD by the authors' own Lean function (tested against real Go, not proved from fmt's source: count such statements apart). THE CARD IS WHAT COUNTS. Prove the row's statement (the work); the ties are given (YtkpndnjnckaanaaDoorTie.lean); close each card by the builder's one call (the guide's Derived/Test/ToyasCard.lean, 'card_holds'). Laid BY PROGRAM, IN A SANDBOX (cutbox-door.mjs). By AI agents, Wed Nov 11 2026. No macro, syntax, notation, axiom, sorry.
-/
import Derived.Test.YtkpndnjnckaanaaDoorRows
import GoSem.ClaimSeven
namespace Go.Proofs.YtkpndnjnckaanaaDoor
namespace Rows

/-- THE TIED CARD OF 'tripwirelaw02.DecimalDoes'. -/
def decimalDoesCard : Claim7 := { stood := { row := decimalDoesRow, standIns := [], harness := (true, "be9788a248817275b12242ecf677fe9158ba888cabef179b2fedf8ad9b855ab9"), looks := false }, kinds := [], alts := [], laidByText := true, laidKinds := [.data, .data, .data, .data, .pinned], laidTests := true, laidLooks := .later }
def DecimalDoesCardSaid : Prop := Claim7.holds Tryd.pinned (.plain (OpenSpec.ofChange decimalDoesSpec)) decimalDoesCard

/-- THE TIED CARD OF 'tripwirelaw02.DecimalBack'. -/
def decimalBackCard : Claim7 := { stood := { row := decimalBackRow, standIns := [], harness := (true, "be9788a248817275b12242ecf677fe9158ba888cabef179b2fedf8ad9b855ab9"), looks := false }, kinds := [], alts := [], laidByText := true, laidKinds := [.data, .data, .data, .data, .pinned], laidTests := true, laidLooks := .later }
def DecimalBackCardSaid : Prop := Claim7.holds Tryd.pinned (.plain (OpenSpec.ofChange decimalBackSpec)) decimalBackCard

/-- THE TIED CARD OF 'tripwirelaw02.DecimalPlace'. -/
def decimalPlaceCard : Claim7 := { stood := { row := decimalPlaceRow, standIns := [], harness := (true, "be9788a248817275b12242ecf677fe9158ba888cabef179b2fedf8ad9b855ab9"), looks := false }, kinds := [], alts := [], laidByText := true, laidKinds := [.data, .data, .data, .data, .pinned], laidTests := true, laidLooks := .later }
def DecimalPlaceCardSaid : Prop := Claim7.holds Tryd.pinned (.plain (OpenSpec.ofChange decimalPlaceSpec)) decimalPlaceCard

/-- THE TIED CARD OF 'tripwirelaw02.DecimalPlaces'. -/
def decimalPlacesCard : Claim7 := { stood := { row := decimalPlacesRow, standIns := [], harness := (true, "be9788a248817275b12242ecf677fe9158ba888cabef179b2fedf8ad9b855ab9"), looks := false }, kinds := [], alts := [], laidByText := true, laidKinds := [.data, .data, .data, .data, .pinned], laidTests := true, laidLooks := .later }
def DecimalPlacesCardSaid : Prop := Claim7.holds Tryd.pinned (.plain (OpenSpec.ofChange decimalPlacesSpec)) decimalPlacesCard

/-- THE SECOND FORM's CARD OF 'tripwirelaw02.DecimalDoes'. -/
def decimalDoesUptoCard : Claim7 := { stood := { row := decimalDoesUptoRow, standIns := [], harness := (true, "be9788a248817275b12242ecf677fe9158ba888cabef179b2fedf8ad9b855ab9"), looks := false }, kinds := [], alts := [], laidByText := true, laidKinds := [.data, .data, .data, .data, .pinned], laidTests := true, laidLooks := .later }
def DecimalDoesUptoCardSaid : Prop := Claim7.holds Tryd.pinned (.plain (OpenSpec.upto decimalDoesSpec)) decimalDoesUptoCard

/-- THE SECOND FORM's CARD OF 'tripwirelaw02.DecimalBack'. -/
def decimalBackUptoCard : Claim7 := { stood := { row := decimalBackUptoRow, standIns := [], harness := (true, "be9788a248817275b12242ecf677fe9158ba888cabef179b2fedf8ad9b855ab9"), looks := false }, kinds := [], alts := [], laidByText := true, laidKinds := [.data, .data, .data, .data, .pinned], laidTests := true, laidLooks := .later }
def DecimalBackUptoCardSaid : Prop := Claim7.holds Tryd.pinned (.plain (OpenSpec.upto decimalBackSpec)) decimalBackUptoCard

/-- THE SECOND FORM's CARD OF 'tripwirelaw02.DecimalPlace'. -/
def decimalPlaceUptoCard : Claim7 := { stood := { row := decimalPlaceUptoRow, standIns := [], harness := (true, "be9788a248817275b12242ecf677fe9158ba888cabef179b2fedf8ad9b855ab9"), looks := false }, kinds := [], alts := [], laidByText := true, laidKinds := [.data, .data, .data, .data, .pinned], laidTests := true, laidLooks := .later }
def DecimalPlaceUptoCardSaid : Prop := Claim7.holds Tryd.pinned (.plain (OpenSpec.upto decimalPlaceSpec)) decimalPlaceUptoCard

/-- THE SECOND FORM's CARD OF 'tripwirelaw02.DecimalPlaces'. -/
def decimalPlacesUptoCard : Claim7 := { stood := { row := decimalPlacesUptoRow, standIns := [], harness := (true, "be9788a248817275b12242ecf677fe9158ba888cabef179b2fedf8ad9b855ab9"), looks := false }, kinds := [], alts := [], laidByText := true, laidKinds := [.data, .data, .data, .data, .pinned], laidTests := true, laidLooks := .later }
def DecimalPlacesUptoCardSaid : Prop := Claim7.holds Tryd.pinned (.plain (OpenSpec.upto decimalPlacesSpec)) decimalPlacesUptoCard
end Rows
end Go.Proofs.YtkpndnjnckaanaaDoor
