/-
  DERIVED. GIVEN WITH THE SEED: THE CARDS: each row of YtpdbfbjfodckgaaDoorRows.lean that lists a variable, with what it lists TIED to the program's text (the seventh form; the later family's looks); each row that meets fmt, with fmt's text TOLD by the authors' own Lean function (tested against real Go, not proved from fmt's source: count such statements apart). THE CARD IS WHAT COUNTS. Prove the row's statement (the work); the ties are given (YtpdbfbjfodckgaaDoorTie.lean); close each card by the builder's one call (the guide's Derived/Test/ToyasCard.lean, 'card_holds'). Laid BY PROGRAM, IN A SANDBOX (cutbox-door.mjs). By AI agents, Wed Nov 11 2026. No macro, syntax, notation, axiom, sorry.
-/
import Derived.Test.YtpdbfbjfodckgaaDoorRows
import GoSem.ClaimSeven
namespace Go.Proofs.YtpdbfbjfodckgaaDoor
namespace Rows

/-- THE TIED CARD OF 'censuslaw21.ShapeOnce'. -/
def shapeOnceCard : Claim7 := { stood := { row := shapeOnceRow, standIns := [], harness := (true, "c40e70eb4bfe1bb459dfbf6c14cd70978f701aae24211a731a2ea1ea5b970a64"), looks := false }, kinds := [], alts := [], laidByText := true, laidKinds := [.data, .data], laidTests := true, laidLooks := .later }
def ShapeOnceCardSaid : Prop := Claim7.holds Tryd.pinned (.plain (OpenSpec.ofChange shapeOnceSpec)) shapeOnceCard

/-- THE TIED CARD OF 'censuslaw21.ShapeProperties'. -/
def shapePropertiesCard : Claim7 := { stood := { row := shapePropertiesRow, standIns := [], harness := (true, "c40e70eb4bfe1bb459dfbf6c14cd70978f701aae24211a731a2ea1ea5b970a64"), looks := false }, kinds := [], alts := [], laidByText := true, laidKinds := [.data, .data], laidTests := true, laidLooks := .later }
def ShapePropertiesCardSaid : Prop := Claim7.holds Tryd.pinned (.plain (OpenSpec.ofChange shapePropertiesSpec)) shapePropertiesCard

/-- THE TIED CARD OF 'censuslaw21.ShapeDeterministic'. -/
def shapeDeterministicCard : Claim7 := { stood := { row := shapeDeterministicRow, standIns := [], harness := (true, "c40e70eb4bfe1bb459dfbf6c14cd70978f701aae24211a731a2ea1ea5b970a64"), looks := false }, kinds := [], alts := [], laidByText := true, laidKinds := [.data, .data], laidTests := true, laidLooks := .later }
def ShapeDeterministicCardSaid : Prop := Claim7.holds Tryd.pinned (.plain (OpenSpec.ofChange shapeDeterministicSpec)) shapeDeterministicCard

/-- THE TIED CARD OF 'censuslaw21.ShapeSmoothed'. -/
def shapeSmoothedCard : Claim7 := { stood := { row := shapeSmoothedRow, standIns := [], harness := (true, "c40e70eb4bfe1bb459dfbf6c14cd70978f701aae24211a731a2ea1ea5b970a64"), looks := false }, kinds := [], alts := [], laidByText := true, laidKinds := [.data, .data], laidTests := true, laidLooks := .later }
def ShapeSmoothedCardSaid : Prop := Claim7.holds Tryd.pinned (.plain (OpenSpec.ofChange shapeSmoothedSpec)) shapeSmoothedCard

/-- THE TIED CARD OF 'censuslaw21.ShapeDecides'. -/
def shapeDecidesCard : Claim7 := { stood := { row := shapeDecidesRow, standIns := [], harness := (true, "c40e70eb4bfe1bb459dfbf6c14cd70978f701aae24211a731a2ea1ea5b970a64"), looks := false }, kinds := [], alts := [], laidByText := true, laidKinds := [.data, .data], laidTests := true, laidLooks := .later }
def ShapeDecidesCardSaid : Prop := Claim7.holds Tryd.pinned (.plain (OpenSpec.ofChange shapeDecidesSpec)) shapeDecidesCard

/-- THE TIED CARD OF 'censuslaw21.ShapeChoice'. -/
def shapeChoiceCard : Claim7 := { stood := { row := shapeChoiceRow, standIns := [], harness := (true, "c40e70eb4bfe1bb459dfbf6c14cd70978f701aae24211a731a2ea1ea5b970a64"), looks := false }, kinds := [], alts := [], laidByText := true, laidKinds := [.data, .data], laidTests := true, laidLooks := .later }
def ShapeChoiceCardSaid : Prop := Claim7.holds Tryd.pinned (.plain (OpenSpec.ofChange shapeChoiceSpec)) shapeChoiceCard

/-- THE TIED CARD OF 'censuslaw21.ShapeKnown'. -/
def shapeKnownCard : Claim7 := { stood := { row := shapeKnownRow, standIns := [], harness := (true, "c40e70eb4bfe1bb459dfbf6c14cd70978f701aae24211a731a2ea1ea5b970a64"), looks := false }, kinds := [], alts := [], laidByText := true, laidKinds := [.data, .data], laidTests := true, laidLooks := .later }
def ShapeKnownCardSaid : Prop := Claim7.holds Tryd.pinned (.plain (OpenSpec.ofChange shapeKnownSpec)) shapeKnownCard

/-- THE TIED CARD OF 'censuslaw21.ShapeSame'. -/
def shapeSameCard : Claim7 := { stood := { row := shapeSameRow, standIns := [], harness := (true, "c40e70eb4bfe1bb459dfbf6c14cd70978f701aae24211a731a2ea1ea5b970a64"), looks := false }, kinds := [], alts := [], laidByText := true, laidKinds := [.data, .data], laidTests := true, laidLooks := .later }
def ShapeSameCardSaid : Prop := Claim7.holds Tryd.pinned (.plain (OpenSpec.ofChange shapeSameSpec)) shapeSameCard

/-- THE TIED CARD OF 'censuslaw21.ShapeCounts'. -/
def shapeCountsCard : Claim7 := { stood := { row := shapeCountsRow, standIns := [], harness := (true, "c40e70eb4bfe1bb459dfbf6c14cd70978f701aae24211a731a2ea1ea5b970a64"), looks := false }, kinds := [], alts := [], laidByText := true, laidKinds := [.data, .data], laidTests := true, laidLooks := .later }
def ShapeCountsCardSaid : Prop := Claim7.holds Tryd.pinned (.plain (OpenSpec.ofChange shapeCountsSpec)) shapeCountsCard

/-- THE SECOND FORM's CARD OF 'censuslaw21.ShapeOnce'. -/
def shapeOnceUptoCard : Claim7 := { stood := { row := shapeOnceUptoRow, standIns := [], harness := (true, "c40e70eb4bfe1bb459dfbf6c14cd70978f701aae24211a731a2ea1ea5b970a64"), looks := false }, kinds := [], alts := [], laidByText := true, laidKinds := [.data, .data], laidTests := true, laidLooks := .later }
def ShapeOnceUptoCardSaid : Prop := Claim7.holds Tryd.pinned (.plain (OpenSpec.upto shapeOnceSpec)) shapeOnceUptoCard

/-- THE SECOND FORM's CARD OF 'censuslaw21.ShapeProperties'. -/
def shapePropertiesUptoCard : Claim7 := { stood := { row := shapePropertiesUptoRow, standIns := [], harness := (true, "c40e70eb4bfe1bb459dfbf6c14cd70978f701aae24211a731a2ea1ea5b970a64"), looks := false }, kinds := [], alts := [], laidByText := true, laidKinds := [.data, .data], laidTests := true, laidLooks := .later }
def ShapePropertiesUptoCardSaid : Prop := Claim7.holds Tryd.pinned (.plain (OpenSpec.upto shapePropertiesSpec)) shapePropertiesUptoCard

/-- THE SECOND FORM's CARD OF 'censuslaw21.ShapeDeterministic'. -/
def shapeDeterministicUptoCard : Claim7 := { stood := { row := shapeDeterministicUptoRow, standIns := [], harness := (true, "c40e70eb4bfe1bb459dfbf6c14cd70978f701aae24211a731a2ea1ea5b970a64"), looks := false }, kinds := [], alts := [], laidByText := true, laidKinds := [.data, .data], laidTests := true, laidLooks := .later }
def ShapeDeterministicUptoCardSaid : Prop := Claim7.holds Tryd.pinned (.plain (OpenSpec.upto shapeDeterministicSpec)) shapeDeterministicUptoCard

/-- THE SECOND FORM's CARD OF 'censuslaw21.ShapeSmoothed'. -/
def shapeSmoothedUptoCard : Claim7 := { stood := { row := shapeSmoothedUptoRow, standIns := [], harness := (true, "c40e70eb4bfe1bb459dfbf6c14cd70978f701aae24211a731a2ea1ea5b970a64"), looks := false }, kinds := [], alts := [], laidByText := true, laidKinds := [.data, .data], laidTests := true, laidLooks := .later }
def ShapeSmoothedUptoCardSaid : Prop := Claim7.holds Tryd.pinned (.plain (OpenSpec.upto shapeSmoothedSpec)) shapeSmoothedUptoCard

/-- THE SECOND FORM's CARD OF 'censuslaw21.ShapeDecides'. -/
def shapeDecidesUptoCard : Claim7 := { stood := { row := shapeDecidesUptoRow, standIns := [], harness := (true, "c40e70eb4bfe1bb459dfbf6c14cd70978f701aae24211a731a2ea1ea5b970a64"), looks := false }, kinds := [], alts := [], laidByText := true, laidKinds := [.data, .data], laidTests := true, laidLooks := .later }
def ShapeDecidesUptoCardSaid : Prop := Claim7.holds Tryd.pinned (.plain (OpenSpec.upto shapeDecidesSpec)) shapeDecidesUptoCard

/-- THE SECOND FORM's CARD OF 'censuslaw21.ShapeChoice'. -/
def shapeChoiceUptoCard : Claim7 := { stood := { row := shapeChoiceUptoRow, standIns := [], harness := (true, "c40e70eb4bfe1bb459dfbf6c14cd70978f701aae24211a731a2ea1ea5b970a64"), looks := false }, kinds := [], alts := [], laidByText := true, laidKinds := [.data, .data], laidTests := true, laidLooks := .later }
def ShapeChoiceUptoCardSaid : Prop := Claim7.holds Tryd.pinned (.plain (OpenSpec.upto shapeChoiceSpec)) shapeChoiceUptoCard

/-- THE SECOND FORM's CARD OF 'censuslaw21.ShapeKnown'. -/
def shapeKnownUptoCard : Claim7 := { stood := { row := shapeKnownUptoRow, standIns := [], harness := (true, "c40e70eb4bfe1bb459dfbf6c14cd70978f701aae24211a731a2ea1ea5b970a64"), looks := false }, kinds := [], alts := [], laidByText := true, laidKinds := [.data, .data], laidTests := true, laidLooks := .later }
def ShapeKnownUptoCardSaid : Prop := Claim7.holds Tryd.pinned (.plain (OpenSpec.upto shapeKnownSpec)) shapeKnownUptoCard

/-- THE SECOND FORM's CARD OF 'censuslaw21.ShapeSame'. -/
def shapeSameUptoCard : Claim7 := { stood := { row := shapeSameUptoRow, standIns := [], harness := (true, "c40e70eb4bfe1bb459dfbf6c14cd70978f701aae24211a731a2ea1ea5b970a64"), looks := false }, kinds := [], alts := [], laidByText := true, laidKinds := [.data, .data], laidTests := true, laidLooks := .later }
def ShapeSameUptoCardSaid : Prop := Claim7.holds Tryd.pinned (.plain (OpenSpec.upto shapeSameSpec)) shapeSameUptoCard

/-- THE SECOND FORM's CARD OF 'censuslaw21.ShapeCounts'. -/
def shapeCountsUptoCard : Claim7 := { stood := { row := shapeCountsUptoRow, standIns := [], harness := (true, "c40e70eb4bfe1bb459dfbf6c14cd70978f701aae24211a731a2ea1ea5b970a64"), looks := false }, kinds := [], alts := [], laidByText := true, laidKinds := [.data, .data], laidTests := true, laidLooks := .later }
def ShapeCountsUptoCardSaid : Prop := Claim7.holds Tryd.pinned (.plain (OpenSpec.upto shapeCountsSpec)) shapeCountsUptoCard
end Rows
end Go.Proofs.YtpdbfbjfodckgaaDoor
