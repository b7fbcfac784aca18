/-
  DERIVED. GIVEN WITH THE SEED: THE CARDS: each row of YtmlecpapoeodkaaDoorRows.lean that lists a variable, with what it lists TIED to the program's text (the seventh form; the later family's looks); each row that meets fmt, with fmt's text TOLD by the authors' own Lean function (tested against real Go, not proved from fmt's source: count such statements apart). THE CARD IS WHAT COUNTS. Prove the row's statement (the work); the ties are given (YtmlecpapoeodkaaDoorTie.lean); close each card by the builder's one call (the guide's Derived/Test/ToyasCard.lean, 'card_holds'). Laid BY PROGRAM, IN A SANDBOX (cutbox-door.mjs). By AI agents, Wed Nov 11 2026. No macro, syntax, notation, axiom, sorry.
-/
import Derived.Test.YtmlecpapoeodkaaDoorRows
import GoSem.ClaimSeven
namespace Go.Proofs.YtmlecpapoeodkaaDoor
namespace Rows

/-- THE TIED CARD OF 'censuslaw19.WidthKnown'. -/
def widthKnownCard : Claim7 := { stood := { row := widthKnownRow, standIns := [], harness := (true, "451d6536c24fdff8baa608654ca0d649b4d5312ccb2c9bb6f88acd3b92156763"), looks := false }, kinds := [], alts := [], laidByText := true, laidKinds := [.data], laidTests := true, laidLooks := .later }
def WidthKnownCardSaid : Prop := Claim7.holds Tryd.pinned (.plain (OpenSpec.ofChange widthKnownSpec)) widthKnownCard

/-- THE TIED CARD OF 'censuslaw19.WidthMakes'. -/
def widthMakesCard : Claim7 := { stood := { row := widthMakesRow, standIns := [], harness := (true, "451d6536c24fdff8baa608654ca0d649b4d5312ccb2c9bb6f88acd3b92156763"), looks := false }, kinds := [], alts := [], laidByText := true, laidKinds := [.data], laidTests := true, laidLooks := .later }
def WidthMakesCardSaid : Prop := Claim7.holds Tryd.pinned (.plain (OpenSpec.ofChange widthMakesSpec)) widthMakesCard

/-- THE TIED CARD OF 'censuslaw19.WidthChecks'. -/
def widthChecksCard : Claim7 := { stood := { row := widthChecksRow, standIns := [], harness := (true, "451d6536c24fdff8baa608654ca0d649b4d5312ccb2c9bb6f88acd3b92156763"), looks := false }, kinds := [], alts := [], laidByText := true, laidKinds := [.data], laidTests := true, laidLooks := .later }
def WidthChecksCardSaid : Prop := Claim7.holds Tryd.pinned (.plain (OpenSpec.ofChange widthChecksSpec)) widthChecksCard

/-- THE TIED CARD OF 'censuslaw19.WidthCliques'. -/
def widthCliquesCard : Claim7 := { stood := { row := widthCliquesRow, standIns := [], harness := (true, "451d6536c24fdff8baa608654ca0d649b4d5312ccb2c9bb6f88acd3b92156763"), looks := false }, kinds := [], alts := [], laidByText := true, laidKinds := [.data], laidTests := true, laidLooks := .later }
def WidthCliquesCardSaid : Prop := Claim7.holds Tryd.pinned (.plain (OpenSpec.ofChange widthCliquesSpec)) widthCliquesCard

/-- THE TIED CARD OF 'censuslaw19.WidthNumbers'. -/
def widthNumbersCard : Claim7 := { stood := { row := widthNumbersRow, standIns := [], harness := (true, "451d6536c24fdff8baa608654ca0d649b4d5312ccb2c9bb6f88acd3b92156763"), looks := false }, kinds := [], alts := [], laidByText := true, laidKinds := [.data], laidTests := true, laidLooks := .later }
def WidthNumbersCardSaid : Prop := Claim7.holds Tryd.pinned (.plain (OpenSpec.ofChange widthNumbersSpec)) widthNumbersCard

/-- THE TIED CARD OF 'censuslaw19.WidthBounds'. -/
def widthBoundsCard : Claim7 := { stood := { row := widthBoundsRow, standIns := [], harness := (true, "451d6536c24fdff8baa608654ca0d649b4d5312ccb2c9bb6f88acd3b92156763"), looks := false }, kinds := [], alts := [], laidByText := true, laidKinds := [.data], laidTests := true, laidLooks := .later }
def WidthBoundsCardSaid : Prop := Claim7.holds Tryd.pinned (.plain (OpenSpec.ofChange widthBoundsSpec)) widthBoundsCard

/-- THE TIED CARD OF 'censuslaw19.WidthLess'. -/
def widthLessCard : Claim7 := { stood := { row := widthLessRow, standIns := [], harness := (true, "451d6536c24fdff8baa608654ca0d649b4d5312ccb2c9bb6f88acd3b92156763"), looks := false }, kinds := [], alts := [], laidByText := true, laidKinds := [.data], laidTests := true, laidLooks := .later }
def WidthLessCardSaid : Prop := Claim7.holds Tryd.pinned (.plain (OpenSpec.ofChange widthLessSpec)) widthLessCard

/-- THE TIED CARD OF 'censuslaw19.WidthOrders'. -/
def widthOrdersCard : Claim7 := { stood := { row := widthOrdersRow, standIns := [], harness := (true, "451d6536c24fdff8baa608654ca0d649b4d5312ccb2c9bb6f88acd3b92156763"), looks := false }, kinds := [], alts := [], laidByText := true, laidKinds := [.data], laidTests := true, laidLooks := .later }
def WidthOrdersCardSaid : Prop := Claim7.holds Tryd.pinned (.plain (OpenSpec.ofChange widthOrdersSpec)) widthOrdersCard

/-- THE TIED CARD OF 'censuslaw19.WidthMerges'. -/
def widthMergesCard : Claim7 := { stood := { row := widthMergesRow, standIns := [], harness := (true, "451d6536c24fdff8baa608654ca0d649b4d5312ccb2c9bb6f88acd3b92156763"), looks := false }, kinds := [], alts := [], laidByText := true, laidKinds := [.data], laidTests := true, laidLooks := .later }
def WidthMergesCardSaid : Prop := Claim7.holds Tryd.pinned (.plain (OpenSpec.ofChange widthMergesSpec)) widthMergesCard

/-- THE TIED CARD OF 'censuslaw19.WidthSmaller'. -/
def widthSmallerCard : Claim7 := { stood := { row := widthSmallerRow, standIns := [], harness := (true, "451d6536c24fdff8baa608654ca0d649b4d5312ccb2c9bb6f88acd3b92156763"), looks := false }, kinds := [], alts := [], laidByText := true, laidKinds := [.data], laidTests := true, laidLooks := .later }
def WidthSmallerCardSaid : Prop := Claim7.holds Tryd.pinned (.plain (OpenSpec.ofChange widthSmallerSpec)) widthSmallerCard

/-- THE SECOND FORM's CARD OF 'censuslaw19.WidthKnown'. -/
def widthKnownUptoCard : Claim7 := { stood := { row := widthKnownUptoRow, standIns := [], harness := (true, "451d6536c24fdff8baa608654ca0d649b4d5312ccb2c9bb6f88acd3b92156763"), looks := false }, kinds := [], alts := [], laidByText := true, laidKinds := [.data], laidTests := true, laidLooks := .later }
def WidthKnownUptoCardSaid : Prop := Claim7.holds Tryd.pinned (.plain (OpenSpec.upto widthKnownSpec)) widthKnownUptoCard

/-- THE SECOND FORM's CARD OF 'censuslaw19.WidthMakes'. -/
def widthMakesUptoCard : Claim7 := { stood := { row := widthMakesUptoRow, standIns := [], harness := (true, "451d6536c24fdff8baa608654ca0d649b4d5312ccb2c9bb6f88acd3b92156763"), looks := false }, kinds := [], alts := [], laidByText := true, laidKinds := [.data], laidTests := true, laidLooks := .later }
def WidthMakesUptoCardSaid : Prop := Claim7.holds Tryd.pinned (.plain (OpenSpec.upto widthMakesSpec)) widthMakesUptoCard

/-- THE SECOND FORM's CARD OF 'censuslaw19.WidthChecks'. -/
def widthChecksUptoCard : Claim7 := { stood := { row := widthChecksUptoRow, standIns := [], harness := (true, "451d6536c24fdff8baa608654ca0d649b4d5312ccb2c9bb6f88acd3b92156763"), looks := false }, kinds := [], alts := [], laidByText := true, laidKinds := [.data], laidTests := true, laidLooks := .later }
def WidthChecksUptoCardSaid : Prop := Claim7.holds Tryd.pinned (.plain (OpenSpec.upto widthChecksSpec)) widthChecksUptoCard

/-- THE SECOND FORM's CARD OF 'censuslaw19.WidthCliques'. -/
def widthCliquesUptoCard : Claim7 := { stood := { row := widthCliquesUptoRow, standIns := [], harness := (true, "451d6536c24fdff8baa608654ca0d649b4d5312ccb2c9bb6f88acd3b92156763"), looks := false }, kinds := [], alts := [], laidByText := true, laidKinds := [.data], laidTests := true, laidLooks := .later }
def WidthCliquesUptoCardSaid : Prop := Claim7.holds Tryd.pinned (.plain (OpenSpec.upto widthCliquesSpec)) widthCliquesUptoCard

/-- THE SECOND FORM's CARD OF 'censuslaw19.WidthNumbers'. -/
def widthNumbersUptoCard : Claim7 := { stood := { row := widthNumbersUptoRow, standIns := [], harness := (true, "451d6536c24fdff8baa608654ca0d649b4d5312ccb2c9bb6f88acd3b92156763"), looks := false }, kinds := [], alts := [], laidByText := true, laidKinds := [.data], laidTests := true, laidLooks := .later }
def WidthNumbersUptoCardSaid : Prop := Claim7.holds Tryd.pinned (.plain (OpenSpec.upto widthNumbersSpec)) widthNumbersUptoCard

/-- THE SECOND FORM's CARD OF 'censuslaw19.WidthBounds'. -/
def widthBoundsUptoCard : Claim7 := { stood := { row := widthBoundsUptoRow, standIns := [], harness := (true, "451d6536c24fdff8baa608654ca0d649b4d5312ccb2c9bb6f88acd3b92156763"), looks := false }, kinds := [], alts := [], laidByText := true, laidKinds := [.data], laidTests := true, laidLooks := .later }
def WidthBoundsUptoCardSaid : Prop := Claim7.holds Tryd.pinned (.plain (OpenSpec.upto widthBoundsSpec)) widthBoundsUptoCard

/-- THE SECOND FORM's CARD OF 'censuslaw19.WidthLess'. -/
def widthLessUptoCard : Claim7 := { stood := { row := widthLessUptoRow, standIns := [], harness := (true, "451d6536c24fdff8baa608654ca0d649b4d5312ccb2c9bb6f88acd3b92156763"), looks := false }, kinds := [], alts := [], laidByText := true, laidKinds := [.data], laidTests := true, laidLooks := .later }
def WidthLessUptoCardSaid : Prop := Claim7.holds Tryd.pinned (.plain (OpenSpec.upto widthLessSpec)) widthLessUptoCard

/-- THE SECOND FORM's CARD OF 'censuslaw19.WidthOrders'. -/
def widthOrdersUptoCard : Claim7 := { stood := { row := widthOrdersUptoRow, standIns := [], harness := (true, "451d6536c24fdff8baa608654ca0d649b4d5312ccb2c9bb6f88acd3b92156763"), looks := false }, kinds := [], alts := [], laidByText := true, laidKinds := [.data], laidTests := true, laidLooks := .later }
def WidthOrdersUptoCardSaid : Prop := Claim7.holds Tryd.pinned (.plain (OpenSpec.upto widthOrdersSpec)) widthOrdersUptoCard

/-- THE SECOND FORM's CARD OF 'censuslaw19.WidthMerges'. -/
def widthMergesUptoCard : Claim7 := { stood := { row := widthMergesUptoRow, standIns := [], harness := (true, "451d6536c24fdff8baa608654ca0d649b4d5312ccb2c9bb6f88acd3b92156763"), looks := false }, kinds := [], alts := [], laidByText := true, laidKinds := [.data], laidTests := true, laidLooks := .later }
def WidthMergesUptoCardSaid : Prop := Claim7.holds Tryd.pinned (.plain (OpenSpec.upto widthMergesSpec)) widthMergesUptoCard

/-- THE SECOND FORM's CARD OF 'censuslaw19.WidthSmaller'. -/
def widthSmallerUptoCard : Claim7 := { stood := { row := widthSmallerUptoRow, standIns := [], harness := (true, "451d6536c24fdff8baa608654ca0d649b4d5312ccb2c9bb6f88acd3b92156763"), looks := false }, kinds := [], alts := [], laidByText := true, laidKinds := [.data], laidTests := true, laidLooks := .later }
def WidthSmallerUptoCardSaid : Prop := Claim7.holds Tryd.pinned (.plain (OpenSpec.upto widthSmallerSpec)) widthSmallerUptoCard
end Rows
end Go.Proofs.YtmlecpapoeodkaaDoor
