/-
  DERIVED. GIVEN WITH THE SEED: THE CARDS: each row of YthgkklahiclcpaaDoorRows.lean that lists a variable, with what it lists TIED to the program's text (the seventh form; the later family's looks); each row that meets fmt, with fmt's text TOLD by the authors' own Lean function (tested against real Go, not proved from fmt's source: count such statements apart). THE CARD IS WHAT COUNTS. Prove the row's statement (the work); the ties are given (YthgkklahiclcpaaDoorTie.lean); close each card by the builder's one call (the guide's Derived/Test/ToyasCard.lean, 'card_holds'). Laid BY PROGRAM, IN A SANDBOX (cutbox-door.mjs). By AI agents, Wed Nov 11 2026. No macro, syntax, notation, axiom, sorry.
-/
import Derived.Test.YthgkklahiclcpaaDoorRows
import GoSem.ClaimSeven
namespace Go.Proofs.YthgkklahiclcpaaDoor
namespace Rows

/-- THE TIED CARD OF 'censuslaw18.GraphOrders'. -/
def graphOrdersCard : Claim7 := { stood := { row := graphOrdersRow, standIns := [], harness := (true, "d46f618e2c7b14dbd1525919ff6903fc06e6d1755dfdc441ba1d274847c91d2a"), looks := false }, kinds := [], alts := [], laidByText := true, laidKinds := [.data], laidTests := true, laidLooks := .later }
def GraphOrdersCardSaid : Prop := Claim7.holds Tryd.pinned (.plain (OpenSpec.ofChange graphOrdersSpec)) graphOrdersCard

/-- THE TIED CARD OF 'censuslaw18.GraphWidths'. -/
def graphWidthsCard : Claim7 := { stood := { row := graphWidthsRow, standIns := [], harness := (true, "d46f618e2c7b14dbd1525919ff6903fc06e6d1755dfdc441ba1d274847c91d2a"), looks := false }, kinds := [], alts := [], laidByText := true, laidKinds := [.data], laidTests := true, laidLooks := .later }
def GraphWidthsCardSaid : Prop := Claim7.holds Tryd.pinned (.plain (OpenSpec.ofChange graphWidthsSpec)) graphWidthsCard

/-- THE TIED CARD OF 'censuslaw18.GraphWide'. -/
def graphWideCard : Claim7 := { stood := { row := graphWideRow, standIns := [], harness := (true, "d46f618e2c7b14dbd1525919ff6903fc06e6d1755dfdc441ba1d274847c91d2a"), looks := false }, kinds := [], alts := [], laidByText := true, laidKinds := [.data], laidTests := true, laidLooks := .later }
def GraphWideCardSaid : Prop := Claim7.holds Tryd.pinned (.plain (OpenSpec.ofChange graphWideSpec)) graphWideCard

/-- THE TIED CARD OF 'censuslaw18.GraphFewer'. -/
def graphFewerCard : Claim7 := { stood := { row := graphFewerRow, standIns := [], harness := (true, "d46f618e2c7b14dbd1525919ff6903fc06e6d1755dfdc441ba1d274847c91d2a"), looks := false }, kinds := [], alts := [], laidByText := true, laidKinds := [.data], laidTests := true, laidLooks := .later }
def GraphFewerCardSaid : Prop := Claim7.holds Tryd.pinned (.plain (OpenSpec.ofChange graphFewerSpec)) graphFewerCard

/-- THE TIED CARD OF 'censuslaw18.GraphChordal'. -/
def graphChordalCard : Claim7 := { stood := { row := graphChordalRow, standIns := [], harness := (true, "d46f618e2c7b14dbd1525919ff6903fc06e6d1755dfdc441ba1d274847c91d2a"), looks := false }, kinds := [], alts := [], laidByText := true, laidKinds := [.data], laidTests := true, laidLooks := .later }
def GraphChordalCardSaid : Prop := Claim7.holds Tryd.pinned (.plain (OpenSpec.ofChange graphChordalSpec)) graphChordalCard

/-- THE TIED CARD OF 'censuslaw18.GraphForests'. -/
def graphForestsCard : Claim7 := { stood := { row := graphForestsRow, standIns := [], harness := (true, "d46f618e2c7b14dbd1525919ff6903fc06e6d1755dfdc441ba1d274847c91d2a"), looks := false }, kinds := [], alts := [], laidByText := true, laidKinds := [.data], laidTests := true, laidLooks := .later }
def GraphForestsCardSaid : Prop := Claim7.holds Tryd.pinned (.plain (OpenSpec.ofChange graphForestsSpec)) graphForestsCard

/-- THE TIED CARD OF 'censuslaw18.GraphOwn'. -/
def graphOwnCard : Claim7 := { stood := { row := graphOwnRow, standIns := [], harness := (true, "d46f618e2c7b14dbd1525919ff6903fc06e6d1755dfdc441ba1d274847c91d2a"), looks := false }, kinds := [], alts := [], laidByText := true, laidKinds := [.data], laidTests := true, laidLooks := .later }
def GraphOwnCardSaid : Prop := Claim7.holds Tryd.pinned (.plain (OpenSpec.ofChange graphOwnSpec)) graphOwnCard

/-- THE TIED CARD OF 'censuslaw18.GraphEdges'. -/
def graphEdgesCard : Claim7 := { stood := { row := graphEdgesRow, standIns := [], harness := (true, "d46f618e2c7b14dbd1525919ff6903fc06e6d1755dfdc441ba1d274847c91d2a"), looks := false }, kinds := [], alts := [], laidByText := true, laidKinds := [.data], laidTests := true, laidLooks := .later }
def GraphEdgesCardSaid : Prop := Claim7.holds Tryd.pinned (.plain (OpenSpec.ofChange graphEdgesSpec)) graphEdgesCard

/-- THE TIED CARD OF 'censuslaw18.GraphGraphs'. -/
def graphGraphsCard : Claim7 := { stood := { row := graphGraphsRow, standIns := [], harness := (true, "d46f618e2c7b14dbd1525919ff6903fc06e6d1755dfdc441ba1d274847c91d2a"), looks := false }, kinds := [], alts := [], laidByText := true, laidKinds := [.data], laidTests := true, laidLooks := .later }
def GraphGraphsCardSaid : Prop := Claim7.holds Tryd.pinned (.plain (OpenSpec.ofChange graphGraphsSpec)) graphGraphsCard

/-- THE TIED CARD OF 'censuslaw18.GraphKnown'. -/
def graphKnownCard : Claim7 := { stood := { row := graphKnownRow, standIns := [], harness := (true, "d46f618e2c7b14dbd1525919ff6903fc06e6d1755dfdc441ba1d274847c91d2a"), looks := false }, kinds := [], alts := [], laidByText := true, laidKinds := [.data], laidTests := true, laidLooks := .later }
def GraphKnownCardSaid : Prop := Claim7.holds Tryd.pinned (.plain (OpenSpec.ofChange graphKnownSpec)) graphKnownCard

/-- THE SECOND FORM's CARD OF 'censuslaw18.GraphOrders'. -/
def graphOrdersUptoCard : Claim7 := { stood := { row := graphOrdersUptoRow, standIns := [], harness := (true, "d46f618e2c7b14dbd1525919ff6903fc06e6d1755dfdc441ba1d274847c91d2a"), looks := false }, kinds := [], alts := [], laidByText := true, laidKinds := [.data], laidTests := true, laidLooks := .later }
def GraphOrdersUptoCardSaid : Prop := Claim7.holds Tryd.pinned (.plain (OpenSpec.upto graphOrdersSpec)) graphOrdersUptoCard

/-- THE SECOND FORM's CARD OF 'censuslaw18.GraphWidths'. -/
def graphWidthsUptoCard : Claim7 := { stood := { row := graphWidthsUptoRow, standIns := [], harness := (true, "d46f618e2c7b14dbd1525919ff6903fc06e6d1755dfdc441ba1d274847c91d2a"), looks := false }, kinds := [], alts := [], laidByText := true, laidKinds := [.data], laidTests := true, laidLooks := .later }
def GraphWidthsUptoCardSaid : Prop := Claim7.holds Tryd.pinned (.plain (OpenSpec.upto graphWidthsSpec)) graphWidthsUptoCard

/-- THE SECOND FORM's CARD OF 'censuslaw18.GraphWide'. -/
def graphWideUptoCard : Claim7 := { stood := { row := graphWideUptoRow, standIns := [], harness := (true, "d46f618e2c7b14dbd1525919ff6903fc06e6d1755dfdc441ba1d274847c91d2a"), looks := false }, kinds := [], alts := [], laidByText := true, laidKinds := [.data], laidTests := true, laidLooks := .later }
def GraphWideUptoCardSaid : Prop := Claim7.holds Tryd.pinned (.plain (OpenSpec.upto graphWideSpec)) graphWideUptoCard

/-- THE SECOND FORM's CARD OF 'censuslaw18.GraphFewer'. -/
def graphFewerUptoCard : Claim7 := { stood := { row := graphFewerUptoRow, standIns := [], harness := (true, "d46f618e2c7b14dbd1525919ff6903fc06e6d1755dfdc441ba1d274847c91d2a"), looks := false }, kinds := [], alts := [], laidByText := true, laidKinds := [.data], laidTests := true, laidLooks := .later }
def GraphFewerUptoCardSaid : Prop := Claim7.holds Tryd.pinned (.plain (OpenSpec.upto graphFewerSpec)) graphFewerUptoCard

/-- THE SECOND FORM's CARD OF 'censuslaw18.GraphChordal'. -/
def graphChordalUptoCard : Claim7 := { stood := { row := graphChordalUptoRow, standIns := [], harness := (true, "d46f618e2c7b14dbd1525919ff6903fc06e6d1755dfdc441ba1d274847c91d2a"), looks := false }, kinds := [], alts := [], laidByText := true, laidKinds := [.data], laidTests := true, laidLooks := .later }
def GraphChordalUptoCardSaid : Prop := Claim7.holds Tryd.pinned (.plain (OpenSpec.upto graphChordalSpec)) graphChordalUptoCard

/-- THE SECOND FORM's CARD OF 'censuslaw18.GraphForests'. -/
def graphForestsUptoCard : Claim7 := { stood := { row := graphForestsUptoRow, standIns := [], harness := (true, "d46f618e2c7b14dbd1525919ff6903fc06e6d1755dfdc441ba1d274847c91d2a"), looks := false }, kinds := [], alts := [], laidByText := true, laidKinds := [.data], laidTests := true, laidLooks := .later }
def GraphForestsUptoCardSaid : Prop := Claim7.holds Tryd.pinned (.plain (OpenSpec.upto graphForestsSpec)) graphForestsUptoCard

/-- THE SECOND FORM's CARD OF 'censuslaw18.GraphOwn'. -/
def graphOwnUptoCard : Claim7 := { stood := { row := graphOwnUptoRow, standIns := [], harness := (true, "d46f618e2c7b14dbd1525919ff6903fc06e6d1755dfdc441ba1d274847c91d2a"), looks := false }, kinds := [], alts := [], laidByText := true, laidKinds := [.data], laidTests := true, laidLooks := .later }
def GraphOwnUptoCardSaid : Prop := Claim7.holds Tryd.pinned (.plain (OpenSpec.upto graphOwnSpec)) graphOwnUptoCard

/-- THE SECOND FORM's CARD OF 'censuslaw18.GraphEdges'. -/
def graphEdgesUptoCard : Claim7 := { stood := { row := graphEdgesUptoRow, standIns := [], harness := (true, "d46f618e2c7b14dbd1525919ff6903fc06e6d1755dfdc441ba1d274847c91d2a"), looks := false }, kinds := [], alts := [], laidByText := true, laidKinds := [.data], laidTests := true, laidLooks := .later }
def GraphEdgesUptoCardSaid : Prop := Claim7.holds Tryd.pinned (.plain (OpenSpec.upto graphEdgesSpec)) graphEdgesUptoCard

/-- THE SECOND FORM's CARD OF 'censuslaw18.GraphGraphs'. -/
def graphGraphsUptoCard : Claim7 := { stood := { row := graphGraphsUptoRow, standIns := [], harness := (true, "d46f618e2c7b14dbd1525919ff6903fc06e6d1755dfdc441ba1d274847c91d2a"), looks := false }, kinds := [], alts := [], laidByText := true, laidKinds := [.data], laidTests := true, laidLooks := .later }
def GraphGraphsUptoCardSaid : Prop := Claim7.holds Tryd.pinned (.plain (OpenSpec.upto graphGraphsSpec)) graphGraphsUptoCard

/-- THE SECOND FORM's CARD OF 'censuslaw18.GraphKnown'. -/
def graphKnownUptoCard : Claim7 := { stood := { row := graphKnownUptoRow, standIns := [], harness := (true, "d46f618e2c7b14dbd1525919ff6903fc06e6d1755dfdc441ba1d274847c91d2a"), looks := false }, kinds := [], alts := [], laidByText := true, laidKinds := [.data], laidTests := true, laidLooks := .later }
def GraphKnownUptoCardSaid : Prop := Claim7.holds Tryd.pinned (.plain (OpenSpec.upto graphKnownSpec)) graphKnownUptoCard
end Rows
end Go.Proofs.YthgkklahiclcpaaDoor
