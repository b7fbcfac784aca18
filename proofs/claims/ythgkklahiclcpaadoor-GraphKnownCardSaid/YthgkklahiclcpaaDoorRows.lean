/-
  NARROWER THAN 'FOR EVERY INPUT', by the rows' own cells (each row's printed sentence says how): GraphOrders: laid · GraphWidths: laid · GraphWide: laid · GraphFewer: laid · GraphChordal: laid · GraphForests: laid · GraphOwn: laid · GraphEdges: laid · GraphGraphs: laid · GraphKnown: laid.
  DERIVED. THE GIVEN ROWS OF THIS SEAT. 10 by the template 'for every input the law returns true; each argument reads behind the call as it read before'; 0 by the template 'total and deterministic' (their statements: YthgkklahiclcpaaDoorTotals.lean).
  GIVEN WITH THE SEED: the statements are not yours to turn. If you find one false, say at which input.
  Laid BY PROGRAM, IN A SANDBOX (cutbox-rows.mjs): the forced cells as the released guide's own fill.sh prints them over the translation 1584933f8fb8d03e… (all of the seat's roots in one cut). By AI agents, Wed Nov 11 2026. No macro, syntax, notation, axiom, sorry.
-/
import Derived.Test.YthgkklahiclcpaaDoorChecked
import GoSem.Claim
import GoSem.ClaimJoined
import GoSem.ClaimMapViews
import Derived.JoinedTies
import Derived.KernelRfl
namespace Go.Proofs.YthgkklahiclcpaaDoor
/- THE CELL 'sum', in the pinned program and in every row, IS THE sha256 OF THE DUMP (.gsa) THAT YthgkklahiclcpaaDoorProg.lean LOADS. Nothing in Lean hashes anything: it is a label: what it is worth is what the hold of that sum in a sandbox is worth. -/
noncomputable def Tryd.pinned : Pinned := { name := "ythgkklahiclcpaadoor", sum := "1584933f8fb8d03e9812bd3df08d2f0a71519c03e2686558c02d337dd825ab2a", checked := Tryd.checked }
namespace Rows
def none {H : Type} : Left H := { results := [], args := [] }

/- WHAT THE LISTED PACKAGE-LEVEL VARIABLES READ AS WHEN THE CALL BEGINS. Each datum BY PROGRAM (the guide's laid-datum.mjs) off the statement by which the dump's own 'gosem.cut.vars' lays the variable. In a bare row this is a premise. The card (YthgkklahiclcpaaDoorCards.lean) ties it to the program's text. -/
def laid_math_bits_deBruijn64tab {H : Type} : DataW H := .agg [.lit (.int .u8 0), .lit (.int .u8 1), .lit (.int .u8 56), .lit (.int .u8 2), .lit (.int .u8 57), .lit (.int .u8 49), .lit (.int .u8 28), .lit (.int .u8 3), .lit (.int .u8 61), .lit (.int .u8 58), .lit (.int .u8 42), .lit (.int .u8 50), .lit (.int .u8 38), .lit (.int .u8 29), .lit (.int .u8 17), .lit (.int .u8 4), .lit (.int .u8 62), .lit (.int .u8 47), .lit (.int .u8 59), .lit (.int .u8 36), .lit (.int .u8 45), .lit (.int .u8 43), .lit (.int .u8 51), .lit (.int .u8 22), .lit (.int .u8 53), .lit (.int .u8 39), .lit (.int .u8 33), .lit (.int .u8 30), .lit (.int .u8 24), .lit (.int .u8 18), .lit (.int .u8 12), .lit (.int .u8 5), .lit (.int .u8 63), .lit (.int .u8 55), .lit (.int .u8 48), .lit (.int .u8 27), .lit (.int .u8 60), .lit (.int .u8 41), .lit (.int .u8 37), .lit (.int .u8 16), .lit (.int .u8 46), .lit (.int .u8 35), .lit (.int .u8 44), .lit (.int .u8 21), .lit (.int .u8 52), .lit (.int .u8 32), .lit (.int .u8 23), .lit (.int .u8 11), .lit (.int .u8 54), .lit (.int .u8 26), .lit (.int .u8 40), .lit (.int .u8 15), .lit (.int .u8 34), .lit (.int .u8 20), .lit (.int .u8 31), .lit (.int .u8 10), .lit (.int .u8 25), .lit (.int .u8 14), .lit (.int .u8 19), .lit (.int .u8 9), .lit (.int .u8 13), .lit (.int .u8 8), .lit (.int .u8 7), .lit (.int .u8 6)]

/-- 'censuslaw18.GraphOrders': WHATEVER THE INPUT: true; the input reads as it did. -/
def graphOrdersSpec : ChangeSpec := { name := "graphOrders", fn := fun _ => fun
  | [d] => { results := [.lit (.bool true)], args := [d] }
  | _ => none }
def graphOrdersRow : OpenClaim := { program := "ythgkklahiclcpaadoor", sum := "1584933f8fb8d03e9812bd3df08d2f0a71519c03e2686558c02d337dd825ab2a", func := "census/censuslaw18.GraphOrders", spec := "graphOrders", unfollowed := true, recurses := true, named := ["math/bits.deBruijn64tab"], apart := false, laid := [("math/bits.deBruijn64tab", laid_math_bits_deBruijn64tab)] }
def GraphOrdersSaid : Prop := graphOrdersRow.holds Tryd.pinned (OpenSpec.ofChange graphOrdersSpec)

/-- ITS FALSE NEIGHBOUR: 'it returns false'. Refute it at one input. -/
def graphOrdersWrong : ChangeSpec := { name := "graphOrders", fn := fun _ => fun
  | [d] => { results := [.lit (.bool false)], args := [d] }
  | _ => none }
def GraphOrdersWrongFalsely : Prop := graphOrdersRow.holds Tryd.pinned (OpenSpec.ofChange graphOrdersWrong)

/-- 'censuslaw18.GraphWidths': WHATEVER THE INPUT: true; the input reads as it did. -/
def graphWidthsSpec : ChangeSpec := { name := "graphWidths", fn := fun _ => fun
  | [d1, d2] => { results := [.lit (.bool true)], args := [d1, d2] }
  | _ => none }
def graphWidthsRow : OpenClaim := { program := "ythgkklahiclcpaadoor", sum := "1584933f8fb8d03e9812bd3df08d2f0a71519c03e2686558c02d337dd825ab2a", func := "census/censuslaw18.GraphWidths", spec := "graphWidths", unfollowed := true, recurses := true, named := ["math/bits.deBruijn64tab"], apart := false, laid := [("math/bits.deBruijn64tab", laid_math_bits_deBruijn64tab)] }
def GraphWidthsSaid : Prop := graphWidthsRow.holds Tryd.pinned (OpenSpec.ofChange graphWidthsSpec)

/-- ITS FALSE NEIGHBOUR: 'it returns false'. Refute it at one input. -/
def graphWidthsWrong : ChangeSpec := { name := "graphWidths", fn := fun _ => fun
  | [d1, d2] => { results := [.lit (.bool false)], args := [d1, d2] }
  | _ => none }
def GraphWidthsWrongFalsely : Prop := graphWidthsRow.holds Tryd.pinned (OpenSpec.ofChange graphWidthsWrong)

/-- 'censuslaw18.GraphWide': WHATEVER THE INPUT: true; the input reads as it did. -/
def graphWideSpec : ChangeSpec := { name := "graphWide", fn := fun _ => fun
  | [d1, d2] => { results := [.lit (.bool true)], args := [d1, d2] }
  | _ => none }
def graphWideRow : OpenClaim := { program := "ythgkklahiclcpaadoor", sum := "1584933f8fb8d03e9812bd3df08d2f0a71519c03e2686558c02d337dd825ab2a", func := "census/censuslaw18.GraphWide", spec := "graphWide", unfollowed := true, recurses := true, named := ["math/bits.deBruijn64tab"], apart := false, laid := [("math/bits.deBruijn64tab", laid_math_bits_deBruijn64tab)] }
def GraphWideSaid : Prop := graphWideRow.holds Tryd.pinned (OpenSpec.ofChange graphWideSpec)

/-- ITS FALSE NEIGHBOUR: 'it returns false'. Refute it at one input. -/
def graphWideWrong : ChangeSpec := { name := "graphWide", fn := fun _ => fun
  | [d1, d2] => { results := [.lit (.bool false)], args := [d1, d2] }
  | _ => none }
def GraphWideWrongFalsely : Prop := graphWideRow.holds Tryd.pinned (OpenSpec.ofChange graphWideWrong)

/-- 'censuslaw18.GraphFewer': WHATEVER THE INPUT: true; the input reads as it did. -/
def graphFewerSpec : ChangeSpec := { name := "graphFewer", fn := fun _ => fun
  | [d1, d2, d3, d4, d5] => { results := [.lit (.bool true)], args := [d1, d2, d3, d4, d5] }
  | _ => none }
def graphFewerRow : OpenClaim := { program := "ythgkklahiclcpaadoor", sum := "1584933f8fb8d03e9812bd3df08d2f0a71519c03e2686558c02d337dd825ab2a", func := "census/censuslaw18.GraphFewer", spec := "graphFewer", unfollowed := true, recurses := true, named := ["math/bits.deBruijn64tab"], apart := false, laid := [("math/bits.deBruijn64tab", laid_math_bits_deBruijn64tab)] }
def GraphFewerSaid : Prop := graphFewerRow.holds Tryd.pinned (OpenSpec.ofChange graphFewerSpec)

/-- ITS FALSE NEIGHBOUR: 'it returns false'. Refute it at one input. -/
def graphFewerWrong : ChangeSpec := { name := "graphFewer", fn := fun _ => fun
  | [d1, d2, d3, d4, d5] => { results := [.lit (.bool false)], args := [d1, d2, d3, d4, d5] }
  | _ => none }
def GraphFewerWrongFalsely : Prop := graphFewerRow.holds Tryd.pinned (OpenSpec.ofChange graphFewerWrong)

/-- 'censuslaw18.GraphChordal': WHATEVER THE INPUT: true; the input reads as it did. -/
def graphChordalSpec : ChangeSpec := { name := "graphChordal", fn := fun _ => fun
  | [d1, d2] => { results := [.lit (.bool true)], args := [d1, d2] }
  | _ => none }
def graphChordalRow : OpenClaim := { program := "ythgkklahiclcpaadoor", sum := "1584933f8fb8d03e9812bd3df08d2f0a71519c03e2686558c02d337dd825ab2a", func := "census/censuslaw18.GraphChordal", spec := "graphChordal", unfollowed := true, recurses := true, named := ["math/bits.deBruijn64tab"], apart := false, laid := [("math/bits.deBruijn64tab", laid_math_bits_deBruijn64tab)] }
def GraphChordalSaid : Prop := graphChordalRow.holds Tryd.pinned (OpenSpec.ofChange graphChordalSpec)

/-- ITS FALSE NEIGHBOUR: 'it returns false'. Refute it at one input. -/
def graphChordalWrong : ChangeSpec := { name := "graphChordal", fn := fun _ => fun
  | [d1, d2] => { results := [.lit (.bool false)], args := [d1, d2] }
  | _ => none }
def GraphChordalWrongFalsely : Prop := graphChordalRow.holds Tryd.pinned (OpenSpec.ofChange graphChordalWrong)

/-- 'censuslaw18.GraphForests': WHATEVER THE INPUT: true; the input reads as it did. -/
def graphForestsSpec : ChangeSpec := { name := "graphForests", fn := fun _ => fun
  | [d] => { results := [.lit (.bool true)], args := [d] }
  | _ => none }
def graphForestsRow : OpenClaim := { program := "ythgkklahiclcpaadoor", sum := "1584933f8fb8d03e9812bd3df08d2f0a71519c03e2686558c02d337dd825ab2a", func := "census/censuslaw18.GraphForests", spec := "graphForests", unfollowed := true, recurses := true, named := ["math/bits.deBruijn64tab"], apart := false, laid := [("math/bits.deBruijn64tab", laid_math_bits_deBruijn64tab)] }
def GraphForestsSaid : Prop := graphForestsRow.holds Tryd.pinned (OpenSpec.ofChange graphForestsSpec)

/-- ITS FALSE NEIGHBOUR: 'it returns false'. Refute it at one input. -/
def graphForestsWrong : ChangeSpec := { name := "graphForests", fn := fun _ => fun
  | [d] => { results := [.lit (.bool false)], args := [d] }
  | _ => none }
def GraphForestsWrongFalsely : Prop := graphForestsRow.holds Tryd.pinned (OpenSpec.ofChange graphForestsWrong)

/-- 'censuslaw18.GraphOwn': WHATEVER THE INPUT: true; the input reads as it did. -/
def graphOwnSpec : ChangeSpec := { name := "graphOwn", fn := fun _ => fun
  | [d] => { results := [.lit (.bool true)], args := [d] }
  | _ => none }
def graphOwnRow : OpenClaim := { program := "ythgkklahiclcpaadoor", sum := "1584933f8fb8d03e9812bd3df08d2f0a71519c03e2686558c02d337dd825ab2a", func := "census/censuslaw18.GraphOwn", spec := "graphOwn", unfollowed := true, recurses := true, named := ["math/bits.deBruijn64tab"], apart := false, laid := [("math/bits.deBruijn64tab", laid_math_bits_deBruijn64tab)] }
def GraphOwnSaid : Prop := graphOwnRow.holds Tryd.pinned (OpenSpec.ofChange graphOwnSpec)

/-- ITS FALSE NEIGHBOUR: 'it returns false'. Refute it at one input. -/
def graphOwnWrong : ChangeSpec := { name := "graphOwn", fn := fun _ => fun
  | [d] => { results := [.lit (.bool false)], args := [d] }
  | _ => none }
def GraphOwnWrongFalsely : Prop := graphOwnRow.holds Tryd.pinned (OpenSpec.ofChange graphOwnWrong)

/-- 'censuslaw18.GraphEdges': WHATEVER THE INPUT: true; the input reads as it did. -/
def graphEdgesSpec : ChangeSpec := { name := "graphEdges", fn := fun _ => fun
  | [d] => { results := [.lit (.bool true)], args := [d] }
  | _ => none }
def graphEdgesRow : OpenClaim := { program := "ythgkklahiclcpaadoor", sum := "1584933f8fb8d03e9812bd3df08d2f0a71519c03e2686558c02d337dd825ab2a", func := "census/censuslaw18.GraphEdges", spec := "graphEdges", unfollowed := true, recurses := true, named := ["math/bits.deBruijn64tab"], apart := false, laid := [("math/bits.deBruijn64tab", laid_math_bits_deBruijn64tab)] }
def GraphEdgesSaid : Prop := graphEdgesRow.holds Tryd.pinned (OpenSpec.ofChange graphEdgesSpec)

/-- ITS FALSE NEIGHBOUR: 'it returns false'. Refute it at one input. -/
def graphEdgesWrong : ChangeSpec := { name := "graphEdges", fn := fun _ => fun
  | [d] => { results := [.lit (.bool false)], args := [d] }
  | _ => none }
def GraphEdgesWrongFalsely : Prop := graphEdgesRow.holds Tryd.pinned (OpenSpec.ofChange graphEdgesWrong)

/-- 'censuslaw18.GraphGraphs': WHATEVER THE INPUT: true; the input reads as it did. -/
def graphGraphsSpec : ChangeSpec := { name := "graphGraphs", fn := fun _ => fun
  | [d] => { results := [.lit (.bool true)], args := [d] }
  | _ => none }
def graphGraphsRow : OpenClaim := { program := "ythgkklahiclcpaadoor", sum := "1584933f8fb8d03e9812bd3df08d2f0a71519c03e2686558c02d337dd825ab2a", func := "census/censuslaw18.GraphGraphs", spec := "graphGraphs", unfollowed := true, recurses := true, named := ["math/bits.deBruijn64tab"], apart := false, laid := [("math/bits.deBruijn64tab", laid_math_bits_deBruijn64tab)] }
def GraphGraphsSaid : Prop := graphGraphsRow.holds Tryd.pinned (OpenSpec.ofChange graphGraphsSpec)

/-- ITS FALSE NEIGHBOUR: 'it returns false'. Refute it at one input. -/
def graphGraphsWrong : ChangeSpec := { name := "graphGraphs", fn := fun _ => fun
  | [d] => { results := [.lit (.bool false)], args := [d] }
  | _ => none }
def GraphGraphsWrongFalsely : Prop := graphGraphsRow.holds Tryd.pinned (OpenSpec.ofChange graphGraphsWrong)

/-- 'censuslaw18.GraphKnown': WHATEVER THE INPUT: true; the input reads as it did. -/
def graphKnownSpec : ChangeSpec := { name := "graphKnown", fn := fun _ => fun
  | [] => { results := [.lit (.bool true)], args := [] }
  | _ => none }
def graphKnownRow : OpenClaim := { program := "ythgkklahiclcpaadoor", sum := "1584933f8fb8d03e9812bd3df08d2f0a71519c03e2686558c02d337dd825ab2a", func := "census/censuslaw18.GraphKnown", spec := "graphKnown", unfollowed := true, recurses := true, named := ["math/bits.deBruijn64tab"], apart := false, laid := [("math/bits.deBruijn64tab", laid_math_bits_deBruijn64tab)] }
def GraphKnownSaid : Prop := graphKnownRow.holds Tryd.pinned (OpenSpec.ofChange graphKnownSpec)

/-- ITS FALSE NEIGHBOUR: 'it returns false'. Refute it at one input. -/
def graphKnownWrong : ChangeSpec := { name := "graphKnown", fn := fun _ => fun
  | [] => { results := [.lit (.bool false)], args := [] }
  | _ => none }
def GraphKnownWrongFalsely : Prop := graphKnownRow.holds Tryd.pinned (OpenSpec.ofChange graphKnownWrong)

/- THE SECOND FORM. 'bulk': how many values and letters a reading holds, each counted each time it is reached (what is shared counts as often as it is met; a slice's spare places count too). A statement '..UptoSaid' is the law's where the arguments, and the package variables that the reading takes, are together of bulk at most 1048576: NARROWER than '..Said'. Prove '..Said' where nothing that the law and all that it calls make is longer than what came in: it says more and counts as full. Else prove '..UptoSaid'. A law counts once. -/
mutual
def uptoBulk {H : Type} : DataW H → Nat
  | .lit (.string bytes) => bytes.length + 1
  | .lit _ => 1
  | .nil => 1
  | .ptr d => uptoBulk d + 1
  | .slice elems spare => uptoBulkAll elems + uptoBulkAll spare + 1
  | .agg parts => uptoBulkAll parts + 1
  | .iface _ d => uptoBulk d + 1
  | .map entries => uptoBulkEntries entries + 1
  | .held _ => 1
def uptoBulkAll {H : Type} : List (DataW H) → Nat
  | [] => 0
  | d :: r => uptoBulk d + uptoBulkAll r
def uptoBulkEntries {H : Type} : List (Lit × DataW H) → Nat
  | [] => 0
  | x :: r => uptoBulkEntry x + uptoBulkEntries r
def uptoBulkEntry {H : Type} : Lit × DataW H → Nat
  | (.string bytes, d) => bytes.length + uptoBulk d + 1
  | (_, d) => uptoBulk d + 1
 end
def uptoSmall : (H : Type) → List (DataW H) → Bool := fun _ ds => decide (uptoBulkAll ds ≤ 1048576)
def OpenSpec.upto (s : _root_.Go.ChangeSpec) : _root_.Go.OpenSpec := { _root_.Go.OpenSpec.ofChange s with cond := some uptoSmall }

/-- 'censuslaw18.GraphOrders', WHERE WHAT IT READS IS OF BULK AT MOST 1048576: true; the input reads as it did. -/
def graphOrdersUptoRow : OpenClaim := { program := "ythgkklahiclcpaadoor", sum := "1584933f8fb8d03e9812bd3df08d2f0a71519c03e2686558c02d337dd825ab2a", func := "census/censuslaw18.GraphOrders", spec := "graphOrders", unfollowed := true, recurses := true, named := ["math/bits.deBruijn64tab"], apart := false, laid := [("math/bits.deBruijn64tab", laid_math_bits_deBruijn64tab)], narrowed := true }
def GraphOrdersUptoSaid : Prop := graphOrdersUptoRow.holds Tryd.pinned (OpenSpec.upto graphOrdersSpec)

/-- 'censuslaw18.GraphWidths', WHERE WHAT IT READS IS OF BULK AT MOST 1048576: true; the input reads as it did. -/
def graphWidthsUptoRow : OpenClaim := { program := "ythgkklahiclcpaadoor", sum := "1584933f8fb8d03e9812bd3df08d2f0a71519c03e2686558c02d337dd825ab2a", func := "census/censuslaw18.GraphWidths", spec := "graphWidths", unfollowed := true, recurses := true, named := ["math/bits.deBruijn64tab"], apart := false, laid := [("math/bits.deBruijn64tab", laid_math_bits_deBruijn64tab)], narrowed := true }
def GraphWidthsUptoSaid : Prop := graphWidthsUptoRow.holds Tryd.pinned (OpenSpec.upto graphWidthsSpec)

/-- 'censuslaw18.GraphWide', WHERE WHAT IT READS IS OF BULK AT MOST 1048576: true; the input reads as it did. -/
def graphWideUptoRow : OpenClaim := { program := "ythgkklahiclcpaadoor", sum := "1584933f8fb8d03e9812bd3df08d2f0a71519c03e2686558c02d337dd825ab2a", func := "census/censuslaw18.GraphWide", spec := "graphWide", unfollowed := true, recurses := true, named := ["math/bits.deBruijn64tab"], apart := false, laid := [("math/bits.deBruijn64tab", laid_math_bits_deBruijn64tab)], narrowed := true }
def GraphWideUptoSaid : Prop := graphWideUptoRow.holds Tryd.pinned (OpenSpec.upto graphWideSpec)

/-- 'censuslaw18.GraphFewer', WHERE WHAT IT READS IS OF BULK AT MOST 1048576: true; the input reads as it did. -/
def graphFewerUptoRow : OpenClaim := { program := "ythgkklahiclcpaadoor", sum := "1584933f8fb8d03e9812bd3df08d2f0a71519c03e2686558c02d337dd825ab2a", func := "census/censuslaw18.GraphFewer", spec := "graphFewer", unfollowed := true, recurses := true, named := ["math/bits.deBruijn64tab"], apart := false, laid := [("math/bits.deBruijn64tab", laid_math_bits_deBruijn64tab)], narrowed := true }
def GraphFewerUptoSaid : Prop := graphFewerUptoRow.holds Tryd.pinned (OpenSpec.upto graphFewerSpec)

/-- 'censuslaw18.GraphChordal', WHERE WHAT IT READS IS OF BULK AT MOST 1048576: true; the input reads as it did. -/
def graphChordalUptoRow : OpenClaim := { program := "ythgkklahiclcpaadoor", sum := "1584933f8fb8d03e9812bd3df08d2f0a71519c03e2686558c02d337dd825ab2a", func := "census/censuslaw18.GraphChordal", spec := "graphChordal", unfollowed := true, recurses := true, named := ["math/bits.deBruijn64tab"], apart := false, laid := [("math/bits.deBruijn64tab", laid_math_bits_deBruijn64tab)], narrowed := true }
def GraphChordalUptoSaid : Prop := graphChordalUptoRow.holds Tryd.pinned (OpenSpec.upto graphChordalSpec)

/-- 'censuslaw18.GraphForests', WHERE WHAT IT READS IS OF BULK AT MOST 1048576: true; the input reads as it did. -/
def graphForestsUptoRow : OpenClaim := { program := "ythgkklahiclcpaadoor", sum := "1584933f8fb8d03e9812bd3df08d2f0a71519c03e2686558c02d337dd825ab2a", func := "census/censuslaw18.GraphForests", spec := "graphForests", unfollowed := true, recurses := true, named := ["math/bits.deBruijn64tab"], apart := false, laid := [("math/bits.deBruijn64tab", laid_math_bits_deBruijn64tab)], narrowed := true }
def GraphForestsUptoSaid : Prop := graphForestsUptoRow.holds Tryd.pinned (OpenSpec.upto graphForestsSpec)

/-- 'censuslaw18.GraphOwn', WHERE WHAT IT READS IS OF BULK AT MOST 1048576: true; the input reads as it did. -/
def graphOwnUptoRow : OpenClaim := { program := "ythgkklahiclcpaadoor", sum := "1584933f8fb8d03e9812bd3df08d2f0a71519c03e2686558c02d337dd825ab2a", func := "census/censuslaw18.GraphOwn", spec := "graphOwn", unfollowed := true, recurses := true, named := ["math/bits.deBruijn64tab"], apart := false, laid := [("math/bits.deBruijn64tab", laid_math_bits_deBruijn64tab)], narrowed := true }
def GraphOwnUptoSaid : Prop := graphOwnUptoRow.holds Tryd.pinned (OpenSpec.upto graphOwnSpec)

/-- 'censuslaw18.GraphEdges', WHERE WHAT IT READS IS OF BULK AT MOST 1048576: true; the input reads as it did. -/
def graphEdgesUptoRow : OpenClaim := { program := "ythgkklahiclcpaadoor", sum := "1584933f8fb8d03e9812bd3df08d2f0a71519c03e2686558c02d337dd825ab2a", func := "census/censuslaw18.GraphEdges", spec := "graphEdges", unfollowed := true, recurses := true, named := ["math/bits.deBruijn64tab"], apart := false, laid := [("math/bits.deBruijn64tab", laid_math_bits_deBruijn64tab)], narrowed := true }
def GraphEdgesUptoSaid : Prop := graphEdgesUptoRow.holds Tryd.pinned (OpenSpec.upto graphEdgesSpec)

/-- 'censuslaw18.GraphGraphs', WHERE WHAT IT READS IS OF BULK AT MOST 1048576: true; the input reads as it did. -/
def graphGraphsUptoRow : OpenClaim := { program := "ythgkklahiclcpaadoor", sum := "1584933f8fb8d03e9812bd3df08d2f0a71519c03e2686558c02d337dd825ab2a", func := "census/censuslaw18.GraphGraphs", spec := "graphGraphs", unfollowed := true, recurses := true, named := ["math/bits.deBruijn64tab"], apart := false, laid := [("math/bits.deBruijn64tab", laid_math_bits_deBruijn64tab)], narrowed := true }
def GraphGraphsUptoSaid : Prop := graphGraphsUptoRow.holds Tryd.pinned (OpenSpec.upto graphGraphsSpec)

/-- 'censuslaw18.GraphKnown', WHERE WHAT IT READS IS OF BULK AT MOST 1048576: true; the input reads as it did. -/
def graphKnownUptoRow : OpenClaim := { program := "ythgkklahiclcpaadoor", sum := "1584933f8fb8d03e9812bd3df08d2f0a71519c03e2686558c02d337dd825ab2a", func := "census/censuslaw18.GraphKnown", spec := "graphKnown", unfollowed := true, recurses := true, named := ["math/bits.deBruijn64tab"], apart := false, laid := [("math/bits.deBruijn64tab", laid_math_bits_deBruijn64tab)], narrowed := true }
def GraphKnownUptoSaid : Prop := graphKnownUptoRow.holds Tryd.pinned (OpenSpec.upto graphKnownSpec)

end Rows
end Go.Proofs.YthgkklahiclcpaaDoor
