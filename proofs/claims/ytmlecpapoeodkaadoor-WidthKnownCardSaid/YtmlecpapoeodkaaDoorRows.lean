/-
  NARROWER THAN 'FOR EVERY INPUT', by the rows' own cells (each row's printed sentence says how): WidthKnown: laid · WidthMakes: laid · WidthChecks: laid · WidthCliques: laid · WidthNumbers: laid · WidthBounds: laid · WidthLess: laid · WidthOrders: laid · WidthMerges: laid · WidthSmaller: laid.
  DERIVED. THE GIVEN ROWS OF THIS SEAT. 10 by the template 'for every input the law returns true; each argument reads behind the call as it read before'; 0 by the template 'total and deterministic' (their statements: YtmlecpapoeodkaaDoorTotals.lean).
  GIVEN WITH THE SEED: the statements are not yours to turn. If you find one false, say at which input.
  Laid BY PROGRAM, IN A SANDBOX (cutbox-rows.mjs): the forced cells as the released guide's own fill.sh prints them over the translation f0e632c1ec7757c8… (all of the seat's roots in one cut). By AI agents, Wed Nov 11 2026. No macro, syntax, notation, axiom, sorry.
-/
import Derived.Test.YtmlecpapoeodkaaDoorChecked
import GoSem.Claim
import GoSem.ClaimJoined
import GoSem.ClaimMapViews
import Derived.JoinedTies
import Derived.KernelRfl
namespace Go.Proofs.YtmlecpapoeodkaaDoor
/- THE CELL 'sum', in the pinned program and in every row, IS THE sha256 OF THE DUMP (.gsa) THAT YtmlecpapoeodkaaDoorProg.lean LOADS. Nothing in Lean hashes anything: it is a label: what it is worth is what the hold of that sum in a sandbox is worth. -/
noncomputable def Tryd.pinned : Pinned := { name := "ytmlecpapoeodkaadoor", sum := "f0e632c1ec7757c8571b825c6b1cd760fe929c981e6fb37862f499e21782e127", checked := Tryd.checked }
namespace Rows
def none {H : Type} : Left H := { results := [], args := [] }

/- WHAT THE LISTED PACKAGE-LEVEL VARIABLES READ AS WHEN THE CALL BEGINS. Each datum BY PROGRAM (the guide's laid-datum.mjs) off the statement by which the dump's own 'gosem.cut.vars' lays the variable. In a bare row this is a premise. The card (YtmlecpapoeodkaaDoorCards.lean) ties it to the program's text. -/
def laid_math_bits_deBruijn64tab {H : Type} : DataW H := .agg [.lit (.int .u8 0), .lit (.int .u8 1), .lit (.int .u8 56), .lit (.int .u8 2), .lit (.int .u8 57), .lit (.int .u8 49), .lit (.int .u8 28), .lit (.int .u8 3), .lit (.int .u8 61), .lit (.int .u8 58), .lit (.int .u8 42), .lit (.int .u8 50), .lit (.int .u8 38), .lit (.int .u8 29), .lit (.int .u8 17), .lit (.int .u8 4), .lit (.int .u8 62), .lit (.int .u8 47), .lit (.int .u8 59), .lit (.int .u8 36), .lit (.int .u8 45), .lit (.int .u8 43), .lit (.int .u8 51), .lit (.int .u8 22), .lit (.int .u8 53), .lit (.int .u8 39), .lit (.int .u8 33), .lit (.int .u8 30), .lit (.int .u8 24), .lit (.int .u8 18), .lit (.int .u8 12), .lit (.int .u8 5), .lit (.int .u8 63), .lit (.int .u8 55), .lit (.int .u8 48), .lit (.int .u8 27), .lit (.int .u8 60), .lit (.int .u8 41), .lit (.int .u8 37), .lit (.int .u8 16), .lit (.int .u8 46), .lit (.int .u8 35), .lit (.int .u8 44), .lit (.int .u8 21), .lit (.int .u8 52), .lit (.int .u8 32), .lit (.int .u8 23), .lit (.int .u8 11), .lit (.int .u8 54), .lit (.int .u8 26), .lit (.int .u8 40), .lit (.int .u8 15), .lit (.int .u8 34), .lit (.int .u8 20), .lit (.int .u8 31), .lit (.int .u8 10), .lit (.int .u8 25), .lit (.int .u8 14), .lit (.int .u8 19), .lit (.int .u8 9), .lit (.int .u8 13), .lit (.int .u8 8), .lit (.int .u8 7), .lit (.int .u8 6)]

/-- 'censuslaw19.WidthKnown': WHATEVER THE INPUT: true; the input reads as it did. -/
def widthKnownSpec : ChangeSpec := { name := "widthKnown", fn := fun _ => fun
  | [] => { results := [.lit (.bool true)], args := [] }
  | _ => none }
def widthKnownRow : OpenClaim := { program := "ytmlecpapoeodkaadoor", sum := "f0e632c1ec7757c8571b825c6b1cd760fe929c981e6fb37862f499e21782e127", func := "census/censuslaw19.WidthKnown", spec := "widthKnown", unfollowed := true, recurses := true, named := ["math/bits.deBruijn64tab"], apart := false, laid := [("math/bits.deBruijn64tab", laid_math_bits_deBruijn64tab)] }
def WidthKnownSaid : Prop := widthKnownRow.holds Tryd.pinned (OpenSpec.ofChange widthKnownSpec)

/-- ITS FALSE NEIGHBOUR: 'it returns false'. Refute it at one input. -/
def widthKnownWrong : ChangeSpec := { name := "widthKnown", fn := fun _ => fun
  | [] => { results := [.lit (.bool false)], args := [] }
  | _ => none }
def WidthKnownWrongFalsely : Prop := widthKnownRow.holds Tryd.pinned (OpenSpec.ofChange widthKnownWrong)

/-- 'censuslaw19.WidthMakes': WHATEVER THE INPUT: true; the input reads as it did. -/
def widthMakesSpec : ChangeSpec := { name := "widthMakes", fn := fun _ => fun
  | [d1, d2] => { results := [.lit (.bool true)], args := [d1, d2] }
  | _ => none }
def widthMakesRow : OpenClaim := { program := "ytmlecpapoeodkaadoor", sum := "f0e632c1ec7757c8571b825c6b1cd760fe929c981e6fb37862f499e21782e127", func := "census/censuslaw19.WidthMakes", spec := "widthMakes", unfollowed := true, recurses := true, named := ["math/bits.deBruijn64tab"], apart := false, laid := [("math/bits.deBruijn64tab", laid_math_bits_deBruijn64tab)] }
def WidthMakesSaid : Prop := widthMakesRow.holds Tryd.pinned (OpenSpec.ofChange widthMakesSpec)

/-- ITS FALSE NEIGHBOUR: 'it returns false'. Refute it at one input. -/
def widthMakesWrong : ChangeSpec := { name := "widthMakes", fn := fun _ => fun
  | [d1, d2] => { results := [.lit (.bool false)], args := [d1, d2] }
  | _ => none }
def WidthMakesWrongFalsely : Prop := widthMakesRow.holds Tryd.pinned (OpenSpec.ofChange widthMakesWrong)

/-- 'censuslaw19.WidthChecks': WHATEVER THE INPUT: true; the input reads as it did. -/
def widthChecksSpec : ChangeSpec := { name := "widthChecks", fn := fun _ => fun
  | [d1, d2] => { results := [.lit (.bool true)], args := [d1, d2] }
  | _ => none }
def widthChecksRow : OpenClaim := { program := "ytmlecpapoeodkaadoor", sum := "f0e632c1ec7757c8571b825c6b1cd760fe929c981e6fb37862f499e21782e127", func := "census/censuslaw19.WidthChecks", spec := "widthChecks", unfollowed := true, recurses := true, named := ["math/bits.deBruijn64tab"], apart := false, laid := [("math/bits.deBruijn64tab", laid_math_bits_deBruijn64tab)] }
def WidthChecksSaid : Prop := widthChecksRow.holds Tryd.pinned (OpenSpec.ofChange widthChecksSpec)

/-- ITS FALSE NEIGHBOUR: 'it returns false'. Refute it at one input. -/
def widthChecksWrong : ChangeSpec := { name := "widthChecks", fn := fun _ => fun
  | [d1, d2] => { results := [.lit (.bool false)], args := [d1, d2] }
  | _ => none }
def WidthChecksWrongFalsely : Prop := widthChecksRow.holds Tryd.pinned (OpenSpec.ofChange widthChecksWrong)

/-- 'censuslaw19.WidthCliques': WHATEVER THE INPUT: true; the input reads as it did. -/
def widthCliquesSpec : ChangeSpec := { name := "widthCliques", fn := fun _ => fun
  | [d1, d2, d3] => { results := [.lit (.bool true)], args := [d1, d2, d3] }
  | _ => none }
def widthCliquesRow : OpenClaim := { program := "ytmlecpapoeodkaadoor", sum := "f0e632c1ec7757c8571b825c6b1cd760fe929c981e6fb37862f499e21782e127", func := "census/censuslaw19.WidthCliques", spec := "widthCliques", unfollowed := true, recurses := true, named := ["math/bits.deBruijn64tab"], apart := false, laid := [("math/bits.deBruijn64tab", laid_math_bits_deBruijn64tab)] }
def WidthCliquesSaid : Prop := widthCliquesRow.holds Tryd.pinned (OpenSpec.ofChange widthCliquesSpec)

/-- ITS FALSE NEIGHBOUR: 'it returns false'. Refute it at one input. -/
def widthCliquesWrong : ChangeSpec := { name := "widthCliques", fn := fun _ => fun
  | [d1, d2, d3] => { results := [.lit (.bool false)], args := [d1, d2, d3] }
  | _ => none }
def WidthCliquesWrongFalsely : Prop := widthCliquesRow.holds Tryd.pinned (OpenSpec.ofChange widthCliquesWrong)

/-- 'censuslaw19.WidthNumbers': WHATEVER THE INPUT: true; the input reads as it did. -/
def widthNumbersSpec : ChangeSpec := { name := "widthNumbers", fn := fun _ => fun
  | [d1, d2] => { results := [.lit (.bool true)], args := [d1, d2] }
  | _ => none }
def widthNumbersRow : OpenClaim := { program := "ytmlecpapoeodkaadoor", sum := "f0e632c1ec7757c8571b825c6b1cd760fe929c981e6fb37862f499e21782e127", func := "census/censuslaw19.WidthNumbers", spec := "widthNumbers", unfollowed := true, recurses := true, named := ["math/bits.deBruijn64tab"], apart := false, laid := [("math/bits.deBruijn64tab", laid_math_bits_deBruijn64tab)] }
def WidthNumbersSaid : Prop := widthNumbersRow.holds Tryd.pinned (OpenSpec.ofChange widthNumbersSpec)

/-- ITS FALSE NEIGHBOUR: 'it returns false'. Refute it at one input. -/
def widthNumbersWrong : ChangeSpec := { name := "widthNumbers", fn := fun _ => fun
  | [d1, d2] => { results := [.lit (.bool false)], args := [d1, d2] }
  | _ => none }
def WidthNumbersWrongFalsely : Prop := widthNumbersRow.holds Tryd.pinned (OpenSpec.ofChange widthNumbersWrong)

/-- 'censuslaw19.WidthBounds': WHATEVER THE INPUT: true; the input reads as it did. -/
def widthBoundsSpec : ChangeSpec := { name := "widthBounds", fn := fun _ => fun
  | [d1, d2, d3] => { results := [.lit (.bool true)], args := [d1, d2, d3] }
  | _ => none }
def widthBoundsRow : OpenClaim := { program := "ytmlecpapoeodkaadoor", sum := "f0e632c1ec7757c8571b825c6b1cd760fe929c981e6fb37862f499e21782e127", func := "census/censuslaw19.WidthBounds", spec := "widthBounds", unfollowed := true, recurses := true, named := ["math/bits.deBruijn64tab"], apart := false, laid := [("math/bits.deBruijn64tab", laid_math_bits_deBruijn64tab)] }
def WidthBoundsSaid : Prop := widthBoundsRow.holds Tryd.pinned (OpenSpec.ofChange widthBoundsSpec)

/-- ITS FALSE NEIGHBOUR: 'it returns false'. Refute it at one input. -/
def widthBoundsWrong : ChangeSpec := { name := "widthBounds", fn := fun _ => fun
  | [d1, d2, d3] => { results := [.lit (.bool false)], args := [d1, d2, d3] }
  | _ => none }
def WidthBoundsWrongFalsely : Prop := widthBoundsRow.holds Tryd.pinned (OpenSpec.ofChange widthBoundsWrong)

/-- 'censuslaw19.WidthLess': WHATEVER THE INPUT: true; the input reads as it did. -/
def widthLessSpec : ChangeSpec := { name := "widthLess", fn := fun _ => fun
  | [d1, d2, d3] => { results := [.lit (.bool true)], args := [d1, d2, d3] }
  | _ => none }
def widthLessRow : OpenClaim := { program := "ytmlecpapoeodkaadoor", sum := "f0e632c1ec7757c8571b825c6b1cd760fe929c981e6fb37862f499e21782e127", func := "census/censuslaw19.WidthLess", spec := "widthLess", unfollowed := true, recurses := true, named := ["math/bits.deBruijn64tab"], apart := false, laid := [("math/bits.deBruijn64tab", laid_math_bits_deBruijn64tab)] }
def WidthLessSaid : Prop := widthLessRow.holds Tryd.pinned (OpenSpec.ofChange widthLessSpec)

/-- ITS FALSE NEIGHBOUR: 'it returns false'. Refute it at one input. -/
def widthLessWrong : ChangeSpec := { name := "widthLess", fn := fun _ => fun
  | [d1, d2, d3] => { results := [.lit (.bool false)], args := [d1, d2, d3] }
  | _ => none }
def WidthLessWrongFalsely : Prop := widthLessRow.holds Tryd.pinned (OpenSpec.ofChange widthLessWrong)

/-- 'censuslaw19.WidthOrders': WHATEVER THE INPUT: true; the input reads as it did. -/
def widthOrdersSpec : ChangeSpec := { name := "widthOrders", fn := fun _ => fun
  | [d1, d2] => { results := [.lit (.bool true)], args := [d1, d2] }
  | _ => none }
def widthOrdersRow : OpenClaim := { program := "ytmlecpapoeodkaadoor", sum := "f0e632c1ec7757c8571b825c6b1cd760fe929c981e6fb37862f499e21782e127", func := "census/censuslaw19.WidthOrders", spec := "widthOrders", unfollowed := true, recurses := true, named := ["math/bits.deBruijn64tab"], apart := false, laid := [("math/bits.deBruijn64tab", laid_math_bits_deBruijn64tab)] }
def WidthOrdersSaid : Prop := widthOrdersRow.holds Tryd.pinned (OpenSpec.ofChange widthOrdersSpec)

/-- ITS FALSE NEIGHBOUR: 'it returns false'. Refute it at one input. -/
def widthOrdersWrong : ChangeSpec := { name := "widthOrders", fn := fun _ => fun
  | [d1, d2] => { results := [.lit (.bool false)], args := [d1, d2] }
  | _ => none }
def WidthOrdersWrongFalsely : Prop := widthOrdersRow.holds Tryd.pinned (OpenSpec.ofChange widthOrdersWrong)

/-- 'censuslaw19.WidthMerges': WHATEVER THE INPUT: true; the input reads as it did. -/
def widthMergesSpec : ChangeSpec := { name := "widthMerges", fn := fun _ => fun
  | [d] => { results := [.lit (.bool true)], args := [d] }
  | _ => none }
def widthMergesRow : OpenClaim := { program := "ytmlecpapoeodkaadoor", sum := "f0e632c1ec7757c8571b825c6b1cd760fe929c981e6fb37862f499e21782e127", func := "census/censuslaw19.WidthMerges", spec := "widthMerges", unfollowed := true, recurses := true, named := ["math/bits.deBruijn64tab"], apart := false, laid := [("math/bits.deBruijn64tab", laid_math_bits_deBruijn64tab)] }
def WidthMergesSaid : Prop := widthMergesRow.holds Tryd.pinned (OpenSpec.ofChange widthMergesSpec)

/-- ITS FALSE NEIGHBOUR: 'it returns false'. Refute it at one input. -/
def widthMergesWrong : ChangeSpec := { name := "widthMerges", fn := fun _ => fun
  | [d] => { results := [.lit (.bool false)], args := [d] }
  | _ => none }
def WidthMergesWrongFalsely : Prop := widthMergesRow.holds Tryd.pinned (OpenSpec.ofChange widthMergesWrong)

/-- 'censuslaw19.WidthSmaller': WHATEVER THE INPUT: true; the input reads as it did. -/
def widthSmallerSpec : ChangeSpec := { name := "widthSmaller", fn := fun _ => fun
  | [d1, d2, d3] => { results := [.lit (.bool true)], args := [d1, d2, d3] }
  | _ => none }
def widthSmallerRow : OpenClaim := { program := "ytmlecpapoeodkaadoor", sum := "f0e632c1ec7757c8571b825c6b1cd760fe929c981e6fb37862f499e21782e127", func := "census/censuslaw19.WidthSmaller", spec := "widthSmaller", unfollowed := true, recurses := true, named := ["math/bits.deBruijn64tab"], apart := false, laid := [("math/bits.deBruijn64tab", laid_math_bits_deBruijn64tab)] }
def WidthSmallerSaid : Prop := widthSmallerRow.holds Tryd.pinned (OpenSpec.ofChange widthSmallerSpec)

/-- ITS FALSE NEIGHBOUR: 'it returns false'. Refute it at one input. -/
def widthSmallerWrong : ChangeSpec := { name := "widthSmaller", fn := fun _ => fun
  | [d1, d2, d3] => { results := [.lit (.bool false)], args := [d1, d2, d3] }
  | _ => none }
def WidthSmallerWrongFalsely : Prop := widthSmallerRow.holds Tryd.pinned (OpenSpec.ofChange widthSmallerWrong)

/- THE SECOND FORM. 'bulk': how many values and letters a reading holds, each counted each time it is reached (what is shared counts as often as it is met; a slice's spare places count too). A statement '..UptoSaid' is the law's where the arguments, and the package variables that the reading takes, are together of bulk at most 1048576: NARROWER than '..Said'. Prove '..Said' where nothing that the law and all that it calls make is longer than what came in: it says more and counts as full. Else prove '..UptoSaid'. A law counts once. -/
mutual
def uptoBulk {H : Type} : DataW H → Nat
  | .lit (.string bytes) => bytes.length + 1
  | .lit _ => 1
  | .nil => 1
  | .ptr d => uptoBulk d + 1
  | .slice elems spare => uptoBulkAll elems + uptoBulkAll spare + 1
  | .agg parts => uptoBulkAll parts + 1
  | .iface _ d => uptoBulk d + 1
  | .map entries => uptoBulkEntries entries + 1
  | .held _ => 1
def uptoBulkAll {H : Type} : List (DataW H) → Nat
  | [] => 0
  | d :: r => uptoBulk d + uptoBulkAll r
def uptoBulkEntries {H : Type} : List (Lit × DataW H) → Nat
  | [] => 0
  | x :: r => uptoBulkEntry x + uptoBulkEntries r
def uptoBulkEntry {H : Type} : Lit × DataW H → Nat
  | (.string bytes, d) => bytes.length + uptoBulk d + 1
  | (_, d) => uptoBulk d + 1
 end
def uptoSmall : (H : Type) → List (DataW H) → Bool := fun _ ds => decide (uptoBulkAll ds ≤ 1048576)
def OpenSpec.upto (s : _root_.Go.ChangeSpec) : _root_.Go.OpenSpec := { _root_.Go.OpenSpec.ofChange s with cond := some uptoSmall }

/-- 'censuslaw19.WidthKnown', WHERE WHAT IT READS IS OF BULK AT MOST 1048576: true; the input reads as it did. -/
def widthKnownUptoRow : OpenClaim := { program := "ytmlecpapoeodkaadoor", sum := "f0e632c1ec7757c8571b825c6b1cd760fe929c981e6fb37862f499e21782e127", func := "census/censuslaw19.WidthKnown", spec := "widthKnown", unfollowed := true, recurses := true, named := ["math/bits.deBruijn64tab"], apart := false, laid := [("math/bits.deBruijn64tab", laid_math_bits_deBruijn64tab)], narrowed := true }
def WidthKnownUptoSaid : Prop := widthKnownUptoRow.holds Tryd.pinned (OpenSpec.upto widthKnownSpec)

/-- 'censuslaw19.WidthMakes', WHERE WHAT IT READS IS OF BULK AT MOST 1048576: true; the input reads as it did. -/
def widthMakesUptoRow : OpenClaim := { program := "ytmlecpapoeodkaadoor", sum := "f0e632c1ec7757c8571b825c6b1cd760fe929c981e6fb37862f499e21782e127", func := "census/censuslaw19.WidthMakes", spec := "widthMakes", unfollowed := true, recurses := true, named := ["math/bits.deBruijn64tab"], apart := false, laid := [("math/bits.deBruijn64tab", laid_math_bits_deBruijn64tab)], narrowed := true }
def WidthMakesUptoSaid : Prop := widthMakesUptoRow.holds Tryd.pinned (OpenSpec.upto widthMakesSpec)

/-- 'censuslaw19.WidthChecks', WHERE WHAT IT READS IS OF BULK AT MOST 1048576: true; the input reads as it did. -/
def widthChecksUptoRow : OpenClaim := { program := "ytmlecpapoeodkaadoor", sum := "f0e632c1ec7757c8571b825c6b1cd760fe929c981e6fb37862f499e21782e127", func := "census/censuslaw19.WidthChecks", spec := "widthChecks", unfollowed := true, recurses := true, named := ["math/bits.deBruijn64tab"], apart := false, laid := [("math/bits.deBruijn64tab", laid_math_bits_deBruijn64tab)], narrowed := true }
def WidthChecksUptoSaid : Prop := widthChecksUptoRow.holds Tryd.pinned (OpenSpec.upto widthChecksSpec)

/-- 'censuslaw19.WidthCliques', WHERE WHAT IT READS IS OF BULK AT MOST 1048576: true; the input reads as it did. -/
def widthCliquesUptoRow : OpenClaim := { program := "ytmlecpapoeodkaadoor", sum := "f0e632c1ec7757c8571b825c6b1cd760fe929c981e6fb37862f499e21782e127", func := "census/censuslaw19.WidthCliques", spec := "widthCliques", unfollowed := true, recurses := true, named := ["math/bits.deBruijn64tab"], apart := false, laid := [("math/bits.deBruijn64tab", laid_math_bits_deBruijn64tab)], narrowed := true }
def WidthCliquesUptoSaid : Prop := widthCliquesUptoRow.holds Tryd.pinned (OpenSpec.upto widthCliquesSpec)

/-- 'censuslaw19.WidthNumbers', WHERE WHAT IT READS IS OF BULK AT MOST 1048576: true; the input reads as it did. -/
def widthNumbersUptoRow : OpenClaim := { program := "ytmlecpapoeodkaadoor", sum := "f0e632c1ec7757c8571b825c6b1cd760fe929c981e6fb37862f499e21782e127", func := "census/censuslaw19.WidthNumbers", spec := "widthNumbers", unfollowed := true, recurses := true, named := ["math/bits.deBruijn64tab"], apart := false, laid := [("math/bits.deBruijn64tab", laid_math_bits_deBruijn64tab)], narrowed := true }
def WidthNumbersUptoSaid : Prop := widthNumbersUptoRow.holds Tryd.pinned (OpenSpec.upto widthNumbersSpec)

/-- 'censuslaw19.WidthBounds', WHERE WHAT IT READS IS OF BULK AT MOST 1048576: true; the input reads as it did. -/
def widthBoundsUptoRow : OpenClaim := { program := "ytmlecpapoeodkaadoor", sum := "f0e632c1ec7757c8571b825c6b1cd760fe929c981e6fb37862f499e21782e127", func := "census/censuslaw19.WidthBounds", spec := "widthBounds", unfollowed := true, recurses := true, named := ["math/bits.deBruijn64tab"], apart := false, laid := [("math/bits.deBruijn64tab", laid_math_bits_deBruijn64tab)], narrowed := true }
def WidthBoundsUptoSaid : Prop := widthBoundsUptoRow.holds Tryd.pinned (OpenSpec.upto widthBoundsSpec)

/-- 'censuslaw19.WidthLess', WHERE WHAT IT READS IS OF BULK AT MOST 1048576: true; the input reads as it did. -/
def widthLessUptoRow : OpenClaim := { program := "ytmlecpapoeodkaadoor", sum := "f0e632c1ec7757c8571b825c6b1cd760fe929c981e6fb37862f499e21782e127", func := "census/censuslaw19.WidthLess", spec := "widthLess", unfollowed := true, recurses := true, named := ["math/bits.deBruijn64tab"], apart := false, laid := [("math/bits.deBruijn64tab", laid_math_bits_deBruijn64tab)], narrowed := true }
def WidthLessUptoSaid : Prop := widthLessUptoRow.holds Tryd.pinned (OpenSpec.upto widthLessSpec)

/-- 'censuslaw19.WidthOrders', WHERE WHAT IT READS IS OF BULK AT MOST 1048576: true; the input reads as it did. -/
def widthOrdersUptoRow : OpenClaim := { program := "ytmlecpapoeodkaadoor", sum := "f0e632c1ec7757c8571b825c6b1cd760fe929c981e6fb37862f499e21782e127", func := "census/censuslaw19.WidthOrders", spec := "widthOrders", unfollowed := true, recurses := true, named := ["math/bits.deBruijn64tab"], apart := false, laid := [("math/bits.deBruijn64tab", laid_math_bits_deBruijn64tab)], narrowed := true }
def WidthOrdersUptoSaid : Prop := widthOrdersUptoRow.holds Tryd.pinned (OpenSpec.upto widthOrdersSpec)

/-- 'censuslaw19.WidthMerges', WHERE WHAT IT READS IS OF BULK AT MOST 1048576: true; the input reads as it did. -/
def widthMergesUptoRow : OpenClaim := { program := "ytmlecpapoeodkaadoor", sum := "f0e632c1ec7757c8571b825c6b1cd760fe929c981e6fb37862f499e21782e127", func := "census/censuslaw19.WidthMerges", spec := "widthMerges", unfollowed := true, recurses := true, named := ["math/bits.deBruijn64tab"], apart := false, laid := [("math/bits.deBruijn64tab", laid_math_bits_deBruijn64tab)], narrowed := true }
def WidthMergesUptoSaid : Prop := widthMergesUptoRow.holds Tryd.pinned (OpenSpec.upto widthMergesSpec)

/-- 'censuslaw19.WidthSmaller', WHERE WHAT IT READS IS OF BULK AT MOST 1048576: true; the input reads as it did. -/
def widthSmallerUptoRow : OpenClaim := { program := "ytmlecpapoeodkaadoor", sum := "f0e632c1ec7757c8571b825c6b1cd760fe929c981e6fb37862f499e21782e127", func := "census/censuslaw19.WidthSmaller", spec := "widthSmaller", unfollowed := true, recurses := true, named := ["math/bits.deBruijn64tab"], apart := false, laid := [("math/bits.deBruijn64tab", laid_math_bits_deBruijn64tab)], narrowed := true }
def WidthSmallerUptoSaid : Prop := widthSmallerUptoRow.holds Tryd.pinned (OpenSpec.upto widthSmallerSpec)

end Rows
end Go.Proofs.YtmlecpapoeodkaaDoor
