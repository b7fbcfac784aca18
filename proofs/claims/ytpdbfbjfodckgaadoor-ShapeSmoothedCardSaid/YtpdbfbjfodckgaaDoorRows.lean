/-
  NARROWER THAN 'FOR EVERY INPUT', by the rows' own cells (each row's printed sentence says how): ShapeOnce: laid · ShapeProperties: laid · ShapeDeterministic: laid · ShapeSmoothed: laid · ShapeDecides: laid · ShapeChoice: laid · ShapeKnown: laid · ShapeSame: laid · ShapeCounts: laid.
  DERIVED. THE GIVEN ROWS OF THIS SEAT. 9 by the template 'for every input the law returns true; each argument reads behind the call as it read before'; 0 by the template 'total and deterministic' (their statements: YtpdbfbjfodckgaaDoorTotals.lean).
  GIVEN WITH THE SEED: the statements are not yours to turn. If you find one false, say at which input.
  Laid BY PROGRAM, IN A SANDBOX (cutbox-rows.mjs): the forced cells as the released guide's own fill.sh prints them over the translation 92b6507c1d8843ef… (all of the seat's roots in one cut). By AI agents, Wed Nov 11 2026. No macro, syntax, notation, axiom, sorry.
-/
import Derived.Test.YtpdbfbjfodckgaaDoorChecked
import GoSem.Claim
import GoSem.ClaimJoined
import GoSem.ClaimMapViews
import Derived.JoinedTies
import Derived.KernelRfl
namespace Go.Proofs.YtpdbfbjfodckgaaDoor
/- THE CELL 'sum', in the pinned program and in every row, IS THE sha256 OF THE DUMP (.gsa) THAT YtpdbfbjfodckgaaDoorProg.lean LOADS. Nothing in Lean hashes anything: it is a label: what it is worth is what the hold of that sum in a sandbox is worth. -/
noncomputable def Tryd.pinned : Pinned := { name := "ytpdbfbjfodckgaadoor", sum := "92b6507c1d8843efdfe35a6a37508f815afc299751578117db9a83c6998c7b37", checked := Tryd.checked }
namespace Rows
def none {H : Type} : Left H := { results := [], args := [] }

/- WHAT THE LISTED PACKAGE-LEVEL VARIABLES READ AS WHEN THE CALL BEGINS. Each datum BY PROGRAM (the guide's laid-datum.mjs) off the statement by which the dump's own 'gosem.cut.vars' lays the variable. In a bare row this is a premise. The card (YtpdbfbjfodckgaaDoorCards.lean) ties it to the program's text. -/
def laid_math_bits_deBruijn64tab {H : Type} : DataW H := .agg [.lit (.int .u8 0), .lit (.int .u8 1), .lit (.int .u8 56), .lit (.int .u8 2), .lit (.int .u8 57), .lit (.int .u8 49), .lit (.int .u8 28), .lit (.int .u8 3), .lit (.int .u8 61), .lit (.int .u8 58), .lit (.int .u8 42), .lit (.int .u8 50), .lit (.int .u8 38), .lit (.int .u8 29), .lit (.int .u8 17), .lit (.int .u8 4), .lit (.int .u8 62), .lit (.int .u8 47), .lit (.int .u8 59), .lit (.int .u8 36), .lit (.int .u8 45), .lit (.int .u8 43), .lit (.int .u8 51), .lit (.int .u8 22), .lit (.int .u8 53), .lit (.int .u8 39), .lit (.int .u8 33), .lit (.int .u8 30), .lit (.int .u8 24), .lit (.int .u8 18), .lit (.int .u8 12), .lit (.int .u8 5), .lit (.int .u8 63), .lit (.int .u8 55), .lit (.int .u8 48), .lit (.int .u8 27), .lit (.int .u8 60), .lit (.int .u8 41), .lit (.int .u8 37), .lit (.int .u8 16), .lit (.int .u8 46), .lit (.int .u8 35), .lit (.int .u8 44), .lit (.int .u8 21), .lit (.int .u8 52), .lit (.int .u8 32), .lit (.int .u8 23), .lit (.int .u8 11), .lit (.int .u8 54), .lit (.int .u8 26), .lit (.int .u8 40), .lit (.int .u8 15), .lit (.int .u8 34), .lit (.int .u8 20), .lit (.int .u8 31), .lit (.int .u8 10), .lit (.int .u8 25), .lit (.int .u8 14), .lit (.int .u8 19), .lit (.int .u8 9), .lit (.int .u8 13), .lit (.int .u8 8), .lit (.int .u8 7), .lit (.int .u8 6)]
def laid_census_shape_patterns {H : Type} : DataW H := .agg [.lit (.int .u64 12297829382473034410), .lit (.int .u64 14757395258967641292), .lit (.int .u64 17361641481138401520), .lit (.int .u64 18374966859414961920), .lit (.int .u64 18446462603027742720), .lit (.int .u64 18446744069414584320)]

/-- 'censuslaw21.ShapeOnce': WHATEVER THE INPUT: true; the input reads as it did. -/
def shapeOnceSpec : ChangeSpec := { name := "shapeOnce", fn := fun _ => fun
  | [d] => { results := [.lit (.bool true)], args := [d] }
  | _ => none }
def shapeOnceRow : OpenClaim := { program := "ytpdbfbjfodckgaadoor", sum := "92b6507c1d8843efdfe35a6a37508f815afc299751578117db9a83c6998c7b37", func := "census/censuslaw21.ShapeOnce", spec := "shapeOnce", unfollowed := true, recurses := true, named := ["census/shape.patterns", "math/bits.deBruijn64tab"], apart := false, laid := [("math/bits.deBruijn64tab", laid_math_bits_deBruijn64tab), ("census/shape.patterns", laid_census_shape_patterns)] }
def ShapeOnceSaid : Prop := shapeOnceRow.holds Tryd.pinned (OpenSpec.ofChange shapeOnceSpec)

/-- ITS FALSE NEIGHBOUR: 'it returns false'. Refute it at one input. -/
def shapeOnceWrong : ChangeSpec := { name := "shapeOnce", fn := fun _ => fun
  | [d] => { results := [.lit (.bool false)], args := [d] }
  | _ => none }
def ShapeOnceWrongFalsely : Prop := shapeOnceRow.holds Tryd.pinned (OpenSpec.ofChange shapeOnceWrong)

/-- 'censuslaw21.ShapeProperties': WHATEVER THE INPUT: true; the input reads as it did. -/
def shapePropertiesSpec : ChangeSpec := { name := "shapeProperties", fn := fun _ => fun
  | [d] => { results := [.lit (.bool true)], args := [d] }
  | _ => none }
def shapePropertiesRow : OpenClaim := { program := "ytpdbfbjfodckgaadoor", sum := "92b6507c1d8843efdfe35a6a37508f815afc299751578117db9a83c6998c7b37", func := "census/censuslaw21.ShapeProperties", spec := "shapeProperties", unfollowed := true, recurses := true, named := ["census/shape.patterns", "math/bits.deBruijn64tab"], apart := false, laid := [("math/bits.deBruijn64tab", laid_math_bits_deBruijn64tab), ("census/shape.patterns", laid_census_shape_patterns)] }
def ShapePropertiesSaid : Prop := shapePropertiesRow.holds Tryd.pinned (OpenSpec.ofChange shapePropertiesSpec)

/-- ITS FALSE NEIGHBOUR: 'it returns false'. Refute it at one input. -/
def shapePropertiesWrong : ChangeSpec := { name := "shapeProperties", fn := fun _ => fun
  | [d] => { results := [.lit (.bool false)], args := [d] }
  | _ => none }
def ShapePropertiesWrongFalsely : Prop := shapePropertiesRow.holds Tryd.pinned (OpenSpec.ofChange shapePropertiesWrong)

/-- 'censuslaw21.ShapeDeterministic': WHATEVER THE INPUT: true; the input reads as it did. -/
def shapeDeterministicSpec : ChangeSpec := { name := "shapeDeterministic", fn := fun _ => fun
  | [d] => { results := [.lit (.bool true)], args := [d] }
  | _ => none }
def shapeDeterministicRow : OpenClaim := { program := "ytpdbfbjfodckgaadoor", sum := "92b6507c1d8843efdfe35a6a37508f815afc299751578117db9a83c6998c7b37", func := "census/censuslaw21.ShapeDeterministic", spec := "shapeDeterministic", unfollowed := true, recurses := true, named := ["census/shape.patterns", "math/bits.deBruijn64tab"], apart := false, laid := [("math/bits.deBruijn64tab", laid_math_bits_deBruijn64tab), ("census/shape.patterns", laid_census_shape_patterns)] }
def ShapeDeterministicSaid : Prop := shapeDeterministicRow.holds Tryd.pinned (OpenSpec.ofChange shapeDeterministicSpec)

/-- ITS FALSE NEIGHBOUR: 'it returns false'. Refute it at one input. -/
def shapeDeterministicWrong : ChangeSpec := { name := "shapeDeterministic", fn := fun _ => fun
  | [d] => { results := [.lit (.bool false)], args := [d] }
  | _ => none }
def ShapeDeterministicWrongFalsely : Prop := shapeDeterministicRow.holds Tryd.pinned (OpenSpec.ofChange shapeDeterministicWrong)

/-- 'censuslaw21.ShapeSmoothed': WHATEVER THE INPUT: true; the input reads as it did. -/
def shapeSmoothedSpec : ChangeSpec := { name := "shapeSmoothed", fn := fun _ => fun
  | [d] => { results := [.lit (.bool true)], args := [d] }
  | _ => none }
def shapeSmoothedRow : OpenClaim := { program := "ytpdbfbjfodckgaadoor", sum := "92b6507c1d8843efdfe35a6a37508f815afc299751578117db9a83c6998c7b37", func := "census/censuslaw21.ShapeSmoothed", spec := "shapeSmoothed", unfollowed := true, recurses := true, named := ["census/shape.patterns", "math/bits.deBruijn64tab"], apart := false, laid := [("math/bits.deBruijn64tab", laid_math_bits_deBruijn64tab), ("census/shape.patterns", laid_census_shape_patterns)] }
def ShapeSmoothedSaid : Prop := shapeSmoothedRow.holds Tryd.pinned (OpenSpec.ofChange shapeSmoothedSpec)

/-- ITS FALSE NEIGHBOUR: 'it returns false'. Refute it at one input. -/
def shapeSmoothedWrong : ChangeSpec := { name := "shapeSmoothed", fn := fun _ => fun
  | [d] => { results := [.lit (.bool false)], args := [d] }
  | _ => none }
def ShapeSmoothedWrongFalsely : Prop := shapeSmoothedRow.holds Tryd.pinned (OpenSpec.ofChange shapeSmoothedWrong)

/-- 'censuslaw21.ShapeDecides': WHATEVER THE INPUT: true; the input reads as it did. -/
def shapeDecidesSpec : ChangeSpec := { name := "shapeDecides", fn := fun _ => fun
  | [d] => { results := [.lit (.bool true)], args := [d] }
  | _ => none }
def shapeDecidesRow : OpenClaim := { program := "ytpdbfbjfodckgaadoor", sum := "92b6507c1d8843efdfe35a6a37508f815afc299751578117db9a83c6998c7b37", func := "census/censuslaw21.ShapeDecides", spec := "shapeDecides", unfollowed := true, recurses := true, named := ["census/shape.patterns", "math/bits.deBruijn64tab"], apart := false, laid := [("math/bits.deBruijn64tab", laid_math_bits_deBruijn64tab), ("census/shape.patterns", laid_census_shape_patterns)] }
def ShapeDecidesSaid : Prop := shapeDecidesRow.holds Tryd.pinned (OpenSpec.ofChange shapeDecidesSpec)

/-- ITS FALSE NEIGHBOUR: 'it returns false'. Refute it at one input. -/
def shapeDecidesWrong : ChangeSpec := { name := "shapeDecides", fn := fun _ => fun
  | [d] => { results := [.lit (.bool false)], args := [d] }
  | _ => none }
def ShapeDecidesWrongFalsely : Prop := shapeDecidesRow.holds Tryd.pinned (OpenSpec.ofChange shapeDecidesWrong)

/-- 'censuslaw21.ShapeChoice': WHATEVER THE INPUT: true; the input reads as it did. -/
def shapeChoiceSpec : ChangeSpec := { name := "shapeChoice", fn := fun _ => fun
  | [d1, d2] => { results := [.lit (.bool true)], args := [d1, d2] }
  | _ => none }
def shapeChoiceRow : OpenClaim := { program := "ytpdbfbjfodckgaadoor", sum := "92b6507c1d8843efdfe35a6a37508f815afc299751578117db9a83c6998c7b37", func := "census/censuslaw21.ShapeChoice", spec := "shapeChoice", unfollowed := true, recurses := true, named := ["math/bits.deBruijn64tab", "census/shape.patterns"], apart := false, laid := [("math/bits.deBruijn64tab", laid_math_bits_deBruijn64tab), ("census/shape.patterns", laid_census_shape_patterns)] }
def ShapeChoiceSaid : Prop := shapeChoiceRow.holds Tryd.pinned (OpenSpec.ofChange shapeChoiceSpec)

/-- ITS FALSE NEIGHBOUR: 'it returns false'. Refute it at one input. -/
def shapeChoiceWrong : ChangeSpec := { name := "shapeChoice", fn := fun _ => fun
  | [d1, d2] => { results := [.lit (.bool false)], args := [d1, d2] }
  | _ => none }
def ShapeChoiceWrongFalsely : Prop := shapeChoiceRow.holds Tryd.pinned (OpenSpec.ofChange shapeChoiceWrong)

/-- 'censuslaw21.ShapeKnown': WHATEVER THE INPUT: true; the input reads as it did. -/
def shapeKnownSpec : ChangeSpec := { name := "shapeKnown", fn := fun _ => fun
  | [] => { results := [.lit (.bool true)], args := [] }
  | _ => none }
def shapeKnownRow : OpenClaim := { program := "ytpdbfbjfodckgaadoor", sum := "92b6507c1d8843efdfe35a6a37508f815afc299751578117db9a83c6998c7b37", func := "census/censuslaw21.ShapeKnown", spec := "shapeKnown", unfollowed := true, recurses := true, named := ["census/shape.patterns", "math/bits.deBruijn64tab"], apart := false, laid := [("math/bits.deBruijn64tab", laid_math_bits_deBruijn64tab), ("census/shape.patterns", laid_census_shape_patterns)] }
def ShapeKnownSaid : Prop := shapeKnownRow.holds Tryd.pinned (OpenSpec.ofChange shapeKnownSpec)

/-- ITS FALSE NEIGHBOUR: 'it returns false'. Refute it at one input. -/
def shapeKnownWrong : ChangeSpec := { name := "shapeKnown", fn := fun _ => fun
  | [] => { results := [.lit (.bool false)], args := [] }
  | _ => none }
def ShapeKnownWrongFalsely : Prop := shapeKnownRow.holds Tryd.pinned (OpenSpec.ofChange shapeKnownWrong)

/-- 'censuslaw21.ShapeSame': WHATEVER THE INPUT: true; the input reads as it did. -/
def shapeSameSpec : ChangeSpec := { name := "shapeSame", fn := fun _ => fun
  | [d1, d2] => { results := [.lit (.bool true)], args := [d1, d2] }
  | _ => none }
def shapeSameRow : OpenClaim := { program := "ytpdbfbjfodckgaadoor", sum := "92b6507c1d8843efdfe35a6a37508f815afc299751578117db9a83c6998c7b37", func := "census/censuslaw21.ShapeSame", spec := "shapeSame", unfollowed := true, recurses := true, named := ["census/shape.patterns", "math/bits.deBruijn64tab"], apart := false, laid := [("math/bits.deBruijn64tab", laid_math_bits_deBruijn64tab), ("census/shape.patterns", laid_census_shape_patterns)] }
def ShapeSameSaid : Prop := shapeSameRow.holds Tryd.pinned (OpenSpec.ofChange shapeSameSpec)

/-- ITS FALSE NEIGHBOUR: 'it returns false'. Refute it at one input. -/
def shapeSameWrong : ChangeSpec := { name := "shapeSame", fn := fun _ => fun
  | [d1, d2] => { results := [.lit (.bool false)], args := [d1, d2] }
  | _ => none }
def ShapeSameWrongFalsely : Prop := shapeSameRow.holds Tryd.pinned (OpenSpec.ofChange shapeSameWrong)

/-- 'censuslaw21.ShapeCounts': WHATEVER THE INPUT: true; the input reads as it did. -/
def shapeCountsSpec : ChangeSpec := { name := "shapeCounts", fn := fun _ => fun
  | [d1, d2] => { results := [.lit (.bool true)], args := [d1, d2] }
  | _ => none }
def shapeCountsRow : OpenClaim := { program := "ytpdbfbjfodckgaadoor", sum := "92b6507c1d8843efdfe35a6a37508f815afc299751578117db9a83c6998c7b37", func := "census/censuslaw21.ShapeCounts", spec := "shapeCounts", unfollowed := true, recurses := true, named := ["census/shape.patterns", "math/bits.deBruijn64tab"], apart := false, laid := [("math/bits.deBruijn64tab", laid_math_bits_deBruijn64tab), ("census/shape.patterns", laid_census_shape_patterns)] }
def ShapeCountsSaid : Prop := shapeCountsRow.holds Tryd.pinned (OpenSpec.ofChange shapeCountsSpec)

/-- ITS FALSE NEIGHBOUR: 'it returns false'. Refute it at one input. -/
def shapeCountsWrong : ChangeSpec := { name := "shapeCounts", fn := fun _ => fun
  | [d1, d2] => { results := [.lit (.bool false)], args := [d1, d2] }
  | _ => none }
def ShapeCountsWrongFalsely : Prop := shapeCountsRow.holds Tryd.pinned (OpenSpec.ofChange shapeCountsWrong)

/- THE SECOND FORM. 'bulk': how many values and letters a reading holds, each counted each time it is reached (what is shared counts as often as it is met; a slice's spare places count too). A statement '..UptoSaid' is the law's where the arguments, and the package variables that the reading takes, are together of bulk at most 1048576: NARROWER than '..Said'. Prove '..Said' where nothing that the law and all that it calls make is longer than what came in: it says more and counts as full. Else prove '..UptoSaid'. A law counts once. -/
mutual
def uptoBulk {H : Type} : DataW H → Nat
  | .lit (.string bytes) => bytes.length + 1
  | .lit _ => 1
  | .nil => 1
  | .ptr d => uptoBulk d + 1
  | .slice elems spare => uptoBulkAll elems + uptoBulkAll spare + 1
  | .agg parts => uptoBulkAll parts + 1
  | .iface _ d => uptoBulk d + 1
  | .map entries => uptoBulkEntries entries + 1
  | .held _ => 1
def uptoBulkAll {H : Type} : List (DataW H) → Nat
  | [] => 0
  | d :: r => uptoBulk d + uptoBulkAll r
def uptoBulkEntries {H : Type} : List (Lit × DataW H) → Nat
  | [] => 0
  | x :: r => uptoBulkEntry x + uptoBulkEntries r
def uptoBulkEntry {H : Type} : Lit × DataW H → Nat
  | (.string bytes, d) => bytes.length + uptoBulk d + 1
  | (_, d) => uptoBulk d + 1
 end
def uptoSmall : (H : Type) → List (DataW H) → Bool := fun _ ds => decide (uptoBulkAll ds ≤ 1048576)
def OpenSpec.upto (s : _root_.Go.ChangeSpec) : _root_.Go.OpenSpec := { _root_.Go.OpenSpec.ofChange s with cond := some uptoSmall }

/-- 'censuslaw21.ShapeOnce', WHERE WHAT IT READS IS OF BULK AT MOST 1048576: true; the input reads as it did. -/
def shapeOnceUptoRow : OpenClaim := { program := "ytpdbfbjfodckgaadoor", sum := "92b6507c1d8843efdfe35a6a37508f815afc299751578117db9a83c6998c7b37", func := "census/censuslaw21.ShapeOnce", spec := "shapeOnce", unfollowed := true, recurses := true, named := ["census/shape.patterns", "math/bits.deBruijn64tab"], apart := false, laid := [("math/bits.deBruijn64tab", laid_math_bits_deBruijn64tab), ("census/shape.patterns", laid_census_shape_patterns)], narrowed := true }
def ShapeOnceUptoSaid : Prop := shapeOnceUptoRow.holds Tryd.pinned (OpenSpec.upto shapeOnceSpec)

/-- 'censuslaw21.ShapeProperties', WHERE WHAT IT READS IS OF BULK AT MOST 1048576: true; the input reads as it did. -/
def shapePropertiesUptoRow : OpenClaim := { program := "ytpdbfbjfodckgaadoor", sum := "92b6507c1d8843efdfe35a6a37508f815afc299751578117db9a83c6998c7b37", func := "census/censuslaw21.ShapeProperties", spec := "shapeProperties", unfollowed := true, recurses := true, named := ["census/shape.patterns", "math/bits.deBruijn64tab"], apart := false, laid := [("math/bits.deBruijn64tab", laid_math_bits_deBruijn64tab), ("census/shape.patterns", laid_census_shape_patterns)], narrowed := true }
def ShapePropertiesUptoSaid : Prop := shapePropertiesUptoRow.holds Tryd.pinned (OpenSpec.upto shapePropertiesSpec)

/-- 'censuslaw21.ShapeDeterministic', WHERE WHAT IT READS IS OF BULK AT MOST 1048576: true; the input reads as it did. -/
def shapeDeterministicUptoRow : OpenClaim := { program := "ytpdbfbjfodckgaadoor", sum := "92b6507c1d8843efdfe35a6a37508f815afc299751578117db9a83c6998c7b37", func := "census/censuslaw21.ShapeDeterministic", spec := "shapeDeterministic", unfollowed := true, recurses := true, named := ["census/shape.patterns", "math/bits.deBruijn64tab"], apart := false, laid := [("math/bits.deBruijn64tab", laid_math_bits_deBruijn64tab), ("census/shape.patterns", laid_census_shape_patterns)], narrowed := true }
def ShapeDeterministicUptoSaid : Prop := shapeDeterministicUptoRow.holds Tryd.pinned (OpenSpec.upto shapeDeterministicSpec)

/-- 'censuslaw21.ShapeSmoothed', WHERE WHAT IT READS IS OF BULK AT MOST 1048576: true; the input reads as it did. -/
def shapeSmoothedUptoRow : OpenClaim := { program := "ytpdbfbjfodckgaadoor", sum := "92b6507c1d8843efdfe35a6a37508f815afc299751578117db9a83c6998c7b37", func := "census/censuslaw21.ShapeSmoothed", spec := "shapeSmoothed", unfollowed := true, recurses := true, named := ["census/shape.patterns", "math/bits.deBruijn64tab"], apart := false, laid := [("math/bits.deBruijn64tab", laid_math_bits_deBruijn64tab), ("census/shape.patterns", laid_census_shape_patterns)], narrowed := true }
def ShapeSmoothedUptoSaid : Prop := shapeSmoothedUptoRow.holds Tryd.pinned (OpenSpec.upto shapeSmoothedSpec)

/-- 'censuslaw21.ShapeDecides', WHERE WHAT IT READS IS OF BULK AT MOST 1048576: true; the input reads as it did. -/
def shapeDecidesUptoRow : OpenClaim := { program := "ytpdbfbjfodckgaadoor", sum := "92b6507c1d8843efdfe35a6a37508f815afc299751578117db9a83c6998c7b37", func := "census/censuslaw21.ShapeDecides", spec := "shapeDecides", unfollowed := true, recurses := true, named := ["census/shape.patterns", "math/bits.deBruijn64tab"], apart := false, laid := [("math/bits.deBruijn64tab", laid_math_bits_deBruijn64tab), ("census/shape.patterns", laid_census_shape_patterns)], narrowed := true }
def ShapeDecidesUptoSaid : Prop := shapeDecidesUptoRow.holds Tryd.pinned (OpenSpec.upto shapeDecidesSpec)

/-- 'censuslaw21.ShapeChoice', WHERE WHAT IT READS IS OF BULK AT MOST 1048576: true; the input reads as it did. -/
def shapeChoiceUptoRow : OpenClaim := { program := "ytpdbfbjfodckgaadoor", sum := "92b6507c1d8843efdfe35a6a37508f815afc299751578117db9a83c6998c7b37", func := "census/censuslaw21.ShapeChoice", spec := "shapeChoice", unfollowed := true, recurses := true, named := ["math/bits.deBruijn64tab", "census/shape.patterns"], apart := false, laid := [("math/bits.deBruijn64tab", laid_math_bits_deBruijn64tab), ("census/shape.patterns", laid_census_shape_patterns)], narrowed := true }
def ShapeChoiceUptoSaid : Prop := shapeChoiceUptoRow.holds Tryd.pinned (OpenSpec.upto shapeChoiceSpec)

/-- 'censuslaw21.ShapeKnown', WHERE WHAT IT READS IS OF BULK AT MOST 1048576: true; the input reads as it did. -/
def shapeKnownUptoRow : OpenClaim := { program := "ytpdbfbjfodckgaadoor", sum := "92b6507c1d8843efdfe35a6a37508f815afc299751578117db9a83c6998c7b37", func := "census/censuslaw21.ShapeKnown", spec := "shapeKnown", unfollowed := true, recurses := true, named := ["census/shape.patterns", "math/bits.deBruijn64tab"], apart := false, laid := [("math/bits.deBruijn64tab", laid_math_bits_deBruijn64tab), ("census/shape.patterns", laid_census_shape_patterns)], narrowed := true }
def ShapeKnownUptoSaid : Prop := shapeKnownUptoRow.holds Tryd.pinned (OpenSpec.upto shapeKnownSpec)

/-- 'censuslaw21.ShapeSame', WHERE WHAT IT READS IS OF BULK AT MOST 1048576: true; the input reads as it did. -/
def shapeSameUptoRow : OpenClaim := { program := "ytpdbfbjfodckgaadoor", sum := "92b6507c1d8843efdfe35a6a37508f815afc299751578117db9a83c6998c7b37", func := "census/censuslaw21.ShapeSame", spec := "shapeSame", unfollowed := true, recurses := true, named := ["census/shape.patterns", "math/bits.deBruijn64tab"], apart := false, laid := [("math/bits.deBruijn64tab", laid_math_bits_deBruijn64tab), ("census/shape.patterns", laid_census_shape_patterns)], narrowed := true }
def ShapeSameUptoSaid : Prop := shapeSameUptoRow.holds Tryd.pinned (OpenSpec.upto shapeSameSpec)

/-- 'censuslaw21.ShapeCounts', WHERE WHAT IT READS IS OF BULK AT MOST 1048576: true; the input reads as it did. -/
def shapeCountsUptoRow : OpenClaim := { program := "ytpdbfbjfodckgaadoor", sum := "92b6507c1d8843efdfe35a6a37508f815afc299751578117db9a83c6998c7b37", func := "census/censuslaw21.ShapeCounts", spec := "shapeCounts", unfollowed := true, recurses := true, named := ["census/shape.patterns", "math/bits.deBruijn64tab"], apart := false, laid := [("math/bits.deBruijn64tab", laid_math_bits_deBruijn64tab), ("census/shape.patterns", laid_census_shape_patterns)], narrowed := true }
def ShapeCountsUptoSaid : Prop := shapeCountsUptoRow.holds Tryd.pinned (OpenSpec.upto shapeCountsSpec)

end Rows
end Go.Proofs.YtpdbfbjfodckgaaDoor
