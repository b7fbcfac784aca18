/-
  No cell of these rows narrows 'for every input' (looked for: loops, veiled, ifaces, maps, wideKeys, modest, calm, conditions, laid).
  DERIVED. THE GIVEN ROWS OF THIS SEAT. 11 by the template 'for every input the law returns true; each argument reads behind the call as it read before'; 0 by the template 'total and deterministic' (their statements: YtkfmblpcfgdgpaaTotals.lean).
  GIVEN WITH THE SEED: the statements are not yours to turn. If you find one false, say at which input.
  Laid BY PROGRAM, IN A SANDBOX (cutbox-rows.mjs): the forced cells as the released guide's own fill.sh prints them over the translation 549688ee987d37b2… (all of the seat's roots in one cut). By AI agents, Wed Nov 11 2026. No macro, syntax, notation, axiom, sorry.
-/
import Derived.Test.YtkfmblpcfgdgpaaChecked
import GoSem.Claim
import GoSem.ClaimJoined
import GoSem.ClaimMapViews
import Derived.JoinedTies
import Derived.KernelRfl
namespace Go.Proofs.Ytkfmblpcfgdgpaa
/- THE CELL 'sum', in the pinned program and in every row, IS THE sha256 OF THE DUMP (.gsa) THAT YtkfmblpcfgdgpaaProg.lean LOADS. Nothing in Lean hashes anything: it is a label: what it is worth is what the hold of that sum in a sandbox is worth. -/
noncomputable def Try.pinned : Pinned := { name := "ytkfmblpcfgdgpaa", sum := "549688ee987d37b2832f516e1d70364fb83ebc3dde2271751df8d531c98e8451", checked := Try.checked }
namespace Rows
def none {H : Type} : Left H := { results := [], args := [] }

/-- 'censuslaw43.FileWrites': WHATEVER THE INPUT: true; the input reads as it did. -/
def fileWritesSpec : ChangeSpec := { name := "fileWrites", fn := fun _ => fun
  | [d] => { results := [.lit (.bool true)], args := [d] }
  | _ => none }
def fileWritesRow : OpenClaim := { program := "ytkfmblpcfgdgpaa", sum := "549688ee987d37b2832f516e1d70364fb83ebc3dde2271751df8d531c98e8451", func := "census/censuslaw43.FileWrites", spec := "fileWrites", unfollowed := true, recurses := true, apart := false }
def FileWritesSaid : Prop := fileWritesRow.holds Try.pinned (OpenSpec.ofChange fileWritesSpec)

/-- ITS FALSE NEIGHBOUR: 'it returns false'. Refute it at one input. -/
def fileWritesWrong : ChangeSpec := { name := "fileWrites", fn := fun _ => fun
  | [d] => { results := [.lit (.bool false)], args := [d] }
  | _ => none }
def FileWritesWrongFalsely : Prop := fileWritesRow.holds Try.pinned (OpenSpec.ofChange fileWritesWrong)

/-- 'censuslaw43.FileReads': WHATEVER THE INPUT: true; the input reads as it did. -/
def fileReadsSpec : ChangeSpec := { name := "fileReads", fn := fun _ => fun
  | [d] => { results := [.lit (.bool true)], args := [d] }
  | _ => none }
def fileReadsRow : OpenClaim := { program := "ytkfmblpcfgdgpaa", sum := "549688ee987d37b2832f516e1d70364fb83ebc3dde2271751df8d531c98e8451", func := "census/censuslaw43.FileReads", spec := "fileReads", unfollowed := true, recurses := true, apart := false }
def FileReadsSaid : Prop := fileReadsRow.holds Try.pinned (OpenSpec.ofChange fileReadsSpec)

/-- ITS FALSE NEIGHBOUR: 'it returns false'. Refute it at one input. -/
def fileReadsWrong : ChangeSpec := { name := "fileReads", fn := fun _ => fun
  | [d] => { results := [.lit (.bool false)], args := [d] }
  | _ => none }
def FileReadsWrongFalsely : Prop := fileReadsRow.holds Try.pinned (OpenSpec.ofChange fileReadsWrong)

/-- 'censuslaw43.FileSeals': WHATEVER THE INPUT: true; the input reads as it did. -/
def fileSealsSpec : ChangeSpec := { name := "fileSeals", fn := fun _ => fun
  | [d] => { results := [.lit (.bool true)], args := [d] }
  | _ => none }
def fileSealsRow : OpenClaim := { program := "ytkfmblpcfgdgpaa", sum := "549688ee987d37b2832f516e1d70364fb83ebc3dde2271751df8d531c98e8451", func := "census/censuslaw43.FileSeals", spec := "fileSeals", unfollowed := true, recurses := true, apart := false }
def FileSealsSaid : Prop := fileSealsRow.holds Try.pinned (OpenSpec.ofChange fileSealsSpec)

/-- ITS FALSE NEIGHBOUR: 'it returns false'. Refute it at one input. -/
def fileSealsWrong : ChangeSpec := { name := "fileSeals", fn := fun _ => fun
  | [d] => { results := [.lit (.bool false)], args := [d] }
  | _ => none }
def FileSealsWrongFalsely : Prop := fileSealsRow.holds Try.pinned (OpenSpec.ofChange fileSealsWrong)

/-- 'censuslaw43.FileBack': WHATEVER THE INPUT: true; the input reads as it did. -/
def fileBackSpec : ChangeSpec := { name := "fileBack", fn := fun _ => fun
  | [d] => { results := [.lit (.bool true)], args := [d] }
  | _ => none }
def fileBackRow : OpenClaim := { program := "ytkfmblpcfgdgpaa", sum := "549688ee987d37b2832f516e1d70364fb83ebc3dde2271751df8d531c98e8451", func := "census/censuslaw43.FileBack", spec := "fileBack", unfollowed := true, recurses := true, apart := false }
def FileBackSaid : Prop := fileBackRow.holds Try.pinned (OpenSpec.ofChange fileBackSpec)

/-- ITS FALSE NEIGHBOUR: 'it returns false'. Refute it at one input. -/
def fileBackWrong : ChangeSpec := { name := "fileBack", fn := fun _ => fun
  | [d] => { results := [.lit (.bool false)], args := [d] }
  | _ => none }
def FileBackWrongFalsely : Prop := fileBackRow.holds Try.pinned (OpenSpec.ofChange fileBackWrong)

/-- 'censuslaw43.FileOne': WHATEVER THE INPUT: true; the input reads as it did. -/
def fileOneSpec : ChangeSpec := { name := "fileOne", fn := fun _ => fun
  | [d] => { results := [.lit (.bool true)], args := [d] }
  | _ => none }
def fileOneRow : OpenClaim := { program := "ytkfmblpcfgdgpaa", sum := "549688ee987d37b2832f516e1d70364fb83ebc3dde2271751df8d531c98e8451", func := "census/censuslaw43.FileOne", spec := "fileOne", unfollowed := true, recurses := true, apart := false }
def FileOneSaid : Prop := fileOneRow.holds Try.pinned (OpenSpec.ofChange fileOneSpec)

/-- ITS FALSE NEIGHBOUR: 'it returns false'. Refute it at one input. -/
def fileOneWrong : ChangeSpec := { name := "fileOne", fn := fun _ => fun
  | [d] => { results := [.lit (.bool false)], args := [d] }
  | _ => none }
def FileOneWrongFalsely : Prop := fileOneRow.holds Try.pinned (OpenSpec.ofChange fileOneWrong)

/-- 'censuslaw43.FileApart': WHATEVER THE INPUT: true; the input reads as it did. -/
def fileApartSpec : ChangeSpec := { name := "fileApart", fn := fun _ => fun
  | [d1, d2] => { results := [.lit (.bool true)], args := [d1, d2] }
  | _ => none }
def fileApartRow : OpenClaim := { program := "ytkfmblpcfgdgpaa", sum := "549688ee987d37b2832f516e1d70364fb83ebc3dde2271751df8d531c98e8451", func := "census/censuslaw43.FileApart", spec := "fileApart", unfollowed := true, recurses := true, apart := false }
def FileApartSaid : Prop := fileApartRow.holds Try.pinned (OpenSpec.ofChange fileApartSpec)

/-- ITS FALSE NEIGHBOUR: 'it returns false'. Refute it at one input. -/
def fileApartWrong : ChangeSpec := { name := "fileApart", fn := fun _ => fun
  | [d1, d2] => { results := [.lit (.bool false)], args := [d1, d2] }
  | _ => none }
def FileApartWrongFalsely : Prop := fileApartRow.holds Try.pinned (OpenSpec.ofChange fileApartWrong)

/-- 'censuslaw43.FileDamage': WHATEVER THE INPUT: true; the input reads as it did. -/
def fileDamageSpec : ChangeSpec := { name := "fileDamage", fn := fun _ => fun
  | [d1, d2, d3, d4] => { results := [.lit (.bool true)], args := [d1, d2, d3, d4] }
  | _ => none }
def fileDamageRow : OpenClaim := { program := "ytkfmblpcfgdgpaa", sum := "549688ee987d37b2832f516e1d70364fb83ebc3dde2271751df8d531c98e8451", func := "census/censuslaw43.FileDamage", spec := "fileDamage", unfollowed := true, recurses := true, apart := false }
def FileDamageSaid : Prop := fileDamageRow.holds Try.pinned (OpenSpec.ofChange fileDamageSpec)

/-- ITS FALSE NEIGHBOUR: 'it returns false'. Refute it at one input. -/
def fileDamageWrong : ChangeSpec := { name := "fileDamage", fn := fun _ => fun
  | [d1, d2, d3, d4] => { results := [.lit (.bool false)], args := [d1, d2, d3, d4] }
  | _ => none }
def FileDamageWrongFalsely : Prop := fileDamageRow.holds Try.pinned (OpenSpec.ofChange fileDamageWrong)

/-- 'censuslaw43.FilePeeks': WHATEVER THE INPUT: true; the input reads as it did. -/
def filePeeksSpec : ChangeSpec := { name := "filePeeks", fn := fun _ => fun
  | [d] => { results := [.lit (.bool true)], args := [d] }
  | _ => none }
def filePeeksRow : OpenClaim := { program := "ytkfmblpcfgdgpaa", sum := "549688ee987d37b2832f516e1d70364fb83ebc3dde2271751df8d531c98e8451", func := "census/censuslaw43.FilePeeks", spec := "filePeeks", unfollowed := true, recurses := true, apart := false }
def FilePeeksSaid : Prop := filePeeksRow.holds Try.pinned (OpenSpec.ofChange filePeeksSpec)

/-- ITS FALSE NEIGHBOUR: 'it returns false'. Refute it at one input. -/
def filePeeksWrong : ChangeSpec := { name := "filePeeks", fn := fun _ => fun
  | [d] => { results := [.lit (.bool false)], args := [d] }
  | _ => none }
def FilePeeksWrongFalsely : Prop := filePeeksRow.holds Try.pinned (OpenSpec.ofChange filePeeksWrong)

/-- 'censuslaw43.FileSees': WHATEVER THE INPUT: true; the input reads as it did. -/
def fileSeesSpec : ChangeSpec := { name := "fileSees", fn := fun _ => fun
  | [d] => { results := [.lit (.bool true)], args := [d] }
  | _ => none }
def fileSeesRow : OpenClaim := { program := "ytkfmblpcfgdgpaa", sum := "549688ee987d37b2832f516e1d70364fb83ebc3dde2271751df8d531c98e8451", func := "census/censuslaw43.FileSees", spec := "fileSees", unfollowed := true, recurses := true, apart := false }
def FileSeesSaid : Prop := fileSeesRow.holds Try.pinned (OpenSpec.ofChange fileSeesSpec)

/-- ITS FALSE NEIGHBOUR: 'it returns false'. Refute it at one input. -/
def fileSeesWrong : ChangeSpec := { name := "fileSees", fn := fun _ => fun
  | [d] => { results := [.lit (.bool false)], args := [d] }
  | _ => none }
def FileSeesWrongFalsely : Prop := fileSeesRow.holds Try.pinned (OpenSpec.ofChange fileSeesWrong)

/-- 'censuslaw43.FileLong': WHATEVER THE INPUT: true; the input reads as it did. -/
def fileLongSpec : ChangeSpec := { name := "fileLong", fn := fun _ => fun
  | [] => { results := [.lit (.bool true)], args := [] }
  | _ => none }
def fileLongRow : OpenClaim := { program := "ytkfmblpcfgdgpaa", sum := "549688ee987d37b2832f516e1d70364fb83ebc3dde2271751df8d531c98e8451", func := "census/censuslaw43.FileLong", spec := "fileLong", unfollowed := true, recurses := true, apart := false }
def FileLongSaid : Prop := fileLongRow.holds Try.pinned (OpenSpec.ofChange fileLongSpec)

/-- ITS FALSE NEIGHBOUR: 'it returns false'. Refute it at one input. -/
def fileLongWrong : ChangeSpec := { name := "fileLong", fn := fun _ => fun
  | [] => { results := [.lit (.bool false)], args := [] }
  | _ => none }
def FileLongWrongFalsely : Prop := fileLongRow.holds Try.pinned (OpenSpec.ofChange fileLongWrong)

/-- 'censuslaw43.FileKnown': WHATEVER THE INPUT: true; the input reads as it did. -/
def fileKnownSpec : ChangeSpec := { name := "fileKnown", fn := fun _ => fun
  | [] => { results := [.lit (.bool true)], args := [] }
  | _ => none }
def fileKnownRow : OpenClaim := { program := "ytkfmblpcfgdgpaa", sum := "549688ee987d37b2832f516e1d70364fb83ebc3dde2271751df8d531c98e8451", func := "census/censuslaw43.FileKnown", spec := "fileKnown", unfollowed := true, recurses := true, apart := false }
def FileKnownSaid : Prop := fileKnownRow.holds Try.pinned (OpenSpec.ofChange fileKnownSpec)

/-- ITS FALSE NEIGHBOUR: 'it returns false'. Refute it at one input. -/
def fileKnownWrong : ChangeSpec := { name := "fileKnown", fn := fun _ => fun
  | [] => { results := [.lit (.bool false)], args := [] }
  | _ => none }
def FileKnownWrongFalsely : Prop := fileKnownRow.holds Try.pinned (OpenSpec.ofChange fileKnownWrong)

/- THE SECOND FORM. 'bulk': how many values and letters a reading holds, each counted each time it is reached (what is shared counts as often as it is met; a slice's spare places count too). A statement '..UptoSaid' is the law's where the arguments, and the package variables that the reading takes, are together of bulk at most 1048576: NARROWER than '..Said'. Prove '..Said' where nothing that the law and all that it calls make is longer than what came in: it says more and counts as full. Else prove '..UptoSaid'. A law counts once. -/
mutual
def uptoBulk {H : Type} : DataW H → Nat
  | .lit (.string bytes) => bytes.length + 1
  | .lit _ => 1
  | .nil => 1
  | .ptr d => uptoBulk d + 1
  | .slice elems spare => uptoBulkAll elems + uptoBulkAll spare + 1
  | .agg parts => uptoBulkAll parts + 1
  | .iface _ d => uptoBulk d + 1
  | .map entries => uptoBulkEntries entries + 1
  | .held _ => 1
def uptoBulkAll {H : Type} : List (DataW H) → Nat
  | [] => 0
  | d :: r => uptoBulk d + uptoBulkAll r
def uptoBulkEntries {H : Type} : List (Lit × DataW H) → Nat
  | [] => 0
  | x :: r => uptoBulkEntry x + uptoBulkEntries r
def uptoBulkEntry {H : Type} : Lit × DataW H → Nat
  | (.string bytes, d) => bytes.length + uptoBulk d + 1
  | (_, d) => uptoBulk d + 1
 end
def uptoSmall : (H : Type) → List (DataW H) → Bool := fun _ ds => decide (uptoBulkAll ds ≤ 1048576)
def OpenSpec.upto (s : _root_.Go.ChangeSpec) : _root_.Go.OpenSpec := { _root_.Go.OpenSpec.ofChange s with cond := some uptoSmall }

/-- 'censuslaw43.FileWrites', WHERE WHAT IT READS IS OF BULK AT MOST 1048576: true; the input reads as it did. -/
def fileWritesUptoRow : OpenClaim := { program := "ytkfmblpcfgdgpaa", sum := "549688ee987d37b2832f516e1d70364fb83ebc3dde2271751df8d531c98e8451", func := "census/censuslaw43.FileWrites", spec := "fileWrites", unfollowed := true, recurses := true, apart := false, narrowed := true }
def FileWritesUptoSaid : Prop := fileWritesUptoRow.holds Try.pinned (OpenSpec.upto fileWritesSpec)

/-- 'censuslaw43.FileReads', WHERE WHAT IT READS IS OF BULK AT MOST 1048576: true; the input reads as it did. -/
def fileReadsUptoRow : OpenClaim := { program := "ytkfmblpcfgdgpaa", sum := "549688ee987d37b2832f516e1d70364fb83ebc3dde2271751df8d531c98e8451", func := "census/censuslaw43.FileReads", spec := "fileReads", unfollowed := true, recurses := true, apart := false, narrowed := true }
def FileReadsUptoSaid : Prop := fileReadsUptoRow.holds Try.pinned (OpenSpec.upto fileReadsSpec)

/-- 'censuslaw43.FileSeals', WHERE WHAT IT READS IS OF BULK AT MOST 1048576: true; the input reads as it did. -/
def fileSealsUptoRow : OpenClaim := { program := "ytkfmblpcfgdgpaa", sum := "549688ee987d37b2832f516e1d70364fb83ebc3dde2271751df8d531c98e8451", func := "census/censuslaw43.FileSeals", spec := "fileSeals", unfollowed := true, recurses := true, apart := false, narrowed := true }
def FileSealsUptoSaid : Prop := fileSealsUptoRow.holds Try.pinned (OpenSpec.upto fileSealsSpec)

/-- 'censuslaw43.FileBack', WHERE WHAT IT READS IS OF BULK AT MOST 1048576: true; the input reads as it did. -/
def fileBackUptoRow : OpenClaim := { program := "ytkfmblpcfgdgpaa", sum := "549688ee987d37b2832f516e1d70364fb83ebc3dde2271751df8d531c98e8451", func := "census/censuslaw43.FileBack", spec := "fileBack", unfollowed := true, recurses := true, apart := false, narrowed := true }
def FileBackUptoSaid : Prop := fileBackUptoRow.holds Try.pinned (OpenSpec.upto fileBackSpec)

/-- 'censuslaw43.FileOne', WHERE WHAT IT READS IS OF BULK AT MOST 1048576: true; the input reads as it did. -/
def fileOneUptoRow : OpenClaim := { program := "ytkfmblpcfgdgpaa", sum := "549688ee987d37b2832f516e1d70364fb83ebc3dde2271751df8d531c98e8451", func := "census/censuslaw43.FileOne", spec := "fileOne", unfollowed := true, recurses := true, apart := false, narrowed := true }
def FileOneUptoSaid : Prop := fileOneUptoRow.holds Try.pinned (OpenSpec.upto fileOneSpec)

/-- 'censuslaw43.FileApart', WHERE WHAT IT READS IS OF BULK AT MOST 1048576: true; the input reads as it did. -/
def fileApartUptoRow : OpenClaim := { program := "ytkfmblpcfgdgpaa", sum := "549688ee987d37b2832f516e1d70364fb83ebc3dde2271751df8d531c98e8451", func := "census/censuslaw43.FileApart", spec := "fileApart", unfollowed := true, recurses := true, apart := false, narrowed := true }
def FileApartUptoSaid : Prop := fileApartUptoRow.holds Try.pinned (OpenSpec.upto fileApartSpec)

/-- 'censuslaw43.FileDamage', WHERE WHAT IT READS IS OF BULK AT MOST 1048576: true; the input reads as it did. -/
def fileDamageUptoRow : OpenClaim := { program := "ytkfmblpcfgdgpaa", sum := "549688ee987d37b2832f516e1d70364fb83ebc3dde2271751df8d531c98e8451", func := "census/censuslaw43.FileDamage", spec := "fileDamage", unfollowed := true, recurses := true, apart := false, narrowed := true }
def FileDamageUptoSaid : Prop := fileDamageUptoRow.holds Try.pinned (OpenSpec.upto fileDamageSpec)

/-- 'censuslaw43.FilePeeks', WHERE WHAT IT READS IS OF BULK AT MOST 1048576: true; the input reads as it did. -/
def filePeeksUptoRow : OpenClaim := { program := "ytkfmblpcfgdgpaa", sum := "549688ee987d37b2832f516e1d70364fb83ebc3dde2271751df8d531c98e8451", func := "census/censuslaw43.FilePeeks", spec := "filePeeks", unfollowed := true, recurses := true, apart := false, narrowed := true }
def FilePeeksUptoSaid : Prop := filePeeksUptoRow.holds Try.pinned (OpenSpec.upto filePeeksSpec)

/-- 'censuslaw43.FileSees', WHERE WHAT IT READS IS OF BULK AT MOST 1048576: true; the input reads as it did. -/
def fileSeesUptoRow : OpenClaim := { program := "ytkfmblpcfgdgpaa", sum := "549688ee987d37b2832f516e1d70364fb83ebc3dde2271751df8d531c98e8451", func := "census/censuslaw43.FileSees", spec := "fileSees", unfollowed := true, recurses := true, apart := false, narrowed := true }
def FileSeesUptoSaid : Prop := fileSeesUptoRow.holds Try.pinned (OpenSpec.upto fileSeesSpec)

/-- 'censuslaw43.FileLong', WHERE WHAT IT READS IS OF BULK AT MOST 1048576: true; the input reads as it did. -/
def fileLongUptoRow : OpenClaim := { program := "ytkfmblpcfgdgpaa", sum := "549688ee987d37b2832f516e1d70364fb83ebc3dde2271751df8d531c98e8451", func := "census/censuslaw43.FileLong", spec := "fileLong", unfollowed := true, recurses := true, apart := false, narrowed := true }
def FileLongUptoSaid : Prop := fileLongUptoRow.holds Try.pinned (OpenSpec.upto fileLongSpec)

/-- 'censuslaw43.FileKnown', WHERE WHAT IT READS IS OF BULK AT MOST 1048576: true; the input reads as it did. -/
def fileKnownUptoRow : OpenClaim := { program := "ytkfmblpcfgdgpaa", sum := "549688ee987d37b2832f516e1d70364fb83ebc3dde2271751df8d531c98e8451", func := "census/censuslaw43.FileKnown", spec := "fileKnown", unfollowed := true, recurses := true, apart := false, narrowed := true }
def FileKnownUptoSaid : Prop := fileKnownUptoRow.holds Try.pinned (OpenSpec.upto fileKnownSpec)

end Rows
end Go.Proofs.Ytkfmblpcfgdgpaa
