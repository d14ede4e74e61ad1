/-
  No cell of these rows narrows 'for every input' (looked for: loops, veiled, ifaces, maps, wideKeys, modest, calm, conditions, laid).
  DERIVED. THE GIVEN ROWS OF THIS SEAT. 15 by the template 'for every input the law returns true; each argument reads behind the call as it read before'; 0 by the template 'total and deterministic' (their statements: YtekmjegeiminnaaTotals.lean).
  GIVEN WITH THE SEED: the statements are not yours to turn. If you find one false, say at which input.
  Laid BY PROGRAM, IN A SANDBOX (cutbox-rows.mjs): the forced cells as the released guide's own fill.sh prints them over the translation a212c205f14698c9… (all of the seat's roots in one cut). By AI agents, Wed Nov 11 2026. No macro, syntax, notation, axiom, sorry.
-/
import Derived.Test.YtekmjegeiminnaaChecked
import GoSem.Claim
import GoSem.ClaimJoined
import GoSem.ClaimMapViews
import Derived.JoinedTies
import Derived.KernelRfl
namespace Go.Proofs.Ytekmjegeiminnaa
/- THE CELL 'sum', in the pinned program and in every row, IS THE sha256 OF THE DUMP (.gsa) THAT YtekmjegeiminnaaProg.lean LOADS. Nothing in Lean hashes anything: it is a label: what it is worth is what the hold of that sum in a sandbox is worth. -/
noncomputable def Try.pinned : Pinned := { name := "ytekmjegeiminnaa", sum := "a212c205f14698c9717702ad02962e41151c07b363b047bf5df73711a592b8f8", checked := Try.checked }
namespace Rows
def none {H : Type} : Left H := { results := [], args := [] }

/-- 'octavolaw02.BytesSums': WHATEVER THE INPUT: true; the input reads as it did. -/
def bytesSumsSpec : ChangeSpec := { name := "bytesSums", fn := fun _ => fun
  | [d] => { results := [.lit (.bool true)], args := [d] }
  | _ => none }
def bytesSumsRow : OpenClaim := { program := "ytekmjegeiminnaa", sum := "a212c205f14698c9717702ad02962e41151c07b363b047bf5df73711a592b8f8", func := "octavo/octavolaw02.BytesSums", spec := "bytesSums", unfollowed := true, recurses := true, apart := false }
def BytesSumsSaid : Prop := bytesSumsRow.holds Try.pinned (OpenSpec.ofChange bytesSumsSpec)

/-- ITS FALSE NEIGHBOUR: 'it returns false'. Refute it at one input. -/
def bytesSumsWrong : ChangeSpec := { name := "bytesSums", fn := fun _ => fun
  | [d] => { results := [.lit (.bool false)], args := [d] }
  | _ => none }
def BytesSumsWrongFalsely : Prop := bytesSumsRow.holds Try.pinned (OpenSpec.ofChange bytesSumsWrong)

/-- 'octavolaw02.BytesUnframes': WHATEVER THE INPUT: true; the input reads as it did. -/
def bytesUnframesSpec : ChangeSpec := { name := "bytesUnframes", fn := fun _ => fun
  | [d] => { results := [.lit (.bool true)], args := [d] }
  | _ => none }
def bytesUnframesRow : OpenClaim := { program := "ytekmjegeiminnaa", sum := "a212c205f14698c9717702ad02962e41151c07b363b047bf5df73711a592b8f8", func := "octavo/octavolaw02.BytesUnframes", spec := "bytesUnframes", unfollowed := true, recurses := true, apart := false }
def BytesUnframesSaid : Prop := bytesUnframesRow.holds Try.pinned (OpenSpec.ofChange bytesUnframesSpec)

/-- ITS FALSE NEIGHBOUR: 'it returns false'. Refute it at one input. -/
def bytesUnframesWrong : ChangeSpec := { name := "bytesUnframes", fn := fun _ => fun
  | [d] => { results := [.lit (.bool false)], args := [d] }
  | _ => none }
def BytesUnframesWrongFalsely : Prop := bytesUnframesRow.holds Try.pinned (OpenSpec.ofChange bytesUnframesWrong)

/-- 'octavolaw02.BytesInts': WHATEVER THE INPUT: true; the input reads as it did. -/
def bytesIntsSpec : ChangeSpec := { name := "bytesInts", fn := fun _ => fun
  | [d] => { results := [.lit (.bool true)], args := [d] }
  | _ => none }
def bytesIntsRow : OpenClaim := { program := "ytekmjegeiminnaa", sum := "a212c205f14698c9717702ad02962e41151c07b363b047bf5df73711a592b8f8", func := "octavo/octavolaw02.BytesInts", spec := "bytesInts", unfollowed := true, recurses := true, apart := false }
def BytesIntsSaid : Prop := bytesIntsRow.holds Try.pinned (OpenSpec.ofChange bytesIntsSpec)

/-- ITS FALSE NEIGHBOUR: 'it returns false'. Refute it at one input. -/
def bytesIntsWrong : ChangeSpec := { name := "bytesInts", fn := fun _ => fun
  | [d] => { results := [.lit (.bool false)], args := [d] }
  | _ => none }
def BytesIntsWrongFalsely : Prop := bytesIntsRow.holds Try.pinned (OpenSpec.ofChange bytesIntsWrong)

/-- 'octavolaw02.BytesTells': WHATEVER THE INPUT: true; the input reads as it did. -/
def bytesTellsSpec : ChangeSpec := { name := "bytesTells", fn := fun _ => fun
  | [d1, d2, d3] => { results := [.lit (.bool true)], args := [d1, d2, d3] }
  | _ => none }
def bytesTellsRow : OpenClaim := { program := "ytekmjegeiminnaa", sum := "a212c205f14698c9717702ad02962e41151c07b363b047bf5df73711a592b8f8", func := "octavo/octavolaw02.BytesTells", spec := "bytesTells", unfollowed := true, recurses := true, apart := false }
def BytesTellsSaid : Prop := bytesTellsRow.holds Try.pinned (OpenSpec.ofChange bytesTellsSpec)

/-- ITS FALSE NEIGHBOUR: 'it returns false'. Refute it at one input. -/
def bytesTellsWrong : ChangeSpec := { name := "bytesTells", fn := fun _ => fun
  | [d1, d2, d3] => { results := [.lit (.bool false)], args := [d1, d2, d3] }
  | _ => none }
def BytesTellsWrongFalsely : Prop := bytesTellsRow.holds Try.pinned (OpenSpec.ofChange bytesTellsWrong)

/-- 'octavolaw03.BoxBack': WHATEVER THE INPUT: true; the input reads as it did. -/
def boxBackSpec : ChangeSpec := { name := "boxBack", fn := fun _ => fun
  | [d1, d2, d3] => { results := [.lit (.bool true)], args := [d1, d2, d3] }
  | _ => none }
def boxBackRow : OpenClaim := { program := "ytekmjegeiminnaa", sum := "a212c205f14698c9717702ad02962e41151c07b363b047bf5df73711a592b8f8", func := "octavo/octavolaw03.BoxBack", spec := "boxBack", unfollowed := true, recurses := true, apart := false }
def BoxBackSaid : Prop := boxBackRow.holds Try.pinned (OpenSpec.ofChange boxBackSpec)

/-- ITS FALSE NEIGHBOUR: 'it returns false'. Refute it at one input. -/
def boxBackWrong : ChangeSpec := { name := "boxBack", fn := fun _ => fun
  | [d1, d2, d3] => { results := [.lit (.bool false)], args := [d1, d2, d3] }
  | _ => none }
def BoxBackWrongFalsely : Prop := boxBackRow.holds Try.pinned (OpenSpec.ofChange boxBackWrong)

/-- 'octavolaw03.BoxReads': WHATEVER THE INPUT: true; the input reads as it did. -/
def boxReadsSpec : ChangeSpec := { name := "boxReads", fn := fun _ => fun
  | [d] => { results := [.lit (.bool true)], args := [d] }
  | _ => none }
def boxReadsRow : OpenClaim := { program := "ytekmjegeiminnaa", sum := "a212c205f14698c9717702ad02962e41151c07b363b047bf5df73711a592b8f8", func := "octavo/octavolaw03.BoxReads", spec := "boxReads", unfollowed := true, recurses := true, apart := false }
def BoxReadsSaid : Prop := boxReadsRow.holds Try.pinned (OpenSpec.ofChange boxReadsSpec)

/-- ITS FALSE NEIGHBOUR: 'it returns false'. Refute it at one input. -/
def boxReadsWrong : ChangeSpec := { name := "boxReads", fn := fun _ => fun
  | [d] => { results := [.lit (.bool false)], args := [d] }
  | _ => none }
def BoxReadsWrongFalsely : Prop := boxReadsRow.holds Try.pinned (OpenSpec.ofChange boxReadsWrong)

/-- 'octavolaw03.BoxWrites': WHATEVER THE INPUT: true; the input reads as it did. -/
def boxWritesSpec : ChangeSpec := { name := "boxWrites", fn := fun _ => fun
  | [d1, d2] => { results := [.lit (.bool true)], args := [d1, d2] }
  | _ => none }
def boxWritesRow : OpenClaim := { program := "ytekmjegeiminnaa", sum := "a212c205f14698c9717702ad02962e41151c07b363b047bf5df73711a592b8f8", func := "octavo/octavolaw03.BoxWrites", spec := "boxWrites", unfollowed := true, recurses := true, apart := false }
def BoxWritesSaid : Prop := boxWritesRow.holds Try.pinned (OpenSpec.ofChange boxWritesSpec)

/-- ITS FALSE NEIGHBOUR: 'it returns false'. Refute it at one input. -/
def boxWritesWrong : ChangeSpec := { name := "boxWrites", fn := fun _ => fun
  | [d1, d2] => { results := [.lit (.bool false)], args := [d1, d2] }
  | _ => none }
def BoxWritesWrongFalsely : Prop := boxWritesRow.holds Try.pinned (OpenSpec.ofChange boxWritesWrong)

/-- 'octavolaw02.BytesBooks': WHATEVER THE INPUT: true; the input reads as it did. -/
def bytesBooksSpec : ChangeSpec := { name := "bytesBooks", fn := fun _ => fun
  | [d] => { results := [.lit (.bool true)], args := [d] }
  | _ => none }
def bytesBooksRow : OpenClaim := { program := "ytekmjegeiminnaa", sum := "a212c205f14698c9717702ad02962e41151c07b363b047bf5df73711a592b8f8", func := "octavo/octavolaw02.BytesBooks", spec := "bytesBooks", unfollowed := true, recurses := true, apart := false }
def BytesBooksSaid : Prop := bytesBooksRow.holds Try.pinned (OpenSpec.ofChange bytesBooksSpec)

/-- ITS FALSE NEIGHBOUR: 'it returns false'. Refute it at one input. -/
def bytesBooksWrong : ChangeSpec := { name := "bytesBooks", fn := fun _ => fun
  | [d] => { results := [.lit (.bool false)], args := [d] }
  | _ => none }
def BytesBooksWrongFalsely : Prop := bytesBooksRow.holds Try.pinned (OpenSpec.ofChange bytesBooksWrong)

/-- 'octavolaw02.BytesOps': WHATEVER THE INPUT: true; the input reads as it did. -/
def bytesOpsSpec : ChangeSpec := { name := "bytesOps", fn := fun _ => fun
  | [d] => { results := [.lit (.bool true)], args := [d] }
  | _ => none }
def bytesOpsRow : OpenClaim := { program := "ytekmjegeiminnaa", sum := "a212c205f14698c9717702ad02962e41151c07b363b047bf5df73711a592b8f8", func := "octavo/octavolaw02.BytesOps", spec := "bytesOps", unfollowed := true, recurses := true, apart := false }
def BytesOpsSaid : Prop := bytesOpsRow.holds Try.pinned (OpenSpec.ofChange bytesOpsSpec)

/-- ITS FALSE NEIGHBOUR: 'it returns false'. Refute it at one input. -/
def bytesOpsWrong : ChangeSpec := { name := "bytesOps", fn := fun _ => fun
  | [d] => { results := [.lit (.bool false)], args := [d] }
  | _ => none }
def BytesOpsWrongFalsely : Prop := bytesOpsRow.holds Try.pinned (OpenSpec.ofChange bytesOpsWrong)

/-- 'octavolaw02.BytesReads': WHATEVER THE INPUT: true; the input reads as it did. -/
def bytesReadsSpec : ChangeSpec := { name := "bytesReads", fn := fun _ => fun
  | [d] => { results := [.lit (.bool true)], args := [d] }
  | _ => none }
def bytesReadsRow : OpenClaim := { program := "ytekmjegeiminnaa", sum := "a212c205f14698c9717702ad02962e41151c07b363b047bf5df73711a592b8f8", func := "octavo/octavolaw02.BytesReads", spec := "bytesReads", unfollowed := true, recurses := true, apart := false }
def BytesReadsSaid : Prop := bytesReadsRow.holds Try.pinned (OpenSpec.ofChange bytesReadsSpec)

/-- ITS FALSE NEIGHBOUR: 'it returns false'. Refute it at one input. -/
def bytesReadsWrong : ChangeSpec := { name := "bytesReads", fn := fun _ => fun
  | [d] => { results := [.lit (.bool false)], args := [d] }
  | _ => none }
def BytesReadsWrongFalsely : Prop := bytesReadsRow.holds Try.pinned (OpenSpec.ofChange bytesReadsWrong)

/-- 'octavolaw04.JournalScans': WHATEVER THE INPUT: true; the input reads as it did. -/
def journalScansSpec : ChangeSpec := { name := "journalScans", fn := fun _ => fun
  | [d1, d2, d3] => { results := [.lit (.bool true)], args := [d1, d2, d3] }
  | _ => none }
def journalScansRow : OpenClaim := { program := "ytekmjegeiminnaa", sum := "a212c205f14698c9717702ad02962e41151c07b363b047bf5df73711a592b8f8", func := "octavo/octavolaw04.JournalScans", spec := "journalScans", unfollowed := true, recurses := true, apart := false }
def JournalScansSaid : Prop := journalScansRow.holds Try.pinned (OpenSpec.ofChange journalScansSpec)

/-- ITS FALSE NEIGHBOUR: 'it returns false'. Refute it at one input. -/
def journalScansWrong : ChangeSpec := { name := "journalScans", fn := fun _ => fun
  | [d1, d2, d3] => { results := [.lit (.bool false)], args := [d1, d2, d3] }
  | _ => none }
def JournalScansWrongFalsely : Prop := journalScansRow.holds Try.pinned (OpenSpec.ofChange journalScansWrong)

/-- 'octavolaw04.JournalGroups': WHATEVER THE INPUT: true; the input reads as it did. -/
def journalGroupsSpec : ChangeSpec := { name := "journalGroups", fn := fun _ => fun
  | [d1, d2] => { results := [.lit (.bool true)], args := [d1, d2] }
  | _ => none }
def journalGroupsRow : OpenClaim := { program := "ytekmjegeiminnaa", sum := "a212c205f14698c9717702ad02962e41151c07b363b047bf5df73711a592b8f8", func := "octavo/octavolaw04.JournalGroups", spec := "journalGroups", unfollowed := true, recurses := true, apart := false }
def JournalGroupsSaid : Prop := journalGroupsRow.holds Try.pinned (OpenSpec.ofChange journalGroupsSpec)

/-- ITS FALSE NEIGHBOUR: 'it returns false'. Refute it at one input. -/
def journalGroupsWrong : ChangeSpec := { name := "journalGroups", fn := fun _ => fun
  | [d1, d2] => { results := [.lit (.bool false)], args := [d1, d2] }
  | _ => none }
def JournalGroupsWrongFalsely : Prop := journalGroupsRow.holds Try.pinned (OpenSpec.ofChange journalGroupsWrong)

/-- 'octavolaw04.JournalCuts': WHATEVER THE INPUT: true; the input reads as it did. -/
def journalCutsSpec : ChangeSpec := { name := "journalCuts", fn := fun _ => fun
  | [d1, d2, d3] => { results := [.lit (.bool true)], args := [d1, d2, d3] }
  | _ => none }
def journalCutsRow : OpenClaim := { program := "ytekmjegeiminnaa", sum := "a212c205f14698c9717702ad02962e41151c07b363b047bf5df73711a592b8f8", func := "octavo/octavolaw04.JournalCuts", spec := "journalCuts", unfollowed := true, recurses := true, apart := false }
def JournalCutsSaid : Prop := journalCutsRow.holds Try.pinned (OpenSpec.ofChange journalCutsSpec)

/-- ITS FALSE NEIGHBOUR: 'it returns false'. Refute it at one input. -/
def journalCutsWrong : ChangeSpec := { name := "journalCuts", fn := fun _ => fun
  | [d1, d2, d3] => { results := [.lit (.bool false)], args := [d1, d2, d3] }
  | _ => none }
def JournalCutsWrongFalsely : Prop := journalCutsRow.holds Try.pinned (OpenSpec.ofChange journalCutsWrong)

/-- 'octavolaw04.JournalBound': WHATEVER THE INPUT: true; the input reads as it did. -/
def journalBoundSpec : ChangeSpec := { name := "journalBound", fn := fun _ => fun
  | [d1, d2, d3] => { results := [.lit (.bool true)], args := [d1, d2, d3] }
  | _ => none }
def journalBoundRow : OpenClaim := { program := "ytekmjegeiminnaa", sum := "a212c205f14698c9717702ad02962e41151c07b363b047bf5df73711a592b8f8", func := "octavo/octavolaw04.JournalBound", spec := "journalBound", unfollowed := true, recurses := true, apart := false }
def JournalBoundSaid : Prop := journalBoundRow.holds Try.pinned (OpenSpec.ofChange journalBoundSpec)

/-- ITS FALSE NEIGHBOUR: 'it returns false'. Refute it at one input. -/
def journalBoundWrong : ChangeSpec := { name := "journalBound", fn := fun _ => fun
  | [d1, d2, d3] => { results := [.lit (.bool false)], args := [d1, d2, d3] }
  | _ => none }
def JournalBoundWrongFalsely : Prop := journalBoundRow.holds Try.pinned (OpenSpec.ofChange journalBoundWrong)

/-- 'octavolaw04.JournalNext': WHATEVER THE INPUT: true; the input reads as it did. -/
def journalNextSpec : ChangeSpec := { name := "journalNext", fn := fun _ => fun
  | [d1, d2, d3] => { results := [.lit (.bool true)], args := [d1, d2, d3] }
  | _ => none }
def journalNextRow : OpenClaim := { program := "ytekmjegeiminnaa", sum := "a212c205f14698c9717702ad02962e41151c07b363b047bf5df73711a592b8f8", func := "octavo/octavolaw04.JournalNext", spec := "journalNext", unfollowed := true, recurses := true, apart := false }
def JournalNextSaid : Prop := journalNextRow.holds Try.pinned (OpenSpec.ofChange journalNextSpec)

/-- ITS FALSE NEIGHBOUR: 'it returns false'. Refute it at one input. -/
def journalNextWrong : ChangeSpec := { name := "journalNext", fn := fun _ => fun
  | [d1, d2, d3] => { results := [.lit (.bool false)], args := [d1, d2, d3] }
  | _ => none }
def JournalNextWrongFalsely : Prop := journalNextRow.holds Try.pinned (OpenSpec.ofChange journalNextWrong)

/- THE SECOND FORM. 'bulk': how many values and letters a reading holds, each counted each time it is reached (what is shared counts as often as it is met; a slice's spare places count too). A statement '..UptoSaid' is the law's where the arguments, and the package variables that the reading takes, are together of bulk at most 1048576: NARROWER than '..Said'. Prove '..Said' where nothing that the law and all that it calls make is longer than what came in: it says more and counts as full. Else prove '..UptoSaid'. A law counts once. -/
mutual
def uptoBulk {H : Type} : DataW H → Nat
  | .lit (.string bytes) => bytes.length + 1
  | .lit _ => 1
  | .nil => 1
  | .ptr d => uptoBulk d + 1
  | .slice elems spare => uptoBulkAll elems + uptoBulkAll spare + 1
  | .agg parts => uptoBulkAll parts + 1
  | .iface _ d => uptoBulk d + 1
  | .map entries => uptoBulkEntries entries + 1
  | .held _ => 1
def uptoBulkAll {H : Type} : List (DataW H) → Nat
  | [] => 0
  | d :: r => uptoBulk d + uptoBulkAll r
def uptoBulkEntries {H : Type} : List (Lit × DataW H) → Nat
  | [] => 0
  | x :: r => uptoBulkEntry x + uptoBulkEntries r
def uptoBulkEntry {H : Type} : Lit × DataW H → Nat
  | (.string bytes, d) => bytes.length + uptoBulk d + 1
  | (_, d) => uptoBulk d + 1
 end
def uptoSmall : (H : Type) → List (DataW H) → Bool := fun _ ds => decide (uptoBulkAll ds ≤ 1048576)
def OpenSpec.upto (s : _root_.Go.ChangeSpec) : _root_.Go.OpenSpec := { _root_.Go.OpenSpec.ofChange s with cond := some uptoSmall }

/-- 'octavolaw02.BytesSums', WHERE WHAT IT READS IS OF BULK AT MOST 1048576: true; the input reads as it did. -/
def bytesSumsUptoRow : OpenClaim := { program := "ytekmjegeiminnaa", sum := "a212c205f14698c9717702ad02962e41151c07b363b047bf5df73711a592b8f8", func := "octavo/octavolaw02.BytesSums", spec := "bytesSums", unfollowed := true, recurses := true, apart := false, narrowed := true }
def BytesSumsUptoSaid : Prop := bytesSumsUptoRow.holds Try.pinned (OpenSpec.upto bytesSumsSpec)

/-- 'octavolaw02.BytesUnframes', WHERE WHAT IT READS IS OF BULK AT MOST 1048576: true; the input reads as it did. -/
def bytesUnframesUptoRow : OpenClaim := { program := "ytekmjegeiminnaa", sum := "a212c205f14698c9717702ad02962e41151c07b363b047bf5df73711a592b8f8", func := "octavo/octavolaw02.BytesUnframes", spec := "bytesUnframes", unfollowed := true, recurses := true, apart := false, narrowed := true }
def BytesUnframesUptoSaid : Prop := bytesUnframesUptoRow.holds Try.pinned (OpenSpec.upto bytesUnframesSpec)

/-- 'octavolaw02.BytesInts', WHERE WHAT IT READS IS OF BULK AT MOST 1048576: true; the input reads as it did. -/
def bytesIntsUptoRow : OpenClaim := { program := "ytekmjegeiminnaa", sum := "a212c205f14698c9717702ad02962e41151c07b363b047bf5df73711a592b8f8", func := "octavo/octavolaw02.BytesInts", spec := "bytesInts", unfollowed := true, recurses := true, apart := false, narrowed := true }
def BytesIntsUptoSaid : Prop := bytesIntsUptoRow.holds Try.pinned (OpenSpec.upto bytesIntsSpec)

/-- 'octavolaw02.BytesTells', WHERE WHAT IT READS IS OF BULK AT MOST 1048576: true; the input reads as it did. -/
def bytesTellsUptoRow : OpenClaim := { program := "ytekmjegeiminnaa", sum := "a212c205f14698c9717702ad02962e41151c07b363b047bf5df73711a592b8f8", func := "octavo/octavolaw02.BytesTells", spec := "bytesTells", unfollowed := true, recurses := true, apart := false, narrowed := true }
def BytesTellsUptoSaid : Prop := bytesTellsUptoRow.holds Try.pinned (OpenSpec.upto bytesTellsSpec)

/-- 'octavolaw03.BoxBack', WHERE WHAT IT READS IS OF BULK AT MOST 1048576: true; the input reads as it did. -/
def boxBackUptoRow : OpenClaim := { program := "ytekmjegeiminnaa", sum := "a212c205f14698c9717702ad02962e41151c07b363b047bf5df73711a592b8f8", func := "octavo/octavolaw03.BoxBack", spec := "boxBack", unfollowed := true, recurses := true, apart := false, narrowed := true }
def BoxBackUptoSaid : Prop := boxBackUptoRow.holds Try.pinned (OpenSpec.upto boxBackSpec)

/-- 'octavolaw03.BoxReads', WHERE WHAT IT READS IS OF BULK AT MOST 1048576: true; the input reads as it did. -/
def boxReadsUptoRow : OpenClaim := { program := "ytekmjegeiminnaa", sum := "a212c205f14698c9717702ad02962e41151c07b363b047bf5df73711a592b8f8", func := "octavo/octavolaw03.BoxReads", spec := "boxReads", unfollowed := true, recurses := true, apart := false, narrowed := true }
def BoxReadsUptoSaid : Prop := boxReadsUptoRow.holds Try.pinned (OpenSpec.upto boxReadsSpec)

/-- 'octavolaw03.BoxWrites', WHERE WHAT IT READS IS OF BULK AT MOST 1048576: true; the input reads as it did. -/
def boxWritesUptoRow : OpenClaim := { program := "ytekmjegeiminnaa", sum := "a212c205f14698c9717702ad02962e41151c07b363b047bf5df73711a592b8f8", func := "octavo/octavolaw03.BoxWrites", spec := "boxWrites", unfollowed := true, recurses := true, apart := false, narrowed := true }
def BoxWritesUptoSaid : Prop := boxWritesUptoRow.holds Try.pinned (OpenSpec.upto boxWritesSpec)

/-- 'octavolaw02.BytesBooks', WHERE WHAT IT READS IS OF BULK AT MOST 1048576: true; the input reads as it did. -/
def bytesBooksUptoRow : OpenClaim := { program := "ytekmjegeiminnaa", sum := "a212c205f14698c9717702ad02962e41151c07b363b047bf5df73711a592b8f8", func := "octavo/octavolaw02.BytesBooks", spec := "bytesBooks", unfollowed := true, recurses := true, apart := false, narrowed := true }
def BytesBooksUptoSaid : Prop := bytesBooksUptoRow.holds Try.pinned (OpenSpec.upto bytesBooksSpec)

/-- 'octavolaw02.BytesOps', WHERE WHAT IT READS IS OF BULK AT MOST 1048576: true; the input reads as it did. -/
def bytesOpsUptoRow : OpenClaim := { program := "ytekmjegeiminnaa", sum := "a212c205f14698c9717702ad02962e41151c07b363b047bf5df73711a592b8f8", func := "octavo/octavolaw02.BytesOps", spec := "bytesOps", unfollowed := true, recurses := true, apart := false, narrowed := true }
def BytesOpsUptoSaid : Prop := bytesOpsUptoRow.holds Try.pinned (OpenSpec.upto bytesOpsSpec)

/-- 'octavolaw02.BytesReads', WHERE WHAT IT READS IS OF BULK AT MOST 1048576: true; the input reads as it did. -/
def bytesReadsUptoRow : OpenClaim := { program := "ytekmjegeiminnaa", sum := "a212c205f14698c9717702ad02962e41151c07b363b047bf5df73711a592b8f8", func := "octavo/octavolaw02.BytesReads", spec := "bytesReads", unfollowed := true, recurses := true, apart := false, narrowed := true }
def BytesReadsUptoSaid : Prop := bytesReadsUptoRow.holds Try.pinned (OpenSpec.upto bytesReadsSpec)

/-- 'octavolaw04.JournalScans', WHERE WHAT IT READS IS OF BULK AT MOST 1048576: true; the input reads as it did. -/
def journalScansUptoRow : OpenClaim := { program := "ytekmjegeiminnaa", sum := "a212c205f14698c9717702ad02962e41151c07b363b047bf5df73711a592b8f8", func := "octavo/octavolaw04.JournalScans", spec := "journalScans", unfollowed := true, recurses := true, apart := false, narrowed := true }
def JournalScansUptoSaid : Prop := journalScansUptoRow.holds Try.pinned (OpenSpec.upto journalScansSpec)

/-- 'octavolaw04.JournalGroups', WHERE WHAT IT READS IS OF BULK AT MOST 1048576: true; the input reads as it did. -/
def journalGroupsUptoRow : OpenClaim := { program := "ytekmjegeiminnaa", sum := "a212c205f14698c9717702ad02962e41151c07b363b047bf5df73711a592b8f8", func := "octavo/octavolaw04.JournalGroups", spec := "journalGroups", unfollowed := true, recurses := true, apart := false, narrowed := true }
def JournalGroupsUptoSaid : Prop := journalGroupsUptoRow.holds Try.pinned (OpenSpec.upto journalGroupsSpec)

/-- 'octavolaw04.JournalCuts', WHERE WHAT IT READS IS OF BULK AT MOST 1048576: true; the input reads as it did. -/
def journalCutsUptoRow : OpenClaim := { program := "ytekmjegeiminnaa", sum := "a212c205f14698c9717702ad02962e41151c07b363b047bf5df73711a592b8f8", func := "octavo/octavolaw04.JournalCuts", spec := "journalCuts", unfollowed := true, recurses := true, apart := false, narrowed := true }
def JournalCutsUptoSaid : Prop := journalCutsUptoRow.holds Try.pinned (OpenSpec.upto journalCutsSpec)

/-- 'octavolaw04.JournalBound', WHERE WHAT IT READS IS OF BULK AT MOST 1048576: true; the input reads as it did. -/
def journalBoundUptoRow : OpenClaim := { program := "ytekmjegeiminnaa", sum := "a212c205f14698c9717702ad02962e41151c07b363b047bf5df73711a592b8f8", func := "octavo/octavolaw04.JournalBound", spec := "journalBound", unfollowed := true, recurses := true, apart := false, narrowed := true }
def JournalBoundUptoSaid : Prop := journalBoundUptoRow.holds Try.pinned (OpenSpec.upto journalBoundSpec)

/-- 'octavolaw04.JournalNext', WHERE WHAT IT READS IS OF BULK AT MOST 1048576: true; the input reads as it did. -/
def journalNextUptoRow : OpenClaim := { program := "ytekmjegeiminnaa", sum := "a212c205f14698c9717702ad02962e41151c07b363b047bf5df73711a592b8f8", func := "octavo/octavolaw04.JournalNext", spec := "journalNext", unfollowed := true, recurses := true, apart := false, narrowed := true }
def JournalNextUptoSaid : Prop := journalNextUptoRow.holds Try.pinned (OpenSpec.upto journalNextSpec)

end Rows
end Go.Proofs.Ytekmjegeiminnaa
