/-
  No cell of these rows narrows 'for every input' (looked for: loops, veiled, ifaces, maps, wideKeys, modest, calm, conditions, laid).
  DERIVED. THE GIVEN ROWS OF THIS SEAT. 4 by the template 'for every input the law returns true; each argument reads behind the call as it read before'; 0 by the template 'total and deterministic' (their statements: YtbaejlmpoflogaaTotals.lean).
  GIVEN WITH THE SEED: the statements are not yours to turn. If you find one false, say at which input.
  Laid BY PROGRAM, IN A SANDBOX (cutbox-rows.mjs): the forced cells as the released guide's own fill.sh prints them over the translation b8a7d001df24856b… (all of the seat's roots in one cut). By AI agents, Wed Nov 11 2026. No macro, syntax, notation, axiom, sorry.
-/
import Derived.Test.YtbaejlmpoflogaaChecked
import GoSem.Claim
import GoSem.ClaimJoined
import GoSem.ClaimMapViews
import Derived.JoinedTies
import Derived.KernelRfl
namespace Go.Proofs.Ytbaejlmpoflogaa
/- THE CELL 'sum', in the pinned program and in every row, IS THE sha256 OF THE DUMP (.gsa) THAT YtbaejlmpoflogaaProg.lean LOADS. Nothing in Lean hashes anything: it is a label: what it is worth is what the hold of that sum in a sandbox is worth. -/
noncomputable def Try.pinned : Pinned := { name := "ytbaejlmpoflogaa", sum := "b8a7d001df24856bdc1acbde97e4740a240acb7c3b4f3107b8770f6a032040dd", checked := Try.checked }
namespace Rows
def none {H : Type} : Left H := { results := [], args := [] }

/-- 'octavolaw13.ShiftTwice': WHATEVER THE INPUT: true; the input reads as it did. -/
def shiftTwiceSpec : ChangeSpec := { name := "shiftTwice", fn := fun _ => fun
  | [d1, d2, d3] => { results := [.lit (.bool true)], args := [d1, d2, d3] }
  | _ => none }
def shiftTwiceRow : OpenClaim := { program := "ytbaejlmpoflogaa", sum := "b8a7d001df24856bdc1acbde97e4740a240acb7c3b4f3107b8770f6a032040dd", func := "octavo/octavolaw13.ShiftTwice", spec := "shiftTwice", unfollowed := true, recurses := true, apart := false }
def ShiftTwiceSaid : Prop := shiftTwiceRow.holds Try.pinned (OpenSpec.ofChange shiftTwiceSpec)

/-- ITS FALSE NEIGHBOUR: 'it returns false'. Refute it at one input. -/
def shiftTwiceWrong : ChangeSpec := { name := "shiftTwice", fn := fun _ => fun
  | [d1, d2, d3] => { results := [.lit (.bool false)], args := [d1, d2, d3] }
  | _ => none }
def ShiftTwiceWrongFalsely : Prop := shiftTwiceRow.holds Try.pinned (OpenSpec.ofChange shiftTwiceWrong)

/-- 'octavolaw13.ShiftPlaces': WHATEVER THE INPUT: true; the input reads as it did. -/
def shiftPlacesSpec : ChangeSpec := { name := "shiftPlaces", fn := fun _ => fun
  | [d1, d2, d3] => { results := [.lit (.bool true)], args := [d1, d2, d3] }
  | _ => none }
def shiftPlacesRow : OpenClaim := { program := "ytbaejlmpoflogaa", sum := "b8a7d001df24856bdc1acbde97e4740a240acb7c3b4f3107b8770f6a032040dd", func := "octavo/octavolaw13.ShiftPlaces", spec := "shiftPlaces", unfollowed := true, recurses := true, apart := false }
def ShiftPlacesSaid : Prop := shiftPlacesRow.holds Try.pinned (OpenSpec.ofChange shiftPlacesSpec)

/-- ITS FALSE NEIGHBOUR: 'it returns false'. Refute it at one input. -/
def shiftPlacesWrong : ChangeSpec := { name := "shiftPlaces", fn := fun _ => fun
  | [d1, d2, d3] => { results := [.lit (.bool false)], args := [d1, d2, d3] }
  | _ => none }
def ShiftPlacesWrongFalsely : Prop := shiftPlacesRow.holds Try.pinned (OpenSpec.ofChange shiftPlacesWrong)

/-- 'octavolaw13.ShiftBack': WHATEVER THE INPUT: true; the input reads as it did. -/
def shiftBackSpec : ChangeSpec := { name := "shiftBack", fn := fun _ => fun
  | [d1, d2, d3] => { results := [.lit (.bool true)], args := [d1, d2, d3] }
  | _ => none }
def shiftBackRow : OpenClaim := { program := "ytbaejlmpoflogaa", sum := "b8a7d001df24856bdc1acbde97e4740a240acb7c3b4f3107b8770f6a032040dd", func := "octavo/octavolaw13.ShiftBack", spec := "shiftBack", unfollowed := true, recurses := true, apart := false }
def ShiftBackSaid : Prop := shiftBackRow.holds Try.pinned (OpenSpec.ofChange shiftBackSpec)

/-- ITS FALSE NEIGHBOUR: 'it returns false'. Refute it at one input. -/
def shiftBackWrong : ChangeSpec := { name := "shiftBack", fn := fun _ => fun
  | [d1, d2, d3] => { results := [.lit (.bool false)], args := [d1, d2, d3] }
  | _ => none }
def ShiftBackWrongFalsely : Prop := shiftBackRow.holds Try.pinned (OpenSpec.ofChange shiftBackWrong)

/-- 'octavolaw13.ShiftCells': WHATEVER THE INPUT: true; the input reads as it did. -/
def shiftCellsSpec : ChangeSpec := { name := "shiftCells", fn := fun _ => fun
  | [d1, d2, d3] => { results := [.lit (.bool true)], args := [d1, d2, d3] }
  | _ => none }
def shiftCellsRow : OpenClaim := { program := "ytbaejlmpoflogaa", sum := "b8a7d001df24856bdc1acbde97e4740a240acb7c3b4f3107b8770f6a032040dd", func := "octavo/octavolaw13.ShiftCells", spec := "shiftCells", unfollowed := true, recurses := true, apart := false }
def ShiftCellsSaid : Prop := shiftCellsRow.holds Try.pinned (OpenSpec.ofChange shiftCellsSpec)

/-- ITS FALSE NEIGHBOUR: 'it returns false'. Refute it at one input. -/
def shiftCellsWrong : ChangeSpec := { name := "shiftCells", fn := fun _ => fun
  | [d1, d2, d3] => { results := [.lit (.bool false)], args := [d1, d2, d3] }
  | _ => none }
def ShiftCellsWrongFalsely : Prop := shiftCellsRow.holds Try.pinned (OpenSpec.ofChange shiftCellsWrong)

/- THE SECOND FORM. 'bulk': how many values and letters a reading holds, each counted each time it is reached (what is shared counts as often as it is met; a slice's spare places count too). A statement '..UptoSaid' is the law's where the arguments, and the package variables that the reading takes, are together of bulk at most 1048576: NARROWER than '..Said'. Prove '..Said' where nothing that the law and all that it calls make is longer than what came in: it says more and counts as full. Else prove '..UptoSaid'. A law counts once. -/
mutual
def uptoBulk {H : Type} : DataW H → Nat
  | .lit (.string bytes) => bytes.length + 1
  | .lit _ => 1
  | .nil => 1
  | .ptr d => uptoBulk d + 1
  | .slice elems spare => uptoBulkAll elems + uptoBulkAll spare + 1
  | .agg parts => uptoBulkAll parts + 1
  | .iface _ d => uptoBulk d + 1
  | .map entries => uptoBulkEntries entries + 1
  | .held _ => 1
def uptoBulkAll {H : Type} : List (DataW H) → Nat
  | [] => 0
  | d :: r => uptoBulk d + uptoBulkAll r
def uptoBulkEntries {H : Type} : List (Lit × DataW H) → Nat
  | [] => 0
  | x :: r => uptoBulkEntry x + uptoBulkEntries r
def uptoBulkEntry {H : Type} : Lit × DataW H → Nat
  | (.string bytes, d) => bytes.length + uptoBulk d + 1
  | (_, d) => uptoBulk d + 1
 end
def uptoSmall : (H : Type) → List (DataW H) → Bool := fun _ ds => decide (uptoBulkAll ds ≤ 1048576)
def OpenSpec.upto (s : _root_.Go.ChangeSpec) : _root_.Go.OpenSpec := { _root_.Go.OpenSpec.ofChange s with cond := some uptoSmall }

/-- 'octavolaw13.ShiftTwice', WHERE WHAT IT READS IS OF BULK AT MOST 1048576: true; the input reads as it did. -/
def shiftTwiceUptoRow : OpenClaim := { program := "ytbaejlmpoflogaa", sum := "b8a7d001df24856bdc1acbde97e4740a240acb7c3b4f3107b8770f6a032040dd", func := "octavo/octavolaw13.ShiftTwice", spec := "shiftTwice", unfollowed := true, recurses := true, apart := false, narrowed := true }
def ShiftTwiceUptoSaid : Prop := shiftTwiceUptoRow.holds Try.pinned (OpenSpec.upto shiftTwiceSpec)

/-- 'octavolaw13.ShiftPlaces', WHERE WHAT IT READS IS OF BULK AT MOST 1048576: true; the input reads as it did. -/
def shiftPlacesUptoRow : OpenClaim := { program := "ytbaejlmpoflogaa", sum := "b8a7d001df24856bdc1acbde97e4740a240acb7c3b4f3107b8770f6a032040dd", func := "octavo/octavolaw13.ShiftPlaces", spec := "shiftPlaces", unfollowed := true, recurses := true, apart := false, narrowed := true }
def ShiftPlacesUptoSaid : Prop := shiftPlacesUptoRow.holds Try.pinned (OpenSpec.upto shiftPlacesSpec)

/-- 'octavolaw13.ShiftBack', WHERE WHAT IT READS IS OF BULK AT MOST 1048576: true; the input reads as it did. -/
def shiftBackUptoRow : OpenClaim := { program := "ytbaejlmpoflogaa", sum := "b8a7d001df24856bdc1acbde97e4740a240acb7c3b4f3107b8770f6a032040dd", func := "octavo/octavolaw13.ShiftBack", spec := "shiftBack", unfollowed := true, recurses := true, apart := false, narrowed := true }
def ShiftBackUptoSaid : Prop := shiftBackUptoRow.holds Try.pinned (OpenSpec.upto shiftBackSpec)

/-- 'octavolaw13.ShiftCells', WHERE WHAT IT READS IS OF BULK AT MOST 1048576: true; the input reads as it did. -/
def shiftCellsUptoRow : OpenClaim := { program := "ytbaejlmpoflogaa", sum := "b8a7d001df24856bdc1acbde97e4740a240acb7c3b4f3107b8770f6a032040dd", func := "octavo/octavolaw13.ShiftCells", spec := "shiftCells", unfollowed := true, recurses := true, apart := false, narrowed := true }
def ShiftCellsUptoSaid : Prop := shiftCellsUptoRow.holds Try.pinned (OpenSpec.upto shiftCellsSpec)

end Rows
end Go.Proofs.Ytbaejlmpoflogaa
