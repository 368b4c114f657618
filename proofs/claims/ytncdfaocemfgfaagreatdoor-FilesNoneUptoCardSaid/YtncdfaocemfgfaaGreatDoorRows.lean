/-
  NARROWER THAN 'FOR EVERY INPUT', by the rows' own cells (each row's printed sentence says how): FilesBytes: laid · FilesNone: laid · FilesNames: laid · FilesMoves: laid · FilesKeeps: laid.
  DERIVED. THE GIVEN ROWS OF THIS SEAT. 5 by the template 'for every input the law returns true; each argument reads behind the call as it read before'; 0 by the template 'total and deterministic' (their statements: YtncdfaocemfgfaaGreatDoorTotals.lean).
  GIVEN WITH THE SEED: the statements are not yours to turn. If you find one false, say at which input.
  Laid BY PROGRAM, IN A SANDBOX (cutbox-rows.mjs): the forced cells as the released guide's own fill.sh prints them over the translation eb1a104187d45977… (all of the seat's roots in one cut). By AI agents, Wed Nov 11 2026. No macro, syntax, notation, axiom, sorry.
-/
import Derived.Test.YtncdfaocemfgfaaGreatDoorChecked
import GoSem.PinnedTables
import GoSem.Claim
import GoSem.ClaimJoined
import GoSem.ClaimMapViews
import Derived.JoinedTies
import Derived.KernelRfl
namespace Go.Proofs.YtncdfaocemfgfaaGreatDoor
/- THE CELL 'sum', in the pinned program and in every row, IS THE sha256 OF THE DUMP (.gsa) THAT YtncdfaocemfgfaaGreatDoorProg.lean LOADS. Nothing in Lean hashes anything: it is a label: what it is worth is what the hold of that sum in a sandbox is worth. -/
noncomputable def Tryz.pinned : Pinned := { name := "ytncdfaocemfgfaagreatdoor", sum := "eb1a104187d45977a62f5a593a078613d140cd4c540ba77840d4b8c662a4eb2e", checked := Tryz.checked }
namespace Rows
def none {H : Type} : Left H := { results := [], args := [] }

/- WHAT THE LISTED PACKAGE-LEVEL VARIABLES READ AS WHEN THE CALL BEGINS. Each datum BY PROGRAM (the guide's laid-datum.mjs) off the statement by which the dump's own 'gosem.cut.vars' lays the variable. In a bare row this is a premise. The card (YtncdfaocemfgfaaGreatDoorCards.lean) ties it to the program's text. -/
def laid_unicode_utf8_acceptRanges {H : Type} : DataW H := .agg [.agg [.lit (.int .u8 128), .lit (.int .u8 191)], .agg [.lit (.int .u8 160), .lit (.int .u8 191)], .agg [.lit (.int .u8 128), .lit (.int .u8 159)], .agg [.lit (.int .u8 144), .lit (.int .u8 191)], .agg [.lit (.int .u8 128), .lit (.int .u8 143)], .agg [.lit (.int .u8 0), .lit (.int .u8 0)], .agg [.lit (.int .u8 0), .lit (.int .u8 0)], .agg [.lit (.int .u8 0), .lit (.int .u8 0)], .agg [.lit (.int .u8 0), .lit (.int .u8 0)], .agg [.lit (.int .u8 0), .lit (.int .u8 0)], .agg [.lit (.int .u8 0), .lit (.int .u8 0)], .agg [.lit (.int .u8 0), .lit (.int .u8 0)], .agg [.lit (.int .u8 0), .lit (.int .u8 0)], .agg [.lit (.int .u8 0), .lit (.int .u8 0)], .agg [.lit (.int .u8 0), .lit (.int .u8 0)], .agg [.lit (.int .u8 0), .lit (.int .u8 0)]]
/-- One of Go's own tables, pinned by name: the form's constant. -/
def laid_unicode_utf8_first : DataW Unit := Go.Pinned.utf8First

/-- 'farrierlaw16.FilesBytes': WHATEVER THE INPUT: true; the input reads as it did. -/
def filesBytesSpec : ChangeSpec := { name := "filesBytes", fn := fun _ => fun
  | [d] => { results := [.lit (.bool true)], args := [d] }
  | _ => none }
def filesBytesRow : OpenClaim := { program := "ytncdfaocemfgfaagreatdoor", sum := "eb1a104187d45977a62f5a593a078613d140cd4c540ba77840d4b8c662a4eb2e", func := "farrier/farrierlaw16.FilesBytes", spec := "filesBytes", inPlace := ["internal/bytealg.MakeNoZero", "internal/bytealg.CountString", "internal/bytealg.IndexByteString", "internal/bytealg.IndexString", "slices.overlaps[farrier/files.entry]", "internal/abi.NoEscape"], unfollowed := true, recurses := true, named := ["internal/bytealg.MaxLen", "unicode/utf8.first", "unicode/utf8.acceptRanges"], apart := false, laid := [("unicode/utf8.acceptRanges", laid_unicode_utf8_acceptRanges), ("unicode/utf8.first", laid_unicode_utf8_first)] }
def FilesBytesSaid : Prop := filesBytesRow.holds Tryz.pinned (OpenSpec.ofChange filesBytesSpec)

/-- ITS FALSE NEIGHBOUR: 'it returns false'. Refute it at one input. -/
def filesBytesWrong : ChangeSpec := { name := "filesBytes", fn := fun _ => fun
  | [d] => { results := [.lit (.bool false)], args := [d] }
  | _ => none }
def FilesBytesWrongFalsely : Prop := filesBytesRow.holds Tryz.pinned (OpenSpec.ofChange filesBytesWrong)

/-- 'farrierlaw16.FilesNone': WHATEVER THE INPUT: true; the input reads as it did. -/
def filesNoneSpec : ChangeSpec := { name := "filesNone", fn := fun _ => fun
  | [d] => { results := [.lit (.bool true)], args := [d] }
  | _ => none }
def filesNoneRow : OpenClaim := { program := "ytncdfaocemfgfaagreatdoor", sum := "eb1a104187d45977a62f5a593a078613d140cd4c540ba77840d4b8c662a4eb2e", func := "farrier/farrierlaw16.FilesNone", spec := "filesNone", inPlace := ["internal/bytealg.MakeNoZero", "internal/bytealg.CountString", "internal/bytealg.IndexByteString", "internal/bytealg.IndexString", "slices.overlaps[farrier/files.entry]", "internal/abi.NoEscape"], unfollowed := true, recurses := true, named := ["internal/bytealg.MaxLen", "unicode/utf8.first", "unicode/utf8.acceptRanges"], apart := false, laid := [("unicode/utf8.acceptRanges", laid_unicode_utf8_acceptRanges), ("unicode/utf8.first", laid_unicode_utf8_first)] }
def FilesNoneSaid : Prop := filesNoneRow.holds Tryz.pinned (OpenSpec.ofChange filesNoneSpec)

/-- ITS FALSE NEIGHBOUR: 'it returns false'. Refute it at one input. -/
def filesNoneWrong : ChangeSpec := { name := "filesNone", fn := fun _ => fun
  | [d] => { results := [.lit (.bool false)], args := [d] }
  | _ => none }
def FilesNoneWrongFalsely : Prop := filesNoneRow.holds Tryz.pinned (OpenSpec.ofChange filesNoneWrong)

/-- 'farrierlaw16.FilesNames': WHATEVER THE INPUT: true; the input reads as it did. -/
def filesNamesSpec : ChangeSpec := { name := "filesNames", fn := fun _ => fun
  | [d] => { results := [.lit (.bool true)], args := [d] }
  | _ => none }
def filesNamesRow : OpenClaim := { program := "ytncdfaocemfgfaagreatdoor", sum := "eb1a104187d45977a62f5a593a078613d140cd4c540ba77840d4b8c662a4eb2e", func := "farrier/farrierlaw16.FilesNames", spec := "filesNames", inPlace := ["internal/bytealg.MakeNoZero", "internal/bytealg.CountString", "internal/bytealg.IndexByteString", "internal/bytealg.IndexString", "slices.overlaps[farrier/files.entry]", "internal/abi.NoEscape"], unfollowed := true, recurses := true, named := ["internal/bytealg.MaxLen", "unicode/utf8.first", "unicode/utf8.acceptRanges"], apart := false, laid := [("unicode/utf8.acceptRanges", laid_unicode_utf8_acceptRanges), ("unicode/utf8.first", laid_unicode_utf8_first)] }
def FilesNamesSaid : Prop := filesNamesRow.holds Tryz.pinned (OpenSpec.ofChange filesNamesSpec)

/-- ITS FALSE NEIGHBOUR: 'it returns false'. Refute it at one input. -/
def filesNamesWrong : ChangeSpec := { name := "filesNames", fn := fun _ => fun
  | [d] => { results := [.lit (.bool false)], args := [d] }
  | _ => none }
def FilesNamesWrongFalsely : Prop := filesNamesRow.holds Tryz.pinned (OpenSpec.ofChange filesNamesWrong)

/-- 'farrierlaw16.FilesMoves': WHATEVER THE INPUT: true; the input reads as it did. -/
def filesMovesSpec : ChangeSpec := { name := "filesMoves", fn := fun _ => fun
  | [d] => { results := [.lit (.bool true)], args := [d] }
  | _ => none }
def filesMovesRow : OpenClaim := { program := "ytncdfaocemfgfaagreatdoor", sum := "eb1a104187d45977a62f5a593a078613d140cd4c540ba77840d4b8c662a4eb2e", func := "farrier/farrierlaw16.FilesMoves", spec := "filesMoves", inPlace := ["internal/bytealg.MakeNoZero", "internal/bytealg.CountString", "internal/bytealg.IndexByteString", "internal/bytealg.IndexString", "slices.overlaps[farrier/files.entry]", "internal/abi.NoEscape"], unfollowed := true, recurses := true, named := ["internal/bytealg.MaxLen", "unicode/utf8.first", "unicode/utf8.acceptRanges"], apart := false, laid := [("unicode/utf8.acceptRanges", laid_unicode_utf8_acceptRanges), ("unicode/utf8.first", laid_unicode_utf8_first)] }
def FilesMovesSaid : Prop := filesMovesRow.holds Tryz.pinned (OpenSpec.ofChange filesMovesSpec)

/-- ITS FALSE NEIGHBOUR: 'it returns false'. Refute it at one input. -/
def filesMovesWrong : ChangeSpec := { name := "filesMoves", fn := fun _ => fun
  | [d] => { results := [.lit (.bool false)], args := [d] }
  | _ => none }
def FilesMovesWrongFalsely : Prop := filesMovesRow.holds Tryz.pinned (OpenSpec.ofChange filesMovesWrong)

/-- 'farrierlaw16.FilesKeeps': WHATEVER THE INPUT: true; the input reads as it did. -/
def filesKeepsSpec : ChangeSpec := { name := "filesKeeps", fn := fun _ => fun
  | [d] => { results := [.lit (.bool true)], args := [d] }
  | _ => none }
def filesKeepsRow : OpenClaim := { program := "ytncdfaocemfgfaagreatdoor", sum := "eb1a104187d45977a62f5a593a078613d140cd4c540ba77840d4b8c662a4eb2e", func := "farrier/farrierlaw16.FilesKeeps", spec := "filesKeeps", inPlace := ["internal/bytealg.MakeNoZero", "internal/bytealg.CountString", "internal/bytealg.IndexByteString", "internal/bytealg.IndexString", "slices.overlaps[farrier/files.entry]", "internal/abi.NoEscape"], unfollowed := true, recurses := true, named := ["internal/bytealg.MaxLen", "unicode/utf8.first", "unicode/utf8.acceptRanges"], apart := false, laid := [("unicode/utf8.acceptRanges", laid_unicode_utf8_acceptRanges), ("unicode/utf8.first", laid_unicode_utf8_first)] }
def FilesKeepsSaid : Prop := filesKeepsRow.holds Tryz.pinned (OpenSpec.ofChange filesKeepsSpec)

/-- ITS FALSE NEIGHBOUR: 'it returns false'. Refute it at one input. -/
def filesKeepsWrong : ChangeSpec := { name := "filesKeeps", fn := fun _ => fun
  | [d] => { results := [.lit (.bool false)], args := [d] }
  | _ => none }
def FilesKeepsWrongFalsely : Prop := filesKeepsRow.holds Tryz.pinned (OpenSpec.ofChange filesKeepsWrong)

/- THE SECOND FORM. 'bulk': how many values and letters a reading holds, each counted each time it is reached (what is shared counts as often as it is met; a slice's spare places count too). A statement '..UptoSaid' is the law's where the arguments, and the package variables that the reading takes, are together of bulk at most 1048576: NARROWER than '..Said'. Prove '..Said' where nothing that the law and all that it calls make is longer than what came in: it says more and counts as full. Else prove '..UptoSaid'. A law counts once. -/
mutual
def uptoBulk {H : Type} : DataW H → Nat
  | .lit (.string bytes) => bytes.length + 1
  | .lit _ => 1
  | .nil => 1
  | .ptr d => uptoBulk d + 1
  | .slice elems spare => uptoBulkAll elems + uptoBulkAll spare + 1
  | .agg parts => uptoBulkAll parts + 1
  | .iface _ d => uptoBulk d + 1
  | .map entries => uptoBulkEntries entries + 1
  | .held _ => 1
def uptoBulkAll {H : Type} : List (DataW H) → Nat
  | [] => 0
  | d :: r => uptoBulk d + uptoBulkAll r
def uptoBulkEntries {H : Type} : List (Lit × DataW H) → Nat
  | [] => 0
  | x :: r => uptoBulkEntry x + uptoBulkEntries r
def uptoBulkEntry {H : Type} : Lit × DataW H → Nat
  | (.string bytes, d) => bytes.length + uptoBulk d + 1
  | (_, d) => uptoBulk d + 1
 end
def uptoSmall : (H : Type) → List (DataW H) → Bool := fun _ ds => decide (uptoBulkAll ds ≤ 1048576)
def OpenSpec.upto (s : _root_.Go.ChangeSpec) : _root_.Go.OpenSpec := { _root_.Go.OpenSpec.ofChange s with cond := some uptoSmall }

/-- 'farrierlaw16.FilesBytes', WHERE WHAT IT READS IS OF BULK AT MOST 1048576: true; the input reads as it did. -/
def filesBytesUptoRow : OpenClaim := { program := "ytncdfaocemfgfaagreatdoor", sum := "eb1a104187d45977a62f5a593a078613d140cd4c540ba77840d4b8c662a4eb2e", func := "farrier/farrierlaw16.FilesBytes", spec := "filesBytes", inPlace := ["internal/bytealg.MakeNoZero", "internal/bytealg.CountString", "internal/bytealg.IndexByteString", "internal/bytealg.IndexString", "slices.overlaps[farrier/files.entry]", "internal/abi.NoEscape"], unfollowed := true, recurses := true, named := ["internal/bytealg.MaxLen", "unicode/utf8.first", "unicode/utf8.acceptRanges"], apart := false, laid := [("unicode/utf8.acceptRanges", laid_unicode_utf8_acceptRanges), ("unicode/utf8.first", laid_unicode_utf8_first)], narrowed := true }
def FilesBytesUptoSaid : Prop := filesBytesUptoRow.holds Tryz.pinned (OpenSpec.upto filesBytesSpec)

/-- 'farrierlaw16.FilesNone', WHERE WHAT IT READS IS OF BULK AT MOST 1048576: true; the input reads as it did. -/
def filesNoneUptoRow : OpenClaim := { program := "ytncdfaocemfgfaagreatdoor", sum := "eb1a104187d45977a62f5a593a078613d140cd4c540ba77840d4b8c662a4eb2e", func := "farrier/farrierlaw16.FilesNone", spec := "filesNone", inPlace := ["internal/bytealg.MakeNoZero", "internal/bytealg.CountString", "internal/bytealg.IndexByteString", "internal/bytealg.IndexString", "slices.overlaps[farrier/files.entry]", "internal/abi.NoEscape"], unfollowed := true, recurses := true, named := ["internal/bytealg.MaxLen", "unicode/utf8.first", "unicode/utf8.acceptRanges"], apart := false, laid := [("unicode/utf8.acceptRanges", laid_unicode_utf8_acceptRanges), ("unicode/utf8.first", laid_unicode_utf8_first)], narrowed := true }
def FilesNoneUptoSaid : Prop := filesNoneUptoRow.holds Tryz.pinned (OpenSpec.upto filesNoneSpec)

/-- 'farrierlaw16.FilesNames', WHERE WHAT IT READS IS OF BULK AT MOST 1048576: true; the input reads as it did. -/
def filesNamesUptoRow : OpenClaim := { program := "ytncdfaocemfgfaagreatdoor", sum := "eb1a104187d45977a62f5a593a078613d140cd4c540ba77840d4b8c662a4eb2e", func := "farrier/farrierlaw16.FilesNames", spec := "filesNames", inPlace := ["internal/bytealg.MakeNoZero", "internal/bytealg.CountString", "internal/bytealg.IndexByteString", "internal/bytealg.IndexString", "slices.overlaps[farrier/files.entry]", "internal/abi.NoEscape"], unfollowed := true, recurses := true, named := ["internal/bytealg.MaxLen", "unicode/utf8.first", "unicode/utf8.acceptRanges"], apart := false, laid := [("unicode/utf8.acceptRanges", laid_unicode_utf8_acceptRanges), ("unicode/utf8.first", laid_unicode_utf8_first)], narrowed := true }
def FilesNamesUptoSaid : Prop := filesNamesUptoRow.holds Tryz.pinned (OpenSpec.upto filesNamesSpec)

/-- 'farrierlaw16.FilesMoves', WHERE WHAT IT READS IS OF BULK AT MOST 1048576: true; the input reads as it did. -/
def filesMovesUptoRow : OpenClaim := { program := "ytncdfaocemfgfaagreatdoor", sum := "eb1a104187d45977a62f5a593a078613d140cd4c540ba77840d4b8c662a4eb2e", func := "farrier/farrierlaw16.FilesMoves", spec := "filesMoves", inPlace := ["internal/bytealg.MakeNoZero", "internal/bytealg.CountString", "internal/bytealg.IndexByteString", "internal/bytealg.IndexString", "slices.overlaps[farrier/files.entry]", "internal/abi.NoEscape"], unfollowed := true, recurses := true, named := ["internal/bytealg.MaxLen", "unicode/utf8.first", "unicode/utf8.acceptRanges"], apart := false, laid := [("unicode/utf8.acceptRanges", laid_unicode_utf8_acceptRanges), ("unicode/utf8.first", laid_unicode_utf8_first)], narrowed := true }
def FilesMovesUptoSaid : Prop := filesMovesUptoRow.holds Tryz.pinned (OpenSpec.upto filesMovesSpec)

/-- 'farrierlaw16.FilesKeeps', WHERE WHAT IT READS IS OF BULK AT MOST 1048576: true; the input reads as it did. -/
def filesKeepsUptoRow : OpenClaim := { program := "ytncdfaocemfgfaagreatdoor", sum := "eb1a104187d45977a62f5a593a078613d140cd4c540ba77840d4b8c662a4eb2e", func := "farrier/farrierlaw16.FilesKeeps", spec := "filesKeeps", inPlace := ["internal/bytealg.MakeNoZero", "internal/bytealg.CountString", "internal/bytealg.IndexByteString", "internal/bytealg.IndexString", "slices.overlaps[farrier/files.entry]", "internal/abi.NoEscape"], unfollowed := true, recurses := true, named := ["internal/bytealg.MaxLen", "unicode/utf8.first", "unicode/utf8.acceptRanges"], apart := false, laid := [("unicode/utf8.acceptRanges", laid_unicode_utf8_acceptRanges), ("unicode/utf8.first", laid_unicode_utf8_first)], narrowed := true }
def FilesKeepsUptoSaid : Prop := filesKeepsUptoRow.holds Tryz.pinned (OpenSpec.upto filesKeepsSpec)

end Rows
end Go.Proofs.YtncdfaocemfgfaaGreatDoor
