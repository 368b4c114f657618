/-
  No cell of these rows narrows 'for every input' (looked for: loops, veiled, ifaces, maps, wideKeys, modest, calm, conditions, laid).
  DERIVED. THE GIVEN ROWS OF THIS SEAT. 6 by the template 'for every input the law returns true; each argument reads behind the call as it read before'; 0 by the template 'total and deterministic' (their statements: YtdkjlaldhohbmaaGreatTotals.lean).
  GIVEN WITH THE SEED: the statements are not yours to turn. If you find one false, say at which input.
  Laid BY PROGRAM, IN A SANDBOX (cutbox-rows.mjs): the forced cells as the released guide's own fill.sh prints them over the translation f23f00a1826bfb3e… (all of the seat's roots in one cut). By AI agents, Wed Nov 11 2026. No macro, syntax, notation, axiom, sorry.
-/
import Derived.Test.YtdkjlaldhohbmaaGreatChecked
import GoSem.Claim
import GoSem.ClaimJoined
import GoSem.ClaimMapViews
import Derived.JoinedTies
import Derived.KernelRfl
namespace Go.Proofs.YtdkjlaldhohbmaaGreat
/- THE CELL 'sum', in the pinned program and in every row, IS THE sha256 OF THE DUMP (.gsa) THAT YtdkjlaldhohbmaaGreatProg.lean LOADS. Nothing in Lean hashes anything: it is a label: what it is worth is what the hold of that sum in a sandbox is worth. -/
noncomputable def Tryz.pinned : Pinned := { name := "ytdkjlaldhohbmaagreat", sum := "f23f00a1826bfb3e9d703afc866075c18d2a1887cbadce488ac7d0cadc80e06f", checked := Tryz.checked }
namespace Rows
def none {H : Type} : Left H := { results := [], args := [] }

/-- 'farrierlaw15.ObjsRoom': WHATEVER THE INPUT: true; the input reads as it did. -/
def objsRoomSpec : ChangeSpec := { name := "objsRoom", fn := fun _ => fun
  | [d] => { results := [.lit (.bool true)], args := [d] }
  | _ => none }
def objsRoomRow : OpenClaim := { program := "ytdkjlaldhohbmaagreat", sum := "f23f00a1826bfb3e9d703afc866075c18d2a1887cbadce488ac7d0cadc80e06f", func := "farrier/farrierlaw15.ObjsRoom", spec := "objsRoom", inPlace := ["internal/bytealg.MakeNoZero", "internal/bytealg.CountString", "internal/bytealg.IndexByteString", "internal/bytealg.IndexString"], unfollowed := true, recurses := true, named := ["internal/bytealg.MaxLen"], apart := false }
def ObjsRoomSaid : Prop := objsRoomRow.holds Tryz.pinned (OpenSpec.ofChange objsRoomSpec)

/-- ITS FALSE NEIGHBOUR: 'it returns false'. Refute it at one input. -/
def objsRoomWrong : ChangeSpec := { name := "objsRoom", fn := fun _ => fun
  | [d] => { results := [.lit (.bool false)], args := [d] }
  | _ => none }
def ObjsRoomWrongFalsely : Prop := objsRoomRow.holds Tryz.pinned (OpenSpec.ofChange objsRoomWrong)

/-- 'farrierlaw15.ObjsParts': WHATEVER THE INPUT: true; the input reads as it did. -/
def objsPartsSpec : ChangeSpec := { name := "objsParts", fn := fun _ => fun
  | [d] => { results := [.lit (.bool true)], args := [d] }
  | _ => none }
def objsPartsRow : OpenClaim := { program := "ytdkjlaldhohbmaagreat", sum := "f23f00a1826bfb3e9d703afc866075c18d2a1887cbadce488ac7d0cadc80e06f", func := "farrier/farrierlaw15.ObjsParts", spec := "objsParts", inPlace := ["internal/bytealg.MakeNoZero", "internal/bytealg.CountString", "internal/bytealg.IndexByteString", "internal/bytealg.IndexString"], unfollowed := true, recurses := true, named := ["internal/bytealg.MaxLen"], apart := false }
def ObjsPartsSaid : Prop := objsPartsRow.holds Tryz.pinned (OpenSpec.ofChange objsPartsSpec)

/-- ITS FALSE NEIGHBOUR: 'it returns false'. Refute it at one input. -/
def objsPartsWrong : ChangeSpec := { name := "objsParts", fn := fun _ => fun
  | [d] => { results := [.lit (.bool false)], args := [d] }
  | _ => none }
def ObjsPartsWrongFalsely : Prop := objsPartsRow.holds Tryz.pinned (OpenSpec.ofChange objsPartsWrong)

/-- 'farrierlaw15.ObjsKeys': WHATEVER THE INPUT: true; the input reads as it did. -/
def objsKeysSpec : ChangeSpec := { name := "objsKeys", fn := fun _ => fun
  | [d1, d2] => { results := [.lit (.bool true)], args := [d1, d2] }
  | _ => none }
def objsKeysRow : OpenClaim := { program := "ytdkjlaldhohbmaagreat", sum := "f23f00a1826bfb3e9d703afc866075c18d2a1887cbadce488ac7d0cadc80e06f", func := "farrier/farrierlaw15.ObjsKeys", spec := "objsKeys", inPlace := ["internal/bytealg.MakeNoZero", "internal/bytealg.CountString", "internal/bytealg.IndexByteString", "internal/bytealg.IndexString"], unfollowed := true, recurses := true, named := ["internal/bytealg.MaxLen"], apart := false }
def ObjsKeysSaid : Prop := objsKeysRow.holds Tryz.pinned (OpenSpec.ofChange objsKeysSpec)

/-- ITS FALSE NEIGHBOUR: 'it returns false'. Refute it at one input. -/
def objsKeysWrong : ChangeSpec := { name := "objsKeys", fn := fun _ => fun
  | [d1, d2] => { results := [.lit (.bool false)], args := [d1, d2] }
  | _ => none }
def ObjsKeysWrongFalsely : Prop := objsKeysRow.holds Tryz.pinned (OpenSpec.ofChange objsKeysWrong)

/-- 'farrierlaw15.ObjsEven': WHATEVER THE INPUT: true; the input reads as it did. -/
def objsEvenSpec : ChangeSpec := { name := "objsEven", fn := fun _ => fun
  | [d] => { results := [.lit (.bool true)], args := [d] }
  | _ => none }
def objsEvenRow : OpenClaim := { program := "ytdkjlaldhohbmaagreat", sum := "f23f00a1826bfb3e9d703afc866075c18d2a1887cbadce488ac7d0cadc80e06f", func := "farrier/farrierlaw15.ObjsEven", spec := "objsEven", inPlace := ["internal/bytealg.MakeNoZero", "internal/bytealg.CountString", "internal/bytealg.IndexByteString", "internal/bytealg.IndexString"], unfollowed := true, recurses := true, named := ["internal/bytealg.MaxLen"], apart := false }
def ObjsEvenSaid : Prop := objsEvenRow.holds Tryz.pinned (OpenSpec.ofChange objsEvenSpec)

/-- ITS FALSE NEIGHBOUR: 'it returns false'. Refute it at one input. -/
def objsEvenWrong : ChangeSpec := { name := "objsEven", fn := fun _ => fun
  | [d] => { results := [.lit (.bool false)], args := [d] }
  | _ => none }
def ObjsEvenWrongFalsely : Prop := objsEvenRow.holds Tryz.pinned (OpenSpec.ofChange objsEvenWrong)

/-- 'farrierlaw15.ObjsKeeps': WHATEVER THE INPUT: true; the input reads as it did. -/
def objsKeepsSpec : ChangeSpec := { name := "objsKeeps", fn := fun _ => fun
  | [d] => { results := [.lit (.bool true)], args := [d] }
  | _ => none }
def objsKeepsRow : OpenClaim := { program := "ytdkjlaldhohbmaagreat", sum := "f23f00a1826bfb3e9d703afc866075c18d2a1887cbadce488ac7d0cadc80e06f", func := "farrier/farrierlaw15.ObjsKeeps", spec := "objsKeeps", inPlace := ["internal/bytealg.MakeNoZero", "internal/bytealg.CountString", "internal/bytealg.IndexByteString", "internal/bytealg.IndexString", "internal/abi.NoEscape"], unfollowed := true, recurses := true, named := ["internal/bytealg.MaxLen"], apart := false }
def ObjsKeepsSaid : Prop := objsKeepsRow.holds Tryz.pinned (OpenSpec.ofChange objsKeepsSpec)

/-- ITS FALSE NEIGHBOUR: 'it returns false'. Refute it at one input. -/
def objsKeepsWrong : ChangeSpec := { name := "objsKeeps", fn := fun _ => fun
  | [d] => { results := [.lit (.bool false)], args := [d] }
  | _ => none }
def ObjsKeepsWrongFalsely : Prop := objsKeepsRow.holds Tryz.pinned (OpenSpec.ofChange objsKeepsWrong)

/-- 'farrierlaw15.ObjsDoes': WHATEVER THE INPUT: true; the input reads as it did. -/
def objsDoesSpec : ChangeSpec := { name := "objsDoes", fn := fun _ => fun
  | [d] => { results := [.lit (.bool true)], args := [d] }
  | _ => none }
def objsDoesRow : OpenClaim := { program := "ytdkjlaldhohbmaagreat", sum := "f23f00a1826bfb3e9d703afc866075c18d2a1887cbadce488ac7d0cadc80e06f", func := "farrier/farrierlaw15.ObjsDoes", spec := "objsDoes", inPlace := ["internal/bytealg.MakeNoZero", "internal/bytealg.CountString", "internal/bytealg.IndexByteString", "internal/bytealg.IndexString", "internal/abi.NoEscape", "maps.clone"], unfollowed := true, recurses := true, named := ["internal/bytealg.MaxLen"], apart := false }
def ObjsDoesSaid : Prop := objsDoesRow.holds Tryz.pinned (OpenSpec.ofChange objsDoesSpec)

/-- ITS FALSE NEIGHBOUR: 'it returns false'. Refute it at one input. -/
def objsDoesWrong : ChangeSpec := { name := "objsDoes", fn := fun _ => fun
  | [d] => { results := [.lit (.bool false)], args := [d] }
  | _ => none }
def ObjsDoesWrongFalsely : Prop := objsDoesRow.holds Tryz.pinned (OpenSpec.ofChange objsDoesWrong)

/- THE SECOND FORM. 'bulk': how many values and letters a reading holds, each counted each time it is reached (what is shared counts as often as it is met; a slice's spare places count too). A statement '..UptoSaid' is the law's where the arguments, and the package variables that the reading takes, are together of bulk at most 1048576: NARROWER than '..Said'. Prove '..Said' where nothing that the law and all that it calls make is longer than what came in: it says more and counts as full. Else prove '..UptoSaid'. A law counts once. -/
mutual
def uptoBulk {H : Type} : DataW H → Nat
  | .lit (.string bytes) => bytes.length + 1
  | .lit _ => 1
  | .nil => 1
  | .ptr d => uptoBulk d + 1
  | .slice elems spare => uptoBulkAll elems + uptoBulkAll spare + 1
  | .agg parts => uptoBulkAll parts + 1
  | .iface _ d => uptoBulk d + 1
  | .map entries => uptoBulkEntries entries + 1
  | .held _ => 1
def uptoBulkAll {H : Type} : List (DataW H) → Nat
  | [] => 0
  | d :: r => uptoBulk d + uptoBulkAll r
def uptoBulkEntries {H : Type} : List (Lit × DataW H) → Nat
  | [] => 0
  | x :: r => uptoBulkEntry x + uptoBulkEntries r
def uptoBulkEntry {H : Type} : Lit × DataW H → Nat
  | (.string bytes, d) => bytes.length + uptoBulk d + 1
  | (_, d) => uptoBulk d + 1
 end
def uptoSmall : (H : Type) → List (DataW H) → Bool := fun _ ds => decide (uptoBulkAll ds ≤ 1048576)
def OpenSpec.upto (s : _root_.Go.ChangeSpec) : _root_.Go.OpenSpec := { _root_.Go.OpenSpec.ofChange s with cond := some uptoSmall }

/-- 'farrierlaw15.ObjsRoom', WHERE WHAT IT READS IS OF BULK AT MOST 1048576: true; the input reads as it did. -/
def objsRoomUptoRow : OpenClaim := { program := "ytdkjlaldhohbmaagreat", sum := "f23f00a1826bfb3e9d703afc866075c18d2a1887cbadce488ac7d0cadc80e06f", func := "farrier/farrierlaw15.ObjsRoom", spec := "objsRoom", inPlace := ["internal/bytealg.MakeNoZero", "internal/bytealg.CountString", "internal/bytealg.IndexByteString", "internal/bytealg.IndexString"], unfollowed := true, recurses := true, named := ["internal/bytealg.MaxLen"], apart := false, narrowed := true }
def ObjsRoomUptoSaid : Prop := objsRoomUptoRow.holds Tryz.pinned (OpenSpec.upto objsRoomSpec)

/-- 'farrierlaw15.ObjsParts', WHERE WHAT IT READS IS OF BULK AT MOST 1048576: true; the input reads as it did. -/
def objsPartsUptoRow : OpenClaim := { program := "ytdkjlaldhohbmaagreat", sum := "f23f00a1826bfb3e9d703afc866075c18d2a1887cbadce488ac7d0cadc80e06f", func := "farrier/farrierlaw15.ObjsParts", spec := "objsParts", inPlace := ["internal/bytealg.MakeNoZero", "internal/bytealg.CountString", "internal/bytealg.IndexByteString", "internal/bytealg.IndexString"], unfollowed := true, recurses := true, named := ["internal/bytealg.MaxLen"], apart := false, narrowed := true }
def ObjsPartsUptoSaid : Prop := objsPartsUptoRow.holds Tryz.pinned (OpenSpec.upto objsPartsSpec)

/-- 'farrierlaw15.ObjsKeys', WHERE WHAT IT READS IS OF BULK AT MOST 1048576: true; the input reads as it did. -/
def objsKeysUptoRow : OpenClaim := { program := "ytdkjlaldhohbmaagreat", sum := "f23f00a1826bfb3e9d703afc866075c18d2a1887cbadce488ac7d0cadc80e06f", func := "farrier/farrierlaw15.ObjsKeys", spec := "objsKeys", inPlace := ["internal/bytealg.MakeNoZero", "internal/bytealg.CountString", "internal/bytealg.IndexByteString", "internal/bytealg.IndexString"], unfollowed := true, recurses := true, named := ["internal/bytealg.MaxLen"], apart := false, narrowed := true }
def ObjsKeysUptoSaid : Prop := objsKeysUptoRow.holds Tryz.pinned (OpenSpec.upto objsKeysSpec)

/-- 'farrierlaw15.ObjsEven', WHERE WHAT IT READS IS OF BULK AT MOST 1048576: true; the input reads as it did. -/
def objsEvenUptoRow : OpenClaim := { program := "ytdkjlaldhohbmaagreat", sum := "f23f00a1826bfb3e9d703afc866075c18d2a1887cbadce488ac7d0cadc80e06f", func := "farrier/farrierlaw15.ObjsEven", spec := "objsEven", inPlace := ["internal/bytealg.MakeNoZero", "internal/bytealg.CountString", "internal/bytealg.IndexByteString", "internal/bytealg.IndexString"], unfollowed := true, recurses := true, named := ["internal/bytealg.MaxLen"], apart := false, narrowed := true }
def ObjsEvenUptoSaid : Prop := objsEvenUptoRow.holds Tryz.pinned (OpenSpec.upto objsEvenSpec)

/-- 'farrierlaw15.ObjsKeeps', WHERE WHAT IT READS IS OF BULK AT MOST 1048576: true; the input reads as it did. -/
def objsKeepsUptoRow : OpenClaim := { program := "ytdkjlaldhohbmaagreat", sum := "f23f00a1826bfb3e9d703afc866075c18d2a1887cbadce488ac7d0cadc80e06f", func := "farrier/farrierlaw15.ObjsKeeps", spec := "objsKeeps", inPlace := ["internal/bytealg.MakeNoZero", "internal/bytealg.CountString", "internal/bytealg.IndexByteString", "internal/bytealg.IndexString", "internal/abi.NoEscape"], unfollowed := true, recurses := true, named := ["internal/bytealg.MaxLen"], apart := false, narrowed := true }
def ObjsKeepsUptoSaid : Prop := objsKeepsUptoRow.holds Tryz.pinned (OpenSpec.upto objsKeepsSpec)

/-- 'farrierlaw15.ObjsDoes', WHERE WHAT IT READS IS OF BULK AT MOST 1048576: true; the input reads as it did. -/
def objsDoesUptoRow : OpenClaim := { program := "ytdkjlaldhohbmaagreat", sum := "f23f00a1826bfb3e9d703afc866075c18d2a1887cbadce488ac7d0cadc80e06f", func := "farrier/farrierlaw15.ObjsDoes", spec := "objsDoes", inPlace := ["internal/bytealg.MakeNoZero", "internal/bytealg.CountString", "internal/bytealg.IndexByteString", "internal/bytealg.IndexString", "internal/abi.NoEscape", "maps.clone"], unfollowed := true, recurses := true, named := ["internal/bytealg.MaxLen"], apart := false, narrowed := true }
def ObjsDoesUptoSaid : Prop := objsDoesUptoRow.holds Tryz.pinned (OpenSpec.upto objsDoesSpec)

end Rows
end Go.Proofs.YtdkjlaldhohbmaaGreat
