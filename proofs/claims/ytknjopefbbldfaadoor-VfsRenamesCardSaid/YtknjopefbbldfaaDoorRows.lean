/-
  NARROWER THAN 'FOR EVERY INPUT', by the rows' own cells (each row's printed sentence says how): VfsReads: laid · VfsRoom: laid · VfsSyncs: laid · VfsRenames: laid · VfsNil: laid.
  DERIVED. THE GIVEN ROWS OF THIS SEAT. 5 by the template 'for every input the law returns true; each argument reads behind the call as it read before'; 0 by the template 'total and deterministic' (their statements: YtknjopefbbldfaaDoorTotals.lean).
  GIVEN WITH THE SEED: the statements are not yours to turn. If you find one false, say at which input.
  Laid BY PROGRAM, IN A SANDBOX (cutbox-rows.mjs): the forced cells as the released guide's own fill.sh prints them over the translation 80a93894a8fae488… (all of the seat's roots in one cut). By AI agents, Wed Nov 11 2026. No macro, syntax, notation, axiom, sorry.
-/
import Derived.Test.YtknjopefbbldfaaDoorChecked
import GoSem.PinnedTables
import GoSem.Claim
import GoSem.ClaimJoined
import GoSem.ClaimMapViews
import Derived.JoinedTies
import Derived.KernelRfl
namespace Go.Proofs.YtknjopefbbldfaaDoor
/- THE CELL 'sum', in the pinned program and in every row, IS THE sha256 OF THE DUMP (.gsa) THAT YtknjopefbbldfaaDoorProg.lean LOADS. Nothing in Lean hashes anything: it is a label: what it is worth is what the hold of that sum in a sandbox is worth. -/
noncomputable def Tryd.pinned : Pinned := { name := "ytknjopefbbldfaadoor", sum := "80a93894a8fae488bbdc05b42fd97832749b8cb30058a1d6f8b2432a7f32dd52", checked := Tryd.checked }
namespace Rows
def none {H : Type} : Left H := { results := [], args := [] }

/- WHAT THE LISTED PACKAGE-LEVEL VARIABLES READ AS WHEN THE CALL BEGINS. Each datum BY PROGRAM (the guide's laid-datum.mjs) off the statement by which the dump's own 'gosem.cut.vars' lays the variable. In a bare row this is a premise. The card (YtknjopefbbldfaaDoorCards.lean) ties it to the program's text. -/
def laid_unicode_utf8_acceptRanges {H : Type} : DataW H := .agg [.agg [.lit (.int .u8 128), .lit (.int .u8 191)], .agg [.lit (.int .u8 160), .lit (.int .u8 191)], .agg [.lit (.int .u8 128), .lit (.int .u8 159)], .agg [.lit (.int .u8 144), .lit (.int .u8 191)], .agg [.lit (.int .u8 128), .lit (.int .u8 143)], .agg [.lit (.int .u8 0), .lit (.int .u8 0)], .agg [.lit (.int .u8 0), .lit (.int .u8 0)], .agg [.lit (.int .u8 0), .lit (.int .u8 0)], .agg [.lit (.int .u8 0), .lit (.int .u8 0)], .agg [.lit (.int .u8 0), .lit (.int .u8 0)], .agg [.lit (.int .u8 0), .lit (.int .u8 0)], .agg [.lit (.int .u8 0), .lit (.int .u8 0)], .agg [.lit (.int .u8 0), .lit (.int .u8 0)], .agg [.lit (.int .u8 0), .lit (.int .u8 0)], .agg [.lit (.int .u8 0), .lit (.int .u8 0)], .agg [.lit (.int .u8 0), .lit (.int .u8 0)]]
/-- One of Go's own tables, pinned by name: the form's constant. -/
def laid_unicode_utf8_first : DataW Unit := Go.Pinned.utf8First

/-- 'inquestlaw03.VfsReads': WHATEVER THE INPUT: true; the input reads as it did. -/
def vfsReadsSpec : ChangeSpec := { name := "vfsReads", fn := fun _ => fun
  | [d1, d2, d3] => { results := [.lit (.bool true)], args := [d1, d2, d3] }
  | _ => none }
def vfsReadsRow : OpenClaim := { program := "ytknjopefbbldfaadoor", sum := "80a93894a8fae488bbdc05b42fd97832749b8cb30058a1d6f8b2432a7f32dd52", func := "inquest/inquestlaw03.VfsReads", spec := "vfsReads", inPlace := ["internal/bytealg.IndexByteString", "internal/bytealg.IndexString"], unfollowed := true, recurses := true, named := ["unicode/utf8.first", "unicode/utf8.acceptRanges", "internal/bytealg.MaxLen"], apart := false, laid := [("unicode/utf8.acceptRanges", laid_unicode_utf8_acceptRanges), ("unicode/utf8.first", laid_unicode_utf8_first)] }
def VfsReadsSaid : Prop := vfsReadsRow.holds Tryd.pinned (OpenSpec.ofChange vfsReadsSpec)

/-- ITS FALSE NEIGHBOUR: 'it returns false'. Refute it at one input. -/
def vfsReadsWrong : ChangeSpec := { name := "vfsReads", fn := fun _ => fun
  | [d1, d2, d3] => { results := [.lit (.bool false)], args := [d1, d2, d3] }
  | _ => none }
def VfsReadsWrongFalsely : Prop := vfsReadsRow.holds Tryd.pinned (OpenSpec.ofChange vfsReadsWrong)

/-- 'inquestlaw03.VfsRoom': WHATEVER THE INPUT: true; the input reads as it did. -/
def vfsRoomSpec : ChangeSpec := { name := "vfsRoom", fn := fun _ => fun
  | [d1, d2] => { results := [.lit (.bool true)], args := [d1, d2] }
  | _ => none }
def vfsRoomRow : OpenClaim := { program := "ytknjopefbbldfaadoor", sum := "80a93894a8fae488bbdc05b42fd97832749b8cb30058a1d6f8b2432a7f32dd52", func := "inquest/inquestlaw03.VfsRoom", spec := "vfsRoom", inPlace := ["internal/bytealg.IndexByteString", "internal/bytealg.IndexString"], unfollowed := true, recurses := true, named := ["unicode/utf8.first", "unicode/utf8.acceptRanges", "internal/bytealg.MaxLen"], apart := false, laid := [("unicode/utf8.acceptRanges", laid_unicode_utf8_acceptRanges), ("unicode/utf8.first", laid_unicode_utf8_first)] }
def VfsRoomSaid : Prop := vfsRoomRow.holds Tryd.pinned (OpenSpec.ofChange vfsRoomSpec)

/-- ITS FALSE NEIGHBOUR: 'it returns false'. Refute it at one input. -/
def vfsRoomWrong : ChangeSpec := { name := "vfsRoom", fn := fun _ => fun
  | [d1, d2] => { results := [.lit (.bool false)], args := [d1, d2] }
  | _ => none }
def VfsRoomWrongFalsely : Prop := vfsRoomRow.holds Tryd.pinned (OpenSpec.ofChange vfsRoomWrong)

/-- 'inquestlaw03.VfsSyncs': WHATEVER THE INPUT: true; the input reads as it did. -/
def vfsSyncsSpec : ChangeSpec := { name := "vfsSyncs", fn := fun _ => fun
  | [d1, d2, d3] => { results := [.lit (.bool true)], args := [d1, d2, d3] }
  | _ => none }
def vfsSyncsRow : OpenClaim := { program := "ytknjopefbbldfaadoor", sum := "80a93894a8fae488bbdc05b42fd97832749b8cb30058a1d6f8b2432a7f32dd52", func := "inquest/inquestlaw03.VfsSyncs", spec := "vfsSyncs", inPlace := ["internal/bytealg.IndexByteString", "internal/bytealg.IndexString"], unfollowed := true, recurses := true, named := ["unicode/utf8.first", "unicode/utf8.acceptRanges", "internal/bytealg.MaxLen"], apart := false, laid := [("unicode/utf8.acceptRanges", laid_unicode_utf8_acceptRanges), ("unicode/utf8.first", laid_unicode_utf8_first)] }
def VfsSyncsSaid : Prop := vfsSyncsRow.holds Tryd.pinned (OpenSpec.ofChange vfsSyncsSpec)

/-- ITS FALSE NEIGHBOUR: 'it returns false'. Refute it at one input. -/
def vfsSyncsWrong : ChangeSpec := { name := "vfsSyncs", fn := fun _ => fun
  | [d1, d2, d3] => { results := [.lit (.bool false)], args := [d1, d2, d3] }
  | _ => none }
def VfsSyncsWrongFalsely : Prop := vfsSyncsRow.holds Tryd.pinned (OpenSpec.ofChange vfsSyncsWrong)

/-- 'inquestlaw03.VfsRenames': WHATEVER THE INPUT: true; the input reads as it did. -/
def vfsRenamesSpec : ChangeSpec := { name := "vfsRenames", fn := fun _ => fun
  | [d1, d2] => { results := [.lit (.bool true)], args := [d1, d2] }
  | _ => none }
def vfsRenamesRow : OpenClaim := { program := "ytknjopefbbldfaadoor", sum := "80a93894a8fae488bbdc05b42fd97832749b8cb30058a1d6f8b2432a7f32dd52", func := "inquest/inquestlaw03.VfsRenames", spec := "vfsRenames", inPlace := ["internal/bytealg.IndexByteString", "internal/bytealg.IndexString"], unfollowed := true, recurses := true, named := ["unicode/utf8.first", "unicode/utf8.acceptRanges", "internal/bytealg.MaxLen"], apart := false, laid := [("unicode/utf8.acceptRanges", laid_unicode_utf8_acceptRanges), ("unicode/utf8.first", laid_unicode_utf8_first)] }
def VfsRenamesSaid : Prop := vfsRenamesRow.holds Tryd.pinned (OpenSpec.ofChange vfsRenamesSpec)

/-- ITS FALSE NEIGHBOUR: 'it returns false'. Refute it at one input. -/
def vfsRenamesWrong : ChangeSpec := { name := "vfsRenames", fn := fun _ => fun
  | [d1, d2] => { results := [.lit (.bool false)], args := [d1, d2] }
  | _ => none }
def VfsRenamesWrongFalsely : Prop := vfsRenamesRow.holds Tryd.pinned (OpenSpec.ofChange vfsRenamesWrong)

/-- 'inquestlaw03.VfsNil': WHATEVER THE INPUT: true; the input reads as it did. -/
def vfsNilSpec : ChangeSpec := { name := "vfsNil", fn := fun _ => fun
  | [d1, d2] => { results := [.lit (.bool true)], args := [d1, d2] }
  | _ => none }
def vfsNilRow : OpenClaim := { program := "ytknjopefbbldfaadoor", sum := "80a93894a8fae488bbdc05b42fd97832749b8cb30058a1d6f8b2432a7f32dd52", func := "inquest/inquestlaw03.VfsNil", spec := "vfsNil", inPlace := ["internal/bytealg.IndexByteString", "internal/bytealg.IndexString"], unfollowed := true, recurses := true, named := ["unicode/utf8.first", "unicode/utf8.acceptRanges", "internal/bytealg.MaxLen"], apart := false, laid := [("unicode/utf8.acceptRanges", laid_unicode_utf8_acceptRanges), ("unicode/utf8.first", laid_unicode_utf8_first)] }
def VfsNilSaid : Prop := vfsNilRow.holds Tryd.pinned (OpenSpec.ofChange vfsNilSpec)

/-- ITS FALSE NEIGHBOUR: 'it returns false'. Refute it at one input. -/
def vfsNilWrong : ChangeSpec := { name := "vfsNil", fn := fun _ => fun
  | [d1, d2] => { results := [.lit (.bool false)], args := [d1, d2] }
  | _ => none }
def VfsNilWrongFalsely : Prop := vfsNilRow.holds Tryd.pinned (OpenSpec.ofChange vfsNilWrong)

/- THE SECOND FORM. 'bulk': how many values and letters a reading holds, each counted each time it is reached (what is shared counts as often as it is met; a slice's spare places count too). A statement '..UptoSaid' is the law's where the arguments, and the package variables that the reading takes, are together of bulk at most 1048576: NARROWER than '..Said'. Prove '..Said' where nothing that the law and all that it calls make is longer than what came in: it says more and counts as full. Else prove '..UptoSaid'. A law counts once. -/
mutual
def uptoBulk {H : Type} : DataW H → Nat
  | .lit (.string bytes) => bytes.length + 1
  | .lit _ => 1
  | .nil => 1
  | .ptr d => uptoBulk d + 1
  | .slice elems spare => uptoBulkAll elems + uptoBulkAll spare + 1
  | .agg parts => uptoBulkAll parts + 1
  | .iface _ d => uptoBulk d + 1
  | .map entries => uptoBulkEntries entries + 1
  | .held _ => 1
def uptoBulkAll {H : Type} : List (DataW H) → Nat
  | [] => 0
  | d :: r => uptoBulk d + uptoBulkAll r
def uptoBulkEntries {H : Type} : List (Lit × DataW H) → Nat
  | [] => 0
  | x :: r => uptoBulkEntry x + uptoBulkEntries r
def uptoBulkEntry {H : Type} : Lit × DataW H → Nat
  | (.string bytes, d) => bytes.length + uptoBulk d + 1
  | (_, d) => uptoBulk d + 1
 end
def uptoSmall : (H : Type) → List (DataW H) → Bool := fun _ ds => decide (uptoBulkAll ds ≤ 1048576)
def OpenSpec.upto (s : _root_.Go.ChangeSpec) : _root_.Go.OpenSpec := { _root_.Go.OpenSpec.ofChange s with cond := some uptoSmall }

/-- 'inquestlaw03.VfsReads', WHERE WHAT IT READS IS OF BULK AT MOST 1048576: true; the input reads as it did. -/
def vfsReadsUptoRow : OpenClaim := { program := "ytknjopefbbldfaadoor", sum := "80a93894a8fae488bbdc05b42fd97832749b8cb30058a1d6f8b2432a7f32dd52", func := "inquest/inquestlaw03.VfsReads", spec := "vfsReads", inPlace := ["internal/bytealg.IndexByteString", "internal/bytealg.IndexString"], unfollowed := true, recurses := true, named := ["unicode/utf8.first", "unicode/utf8.acceptRanges", "internal/bytealg.MaxLen"], apart := false, laid := [("unicode/utf8.acceptRanges", laid_unicode_utf8_acceptRanges), ("unicode/utf8.first", laid_unicode_utf8_first)], narrowed := true }
def VfsReadsUptoSaid : Prop := vfsReadsUptoRow.holds Tryd.pinned (OpenSpec.upto vfsReadsSpec)

/-- 'inquestlaw03.VfsRoom', WHERE WHAT IT READS IS OF BULK AT MOST 1048576: true; the input reads as it did. -/
def vfsRoomUptoRow : OpenClaim := { program := "ytknjopefbbldfaadoor", sum := "80a93894a8fae488bbdc05b42fd97832749b8cb30058a1d6f8b2432a7f32dd52", func := "inquest/inquestlaw03.VfsRoom", spec := "vfsRoom", inPlace := ["internal/bytealg.IndexByteString", "internal/bytealg.IndexString"], unfollowed := true, recurses := true, named := ["unicode/utf8.first", "unicode/utf8.acceptRanges", "internal/bytealg.MaxLen"], apart := false, laid := [("unicode/utf8.acceptRanges", laid_unicode_utf8_acceptRanges), ("unicode/utf8.first", laid_unicode_utf8_first)], narrowed := true }
def VfsRoomUptoSaid : Prop := vfsRoomUptoRow.holds Tryd.pinned (OpenSpec.upto vfsRoomSpec)

/-- 'inquestlaw03.VfsSyncs', WHERE WHAT IT READS IS OF BULK AT MOST 1048576: true; the input reads as it did. -/
def vfsSyncsUptoRow : OpenClaim := { program := "ytknjopefbbldfaadoor", sum := "80a93894a8fae488bbdc05b42fd97832749b8cb30058a1d6f8b2432a7f32dd52", func := "inquest/inquestlaw03.VfsSyncs", spec := "vfsSyncs", inPlace := ["internal/bytealg.IndexByteString", "internal/bytealg.IndexString"], unfollowed := true, recurses := true, named := ["unicode/utf8.first", "unicode/utf8.acceptRanges", "internal/bytealg.MaxLen"], apart := false, laid := [("unicode/utf8.acceptRanges", laid_unicode_utf8_acceptRanges), ("unicode/utf8.first", laid_unicode_utf8_first)], narrowed := true }
def VfsSyncsUptoSaid : Prop := vfsSyncsUptoRow.holds Tryd.pinned (OpenSpec.upto vfsSyncsSpec)

/-- 'inquestlaw03.VfsRenames', WHERE WHAT IT READS IS OF BULK AT MOST 1048576: true; the input reads as it did. -/
def vfsRenamesUptoRow : OpenClaim := { program := "ytknjopefbbldfaadoor", sum := "80a93894a8fae488bbdc05b42fd97832749b8cb30058a1d6f8b2432a7f32dd52", func := "inquest/inquestlaw03.VfsRenames", spec := "vfsRenames", inPlace := ["internal/bytealg.IndexByteString", "internal/bytealg.IndexString"], unfollowed := true, recurses := true, named := ["unicode/utf8.first", "unicode/utf8.acceptRanges", "internal/bytealg.MaxLen"], apart := false, laid := [("unicode/utf8.acceptRanges", laid_unicode_utf8_acceptRanges), ("unicode/utf8.first", laid_unicode_utf8_first)], narrowed := true }
def VfsRenamesUptoSaid : Prop := vfsRenamesUptoRow.holds Tryd.pinned (OpenSpec.upto vfsRenamesSpec)

/-- 'inquestlaw03.VfsNil', WHERE WHAT IT READS IS OF BULK AT MOST 1048576: true; the input reads as it did. -/
def vfsNilUptoRow : OpenClaim := { program := "ytknjopefbbldfaadoor", sum := "80a93894a8fae488bbdc05b42fd97832749b8cb30058a1d6f8b2432a7f32dd52", func := "inquest/inquestlaw03.VfsNil", spec := "vfsNil", inPlace := ["internal/bytealg.IndexByteString", "internal/bytealg.IndexString"], unfollowed := true, recurses := true, named := ["unicode/utf8.first", "unicode/utf8.acceptRanges", "internal/bytealg.MaxLen"], apart := false, laid := [("unicode/utf8.acceptRanges", laid_unicode_utf8_acceptRanges), ("unicode/utf8.first", laid_unicode_utf8_first)], narrowed := true }
def VfsNilUptoSaid : Prop := vfsNilUptoRow.holds Tryd.pinned (OpenSpec.upto vfsNilSpec)

end Rows
end Go.Proofs.YtknjopefbbldfaaDoor
