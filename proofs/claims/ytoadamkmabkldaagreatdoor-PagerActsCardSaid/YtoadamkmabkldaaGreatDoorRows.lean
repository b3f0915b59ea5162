/-
  NARROWER THAN 'FOR EVERY INPUT', by the rows' own cells (each row's printed sentence says how): PagerKeeps: laid · PagerReuses: laid · PagerFull: laid · PagerRefuses: laid · PagerNil: laid · PagerActs: laid.
  DERIVED. THE GIVEN ROWS OF THIS SEAT. 6 by the template 'for every input the law returns true; each argument reads behind the call as it read before'; 0 by the template 'total and deterministic' (their statements: YtoadamkmabkldaaGreatDoorTotals.lean).
  GIVEN WITH THE SEED: the statements are not yours to turn. If you find one false, say at which input.
  Laid BY PROGRAM, IN A SANDBOX (cutbox-rows.mjs): the forced cells as the released guide's own fill.sh prints them over the translation e14d2ec4231b6533… (all of the seat's roots in one cut). By AI agents, Wed Nov 11 2026. No macro, syntax, notation, axiom, sorry.
-/
import Derived.Test.YtoadamkmabkldaaGreatDoorChecked
import GoSem.PinnedTables
import GoSem.Claim
import GoSem.ClaimJoined
import GoSem.ClaimMapViews
import Derived.JoinedTies
import Derived.KernelRfl
namespace Go.Proofs.YtoadamkmabkldaaGreatDoor
/- THE CELL 'sum', in the pinned program and in every row, IS THE sha256 OF THE DUMP (.gsa) THAT YtoadamkmabkldaaGreatDoorProg.lean LOADS. Nothing in Lean hashes anything: it is a label: what it is worth is what the hold of that sum in a sandbox is worth. -/
noncomputable def Tryz.pinned : Pinned := { name := "ytoadamkmabkldaagreatdoor", sum := "e14d2ec4231b6533f52355d40be00604ae03932a7b6c55978c5c3a915cba4b2d", checked := Tryz.checked }
namespace Rows
def none {H : Type} : Left H := { results := [], args := [] }

/- WHAT THE LISTED PACKAGE-LEVEL VARIABLES READ AS WHEN THE CALL BEGINS. Each datum BY PROGRAM (the guide's laid-datum.mjs) off the statement by which the dump's own 'gosem.cut.vars' lays the variable. In a bare row this is a premise. The card (YtoadamkmabkldaaGreatDoorCards.lean) ties it to the program's text. -/
def laid_unicode_utf8_acceptRanges {H : Type} : DataW H := .agg [.agg [.lit (.int .u8 128), .lit (.int .u8 191)], .agg [.lit (.int .u8 160), .lit (.int .u8 191)], .agg [.lit (.int .u8 128), .lit (.int .u8 159)], .agg [.lit (.int .u8 144), .lit (.int .u8 191)], .agg [.lit (.int .u8 128), .lit (.int .u8 143)], .agg [.lit (.int .u8 0), .lit (.int .u8 0)], .agg [.lit (.int .u8 0), .lit (.int .u8 0)], .agg [.lit (.int .u8 0), .lit (.int .u8 0)], .agg [.lit (.int .u8 0), .lit (.int .u8 0)], .agg [.lit (.int .u8 0), .lit (.int .u8 0)], .agg [.lit (.int .u8 0), .lit (.int .u8 0)], .agg [.lit (.int .u8 0), .lit (.int .u8 0)], .agg [.lit (.int .u8 0), .lit (.int .u8 0)], .agg [.lit (.int .u8 0), .lit (.int .u8 0)], .agg [.lit (.int .u8 0), .lit (.int .u8 0)], .agg [.lit (.int .u8 0), .lit (.int .u8 0)]]
/-- One of Go's own tables, pinned by name: the form's constant. -/
def laid_unicode_utf8_first : DataW Unit := Go.Pinned.utf8First

/-- 'inquestlaw17.PagerKeeps': WHATEVER THE INPUT: true; the input reads as it did. -/
def pagerKeepsSpec : ChangeSpec := { name := "pagerKeeps", fn := fun _ => fun
  | [d] => { results := [.lit (.bool true)], args := [d] }
  | _ => none }
def pagerKeepsRow : OpenClaim := { program := "ytoadamkmabkldaagreatdoor", sum := "e14d2ec4231b6533f52355d40be00604ae03932a7b6c55978c5c3a915cba4b2d", func := "inquest/inquestlaw17.PagerKeeps", spec := "pagerKeeps", inPlace := ["internal/bytealg.IndexByteString", "internal/bytealg.IndexString"], unfollowed := true, recurses := true, named := ["unicode/utf8.first", "unicode/utf8.acceptRanges", "internal/bytealg.MaxLen"], apart := false, laid := [("unicode/utf8.acceptRanges", laid_unicode_utf8_acceptRanges), ("unicode/utf8.first", laid_unicode_utf8_first)] }
def PagerKeepsSaid : Prop := pagerKeepsRow.holds Tryz.pinned (OpenSpec.ofChange pagerKeepsSpec)

/-- ITS FALSE NEIGHBOUR: 'it returns false'. Refute it at one input. -/
def pagerKeepsWrong : ChangeSpec := { name := "pagerKeeps", fn := fun _ => fun
  | [d] => { results := [.lit (.bool false)], args := [d] }
  | _ => none }
def PagerKeepsWrongFalsely : Prop := pagerKeepsRow.holds Tryz.pinned (OpenSpec.ofChange pagerKeepsWrong)

/-- 'inquestlaw17.PagerReuses': WHATEVER THE INPUT: true; the input reads as it did. -/
def pagerReusesSpec : ChangeSpec := { name := "pagerReuses", fn := fun _ => fun
  | [d] => { results := [.lit (.bool true)], args := [d] }
  | _ => none }
def pagerReusesRow : OpenClaim := { program := "ytoadamkmabkldaagreatdoor", sum := "e14d2ec4231b6533f52355d40be00604ae03932a7b6c55978c5c3a915cba4b2d", func := "inquest/inquestlaw17.PagerReuses", spec := "pagerReuses", inPlace := ["internal/bytealg.IndexByteString", "internal/bytealg.IndexString"], unfollowed := true, recurses := true, named := ["unicode/utf8.first", "unicode/utf8.acceptRanges", "internal/bytealg.MaxLen"], apart := false, laid := [("unicode/utf8.acceptRanges", laid_unicode_utf8_acceptRanges), ("unicode/utf8.first", laid_unicode_utf8_first)] }
def PagerReusesSaid : Prop := pagerReusesRow.holds Tryz.pinned (OpenSpec.ofChange pagerReusesSpec)

/-- ITS FALSE NEIGHBOUR: 'it returns false'. Refute it at one input. -/
def pagerReusesWrong : ChangeSpec := { name := "pagerReuses", fn := fun _ => fun
  | [d] => { results := [.lit (.bool false)], args := [d] }
  | _ => none }
def PagerReusesWrongFalsely : Prop := pagerReusesRow.holds Tryz.pinned (OpenSpec.ofChange pagerReusesWrong)

/-- 'inquestlaw17.PagerFull': WHATEVER THE INPUT: true; the input reads as it did. -/
def pagerFullSpec : ChangeSpec := { name := "pagerFull", fn := fun _ => fun
  | [d1, d2] => { results := [.lit (.bool true)], args := [d1, d2] }
  | _ => none }
def pagerFullRow : OpenClaim := { program := "ytoadamkmabkldaagreatdoor", sum := "e14d2ec4231b6533f52355d40be00604ae03932a7b6c55978c5c3a915cba4b2d", func := "inquest/inquestlaw17.PagerFull", spec := "pagerFull", inPlace := ["internal/bytealg.IndexByteString", "internal/bytealg.IndexString"], unfollowed := true, recurses := true, named := ["unicode/utf8.first", "unicode/utf8.acceptRanges", "internal/bytealg.MaxLen"], apart := false, laid := [("unicode/utf8.acceptRanges", laid_unicode_utf8_acceptRanges), ("unicode/utf8.first", laid_unicode_utf8_first)] }
def PagerFullSaid : Prop := pagerFullRow.holds Tryz.pinned (OpenSpec.ofChange pagerFullSpec)

/-- ITS FALSE NEIGHBOUR: 'it returns false'. Refute it at one input. -/
def pagerFullWrong : ChangeSpec := { name := "pagerFull", fn := fun _ => fun
  | [d1, d2] => { results := [.lit (.bool false)], args := [d1, d2] }
  | _ => none }
def PagerFullWrongFalsely : Prop := pagerFullRow.holds Tryz.pinned (OpenSpec.ofChange pagerFullWrong)

/-- 'inquestlaw17.PagerRefuses': WHATEVER THE INPUT: true; the input reads as it did. -/
def pagerRefusesSpec : ChangeSpec := { name := "pagerRefuses", fn := fun _ => fun
  | [d1, d2] => { results := [.lit (.bool true)], args := [d1, d2] }
  | _ => none }
def pagerRefusesRow : OpenClaim := { program := "ytoadamkmabkldaagreatdoor", sum := "e14d2ec4231b6533f52355d40be00604ae03932a7b6c55978c5c3a915cba4b2d", func := "inquest/inquestlaw17.PagerRefuses", spec := "pagerRefuses", inPlace := ["internal/bytealg.IndexByteString", "internal/bytealg.IndexString"], unfollowed := true, recurses := true, named := ["unicode/utf8.first", "unicode/utf8.acceptRanges", "internal/bytealg.MaxLen"], apart := false, laid := [("unicode/utf8.acceptRanges", laid_unicode_utf8_acceptRanges), ("unicode/utf8.first", laid_unicode_utf8_first)] }
def PagerRefusesSaid : Prop := pagerRefusesRow.holds Tryz.pinned (OpenSpec.ofChange pagerRefusesSpec)

/-- ITS FALSE NEIGHBOUR: 'it returns false'. Refute it at one input. -/
def pagerRefusesWrong : ChangeSpec := { name := "pagerRefuses", fn := fun _ => fun
  | [d1, d2] => { results := [.lit (.bool false)], args := [d1, d2] }
  | _ => none }
def PagerRefusesWrongFalsely : Prop := pagerRefusesRow.holds Tryz.pinned (OpenSpec.ofChange pagerRefusesWrong)

/-- 'inquestlaw17.PagerNil': WHATEVER THE INPUT: true; the input reads as it did. -/
def pagerNilSpec : ChangeSpec := { name := "pagerNil", fn := fun _ => fun
  | [d] => { results := [.lit (.bool true)], args := [d] }
  | _ => none }
def pagerNilRow : OpenClaim := { program := "ytoadamkmabkldaagreatdoor", sum := "e14d2ec4231b6533f52355d40be00604ae03932a7b6c55978c5c3a915cba4b2d", func := "inquest/inquestlaw17.PagerNil", spec := "pagerNil", inPlace := ["internal/bytealg.IndexByteString", "internal/bytealg.IndexString"], unfollowed := true, recurses := true, named := ["unicode/utf8.first", "unicode/utf8.acceptRanges", "internal/bytealg.MaxLen"], apart := false, laid := [("unicode/utf8.acceptRanges", laid_unicode_utf8_acceptRanges), ("unicode/utf8.first", laid_unicode_utf8_first)] }
def PagerNilSaid : Prop := pagerNilRow.holds Tryz.pinned (OpenSpec.ofChange pagerNilSpec)

/-- ITS FALSE NEIGHBOUR: 'it returns false'. Refute it at one input. -/
def pagerNilWrong : ChangeSpec := { name := "pagerNil", fn := fun _ => fun
  | [d] => { results := [.lit (.bool false)], args := [d] }
  | _ => none }
def PagerNilWrongFalsely : Prop := pagerNilRow.holds Tryz.pinned (OpenSpec.ofChange pagerNilWrong)

/-- 'inquestlaw17.PagerActs': WHATEVER THE INPUT: true; the input reads as it did. -/
def pagerActsSpec : ChangeSpec := { name := "pagerActs", fn := fun _ => fun
  | [d] => { results := [.lit (.bool true)], args := [d] }
  | _ => none }
def pagerActsRow : OpenClaim := { program := "ytoadamkmabkldaagreatdoor", sum := "e14d2ec4231b6533f52355d40be00604ae03932a7b6c55978c5c3a915cba4b2d", func := "inquest/inquestlaw17.PagerActs", spec := "pagerActs", inPlace := ["internal/bytealg.IndexByteString", "internal/bytealg.IndexString"], unfollowed := true, recurses := true, named := ["unicode/utf8.first", "unicode/utf8.acceptRanges", "internal/bytealg.MaxLen"], apart := false, laid := [("unicode/utf8.acceptRanges", laid_unicode_utf8_acceptRanges), ("unicode/utf8.first", laid_unicode_utf8_first)] }
def PagerActsSaid : Prop := pagerActsRow.holds Tryz.pinned (OpenSpec.ofChange pagerActsSpec)

/-- ITS FALSE NEIGHBOUR: 'it returns false'. Refute it at one input. -/
def pagerActsWrong : ChangeSpec := { name := "pagerActs", fn := fun _ => fun
  | [d] => { results := [.lit (.bool false)], args := [d] }
  | _ => none }
def PagerActsWrongFalsely : Prop := pagerActsRow.holds Tryz.pinned (OpenSpec.ofChange pagerActsWrong)

/- THE SECOND FORM. 'bulk': how many values and letters a reading holds, each counted each time it is reached (what is shared counts as often as it is met; a slice's spare places count too). A statement '..UptoSaid' is the law's where the arguments, and the package variables that the reading takes, are together of bulk at most 1048576: NARROWER than '..Said'. Prove '..Said' where nothing that the law and all that it calls make is longer than what came in: it says more and counts as full. Else prove '..UptoSaid'. A law counts once. -/
mutual
def uptoBulk {H : Type} : DataW H → Nat
  | .lit (.string bytes) => bytes.length + 1
  | .lit _ => 1
  | .nil => 1
  | .ptr d => uptoBulk d + 1
  | .slice elems spare => uptoBulkAll elems + uptoBulkAll spare + 1
  | .agg parts => uptoBulkAll parts + 1
  | .iface _ d => uptoBulk d + 1
  | .map entries => uptoBulkEntries entries + 1
  | .held _ => 1
def uptoBulkAll {H : Type} : List (DataW H) → Nat
  | [] => 0
  | d :: r => uptoBulk d + uptoBulkAll r
def uptoBulkEntries {H : Type} : List (Lit × DataW H) → Nat
  | [] => 0
  | x :: r => uptoBulkEntry x + uptoBulkEntries r
def uptoBulkEntry {H : Type} : Lit × DataW H → Nat
  | (.string bytes, d) => bytes.length + uptoBulk d + 1
  | (_, d) => uptoBulk d + 1
 end
def uptoSmall : (H : Type) → List (DataW H) → Bool := fun _ ds => decide (uptoBulkAll ds ≤ 1048576)
def OpenSpec.upto (s : _root_.Go.ChangeSpec) : _root_.Go.OpenSpec := { _root_.Go.OpenSpec.ofChange s with cond := some uptoSmall }

/-- 'inquestlaw17.PagerKeeps', WHERE WHAT IT READS IS OF BULK AT MOST 1048576: true; the input reads as it did. -/
def pagerKeepsUptoRow : OpenClaim := { program := "ytoadamkmabkldaagreatdoor", sum := "e14d2ec4231b6533f52355d40be00604ae03932a7b6c55978c5c3a915cba4b2d", func := "inquest/inquestlaw17.PagerKeeps", spec := "pagerKeeps", inPlace := ["internal/bytealg.IndexByteString", "internal/bytealg.IndexString"], unfollowed := true, recurses := true, named := ["unicode/utf8.first", "unicode/utf8.acceptRanges", "internal/bytealg.MaxLen"], apart := false, laid := [("unicode/utf8.acceptRanges", laid_unicode_utf8_acceptRanges), ("unicode/utf8.first", laid_unicode_utf8_first)], narrowed := true }
def PagerKeepsUptoSaid : Prop := pagerKeepsUptoRow.holds Tryz.pinned (OpenSpec.upto pagerKeepsSpec)

/-- 'inquestlaw17.PagerReuses', WHERE WHAT IT READS IS OF BULK AT MOST 1048576: true; the input reads as it did. -/
def pagerReusesUptoRow : OpenClaim := { program := "ytoadamkmabkldaagreatdoor", sum := "e14d2ec4231b6533f52355d40be00604ae03932a7b6c55978c5c3a915cba4b2d", func := "inquest/inquestlaw17.PagerReuses", spec := "pagerReuses", inPlace := ["internal/bytealg.IndexByteString", "internal/bytealg.IndexString"], unfollowed := true, recurses := true, named := ["unicode/utf8.first", "unicode/utf8.acceptRanges", "internal/bytealg.MaxLen"], apart := false, laid := [("unicode/utf8.acceptRanges", laid_unicode_utf8_acceptRanges), ("unicode/utf8.first", laid_unicode_utf8_first)], narrowed := true }
def PagerReusesUptoSaid : Prop := pagerReusesUptoRow.holds Tryz.pinned (OpenSpec.upto pagerReusesSpec)

/-- 'inquestlaw17.PagerFull', WHERE WHAT IT READS IS OF BULK AT MOST 1048576: true; the input reads as it did. -/
def pagerFullUptoRow : OpenClaim := { program := "ytoadamkmabkldaagreatdoor", sum := "e14d2ec4231b6533f52355d40be00604ae03932a7b6c55978c5c3a915cba4b2d", func := "inquest/inquestlaw17.PagerFull", spec := "pagerFull", inPlace := ["internal/bytealg.IndexByteString", "internal/bytealg.IndexString"], unfollowed := true, recurses := true, named := ["unicode/utf8.first", "unicode/utf8.acceptRanges", "internal/bytealg.MaxLen"], apart := false, laid := [("unicode/utf8.acceptRanges", laid_unicode_utf8_acceptRanges), ("unicode/utf8.first", laid_unicode_utf8_first)], narrowed := true }
def PagerFullUptoSaid : Prop := pagerFullUptoRow.holds Tryz.pinned (OpenSpec.upto pagerFullSpec)

/-- 'inquestlaw17.PagerRefuses', WHERE WHAT IT READS IS OF BULK AT MOST 1048576: true; the input reads as it did. -/
def pagerRefusesUptoRow : OpenClaim := { program := "ytoadamkmabkldaagreatdoor", sum := "e14d2ec4231b6533f52355d40be00604ae03932a7b6c55978c5c3a915cba4b2d", func := "inquest/inquestlaw17.PagerRefuses", spec := "pagerRefuses", inPlace := ["internal/bytealg.IndexByteString", "internal/bytealg.IndexString"], unfollowed := true, recurses := true, named := ["unicode/utf8.first", "unicode/utf8.acceptRanges", "internal/bytealg.MaxLen"], apart := false, laid := [("unicode/utf8.acceptRanges", laid_unicode_utf8_acceptRanges), ("unicode/utf8.first", laid_unicode_utf8_first)], narrowed := true }
def PagerRefusesUptoSaid : Prop := pagerRefusesUptoRow.holds Tryz.pinned (OpenSpec.upto pagerRefusesSpec)

/-- 'inquestlaw17.PagerNil', WHERE WHAT IT READS IS OF BULK AT MOST 1048576: true; the input reads as it did. -/
def pagerNilUptoRow : OpenClaim := { program := "ytoadamkmabkldaagreatdoor", sum := "e14d2ec4231b6533f52355d40be00604ae03932a7b6c55978c5c3a915cba4b2d", func := "inquest/inquestlaw17.PagerNil", spec := "pagerNil", inPlace := ["internal/bytealg.IndexByteString", "internal/bytealg.IndexString"], unfollowed := true, recurses := true, named := ["unicode/utf8.first", "unicode/utf8.acceptRanges", "internal/bytealg.MaxLen"], apart := false, laid := [("unicode/utf8.acceptRanges", laid_unicode_utf8_acceptRanges), ("unicode/utf8.first", laid_unicode_utf8_first)], narrowed := true }
def PagerNilUptoSaid : Prop := pagerNilUptoRow.holds Tryz.pinned (OpenSpec.upto pagerNilSpec)

/-- 'inquestlaw17.PagerActs', WHERE WHAT IT READS IS OF BULK AT MOST 1048576: true; the input reads as it did. -/
def pagerActsUptoRow : OpenClaim := { program := "ytoadamkmabkldaagreatdoor", sum := "e14d2ec4231b6533f52355d40be00604ae03932a7b6c55978c5c3a915cba4b2d", func := "inquest/inquestlaw17.PagerActs", spec := "pagerActs", inPlace := ["internal/bytealg.IndexByteString", "internal/bytealg.IndexString"], unfollowed := true, recurses := true, named := ["unicode/utf8.first", "unicode/utf8.acceptRanges", "internal/bytealg.MaxLen"], apart := false, laid := [("unicode/utf8.acceptRanges", laid_unicode_utf8_acceptRanges), ("unicode/utf8.first", laid_unicode_utf8_first)], narrowed := true }
def PagerActsUptoSaid : Prop := pagerActsUptoRow.holds Tryz.pinned (OpenSpec.upto pagerActsSpec)

end Rows
end Go.Proofs.YtoadamkmabkldaaGreatDoor
