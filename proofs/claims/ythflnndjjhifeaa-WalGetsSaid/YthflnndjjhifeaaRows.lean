/-
  No cell of these rows narrows 'for every input' (looked for: loops, veiled, ifaces, maps, wideKeys, modest, calm, conditions, laid).
  DERIVED. THE GIVEN ROWS OF THIS SEAT. 12 by the template 'for every input the law returns true; each argument reads behind the call as it read before'; 0 by the template 'total and deterministic' (their statements: YthflnndjjhifeaaTotals.lean).
  GIVEN WITH THE SEED: the statements are not yours to turn. If you find one false, say at which input.
  Laid BY PROGRAM, IN A SANDBOX (cutbox-rows.mjs): the forced cells as the released guide's own fill.sh prints them over the translation c3949bf57bcff1be… (all of the seat's roots in one cut). By AI agents, Wed Nov 11 2026. No macro, syntax, notation, axiom, sorry.
-/
import Derived.Test.YthflnndjjhifeaaChecked
import GoSem.Claim
import GoSem.ClaimJoined
import GoSem.ClaimMapViews
import Derived.JoinedTies
import Derived.KernelRfl
namespace Go.Proofs.Ythflnndjjhifeaa
/- THE CELL 'sum', in the pinned program and in every row, IS THE sha256 OF THE DUMP (.gsa) THAT YthflnndjjhifeaaProg.lean LOADS. Nothing in Lean hashes anything: it is a label: what it is worth is what the hold of that sum in a sandbox is worth. -/
noncomputable def Try.pinned : Pinned := { name := "ythflnndjjhifeaa", sum := "c3949bf57bcff1be33e5148a5e6669d016ee07a33e4cdb70410c891133db8415", checked := Try.checked }
namespace Rows
def none {H : Type} : Left H := { results := [], args := [] }

/-- 'inquestlaw02.CrcTurned': WHATEVER THE INPUT: true; the input reads as it did. -/
def crcTurnedSpec : ChangeSpec := { name := "crcTurned", fn := fun _ => fun
  | [d1, d2, d3] => { results := [.lit (.bool true)], args := [d1, d2, d3] }
  | _ => none }
def crcTurnedRow : OpenClaim := { program := "ythflnndjjhifeaa", sum := "c3949bf57bcff1be33e5148a5e6669d016ee07a33e4cdb70410c891133db8415", func := "inquest/inquestlaw02.CrcTurned", spec := "crcTurned", apart := false }
def CrcTurnedSaid : Prop := crcTurnedRow.holds Try.pinned (OpenSpec.ofChange crcTurnedSpec)

/-- ITS FALSE NEIGHBOUR: 'it returns false'. Refute it at one input. -/
def crcTurnedWrong : ChangeSpec := { name := "crcTurned", fn := fun _ => fun
  | [d1, d2, d3] => { results := [.lit (.bool false)], args := [d1, d2, d3] }
  | _ => none }
def CrcTurnedWrongFalsely : Prop := crcTurnedRow.holds Try.pinned (OpenSpec.ofChange crcTurnedWrong)

/-- 'inquestlaw02.CrcJoins': WHATEVER THE INPUT: true; the input reads as it did. -/
def crcJoinsSpec : ChangeSpec := { name := "crcJoins", fn := fun _ => fun
  | [d1, d2, d3] => { results := [.lit (.bool true)], args := [d1, d2, d3] }
  | _ => none }
def crcJoinsRow : OpenClaim := { program := "ythflnndjjhifeaa", sum := "c3949bf57bcff1be33e5148a5e6669d016ee07a33e4cdb70410c891133db8415", func := "inquest/inquestlaw02.CrcJoins", spec := "crcJoins", apart := false }
def CrcJoinsSaid : Prop := crcJoinsRow.holds Try.pinned (OpenSpec.ofChange crcJoinsSpec)

/-- ITS FALSE NEIGHBOUR: 'it returns false'. Refute it at one input. -/
def crcJoinsWrong : ChangeSpec := { name := "crcJoins", fn := fun _ => fun
  | [d1, d2, d3] => { results := [.lit (.bool false)], args := [d1, d2, d3] }
  | _ => none }
def CrcJoinsWrongFalsely : Prop := crcJoinsRow.holds Try.pinned (OpenSpec.ofChange crcJoinsWrong)

/-- 'inquestlaw02.CrcOf': WHATEVER THE INPUT: true; the input reads as it did. -/
def crcOfSpec : ChangeSpec := { name := "crcOf", fn := fun _ => fun
  | [d] => { results := [.lit (.bool true)], args := [d] }
  | _ => none }
def crcOfRow : OpenClaim := { program := "ythflnndjjhifeaa", sum := "c3949bf57bcff1be33e5148a5e6669d016ee07a33e4cdb70410c891133db8415", func := "inquest/inquestlaw02.CrcOf", spec := "crcOf", apart := false }
def CrcOfSaid : Prop := crcOfRow.holds Try.pinned (OpenSpec.ofChange crcOfSpec)

/-- ITS FALSE NEIGHBOUR: 'it returns false'. Refute it at one input. -/
def crcOfWrong : ChangeSpec := { name := "crcOf", fn := fun _ => fun
  | [d] => { results := [.lit (.bool false)], args := [d] }
  | _ => none }
def CrcOfWrongFalsely : Prop := crcOfRow.holds Try.pinned (OpenSpec.ofChange crcOfWrong)

/-- 'inquestlaw02.CrcNil': WHATEVER THE INPUT: true; the input reads as it did. -/
def crcNilSpec : ChangeSpec := { name := "crcNil", fn := fun _ => fun
  | [d] => { results := [.lit (.bool true)], args := [d] }
  | _ => none }
def crcNilRow : OpenClaim := { program := "ythflnndjjhifeaa", sum := "c3949bf57bcff1be33e5148a5e6669d016ee07a33e4cdb70410c891133db8415", func := "inquest/inquestlaw02.CrcNil", spec := "crcNil", apart := false }
def CrcNilSaid : Prop := crcNilRow.holds Try.pinned (OpenSpec.ofChange crcNilSpec)

/-- ITS FALSE NEIGHBOUR: 'it returns false'. Refute it at one input. -/
def crcNilWrong : ChangeSpec := { name := "crcNil", fn := fun _ => fun
  | [d] => { results := [.lit (.bool false)], args := [d] }
  | _ => none }
def CrcNilWrongFalsely : Prop := crcNilRow.holds Try.pinned (OpenSpec.ofChange crcNilWrong)

/-- 'inquestlaw15.PageSeals': WHATEVER THE INPUT: true; the input reads as it did. -/
def pageSealsSpec : ChangeSpec := { name := "pageSeals", fn := fun _ => fun
  | [d1, d2, d3] => { results := [.lit (.bool true)], args := [d1, d2, d3] }
  | _ => none }
def pageSealsRow : OpenClaim := { program := "ythflnndjjhifeaa", sum := "c3949bf57bcff1be33e5148a5e6669d016ee07a33e4cdb70410c891133db8415", func := "inquest/inquestlaw15.PageSeals", spec := "pageSeals", apart := false }
def PageSealsSaid : Prop := pageSealsRow.holds Try.pinned (OpenSpec.ofChange pageSealsSpec)

/-- ITS FALSE NEIGHBOUR: 'it returns false'. Refute it at one input. -/
def pageSealsWrong : ChangeSpec := { name := "pageSeals", fn := fun _ => fun
  | [d1, d2, d3] => { results := [.lit (.bool false)], args := [d1, d2, d3] }
  | _ => none }
def PageSealsWrongFalsely : Prop := pageSealsRow.holds Try.pinned (OpenSpec.ofChange pageSealsWrong)

/-- 'inquestlaw15.PageOpens': WHATEVER THE INPUT: true; the input reads as it did. -/
def pageOpensSpec : ChangeSpec := { name := "pageOpens", fn := fun _ => fun
  | [d1, d2] => { results := [.lit (.bool true)], args := [d1, d2] }
  | _ => none }
def pageOpensRow : OpenClaim := { program := "ythflnndjjhifeaa", sum := "c3949bf57bcff1be33e5148a5e6669d016ee07a33e4cdb70410c891133db8415", func := "inquest/inquestlaw15.PageOpens", spec := "pageOpens", apart := false }
def PageOpensSaid : Prop := pageOpensRow.holds Try.pinned (OpenSpec.ofChange pageOpensSpec)

/-- ITS FALSE NEIGHBOUR: 'it returns false'. Refute it at one input. -/
def pageOpensWrong : ChangeSpec := { name := "pageOpens", fn := fun _ => fun
  | [d1, d2] => { results := [.lit (.bool false)], args := [d1, d2] }
  | _ => none }
def PageOpensWrongFalsely : Prop := pageOpensRow.holds Try.pinned (OpenSpec.ofChange pageOpensWrong)

/-- 'inquestlaw15.PageTurned': WHATEVER THE INPUT: true; the input reads as it did. -/
def pageTurnedSpec : ChangeSpec := { name := "pageTurned", fn := fun _ => fun
  | [d1, d2, d3] => { results := [.lit (.bool true)], args := [d1, d2, d3] }
  | _ => none }
def pageTurnedRow : OpenClaim := { program := "ythflnndjjhifeaa", sum := "c3949bf57bcff1be33e5148a5e6669d016ee07a33e4cdb70410c891133db8415", func := "inquest/inquestlaw15.PageTurned", spec := "pageTurned", apart := false }
def PageTurnedSaid : Prop := pageTurnedRow.holds Try.pinned (OpenSpec.ofChange pageTurnedSpec)

/-- ITS FALSE NEIGHBOUR: 'it returns false'. Refute it at one input. -/
def pageTurnedWrong : ChangeSpec := { name := "pageTurned", fn := fun _ => fun
  | [d1, d2, d3] => { results := [.lit (.bool false)], args := [d1, d2, d3] }
  | _ => none }
def PageTurnedWrongFalsely : Prop := pageTurnedRow.holds Try.pinned (OpenSpec.ofChange pageTurnedWrong)

/-- 'inquestlaw15.PageZeros': WHATEVER THE INPUT: true; the input reads as it did. -/
def pageZerosSpec : ChangeSpec := { name := "pageZeros", fn := fun _ => fun
  | [d1, d2, d3] => { results := [.lit (.bool true)], args := [d1, d2, d3] }
  | _ => none }
def pageZerosRow : OpenClaim := { program := "ythflnndjjhifeaa", sum := "c3949bf57bcff1be33e5148a5e6669d016ee07a33e4cdb70410c891133db8415", func := "inquest/inquestlaw15.PageZeros", spec := "pageZeros", apart := false }
def PageZerosSaid : Prop := pageZerosRow.holds Try.pinned (OpenSpec.ofChange pageZerosSpec)

/-- ITS FALSE NEIGHBOUR: 'it returns false'. Refute it at one input. -/
def pageZerosWrong : ChangeSpec := { name := "pageZeros", fn := fun _ => fun
  | [d1, d2, d3] => { results := [.lit (.bool false)], args := [d1, d2, d3] }
  | _ => none }
def PageZerosWrongFalsely : Prop := pageZerosRow.holds Try.pinned (OpenSpec.ofChange pageZerosWrong)

/-- 'inquestlaw16.WalPuts': WHATEVER THE INPUT: true; the input reads as it did. -/
def walPutsSpec : ChangeSpec := { name := "walPuts", fn := fun _ => fun
  | [d1, d2, d3] => { results := [.lit (.bool true)], args := [d1, d2, d3] }
  | _ => none }
def walPutsRow : OpenClaim := { program := "ythflnndjjhifeaa", sum := "c3949bf57bcff1be33e5148a5e6669d016ee07a33e4cdb70410c891133db8415", func := "inquest/inquestlaw16.WalPuts", spec := "walPuts", apart := false }
def WalPutsSaid : Prop := walPutsRow.holds Try.pinned (OpenSpec.ofChange walPutsSpec)

/-- ITS FALSE NEIGHBOUR: 'it returns false'. Refute it at one input. -/
def walPutsWrong : ChangeSpec := { name := "walPuts", fn := fun _ => fun
  | [d1, d2, d3] => { results := [.lit (.bool false)], args := [d1, d2, d3] }
  | _ => none }
def WalPutsWrongFalsely : Prop := walPutsRow.holds Try.pinned (OpenSpec.ofChange walPutsWrong)

/-- 'inquestlaw16.WalGets': WHATEVER THE INPUT: true; the input reads as it did. -/
def walGetsSpec : ChangeSpec := { name := "walGets", fn := fun _ => fun
  | [d] => { results := [.lit (.bool true)], args := [d] }
  | _ => none }
def walGetsRow : OpenClaim := { program := "ythflnndjjhifeaa", sum := "c3949bf57bcff1be33e5148a5e6669d016ee07a33e4cdb70410c891133db8415", func := "inquest/inquestlaw16.WalGets", spec := "walGets", apart := false }
def WalGetsSaid : Prop := walGetsRow.holds Try.pinned (OpenSpec.ofChange walGetsSpec)

/-- ITS FALSE NEIGHBOUR: 'it returns false'. Refute it at one input. -/
def walGetsWrong : ChangeSpec := { name := "walGets", fn := fun _ => fun
  | [d] => { results := [.lit (.bool false)], args := [d] }
  | _ => none }
def WalGetsWrongFalsely : Prop := walGetsRow.holds Try.pinned (OpenSpec.ofChange walGetsWrong)

/-- 'inquestlaw16.WalSizes': WHATEVER THE INPUT: true; the input reads as it did. -/
def walSizesSpec : ChangeSpec := { name := "walSizes", fn := fun _ => fun
  | [d] => { results := [.lit (.bool true)], args := [d] }
  | _ => none }
def walSizesRow : OpenClaim := { program := "ythflnndjjhifeaa", sum := "c3949bf57bcff1be33e5148a5e6669d016ee07a33e4cdb70410c891133db8415", func := "inquest/inquestlaw16.WalSizes", spec := "walSizes", apart := false }
def WalSizesSaid : Prop := walSizesRow.holds Try.pinned (OpenSpec.ofChange walSizesSpec)

/-- ITS FALSE NEIGHBOUR: 'it returns false'. Refute it at one input. -/
def walSizesWrong : ChangeSpec := { name := "walSizes", fn := fun _ => fun
  | [d] => { results := [.lit (.bool false)], args := [d] }
  | _ => none }
def WalSizesWrongFalsely : Prop := walSizesRow.holds Try.pinned (OpenSpec.ofChange walSizesWrong)

/-- 'inquestlaw16.WalTurned': WHATEVER THE INPUT: true; the input reads as it did. -/
def walTurnedSpec : ChangeSpec := { name := "walTurned", fn := fun _ => fun
  | [d1, d2, d3] => { results := [.lit (.bool true)], args := [d1, d2, d3] }
  | _ => none }
def walTurnedRow : OpenClaim := { program := "ythflnndjjhifeaa", sum := "c3949bf57bcff1be33e5148a5e6669d016ee07a33e4cdb70410c891133db8415", func := "inquest/inquestlaw16.WalTurned", spec := "walTurned", apart := false }
def WalTurnedSaid : Prop := walTurnedRow.holds Try.pinned (OpenSpec.ofChange walTurnedSpec)

/-- ITS FALSE NEIGHBOUR: 'it returns false'. Refute it at one input. -/
def walTurnedWrong : ChangeSpec := { name := "walTurned", fn := fun _ => fun
  | [d1, d2, d3] => { results := [.lit (.bool false)], args := [d1, d2, d3] }
  | _ => none }
def WalTurnedWrongFalsely : Prop := walTurnedRow.holds Try.pinned (OpenSpec.ofChange walTurnedWrong)

/- THE SECOND FORM. 'bulk': how many values and letters a reading holds, each counted each time it is reached (what is shared counts as often as it is met; a slice's spare places count too). A statement '..UptoSaid' is the law's where the arguments, and the package variables that the reading takes, are together of bulk at most 1048576: NARROWER than '..Said'. Prove '..Said' where nothing that the law and all that it calls make is longer than what came in: it says more and counts as full. Else prove '..UptoSaid'. A law counts once. -/
mutual
def uptoBulk {H : Type} : DataW H → Nat
  | .lit (.string bytes) => bytes.length + 1
  | .lit _ => 1
  | .nil => 1
  | .ptr d => uptoBulk d + 1
  | .slice elems spare => uptoBulkAll elems + uptoBulkAll spare + 1
  | .agg parts => uptoBulkAll parts + 1
  | .iface _ d => uptoBulk d + 1
  | .map entries => uptoBulkEntries entries + 1
  | .held _ => 1
def uptoBulkAll {H : Type} : List (DataW H) → Nat
  | [] => 0
  | d :: r => uptoBulk d + uptoBulkAll r
def uptoBulkEntries {H : Type} : List (Lit × DataW H) → Nat
  | [] => 0
  | x :: r => uptoBulkEntry x + uptoBulkEntries r
def uptoBulkEntry {H : Type} : Lit × DataW H → Nat
  | (.string bytes, d) => bytes.length + uptoBulk d + 1
  | (_, d) => uptoBulk d + 1
 end
def uptoSmall : (H : Type) → List (DataW H) → Bool := fun _ ds => decide (uptoBulkAll ds ≤ 1048576)
def OpenSpec.upto (s : _root_.Go.ChangeSpec) : _root_.Go.OpenSpec := { _root_.Go.OpenSpec.ofChange s with cond := some uptoSmall }

/-- 'inquestlaw02.CrcTurned', WHERE WHAT IT READS IS OF BULK AT MOST 1048576: true; the input reads as it did. -/
def crcTurnedUptoRow : OpenClaim := { program := "ythflnndjjhifeaa", sum := "c3949bf57bcff1be33e5148a5e6669d016ee07a33e4cdb70410c891133db8415", func := "inquest/inquestlaw02.CrcTurned", spec := "crcTurned", apart := false, narrowed := true }
def CrcTurnedUptoSaid : Prop := crcTurnedUptoRow.holds Try.pinned (OpenSpec.upto crcTurnedSpec)

/-- 'inquestlaw02.CrcJoins', WHERE WHAT IT READS IS OF BULK AT MOST 1048576: true; the input reads as it did. -/
def crcJoinsUptoRow : OpenClaim := { program := "ythflnndjjhifeaa", sum := "c3949bf57bcff1be33e5148a5e6669d016ee07a33e4cdb70410c891133db8415", func := "inquest/inquestlaw02.CrcJoins", spec := "crcJoins", apart := false, narrowed := true }
def CrcJoinsUptoSaid : Prop := crcJoinsUptoRow.holds Try.pinned (OpenSpec.upto crcJoinsSpec)

/-- 'inquestlaw02.CrcOf', WHERE WHAT IT READS IS OF BULK AT MOST 1048576: true; the input reads as it did. -/
def crcOfUptoRow : OpenClaim := { program := "ythflnndjjhifeaa", sum := "c3949bf57bcff1be33e5148a5e6669d016ee07a33e4cdb70410c891133db8415", func := "inquest/inquestlaw02.CrcOf", spec := "crcOf", apart := false, narrowed := true }
def CrcOfUptoSaid : Prop := crcOfUptoRow.holds Try.pinned (OpenSpec.upto crcOfSpec)

/-- 'inquestlaw02.CrcNil', WHERE WHAT IT READS IS OF BULK AT MOST 1048576: true; the input reads as it did. -/
def crcNilUptoRow : OpenClaim := { program := "ythflnndjjhifeaa", sum := "c3949bf57bcff1be33e5148a5e6669d016ee07a33e4cdb70410c891133db8415", func := "inquest/inquestlaw02.CrcNil", spec := "crcNil", apart := false, narrowed := true }
def CrcNilUptoSaid : Prop := crcNilUptoRow.holds Try.pinned (OpenSpec.upto crcNilSpec)

/-- 'inquestlaw15.PageSeals', WHERE WHAT IT READS IS OF BULK AT MOST 1048576: true; the input reads as it did. -/
def pageSealsUptoRow : OpenClaim := { program := "ythflnndjjhifeaa", sum := "c3949bf57bcff1be33e5148a5e6669d016ee07a33e4cdb70410c891133db8415", func := "inquest/inquestlaw15.PageSeals", spec := "pageSeals", apart := false, narrowed := true }
def PageSealsUptoSaid : Prop := pageSealsUptoRow.holds Try.pinned (OpenSpec.upto pageSealsSpec)

/-- 'inquestlaw15.PageOpens', WHERE WHAT IT READS IS OF BULK AT MOST 1048576: true; the input reads as it did. -/
def pageOpensUptoRow : OpenClaim := { program := "ythflnndjjhifeaa", sum := "c3949bf57bcff1be33e5148a5e6669d016ee07a33e4cdb70410c891133db8415", func := "inquest/inquestlaw15.PageOpens", spec := "pageOpens", apart := false, narrowed := true }
def PageOpensUptoSaid : Prop := pageOpensUptoRow.holds Try.pinned (OpenSpec.upto pageOpensSpec)

/-- 'inquestlaw15.PageTurned', WHERE WHAT IT READS IS OF BULK AT MOST 1048576: true; the input reads as it did. -/
def pageTurnedUptoRow : OpenClaim := { program := "ythflnndjjhifeaa", sum := "c3949bf57bcff1be33e5148a5e6669d016ee07a33e4cdb70410c891133db8415", func := "inquest/inquestlaw15.PageTurned", spec := "pageTurned", apart := false, narrowed := true }
def PageTurnedUptoSaid : Prop := pageTurnedUptoRow.holds Try.pinned (OpenSpec.upto pageTurnedSpec)

/-- 'inquestlaw15.PageZeros', WHERE WHAT IT READS IS OF BULK AT MOST 1048576: true; the input reads as it did. -/
def pageZerosUptoRow : OpenClaim := { program := "ythflnndjjhifeaa", sum := "c3949bf57bcff1be33e5148a5e6669d016ee07a33e4cdb70410c891133db8415", func := "inquest/inquestlaw15.PageZeros", spec := "pageZeros", apart := false, narrowed := true }
def PageZerosUptoSaid : Prop := pageZerosUptoRow.holds Try.pinned (OpenSpec.upto pageZerosSpec)

/-- 'inquestlaw16.WalPuts', WHERE WHAT IT READS IS OF BULK AT MOST 1048576: true; the input reads as it did. -/
def walPutsUptoRow : OpenClaim := { program := "ythflnndjjhifeaa", sum := "c3949bf57bcff1be33e5148a5e6669d016ee07a33e4cdb70410c891133db8415", func := "inquest/inquestlaw16.WalPuts", spec := "walPuts", apart := false, narrowed := true }
def WalPutsUptoSaid : Prop := walPutsUptoRow.holds Try.pinned (OpenSpec.upto walPutsSpec)

/-- 'inquestlaw16.WalGets', WHERE WHAT IT READS IS OF BULK AT MOST 1048576: true; the input reads as it did. -/
def walGetsUptoRow : OpenClaim := { program := "ythflnndjjhifeaa", sum := "c3949bf57bcff1be33e5148a5e6669d016ee07a33e4cdb70410c891133db8415", func := "inquest/inquestlaw16.WalGets", spec := "walGets", apart := false, narrowed := true }
def WalGetsUptoSaid : Prop := walGetsUptoRow.holds Try.pinned (OpenSpec.upto walGetsSpec)

/-- 'inquestlaw16.WalSizes', WHERE WHAT IT READS IS OF BULK AT MOST 1048576: true; the input reads as it did. -/
def walSizesUptoRow : OpenClaim := { program := "ythflnndjjhifeaa", sum := "c3949bf57bcff1be33e5148a5e6669d016ee07a33e4cdb70410c891133db8415", func := "inquest/inquestlaw16.WalSizes", spec := "walSizes", apart := false, narrowed := true }
def WalSizesUptoSaid : Prop := walSizesUptoRow.holds Try.pinned (OpenSpec.upto walSizesSpec)

/-- 'inquestlaw16.WalTurned', WHERE WHAT IT READS IS OF BULK AT MOST 1048576: true; the input reads as it did. -/
def walTurnedUptoRow : OpenClaim := { program := "ythflnndjjhifeaa", sum := "c3949bf57bcff1be33e5148a5e6669d016ee07a33e4cdb70410c891133db8415", func := "inquest/inquestlaw16.WalTurned", spec := "walTurned", apart := false, narrowed := true }
def WalTurnedUptoSaid : Prop := walTurnedUptoRow.holds Try.pinned (OpenSpec.upto walTurnedSpec)

end Rows
end Go.Proofs.Ythflnndjjhifeaa
