/-
  No cell of these rows narrows 'for every input' (looked for: loops, veiled, ifaces, maps, wideKeys, modest, calm, conditions, laid).
  DERIVED. THE GIVEN ROWS OF THIS SEAT. 12 by the template 'for every input the law returns true; each argument reads behind the call as it read before'; 0 by the template 'total and deterministic' (their statements: YtnedboomhbdecaaTotals.lean).
  GIVEN WITH THE SEED: the statements are not yours to turn. If you find one false, say at which input.
  Laid BY PROGRAM, IN A SANDBOX (cutbox-rows.mjs): the forced cells as the released guide's own fill.sh prints them over the translation 2c6ab356ddf0331b… (all of the seat's roots in one cut). By AI agents, Wed Nov 11 2026. No macro, syntax, notation, axiom, sorry.
-/
import Derived.Test.YtnedboomhbdecaaChecked
import GoSem.Claim
import GoSem.ClaimJoined
import GoSem.ClaimMapViews
import Derived.JoinedTies
import Derived.KernelRfl
namespace Go.Proofs.Ytnedboomhbdecaa
/- THE CELL 'sum', in the pinned program and in every row, IS THE sha256 OF THE DUMP (.gsa) THAT YtnedboomhbdecaaProg.lean LOADS. Nothing in Lean hashes anything: it is a label: what it is worth is what the hold of that sum in a sandbox is worth. -/
noncomputable def Try.pinned : Pinned := { name := "ytnedboomhbdecaa", sum := "2c6ab356ddf0331b87a58d470d0c40d418d2d40f4ddb02b2c3ef2ce1927cd884", checked := Try.checked }
namespace Rows
def none {H : Type} : Left H := { results := [], args := [] }

/-- 'inquestlaw04.BitsCodes': WHATEVER THE INPUT: true; the input reads as it did. -/
def bitsCodesSpec : ChangeSpec := { name := "bitsCodes", fn := fun _ => fun
  | [d1, d2] => { results := [.lit (.bool true)], args := [d1, d2] }
  | _ => none }
def bitsCodesRow : OpenClaim := { program := "ytnedboomhbdecaa", sum := "2c6ab356ddf0331b87a58d470d0c40d418d2d40f4ddb02b2c3ef2ce1927cd884", func := "inquest/inquestlaw04.BitsCodes", spec := "bitsCodes", apart := false }
def BitsCodesSaid : Prop := bitsCodesRow.holds Try.pinned (OpenSpec.ofChange bitsCodesSpec)

/-- ITS FALSE NEIGHBOUR: 'it returns false'. Refute it at one input. -/
def bitsCodesWrong : ChangeSpec := { name := "bitsCodes", fn := fun _ => fun
  | [d1, d2] => { results := [.lit (.bool false)], args := [d1, d2] }
  | _ => none }
def BitsCodesWrongFalsely : Prop := bitsCodesRow.holds Try.pinned (OpenSpec.ofChange bitsCodesWrong)

/-- 'inquestlaw05.HuffCodes': WHATEVER THE INPUT: true; the input reads as it did. -/
def huffCodesSpec : ChangeSpec := { name := "huffCodes", fn := fun _ => fun
  | [d] => { results := [.lit (.bool true)], args := [d] }
  | _ => none }
def huffCodesRow : OpenClaim := { program := "ytnedboomhbdecaa", sum := "2c6ab356ddf0331b87a58d470d0c40d418d2d40f4ddb02b2c3ef2ce1927cd884", func := "inquest/inquestlaw05.HuffCodes", spec := "huffCodes", apart := false }
def HuffCodesSaid : Prop := huffCodesRow.holds Try.pinned (OpenSpec.ofChange huffCodesSpec)

/-- ITS FALSE NEIGHBOUR: 'it returns false'. Refute it at one input. -/
def huffCodesWrong : ChangeSpec := { name := "huffCodes", fn := fun _ => fun
  | [d] => { results := [.lit (.bool false)], args := [d] }
  | _ => none }
def HuffCodesWrongFalsely : Prop := huffCodesRow.holds Try.pinned (OpenSpec.ofChange huffCodesWrong)

/-- 'inquestlaw05.HuffOrder': WHATEVER THE INPUT: true; the input reads as it did. -/
def huffOrderSpec : ChangeSpec := { name := "huffOrder", fn := fun _ => fun
  | [d] => { results := [.lit (.bool true)], args := [d] }
  | _ => none }
def huffOrderRow : OpenClaim := { program := "ytnedboomhbdecaa", sum := "2c6ab356ddf0331b87a58d470d0c40d418d2d40f4ddb02b2c3ef2ce1927cd884", func := "inquest/inquestlaw05.HuffOrder", spec := "huffOrder", apart := false }
def HuffOrderSaid : Prop := huffOrderRow.holds Try.pinned (OpenSpec.ofChange huffOrderSpec)

/-- ITS FALSE NEIGHBOUR: 'it returns false'. Refute it at one input. -/
def huffOrderWrong : ChangeSpec := { name := "huffOrder", fn := fun _ => fun
  | [d] => { results := [.lit (.bool false)], args := [d] }
  | _ => none }
def HuffOrderWrongFalsely : Prop := huffOrderRow.holds Try.pinned (OpenSpec.ofChange huffOrderWrong)

/-- 'inquestlaw04.BitsWrites': WHATEVER THE INPUT: true; the input reads as it did. -/
def bitsWritesSpec : ChangeSpec := { name := "bitsWrites", fn := fun _ => fun
  | [d] => { results := [.lit (.bool true)], args := [d] }
  | _ => none }
def bitsWritesRow : OpenClaim := { program := "ytnedboomhbdecaa", sum := "2c6ab356ddf0331b87a58d470d0c40d418d2d40f4ddb02b2c3ef2ce1927cd884", func := "inquest/inquestlaw04.BitsWrites", spec := "bitsWrites", apart := false }
def BitsWritesSaid : Prop := bitsWritesRow.holds Try.pinned (OpenSpec.ofChange bitsWritesSpec)

/-- ITS FALSE NEIGHBOUR: 'it returns false'. Refute it at one input. -/
def bitsWritesWrong : ChangeSpec := { name := "bitsWrites", fn := fun _ => fun
  | [d] => { results := [.lit (.bool false)], args := [d] }
  | _ => none }
def BitsWritesWrongFalsely : Prop := bitsWritesRow.holds Try.pinned (OpenSpec.ofChange bitsWritesWrong)

/-- 'inquestlaw04.BitsBack': WHATEVER THE INPUT: true; the input reads as it did. -/
def bitsBackSpec : ChangeSpec := { name := "bitsBack", fn := fun _ => fun
  | [d1, d2] => { results := [.lit (.bool true)], args := [d1, d2] }
  | _ => none }
def bitsBackRow : OpenClaim := { program := "ytnedboomhbdecaa", sum := "2c6ab356ddf0331b87a58d470d0c40d418d2d40f4ddb02b2c3ef2ce1927cd884", func := "inquest/inquestlaw04.BitsBack", spec := "bitsBack", apart := false }
def BitsBackSaid : Prop := bitsBackRow.holds Try.pinned (OpenSpec.ofChange bitsBackSpec)

/-- ITS FALSE NEIGHBOUR: 'it returns false'. Refute it at one input. -/
def bitsBackWrong : ChangeSpec := { name := "bitsBack", fn := fun _ => fun
  | [d1, d2] => { results := [.lit (.bool false)], args := [d1, d2] }
  | _ => none }
def BitsBackWrongFalsely : Prop := bitsBackRow.holds Try.pinned (OpenSpec.ofChange bitsBackWrong)

/-- 'inquestlaw04.BitsReads': WHATEVER THE INPUT: true; the input reads as it did. -/
def bitsReadsSpec : ChangeSpec := { name := "bitsReads", fn := fun _ => fun
  | [d1, d2] => { results := [.lit (.bool true)], args := [d1, d2] }
  | _ => none }
def bitsReadsRow : OpenClaim := { program := "ytnedboomhbdecaa", sum := "2c6ab356ddf0331b87a58d470d0c40d418d2d40f4ddb02b2c3ef2ce1927cd884", func := "inquest/inquestlaw04.BitsReads", spec := "bitsReads", apart := false }
def BitsReadsSaid : Prop := bitsReadsRow.holds Try.pinned (OpenSpec.ofChange bitsReadsSpec)

/-- ITS FALSE NEIGHBOUR: 'it returns false'. Refute it at one input. -/
def bitsReadsWrong : ChangeSpec := { name := "bitsReads", fn := fun _ => fun
  | [d1, d2] => { results := [.lit (.bool false)], args := [d1, d2] }
  | _ => none }
def BitsReadsWrongFalsely : Prop := bitsReadsRow.holds Try.pinned (OpenSpec.ofChange bitsReadsWrong)

/-- 'inquestlaw04.BitsNil': WHATEVER THE INPUT: true; the input reads as it did. -/
def bitsNilSpec : ChangeSpec := { name := "bitsNil", fn := fun _ => fun
  | [d1, d2] => { results := [.lit (.bool true)], args := [d1, d2] }
  | _ => none }
def bitsNilRow : OpenClaim := { program := "ytnedboomhbdecaa", sum := "2c6ab356ddf0331b87a58d470d0c40d418d2d40f4ddb02b2c3ef2ce1927cd884", func := "inquest/inquestlaw04.BitsNil", spec := "bitsNil", apart := false }
def BitsNilSaid : Prop := bitsNilRow.holds Try.pinned (OpenSpec.ofChange bitsNilSpec)

/-- ITS FALSE NEIGHBOUR: 'it returns false'. Refute it at one input. -/
def bitsNilWrong : ChangeSpec := { name := "bitsNil", fn := fun _ => fun
  | [d1, d2] => { results := [.lit (.bool false)], args := [d1, d2] }
  | _ => none }
def BitsNilWrongFalsely : Prop := bitsNilRow.holds Try.pinned (OpenSpec.ofChange bitsNilWrong)

/-- 'inquestlaw05.HuffReads': WHATEVER THE INPUT: true; the input reads as it did. -/
def huffReadsSpec : ChangeSpec := { name := "huffReads", fn := fun _ => fun
  | [d1, d2] => { results := [.lit (.bool true)], args := [d1, d2] }
  | _ => none }
def huffReadsRow : OpenClaim := { program := "ytnedboomhbdecaa", sum := "2c6ab356ddf0331b87a58d470d0c40d418d2d40f4ddb02b2c3ef2ce1927cd884", func := "inquest/inquestlaw05.HuffReads", spec := "huffReads", apart := false }
def HuffReadsSaid : Prop := huffReadsRow.holds Try.pinned (OpenSpec.ofChange huffReadsSpec)

/-- ITS FALSE NEIGHBOUR: 'it returns false'. Refute it at one input. -/
def huffReadsWrong : ChangeSpec := { name := "huffReads", fn := fun _ => fun
  | [d1, d2] => { results := [.lit (.bool false)], args := [d1, d2] }
  | _ => none }
def HuffReadsWrongFalsely : Prop := huffReadsRow.holds Try.pinned (OpenSpec.ofChange huffReadsWrong)

/-- 'inquestlaw06.InflateEnds': WHATEVER THE INPUT: true; the input reads as it did. -/
def inflateEndsSpec : ChangeSpec := { name := "inflateEnds", fn := fun _ => fun
  | [d1, d2] => { results := [.lit (.bool true)], args := [d1, d2] }
  | _ => none }
def inflateEndsRow : OpenClaim := { program := "ytnedboomhbdecaa", sum := "2c6ab356ddf0331b87a58d470d0c40d418d2d40f4ddb02b2c3ef2ce1927cd884", func := "inquest/inquestlaw06.InflateEnds", spec := "inflateEnds", apart := false }
def InflateEndsSaid : Prop := inflateEndsRow.holds Try.pinned (OpenSpec.ofChange inflateEndsSpec)

/-- ITS FALSE NEIGHBOUR: 'it returns false'. Refute it at one input. -/
def inflateEndsWrong : ChangeSpec := { name := "inflateEnds", fn := fun _ => fun
  | [d1, d2] => { results := [.lit (.bool false)], args := [d1, d2] }
  | _ => none }
def InflateEndsWrongFalsely : Prop := inflateEndsRow.holds Try.pinned (OpenSpec.ofChange inflateEndsWrong)

/-- 'inquestlaw06.InflateStored': WHATEVER THE INPUT: true; the input reads as it did. -/
def inflateStoredSpec : ChangeSpec := { name := "inflateStored", fn := fun _ => fun
  | [d] => { results := [.lit (.bool true)], args := [d] }
  | _ => none }
def inflateStoredRow : OpenClaim := { program := "ytnedboomhbdecaa", sum := "2c6ab356ddf0331b87a58d470d0c40d418d2d40f4ddb02b2c3ef2ce1927cd884", func := "inquest/inquestlaw06.InflateStored", spec := "inflateStored", apart := false }
def InflateStoredSaid : Prop := inflateStoredRow.holds Try.pinned (OpenSpec.ofChange inflateStoredSpec)

/-- ITS FALSE NEIGHBOUR: 'it returns false'. Refute it at one input. -/
def inflateStoredWrong : ChangeSpec := { name := "inflateStored", fn := fun _ => fun
  | [d] => { results := [.lit (.bool false)], args := [d] }
  | _ => none }
def InflateStoredWrongFalsely : Prop := inflateStoredRow.holds Try.pinned (OpenSpec.ofChange inflateStoredWrong)

/-- 'inquestlaw06.InflateLong': WHATEVER THE INPUT: true; the input reads as it did. -/
def inflateLongSpec : ChangeSpec := { name := "inflateLong", fn := fun _ => fun
  | [d1, d2] => { results := [.lit (.bool true)], args := [d1, d2] }
  | _ => none }
def inflateLongRow : OpenClaim := { program := "ytnedboomhbdecaa", sum := "2c6ab356ddf0331b87a58d470d0c40d418d2d40f4ddb02b2c3ef2ce1927cd884", func := "inquest/inquestlaw06.InflateLong", spec := "inflateLong", apart := false }
def InflateLongSaid : Prop := inflateLongRow.holds Try.pinned (OpenSpec.ofChange inflateLongSpec)

/-- ITS FALSE NEIGHBOUR: 'it returns false'. Refute it at one input. -/
def inflateLongWrong : ChangeSpec := { name := "inflateLong", fn := fun _ => fun
  | [d1, d2] => { results := [.lit (.bool false)], args := [d1, d2] }
  | _ => none }
def InflateLongWrongFalsely : Prop := inflateLongRow.holds Try.pinned (OpenSpec.ofChange inflateLongWrong)

/-- 'inquestlaw06.InflateNil': WHATEVER THE INPUT: true; the input reads as it did. -/
def inflateNilSpec : ChangeSpec := { name := "inflateNil", fn := fun _ => fun
  | [d] => { results := [.lit (.bool true)], args := [d] }
  | _ => none }
def inflateNilRow : OpenClaim := { program := "ytnedboomhbdecaa", sum := "2c6ab356ddf0331b87a58d470d0c40d418d2d40f4ddb02b2c3ef2ce1927cd884", func := "inquest/inquestlaw06.InflateNil", spec := "inflateNil", apart := false }
def InflateNilSaid : Prop := inflateNilRow.holds Try.pinned (OpenSpec.ofChange inflateNilSpec)

/-- ITS FALSE NEIGHBOUR: 'it returns false'. Refute it at one input. -/
def inflateNilWrong : ChangeSpec := { name := "inflateNil", fn := fun _ => fun
  | [d] => { results := [.lit (.bool false)], args := [d] }
  | _ => none }
def InflateNilWrongFalsely : Prop := inflateNilRow.holds Try.pinned (OpenSpec.ofChange inflateNilWrong)

/- THE SECOND FORM. 'bulk': how many values and letters a reading holds, each counted each time it is reached (what is shared counts as often as it is met; a slice's spare places count too). A statement '..UptoSaid' is the law's where the arguments, and the package variables that the reading takes, are together of bulk at most 1048576: NARROWER than '..Said'. Prove '..Said' where nothing that the law and all that it calls make is longer than what came in: it says more and counts as full. Else prove '..UptoSaid'. A law counts once. -/
mutual
def uptoBulk {H : Type} : DataW H → Nat
  | .lit (.string bytes) => bytes.length + 1
  | .lit _ => 1
  | .nil => 1
  | .ptr d => uptoBulk d + 1
  | .slice elems spare => uptoBulkAll elems + uptoBulkAll spare + 1
  | .agg parts => uptoBulkAll parts + 1
  | .iface _ d => uptoBulk d + 1
  | .map entries => uptoBulkEntries entries + 1
  | .held _ => 1
def uptoBulkAll {H : Type} : List (DataW H) → Nat
  | [] => 0
  | d :: r => uptoBulk d + uptoBulkAll r
def uptoBulkEntries {H : Type} : List (Lit × DataW H) → Nat
  | [] => 0
  | x :: r => uptoBulkEntry x + uptoBulkEntries r
def uptoBulkEntry {H : Type} : Lit × DataW H → Nat
  | (.string bytes, d) => bytes.length + uptoBulk d + 1
  | (_, d) => uptoBulk d + 1
 end
def uptoSmall : (H : Type) → List (DataW H) → Bool := fun _ ds => decide (uptoBulkAll ds ≤ 1048576)
def OpenSpec.upto (s : _root_.Go.ChangeSpec) : _root_.Go.OpenSpec := { _root_.Go.OpenSpec.ofChange s with cond := some uptoSmall }

/-- 'inquestlaw04.BitsCodes', WHERE WHAT IT READS IS OF BULK AT MOST 1048576: true; the input reads as it did. -/
def bitsCodesUptoRow : OpenClaim := { program := "ytnedboomhbdecaa", sum := "2c6ab356ddf0331b87a58d470d0c40d418d2d40f4ddb02b2c3ef2ce1927cd884", func := "inquest/inquestlaw04.BitsCodes", spec := "bitsCodes", apart := false, narrowed := true }
def BitsCodesUptoSaid : Prop := bitsCodesUptoRow.holds Try.pinned (OpenSpec.upto bitsCodesSpec)

/-- 'inquestlaw05.HuffCodes', WHERE WHAT IT READS IS OF BULK AT MOST 1048576: true; the input reads as it did. -/
def huffCodesUptoRow : OpenClaim := { program := "ytnedboomhbdecaa", sum := "2c6ab356ddf0331b87a58d470d0c40d418d2d40f4ddb02b2c3ef2ce1927cd884", func := "inquest/inquestlaw05.HuffCodes", spec := "huffCodes", apart := false, narrowed := true }
def HuffCodesUptoSaid : Prop := huffCodesUptoRow.holds Try.pinned (OpenSpec.upto huffCodesSpec)

/-- 'inquestlaw05.HuffOrder', WHERE WHAT IT READS IS OF BULK AT MOST 1048576: true; the input reads as it did. -/
def huffOrderUptoRow : OpenClaim := { program := "ytnedboomhbdecaa", sum := "2c6ab356ddf0331b87a58d470d0c40d418d2d40f4ddb02b2c3ef2ce1927cd884", func := "inquest/inquestlaw05.HuffOrder", spec := "huffOrder", apart := false, narrowed := true }
def HuffOrderUptoSaid : Prop := huffOrderUptoRow.holds Try.pinned (OpenSpec.upto huffOrderSpec)

/-- 'inquestlaw04.BitsWrites', WHERE WHAT IT READS IS OF BULK AT MOST 1048576: true; the input reads as it did. -/
def bitsWritesUptoRow : OpenClaim := { program := "ytnedboomhbdecaa", sum := "2c6ab356ddf0331b87a58d470d0c40d418d2d40f4ddb02b2c3ef2ce1927cd884", func := "inquest/inquestlaw04.BitsWrites", spec := "bitsWrites", apart := false, narrowed := true }
def BitsWritesUptoSaid : Prop := bitsWritesUptoRow.holds Try.pinned (OpenSpec.upto bitsWritesSpec)

/-- 'inquestlaw04.BitsBack', WHERE WHAT IT READS IS OF BULK AT MOST 1048576: true; the input reads as it did. -/
def bitsBackUptoRow : OpenClaim := { program := "ytnedboomhbdecaa", sum := "2c6ab356ddf0331b87a58d470d0c40d418d2d40f4ddb02b2c3ef2ce1927cd884", func := "inquest/inquestlaw04.BitsBack", spec := "bitsBack", apart := false, narrowed := true }
def BitsBackUptoSaid : Prop := bitsBackUptoRow.holds Try.pinned (OpenSpec.upto bitsBackSpec)

/-- 'inquestlaw04.BitsReads', WHERE WHAT IT READS IS OF BULK AT MOST 1048576: true; the input reads as it did. -/
def bitsReadsUptoRow : OpenClaim := { program := "ytnedboomhbdecaa", sum := "2c6ab356ddf0331b87a58d470d0c40d418d2d40f4ddb02b2c3ef2ce1927cd884", func := "inquest/inquestlaw04.BitsReads", spec := "bitsReads", apart := false, narrowed := true }
def BitsReadsUptoSaid : Prop := bitsReadsUptoRow.holds Try.pinned (OpenSpec.upto bitsReadsSpec)

/-- 'inquestlaw04.BitsNil', WHERE WHAT IT READS IS OF BULK AT MOST 1048576: true; the input reads as it did. -/
def bitsNilUptoRow : OpenClaim := { program := "ytnedboomhbdecaa", sum := "2c6ab356ddf0331b87a58d470d0c40d418d2d40f4ddb02b2c3ef2ce1927cd884", func := "inquest/inquestlaw04.BitsNil", spec := "bitsNil", apart := false, narrowed := true }
def BitsNilUptoSaid : Prop := bitsNilUptoRow.holds Try.pinned (OpenSpec.upto bitsNilSpec)

/-- 'inquestlaw05.HuffReads', WHERE WHAT IT READS IS OF BULK AT MOST 1048576: true; the input reads as it did. -/
def huffReadsUptoRow : OpenClaim := { program := "ytnedboomhbdecaa", sum := "2c6ab356ddf0331b87a58d470d0c40d418d2d40f4ddb02b2c3ef2ce1927cd884", func := "inquest/inquestlaw05.HuffReads", spec := "huffReads", apart := false, narrowed := true }
def HuffReadsUptoSaid : Prop := huffReadsUptoRow.holds Try.pinned (OpenSpec.upto huffReadsSpec)

/-- 'inquestlaw06.InflateEnds', WHERE WHAT IT READS IS OF BULK AT MOST 1048576: true; the input reads as it did. -/
def inflateEndsUptoRow : OpenClaim := { program := "ytnedboomhbdecaa", sum := "2c6ab356ddf0331b87a58d470d0c40d418d2d40f4ddb02b2c3ef2ce1927cd884", func := "inquest/inquestlaw06.InflateEnds", spec := "inflateEnds", apart := false, narrowed := true }
def InflateEndsUptoSaid : Prop := inflateEndsUptoRow.holds Try.pinned (OpenSpec.upto inflateEndsSpec)

/-- 'inquestlaw06.InflateStored', WHERE WHAT IT READS IS OF BULK AT MOST 1048576: true; the input reads as it did. -/
def inflateStoredUptoRow : OpenClaim := { program := "ytnedboomhbdecaa", sum := "2c6ab356ddf0331b87a58d470d0c40d418d2d40f4ddb02b2c3ef2ce1927cd884", func := "inquest/inquestlaw06.InflateStored", spec := "inflateStored", apart := false, narrowed := true }
def InflateStoredUptoSaid : Prop := inflateStoredUptoRow.holds Try.pinned (OpenSpec.upto inflateStoredSpec)

/-- 'inquestlaw06.InflateLong', WHERE WHAT IT READS IS OF BULK AT MOST 1048576: true; the input reads as it did. -/
def inflateLongUptoRow : OpenClaim := { program := "ytnedboomhbdecaa", sum := "2c6ab356ddf0331b87a58d470d0c40d418d2d40f4ddb02b2c3ef2ce1927cd884", func := "inquest/inquestlaw06.InflateLong", spec := "inflateLong", apart := false, narrowed := true }
def InflateLongUptoSaid : Prop := inflateLongUptoRow.holds Try.pinned (OpenSpec.upto inflateLongSpec)

/-- 'inquestlaw06.InflateNil', WHERE WHAT IT READS IS OF BULK AT MOST 1048576: true; the input reads as it did. -/
def inflateNilUptoRow : OpenClaim := { program := "ytnedboomhbdecaa", sum := "2c6ab356ddf0331b87a58d470d0c40d418d2d40f4ddb02b2c3ef2ce1927cd884", func := "inquest/inquestlaw06.InflateNil", spec := "inflateNil", apart := false, narrowed := true }
def InflateNilUptoSaid : Prop := inflateNilUptoRow.holds Try.pinned (OpenSpec.upto inflateNilSpec)

end Rows
end Go.Proofs.Ytnedboomhbdecaa
