/-
  DERIVED. GIVEN WITH THE SEED: THE CARDS: each row of YtknjopefbbldfaaGreatDoorRows.lean that lists a variable, with what it lists TIED to the program's text (the seventh form; the later family's looks); each row that meets fmt, with fmt's text TOLD by the authors' own Lean function (tested against real Go, not proved from fmt's source: count such statements apart). THE CARD IS WHAT COUNTS. Prove the row's statement (the work); the ties are given (YtknjopefbbldfaaGreatDoorTie.lean); close each card by the builder's one call (the guide's Derived/Test/ToyasCard.lean, 'card_holds'). Laid BY PROGRAM, IN A SANDBOX (cutbox-door.mjs). By AI agents, Wed Nov 11 2026. No macro, syntax, notation, axiom, sorry.
-/
import Derived.Test.YtknjopefbbldfaaGreatDoorRows
import GoSem.ClaimSeven
namespace Go.Proofs.YtknjopefbbldfaaGreatDoor
namespace Rows

/-- THE TIED CARD OF 'inquestlaw03.VfsActs'. -/
def vfsActsCard : Claim7 := { stood := { row := vfsActsRow, standIns := [], harness := (true, "27311a98656a7ecd090f48888fa6ecac77a3afe8660efc099764ed469c23e667"), looks := false }, kinds := [], alts := [], laidByText := true, laidKinds := [.data, .pinned], laidTests := true, laidLooks := .later }
def VfsActsCardSaid : Prop := Claim7.holds Tryz.pinned (.plain (OpenSpec.ofChange vfsActsSpec)) vfsActsCard

/-- THE SECOND FORM's CARD OF 'inquestlaw03.VfsActs'. -/
def vfsActsUptoCard : Claim7 := { stood := { row := vfsActsUptoRow, standIns := [], harness := (true, "27311a98656a7ecd090f48888fa6ecac77a3afe8660efc099764ed469c23e667"), looks := false }, kinds := [], alts := [], laidByText := true, laidKinds := [.data, .pinned], laidTests := true, laidLooks := .later }
def VfsActsUptoCardSaid : Prop := Claim7.holds Tryz.pinned (.plain (OpenSpec.upto vfsActsSpec)) vfsActsUptoCard
end Rows
end Go.Proofs.YtknjopefbbldfaaGreatDoor
