/-
  DERIVED. GIVEN WITH THE SEED: THE CARDS: each row of YtknjopefbbldfaaDoorRows.lean that lists a variable, with what it lists TIED to the program's text (the seventh form; the later family's looks); each row that meets fmt, with fmt's text TOLD by the authors' own Lean function (tested against real Go, not proved from fmt's source: count such statements apart). THE CARD IS WHAT COUNTS. Prove the row's statement (the work); the ties are given (YtknjopefbbldfaaDoorTie.lean); close each card by the builder's one call (the guide's Derived/Test/ToyasCard.lean, 'card_holds'). Laid BY PROGRAM, IN A SANDBOX (cutbox-door.mjs). By AI agents, Wed Nov 11 2026. No macro, syntax, notation, axiom, sorry.
-/
import Derived.Test.YtknjopefbbldfaaDoorRows
import GoSem.ClaimSeven
namespace Go.Proofs.YtknjopefbbldfaaDoor
namespace Rows

/-- THE TIED CARD OF 'inquestlaw03.VfsReads'. -/
def vfsReadsCard : Claim7 := { stood := { row := vfsReadsRow, standIns := [], harness := (true, "51efc6c420e0dc817d12d1a22249b4ffb4c44e2db27cfc5b4acdb03901cdab8a"), looks := false }, kinds := [], alts := [], laidByText := true, laidKinds := [.data, .pinned], laidTests := true, laidLooks := .later }
def VfsReadsCardSaid : Prop := Claim7.holds Tryd.pinned (.plain (OpenSpec.ofChange vfsReadsSpec)) vfsReadsCard

/-- THE TIED CARD OF 'inquestlaw03.VfsRoom'. -/
def vfsRoomCard : Claim7 := { stood := { row := vfsRoomRow, standIns := [], harness := (true, "51efc6c420e0dc817d12d1a22249b4ffb4c44e2db27cfc5b4acdb03901cdab8a"), looks := false }, kinds := [], alts := [], laidByText := true, laidKinds := [.data, .pinned], laidTests := true, laidLooks := .later }
def VfsRoomCardSaid : Prop := Claim7.holds Tryd.pinned (.plain (OpenSpec.ofChange vfsRoomSpec)) vfsRoomCard

/-- THE TIED CARD OF 'inquestlaw03.VfsSyncs'. -/
def vfsSyncsCard : Claim7 := { stood := { row := vfsSyncsRow, standIns := [], harness := (true, "51efc6c420e0dc817d12d1a22249b4ffb4c44e2db27cfc5b4acdb03901cdab8a"), looks := false }, kinds := [], alts := [], laidByText := true, laidKinds := [.data, .pinned], laidTests := true, laidLooks := .later }
def VfsSyncsCardSaid : Prop := Claim7.holds Tryd.pinned (.plain (OpenSpec.ofChange vfsSyncsSpec)) vfsSyncsCard

/-- THE TIED CARD OF 'inquestlaw03.VfsRenames'. -/
def vfsRenamesCard : Claim7 := { stood := { row := vfsRenamesRow, standIns := [], harness := (true, "51efc6c420e0dc817d12d1a22249b4ffb4c44e2db27cfc5b4acdb03901cdab8a"), looks := false }, kinds := [], alts := [], laidByText := true, laidKinds := [.data, .pinned], laidTests := true, laidLooks := .later }
def VfsRenamesCardSaid : Prop := Claim7.holds Tryd.pinned (.plain (OpenSpec.ofChange vfsRenamesSpec)) vfsRenamesCard

/-- THE TIED CARD OF 'inquestlaw03.VfsNil'. -/
def vfsNilCard : Claim7 := { stood := { row := vfsNilRow, standIns := [], harness := (true, "51efc6c420e0dc817d12d1a22249b4ffb4c44e2db27cfc5b4acdb03901cdab8a"), looks := false }, kinds := [], alts := [], laidByText := true, laidKinds := [.data, .pinned], laidTests := true, laidLooks := .later }
def VfsNilCardSaid : Prop := Claim7.holds Tryd.pinned (.plain (OpenSpec.ofChange vfsNilSpec)) vfsNilCard

/-- THE SECOND FORM's CARD OF 'inquestlaw03.VfsReads'. -/
def vfsReadsUptoCard : Claim7 := { stood := { row := vfsReadsUptoRow, standIns := [], harness := (true, "51efc6c420e0dc817d12d1a22249b4ffb4c44e2db27cfc5b4acdb03901cdab8a"), looks := false }, kinds := [], alts := [], laidByText := true, laidKinds := [.data, .pinned], laidTests := true, laidLooks := .later }
def VfsReadsUptoCardSaid : Prop := Claim7.holds Tryd.pinned (.plain (OpenSpec.upto vfsReadsSpec)) vfsReadsUptoCard

/-- THE SECOND FORM's CARD OF 'inquestlaw03.VfsRoom'. -/
def vfsRoomUptoCard : Claim7 := { stood := { row := vfsRoomUptoRow, standIns := [], harness := (true, "51efc6c420e0dc817d12d1a22249b4ffb4c44e2db27cfc5b4acdb03901cdab8a"), looks := false }, kinds := [], alts := [], laidByText := true, laidKinds := [.data, .pinned], laidTests := true, laidLooks := .later }
def VfsRoomUptoCardSaid : Prop := Claim7.holds Tryd.pinned (.plain (OpenSpec.upto vfsRoomSpec)) vfsRoomUptoCard

/-- THE SECOND FORM's CARD OF 'inquestlaw03.VfsSyncs'. -/
def vfsSyncsUptoCard : Claim7 := { stood := { row := vfsSyncsUptoRow, standIns := [], harness := (true, "51efc6c420e0dc817d12d1a22249b4ffb4c44e2db27cfc5b4acdb03901cdab8a"), looks := false }, kinds := [], alts := [], laidByText := true, laidKinds := [.data, .pinned], laidTests := true, laidLooks := .later }
def VfsSyncsUptoCardSaid : Prop := Claim7.holds Tryd.pinned (.plain (OpenSpec.upto vfsSyncsSpec)) vfsSyncsUptoCard

/-- THE SECOND FORM's CARD OF 'inquestlaw03.VfsRenames'. -/
def vfsRenamesUptoCard : Claim7 := { stood := { row := vfsRenamesUptoRow, standIns := [], harness := (true, "51efc6c420e0dc817d12d1a22249b4ffb4c44e2db27cfc5b4acdb03901cdab8a"), looks := false }, kinds := [], alts := [], laidByText := true, laidKinds := [.data, .pinned], laidTests := true, laidLooks := .later }
def VfsRenamesUptoCardSaid : Prop := Claim7.holds Tryd.pinned (.plain (OpenSpec.upto vfsRenamesSpec)) vfsRenamesUptoCard

/-- THE SECOND FORM's CARD OF 'inquestlaw03.VfsNil'. -/
def vfsNilUptoCard : Claim7 := { stood := { row := vfsNilUptoRow, standIns := [], harness := (true, "51efc6c420e0dc817d12d1a22249b4ffb4c44e2db27cfc5b4acdb03901cdab8a"), looks := false }, kinds := [], alts := [], laidByText := true, laidKinds := [.data, .pinned], laidTests := true, laidLooks := .later }
def VfsNilUptoCardSaid : Prop := Claim7.holds Tryd.pinned (.plain (OpenSpec.upto vfsNilSpec)) vfsNilUptoCard
end Rows
end Go.Proofs.YtknjopefbbldfaaDoor
