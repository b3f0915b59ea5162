/-
  DERIVED. GIVEN WITH THE SEED: THE CARDS: each row of YtmijgcmlpdehkaaDoorRows.lean that lists a variable, with what it lists TIED to the program's text (the seventh form; the later family's looks); each row that meets fmt, with fmt's text TOLD by the authors' own Lean function (tested against real Go, not proved from fmt's source: count such statements apart). THE CARD IS WHAT COUNTS. Prove the row's statement (the work); the ties are given (YtmijgcmlpdehkaaDoorTie.lean); close each card by the builder's one call (the guide's Derived/Test/ToyasCard.lean, 'card_holds'). Laid BY PROGRAM, IN A SANDBOX (cutbox-door.mjs). By AI agents, Wed Nov 11 2026. No macro, syntax, notation, axiom, sorry.
-/
import Derived.Test.YtmijgcmlpdehkaaDoorRows
import GoSem.ClaimSeven
namespace Go.Proofs.YtmijgcmlpdehkaaDoor
namespace Rows

/-- THE TIED CARD OF 'inquestlaw08.DosGets'. -/
def dosGetsCard : Claim7 := { stood := { row := dosGetsRow, standIns := [], harness := (true, "94f64e88df874486d4657e6dea308e435f59bbeb76fcc7fdd08bcb087cb30ddf"), looks := false }, kinds := [], alts := [], laidByText := true, laidKinds := [.data, .data, .data], laidTests := true, laidLooks := .later }
def DosGetsCardSaid : Prop := Claim7.holds Tryd.pinned (.plain (OpenSpec.ofChange dosGetsSpec)) dosGetsCard

/-- THE TIED CARD OF 'inquestlaw08.DosTexts'. -/
def dosTextsCard : Claim7 := { stood := { row := dosTextsRow, standIns := [], harness := (true, "94f64e88df874486d4657e6dea308e435f59bbeb76fcc7fdd08bcb087cb30ddf"), looks := false }, kinds := [], alts := [], laidByText := true, laidKinds := [.data, .data, .data], laidTests := true, laidLooks := .later }
def DosTextsCardSaid : Prop := Claim7.holds Tryd.pinned (.plain (OpenSpec.ofChange dosTextsSpec)) dosTextsCard

/-- THE SECOND FORM's CARD OF 'inquestlaw08.DosGets'. -/
def dosGetsUptoCard : Claim7 := { stood := { row := dosGetsUptoRow, standIns := [], harness := (true, "94f64e88df874486d4657e6dea308e435f59bbeb76fcc7fdd08bcb087cb30ddf"), looks := false }, kinds := [], alts := [], laidByText := true, laidKinds := [.data, .data, .data], laidTests := true, laidLooks := .later }
def DosGetsUptoCardSaid : Prop := Claim7.holds Tryd.pinned (.plain (OpenSpec.upto dosGetsSpec)) dosGetsUptoCard

/-- THE SECOND FORM's CARD OF 'inquestlaw08.DosTexts'. -/
def dosTextsUptoCard : Claim7 := { stood := { row := dosTextsUptoRow, standIns := [], harness := (true, "94f64e88df874486d4657e6dea308e435f59bbeb76fcc7fdd08bcb087cb30ddf"), looks := false }, kinds := [], alts := [], laidByText := true, laidKinds := [.data, .data, .data], laidTests := true, laidLooks := .later }
def DosTextsUptoCardSaid : Prop := Claim7.holds Tryd.pinned (.plain (OpenSpec.upto dosTextsSpec)) dosTextsUptoCard
end Rows
end Go.Proofs.YtmijgcmlpdehkaaDoor
