/-
  DERIVED. GIVEN WITH THE SEED: THE CARDS: each row of YtoadamkmabkldaaGreatDoorRows.lean that lists a variable, with what it lists TIED to the program's text (the seventh form; the later family's looks); each row that meets fmt, with fmt's text TOLD by the authors' own Lean function (tested against real Go, not proved from fmt's source: count such statements apart). THE CARD IS WHAT COUNTS. Prove the row's statement (the work); the ties are given (YtoadamkmabkldaaGreatDoorTie.lean); close each card by the builder's one call (the guide's Derived/Test/ToyasCard.lean, 'card_holds'). Laid BY PROGRAM, IN A SANDBOX (cutbox-door.mjs). By AI agents, Wed Nov 11 2026. No macro, syntax, notation, axiom, sorry.
-/
import Derived.Test.YtoadamkmabkldaaGreatDoorRows
import GoSem.ClaimSeven
namespace Go.Proofs.YtoadamkmabkldaaGreatDoor
namespace Rows

/-- THE TIED CARD OF 'inquestlaw17.PagerKeeps'. -/
def pagerKeepsCard : Claim7 := { stood := { row := pagerKeepsRow, standIns := [], harness := (true, "1db71b22989e1706afd611810bab4b99dd84183074ae2c1012da52a0fa9e7d25"), looks := false }, kinds := [], alts := [], laidByText := true, laidKinds := [.data, .pinned], laidTests := true, laidLooks := .later }
def PagerKeepsCardSaid : Prop := Claim7.holds Tryz.pinned (.plain (OpenSpec.ofChange pagerKeepsSpec)) pagerKeepsCard

/-- THE TIED CARD OF 'inquestlaw17.PagerReuses'. -/
def pagerReusesCard : Claim7 := { stood := { row := pagerReusesRow, standIns := [], harness := (true, "1db71b22989e1706afd611810bab4b99dd84183074ae2c1012da52a0fa9e7d25"), looks := false }, kinds := [], alts := [], laidByText := true, laidKinds := [.data, .pinned], laidTests := true, laidLooks := .later }
def PagerReusesCardSaid : Prop := Claim7.holds Tryz.pinned (.plain (OpenSpec.ofChange pagerReusesSpec)) pagerReusesCard

/-- THE TIED CARD OF 'inquestlaw17.PagerFull'. -/
def pagerFullCard : Claim7 := { stood := { row := pagerFullRow, standIns := [], harness := (true, "1db71b22989e1706afd611810bab4b99dd84183074ae2c1012da52a0fa9e7d25"), looks := false }, kinds := [], alts := [], laidByText := true, laidKinds := [.data, .pinned], laidTests := true, laidLooks := .later }
def PagerFullCardSaid : Prop := Claim7.holds Tryz.pinned (.plain (OpenSpec.ofChange pagerFullSpec)) pagerFullCard

/-- THE TIED CARD OF 'inquestlaw17.PagerRefuses'. -/
def pagerRefusesCard : Claim7 := { stood := { row := pagerRefusesRow, standIns := [], harness := (true, "1db71b22989e1706afd611810bab4b99dd84183074ae2c1012da52a0fa9e7d25"), looks := false }, kinds := [], alts := [], laidByText := true, laidKinds := [.data, .pinned], laidTests := true, laidLooks := .later }
def PagerRefusesCardSaid : Prop := Claim7.holds Tryz.pinned (.plain (OpenSpec.ofChange pagerRefusesSpec)) pagerRefusesCard

/-- THE TIED CARD OF 'inquestlaw17.PagerNil'. -/
def pagerNilCard : Claim7 := { stood := { row := pagerNilRow, standIns := [], harness := (true, "1db71b22989e1706afd611810bab4b99dd84183074ae2c1012da52a0fa9e7d25"), looks := false }, kinds := [], alts := [], laidByText := true, laidKinds := [.data, .pinned], laidTests := true, laidLooks := .later }
def PagerNilCardSaid : Prop := Claim7.holds Tryz.pinned (.plain (OpenSpec.ofChange pagerNilSpec)) pagerNilCard

/-- THE TIED CARD OF 'inquestlaw17.PagerActs'. -/
def pagerActsCard : Claim7 := { stood := { row := pagerActsRow, standIns := [], harness := (true, "1db71b22989e1706afd611810bab4b99dd84183074ae2c1012da52a0fa9e7d25"), looks := false }, kinds := [], alts := [], laidByText := true, laidKinds := [.data, .pinned], laidTests := true, laidLooks := .later }
def PagerActsCardSaid : Prop := Claim7.holds Tryz.pinned (.plain (OpenSpec.ofChange pagerActsSpec)) pagerActsCard

/-- THE SECOND FORM's CARD OF 'inquestlaw17.PagerKeeps'. -/
def pagerKeepsUptoCard : Claim7 := { stood := { row := pagerKeepsUptoRow, standIns := [], harness := (true, "1db71b22989e1706afd611810bab4b99dd84183074ae2c1012da52a0fa9e7d25"), looks := false }, kinds := [], alts := [], laidByText := true, laidKinds := [.data, .pinned], laidTests := true, laidLooks := .later }
def PagerKeepsUptoCardSaid : Prop := Claim7.holds Tryz.pinned (.plain (OpenSpec.upto pagerKeepsSpec)) pagerKeepsUptoCard

/-- THE SECOND FORM's CARD OF 'inquestlaw17.PagerReuses'. -/
def pagerReusesUptoCard : Claim7 := { stood := { row := pagerReusesUptoRow, standIns := [], harness := (true, "1db71b22989e1706afd611810bab4b99dd84183074ae2c1012da52a0fa9e7d25"), looks := false }, kinds := [], alts := [], laidByText := true, laidKinds := [.data, .pinned], laidTests := true, laidLooks := .later }
def PagerReusesUptoCardSaid : Prop := Claim7.holds Tryz.pinned (.plain (OpenSpec.upto pagerReusesSpec)) pagerReusesUptoCard

/-- THE SECOND FORM's CARD OF 'inquestlaw17.PagerFull'. -/
def pagerFullUptoCard : Claim7 := { stood := { row := pagerFullUptoRow, standIns := [], harness := (true, "1db71b22989e1706afd611810bab4b99dd84183074ae2c1012da52a0fa9e7d25"), looks := false }, kinds := [], alts := [], laidByText := true, laidKinds := [.data, .pinned], laidTests := true, laidLooks := .later }
def PagerFullUptoCardSaid : Prop := Claim7.holds Tryz.pinned (.plain (OpenSpec.upto pagerFullSpec)) pagerFullUptoCard

/-- THE SECOND FORM's CARD OF 'inquestlaw17.PagerRefuses'. -/
def pagerRefusesUptoCard : Claim7 := { stood := { row := pagerRefusesUptoRow, standIns := [], harness := (true, "1db71b22989e1706afd611810bab4b99dd84183074ae2c1012da52a0fa9e7d25"), looks := false }, kinds := [], alts := [], laidByText := true, laidKinds := [.data, .pinned], laidTests := true, laidLooks := .later }
def PagerRefusesUptoCardSaid : Prop := Claim7.holds Tryz.pinned (.plain (OpenSpec.upto pagerRefusesSpec)) pagerRefusesUptoCard

/-- THE SECOND FORM's CARD OF 'inquestlaw17.PagerNil'. -/
def pagerNilUptoCard : Claim7 := { stood := { row := pagerNilUptoRow, standIns := [], harness := (true, "1db71b22989e1706afd611810bab4b99dd84183074ae2c1012da52a0fa9e7d25"), looks := false }, kinds := [], alts := [], laidByText := true, laidKinds := [.data, .pinned], laidTests := true, laidLooks := .later }
def PagerNilUptoCardSaid : Prop := Claim7.holds Tryz.pinned (.plain (OpenSpec.upto pagerNilSpec)) pagerNilUptoCard

/-- THE SECOND FORM's CARD OF 'inquestlaw17.PagerActs'. -/
def pagerActsUptoCard : Claim7 := { stood := { row := pagerActsUptoRow, standIns := [], harness := (true, "1db71b22989e1706afd611810bab4b99dd84183074ae2c1012da52a0fa9e7d25"), looks := false }, kinds := [], alts := [], laidByText := true, laidKinds := [.data, .pinned], laidTests := true, laidLooks := .later }
def PagerActsUptoCardSaid : Prop := Claim7.holds Tryz.pinned (.plain (OpenSpec.upto pagerActsSpec)) pagerActsUptoCard
end Rows
end Go.Proofs.YtoadamkmabkldaaGreatDoor
