/-
  DERIVED. GIVEN WITH THE SEED: THE CARDS: each row of YtelaliokmmaopaaDoorRows.lean that lists a variable, with what it lists TIED to the program's text (the seventh form; the later family's looks); each row that meets fmt, with fmt's text TOLD by the authors' own Lean function (tested against real Go, not proved from fmt's source: count such statements apart). THE CARD IS WHAT COUNTS. Prove the row's statement (the work); the ties are given (YtelaliokmmaopaaDoorTie.lean); close each card by the builder's one call (the guide's Derived/Test/ToyasCard.lean, 'card_holds'). Laid BY PROGRAM, IN A SANDBOX (cutbox-door.mjs). By AI agents, Wed Nov 11 2026. No macro, syntax, notation, axiom, sorry.
-/
import Derived.Test.YtelaliokmmaopaaDoorRows
import GoSem.ClaimSeven
namespace Go.Proofs.YtelaliokmmaopaaDoor
namespace Rows

/-- THE TIED CARD OF 'inquestlaw18.NodeGets'. -/
def nodeGetsCard : Claim7 := { stood := { row := nodeGetsRow, standIns := [], harness := (true, "de91f624fdefdf9c867cf64649498c53631b3bd3f3cecd5d70e081fcd617e289"), looks := false }, kinds := [], alts := [], laidByText := true, laidKinds := [.data, .pinned], laidTests := true, laidLooks := .later }
def NodeGetsCardSaid : Prop := Claim7.holds Tryd.pinned (.plain (OpenSpec.ofChange nodeGetsSpec)) nodeGetsCard

/-- THE TIED CARD OF 'inquestlaw18.NodeSizes'. -/
def nodeSizesCard : Claim7 := { stood := { row := nodeSizesRow, standIns := [], harness := (true, "de91f624fdefdf9c867cf64649498c53631b3bd3f3cecd5d70e081fcd617e289"), looks := false }, kinds := [], alts := [], laidByText := true, laidKinds := [.data, .pinned], laidTests := true, laidLooks := .later }
def NodeSizesCardSaid : Prop := Claim7.holds Tryd.pinned (.plain (OpenSpec.ofChange nodeSizesSpec)) nodeSizesCard

/-- THE TIED CARD OF 'inquestlaw18.NodeFinds'. -/
def nodeFindsCard : Claim7 := { stood := { row := nodeFindsRow, standIns := [], harness := (true, "de91f624fdefdf9c867cf64649498c53631b3bd3f3cecd5d70e081fcd617e289"), looks := false }, kinds := [], alts := [], laidByText := true, laidKinds := [.data, .pinned], laidTests := true, laidLooks := .later }
def NodeFindsCardSaid : Prop := Claim7.holds Tryd.pinned (.plain (OpenSpec.ofChange nodeFindsSpec)) nodeFindsCard

/-- THE TIED CARD OF 'inquestlaw18.NodeOrder'. -/
def nodeOrderCard : Claim7 := { stood := { row := nodeOrderRow, standIns := [], harness := (true, "de91f624fdefdf9c867cf64649498c53631b3bd3f3cecd5d70e081fcd617e289"), looks := false }, kinds := [], alts := [], laidByText := true, laidKinds := [.data, .pinned], laidTests := true, laidLooks := .later }
def NodeOrderCardSaid : Prop := Claim7.holds Tryd.pinned (.plain (OpenSpec.ofChange nodeOrderSpec)) nodeOrderCard

/-- THE TIED CARD OF 'inquestlaw18.NodePuts'. -/
def nodePutsCard : Claim7 := { stood := { row := nodePutsRow, standIns := [], harness := (true, "de91f624fdefdf9c867cf64649498c53631b3bd3f3cecd5d70e081fcd617e289"), looks := false }, kinds := [], alts := [], laidByText := true, laidKinds := [.data, .pinned], laidTests := true, laidLooks := .later }
def NodePutsCardSaid : Prop := Claim7.holds Tryd.pinned (.plain (OpenSpec.ofChange nodePutsSpec)) nodePutsCard

/-- THE SECOND FORM's CARD OF 'inquestlaw18.NodeGets'. -/
def nodeGetsUptoCard : Claim7 := { stood := { row := nodeGetsUptoRow, standIns := [], harness := (true, "de91f624fdefdf9c867cf64649498c53631b3bd3f3cecd5d70e081fcd617e289"), looks := false }, kinds := [], alts := [], laidByText := true, laidKinds := [.data, .pinned], laidTests := true, laidLooks := .later }
def NodeGetsUptoCardSaid : Prop := Claim7.holds Tryd.pinned (.plain (OpenSpec.upto nodeGetsSpec)) nodeGetsUptoCard

/-- THE SECOND FORM's CARD OF 'inquestlaw18.NodeSizes'. -/
def nodeSizesUptoCard : Claim7 := { stood := { row := nodeSizesUptoRow, standIns := [], harness := (true, "de91f624fdefdf9c867cf64649498c53631b3bd3f3cecd5d70e081fcd617e289"), looks := false }, kinds := [], alts := [], laidByText := true, laidKinds := [.data, .pinned], laidTests := true, laidLooks := .later }
def NodeSizesUptoCardSaid : Prop := Claim7.holds Tryd.pinned (.plain (OpenSpec.upto nodeSizesSpec)) nodeSizesUptoCard

/-- THE SECOND FORM's CARD OF 'inquestlaw18.NodeFinds'. -/
def nodeFindsUptoCard : Claim7 := { stood := { row := nodeFindsUptoRow, standIns := [], harness := (true, "de91f624fdefdf9c867cf64649498c53631b3bd3f3cecd5d70e081fcd617e289"), looks := false }, kinds := [], alts := [], laidByText := true, laidKinds := [.data, .pinned], laidTests := true, laidLooks := .later }
def NodeFindsUptoCardSaid : Prop := Claim7.holds Tryd.pinned (.plain (OpenSpec.upto nodeFindsSpec)) nodeFindsUptoCard

/-- THE SECOND FORM's CARD OF 'inquestlaw18.NodeOrder'. -/
def nodeOrderUptoCard : Claim7 := { stood := { row := nodeOrderUptoRow, standIns := [], harness := (true, "de91f624fdefdf9c867cf64649498c53631b3bd3f3cecd5d70e081fcd617e289"), looks := false }, kinds := [], alts := [], laidByText := true, laidKinds := [.data, .pinned], laidTests := true, laidLooks := .later }
def NodeOrderUptoCardSaid : Prop := Claim7.holds Tryd.pinned (.plain (OpenSpec.upto nodeOrderSpec)) nodeOrderUptoCard

/-- THE SECOND FORM's CARD OF 'inquestlaw18.NodePuts'. -/
def nodePutsUptoCard : Claim7 := { stood := { row := nodePutsUptoRow, standIns := [], harness := (true, "de91f624fdefdf9c867cf64649498c53631b3bd3f3cecd5d70e081fcd617e289"), looks := false }, kinds := [], alts := [], laidByText := true, laidKinds := [.data, .pinned], laidTests := true, laidLooks := .later }
def NodePutsUptoCardSaid : Prop := Claim7.holds Tryd.pinned (.plain (OpenSpec.upto nodePutsSpec)) nodePutsUptoCard
end Rows
end Go.Proofs.YtelaliokmmaopaaDoor
