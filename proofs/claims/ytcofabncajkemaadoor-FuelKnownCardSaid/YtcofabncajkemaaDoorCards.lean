/-
  DERIVED. GIVEN WITH THE SEED: THE CARDS: each row of YtcofabncajkemaaDoorRows.lean that lists a variable, with what it lists TIED to the program's text (the seventh form; the later family's looks); each row that meets fmt, with fmt's text TOLD by the authors' own Lean function (tested against real Go, not proved from fmt's source: count such statements apart). THE CARD IS WHAT COUNTS. Prove the row's statement (the work); the ties are given (YtcofabncajkemaaDoorTie.lean); close each card by the builder's one call (the guide's Derived/Test/ToyasCard.lean, 'card_holds'). Laid BY PROGRAM, IN A SANDBOX (cutbox-door.mjs). By AI agents, Wed Nov 11 2026. No macro, syntax, notation, axiom, sorry.
-/
import Derived.Test.YtcofabncajkemaaDoorRows
import GoSem.ClaimSeven
namespace Go.Proofs.YtcofabncajkemaaDoor
namespace Rows

/-- THE TIED CARD OF 'waypostlaw22.FuelUses'. -/
def fuelUsesCard : Claim7 := { stood := { row := fuelUsesRow, standIns := [], harness := (true, "1e6455047daff6ee5354c43e5b4465687cc68450d75c9ac88d0bfc3b984e4129"), looks := true }, kinds := [], alts := [], laidByText := true, laidKinds := [.data], laidTests := true, laidLooks := .later }
def FuelUsesCardSaid : Prop := Claim7.holds Tryd.pinned (.plain (OpenSpec.ofChange fuelUsesSpec)) fuelUsesCard

/-- THE TIED CARD OF 'waypostlaw22.FuelNodes'. -/
def fuelNodesCard : Claim7 := { stood := { row := fuelNodesRow, standIns := [], harness := (true, "1e6455047daff6ee5354c43e5b4465687cc68450d75c9ac88d0bfc3b984e4129"), looks := true }, kinds := [], alts := [], laidByText := true, laidKinds := [.data], laidTests := true, laidLooks := .later }
def FuelNodesCardSaid : Prop := Claim7.holds Tryd.pinned (.plain (OpenSpec.ofChange fuelNodesSpec)) fuelNodesCard

/-- THE TIED CARD OF 'waypostlaw22.FuelKnown'. -/
def fuelKnownCard : Claim7 := { stood := { row := fuelKnownRow, standIns := [], harness := (true, "1e6455047daff6ee5354c43e5b4465687cc68450d75c9ac88d0bfc3b984e4129"), looks := true }, kinds := [], alts := [], laidByText := true, laidKinds := [.data], laidTests := true, laidLooks := .later }
def FuelKnownCardSaid : Prop := Claim7.holds Tryd.pinned (.plain (OpenSpec.ofChange fuelKnownSpec)) fuelKnownCard

/-- THE TIED CARD OF 'waypostlaw22.FuelBounds'. -/
def fuelBoundsCard : Claim7 := { stood := { row := fuelBoundsRow, standIns := [], harness := (true, "1e6455047daff6ee5354c43e5b4465687cc68450d75c9ac88d0bfc3b984e4129"), looks := true }, kinds := [], alts := [], laidByText := true, laidKinds := [.data], laidTests := true, laidLooks := .later }
def FuelBoundsCardSaid : Prop := Claim7.holds Tryd.pinned (.plain (OpenSpec.ofChange fuelBoundsSpec)) fuelBoundsCard

/-- THE TIED CARD OF 'waypostlaw22.FuelShapes'. -/
def fuelShapesCard : Claim7 := { stood := { row := fuelShapesRow, standIns := [], harness := (true, "1e6455047daff6ee5354c43e5b4465687cc68450d75c9ac88d0bfc3b984e4129"), looks := true }, kinds := [], alts := [], laidByText := true, laidKinds := [.data], laidTests := true, laidLooks := .later }
def FuelShapesCardSaid : Prop := Claim7.holds Tryd.pinned (.plain (OpenSpec.ofChange fuelShapesSpec)) fuelShapesCard

/-- THE SECOND FORM's CARD OF 'waypostlaw22.FuelUses'. -/
def fuelUsesUptoCard : Claim7 := { stood := { row := fuelUsesUptoRow, standIns := [], harness := (true, "1e6455047daff6ee5354c43e5b4465687cc68450d75c9ac88d0bfc3b984e4129"), looks := true }, kinds := [], alts := [], laidByText := true, laidKinds := [.data], laidTests := true, laidLooks := .later }
def FuelUsesUptoCardSaid : Prop := Claim7.holds Tryd.pinned (.plain (OpenSpec.upto fuelUsesSpec)) fuelUsesUptoCard

/-- THE SECOND FORM's CARD OF 'waypostlaw22.FuelNodes'. -/
def fuelNodesUptoCard : Claim7 := { stood := { row := fuelNodesUptoRow, standIns := [], harness := (true, "1e6455047daff6ee5354c43e5b4465687cc68450d75c9ac88d0bfc3b984e4129"), looks := true }, kinds := [], alts := [], laidByText := true, laidKinds := [.data], laidTests := true, laidLooks := .later }
def FuelNodesUptoCardSaid : Prop := Claim7.holds Tryd.pinned (.plain (OpenSpec.upto fuelNodesSpec)) fuelNodesUptoCard

/-- THE SECOND FORM's CARD OF 'waypostlaw22.FuelKnown'. -/
def fuelKnownUptoCard : Claim7 := { stood := { row := fuelKnownUptoRow, standIns := [], harness := (true, "1e6455047daff6ee5354c43e5b4465687cc68450d75c9ac88d0bfc3b984e4129"), looks := true }, kinds := [], alts := [], laidByText := true, laidKinds := [.data], laidTests := true, laidLooks := .later }
def FuelKnownUptoCardSaid : Prop := Claim7.holds Tryd.pinned (.plain (OpenSpec.upto fuelKnownSpec)) fuelKnownUptoCard

/-- THE SECOND FORM's CARD OF 'waypostlaw22.FuelBounds'. -/
def fuelBoundsUptoCard : Claim7 := { stood := { row := fuelBoundsUptoRow, standIns := [], harness := (true, "1e6455047daff6ee5354c43e5b4465687cc68450d75c9ac88d0bfc3b984e4129"), looks := true }, kinds := [], alts := [], laidByText := true, laidKinds := [.data], laidTests := true, laidLooks := .later }
def FuelBoundsUptoCardSaid : Prop := Claim7.holds Tryd.pinned (.plain (OpenSpec.upto fuelBoundsSpec)) fuelBoundsUptoCard

/-- THE SECOND FORM's CARD OF 'waypostlaw22.FuelShapes'. -/
def fuelShapesUptoCard : Claim7 := { stood := { row := fuelShapesUptoRow, standIns := [], harness := (true, "1e6455047daff6ee5354c43e5b4465687cc68450d75c9ac88d0bfc3b984e4129"), looks := true }, kinds := [], alts := [], laidByText := true, laidKinds := [.data], laidTests := true, laidLooks := .later }
def FuelShapesUptoCardSaid : Prop := Claim7.holds Tryd.pinned (.plain (OpenSpec.upto fuelShapesSpec)) fuelShapesUptoCard
end Rows
end Go.Proofs.YtcofabncajkemaaDoor
