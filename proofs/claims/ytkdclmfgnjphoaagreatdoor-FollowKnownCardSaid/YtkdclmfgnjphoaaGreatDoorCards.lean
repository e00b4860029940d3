/-
  DERIVED. GIVEN WITH THE SEED: THE CARDS: each row of YtkdclmfgnjphoaaGreatDoorRows.lean that lists a variable, with what it lists TIED to the program's text (the seventh form; the later family's looks); each row that meets fmt, with fmt's text TOLD by the authors' own Lean function (tested against real Go, not proved from fmt's source: count such statements apart). THE CARD IS WHAT COUNTS. Prove the row's statement (the work); the ties are given (YtkdclmfgnjphoaaGreatDoorTie.lean); close each card by the builder's one call (the guide's Derived/Test/ToyasCard.lean, 'card_holds'). Laid BY PROGRAM, IN A SANDBOX (cutbox-door.mjs). By AI agents, Wed Nov 11 2026. No macro, syntax, notation, axiom, sorry.
-/
import Derived.Test.YtkdclmfgnjphoaaGreatDoorRows
import GoSem.ClaimSeven
namespace Go.Proofs.YtkdclmfgnjphoaaGreatDoor
namespace Rows

/-- THE TIED CARD OF 'waypostlaw36.FollowShapes'. -/
def followShapesCard : Claim7 := { stood := { row := followShapesRow, standIns := [], harness := (true, "d398e1db08309fb24731d821d72f3cacfef2de0868c3b042f8a314d43d95bfd1"), looks := true }, kinds := [], alts := [], laidByText := true, laidKinds := [.data, .data, .data, .widerDeep, .data], laidTests := true, laidLooks := .later }
def FollowShapesCardSaid : Prop := Claim7.holds Tryz.pinned (.plain (OpenSpec.ofChange followShapesSpec)) followShapesCard

/-- THE TIED CARD OF 'waypostlaw36.FollowKnown'. -/
def followKnownCard : Claim7 := { stood := { row := followKnownRow, standIns := [], harness := (true, "d398e1db08309fb24731d821d72f3cacfef2de0868c3b042f8a314d43d95bfd1"), looks := true }, kinds := [], alts := [], laidByText := true, laidKinds := [.data, .data, .data, .widerDeep, .data], laidTests := true, laidLooks := .later }
def FollowKnownCardSaid : Prop := Claim7.holds Tryz.pinned (.plain (OpenSpec.ofChange followKnownSpec)) followKnownCard

/-- THE TIED CARD OF 'waypostlaw36.FollowSome'. -/
def followSomeCard : Claim7 := { stood := { row := followSomeRow, standIns := [], harness := (true, "d398e1db08309fb24731d821d72f3cacfef2de0868c3b042f8a314d43d95bfd1"), looks := true }, kinds := [], alts := [], laidByText := true, laidKinds := [.data, .data, .data, .widerDeep, .data], laidTests := true, laidLooks := .later }
def FollowSomeCardSaid : Prop := Claim7.holds Tryz.pinned (.plain (OpenSpec.ofChange followSomeSpec)) followSomeCard

/-- THE TIED CARD OF 'waypostlaw36.FollowGraphs'. -/
def followGraphsCard : Claim7 := { stood := { row := followGraphsRow, standIns := [], harness := (true, "d398e1db08309fb24731d821d72f3cacfef2de0868c3b042f8a314d43d95bfd1"), looks := true }, kinds := [], alts := [], laidByText := true, laidKinds := [.data, .data, .data, .widerDeep, .data], laidTests := true, laidLooks := .later }
def FollowGraphsCardSaid : Prop := Claim7.holds Tryz.pinned (.plain (OpenSpec.ofChange followGraphsSpec)) followGraphsCard

/-- THE TIED CARD OF 'waypostlaw36.FollowWalks'. -/
def followWalksCard : Claim7 := { stood := { row := followWalksRow, standIns := [], harness := (true, "d398e1db08309fb24731d821d72f3cacfef2de0868c3b042f8a314d43d95bfd1"), looks := true }, kinds := [], alts := [], laidByText := true, laidKinds := [.data, .data, .data, .widerDeep, .data], laidTests := true, laidLooks := .later }
def FollowWalksCardSaid : Prop := Claim7.holds Tryz.pinned (.plain (OpenSpec.ofChange followWalksSpec)) followWalksCard

/-- THE SECOND FORM's CARD OF 'waypostlaw36.FollowShapes'. -/
def followShapesUptoCard : Claim7 := { stood := { row := followShapesUptoRow, standIns := [], harness := (true, "d398e1db08309fb24731d821d72f3cacfef2de0868c3b042f8a314d43d95bfd1"), looks := true }, kinds := [], alts := [], laidByText := true, laidKinds := [.data, .data, .data, .widerDeep, .data], laidTests := true, laidLooks := .later }
def FollowShapesUptoCardSaid : Prop := Claim7.holds Tryz.pinned (.plain (OpenSpec.upto followShapesSpec)) followShapesUptoCard

/-- THE SECOND FORM's CARD OF 'waypostlaw36.FollowKnown'. -/
def followKnownUptoCard : Claim7 := { stood := { row := followKnownUptoRow, standIns := [], harness := (true, "d398e1db08309fb24731d821d72f3cacfef2de0868c3b042f8a314d43d95bfd1"), looks := true }, kinds := [], alts := [], laidByText := true, laidKinds := [.data, .data, .data, .widerDeep, .data], laidTests := true, laidLooks := .later }
def FollowKnownUptoCardSaid : Prop := Claim7.holds Tryz.pinned (.plain (OpenSpec.upto followKnownSpec)) followKnownUptoCard

/-- THE SECOND FORM's CARD OF 'waypostlaw36.FollowSome'. -/
def followSomeUptoCard : Claim7 := { stood := { row := followSomeUptoRow, standIns := [], harness := (true, "d398e1db08309fb24731d821d72f3cacfef2de0868c3b042f8a314d43d95bfd1"), looks := true }, kinds := [], alts := [], laidByText := true, laidKinds := [.data, .data, .data, .widerDeep, .data], laidTests := true, laidLooks := .later }
def FollowSomeUptoCardSaid : Prop := Claim7.holds Tryz.pinned (.plain (OpenSpec.upto followSomeSpec)) followSomeUptoCard

/-- THE SECOND FORM's CARD OF 'waypostlaw36.FollowGraphs'. -/
def followGraphsUptoCard : Claim7 := { stood := { row := followGraphsUptoRow, standIns := [], harness := (true, "d398e1db08309fb24731d821d72f3cacfef2de0868c3b042f8a314d43d95bfd1"), looks := true }, kinds := [], alts := [], laidByText := true, laidKinds := [.data, .data, .data, .widerDeep, .data], laidTests := true, laidLooks := .later }
def FollowGraphsUptoCardSaid : Prop := Claim7.holds Tryz.pinned (.plain (OpenSpec.upto followGraphsSpec)) followGraphsUptoCard

/-- THE SECOND FORM's CARD OF 'waypostlaw36.FollowWalks'. -/
def followWalksUptoCard : Claim7 := { stood := { row := followWalksUptoRow, standIns := [], harness := (true, "d398e1db08309fb24731d821d72f3cacfef2de0868c3b042f8a314d43d95bfd1"), looks := true }, kinds := [], alts := [], laidByText := true, laidKinds := [.data, .data, .data, .widerDeep, .data], laidTests := true, laidLooks := .later }
def FollowWalksUptoCardSaid : Prop := Claim7.holds Tryz.pinned (.plain (OpenSpec.upto followWalksSpec)) followWalksUptoCard
end Rows
end Go.Proofs.YtkdclmfgnjphoaaGreatDoor
