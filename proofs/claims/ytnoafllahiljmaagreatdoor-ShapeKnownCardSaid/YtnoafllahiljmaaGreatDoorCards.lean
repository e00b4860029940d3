/-
  DERIVED. GIVEN WITH THE SEED: THE CARDS: each row of YtnoafllahiljmaaGreatDoorRows.lean that lists a variable, with what it lists TIED to the program's text (the seventh form; the later family's looks); each row that meets fmt, with fmt's text TOLD by the authors' own Lean function (tested against real Go, not proved from fmt's source: count such statements apart). THE CARD IS WHAT COUNTS. Prove the row's statement (the work); the ties are given (YtnoafllahiljmaaGreatDoorTie.lean); close each card by the builder's one call (the guide's Derived/Test/ToyasCard.lean, 'card_holds'). Laid BY PROGRAM, IN A SANDBOX (cutbox-door.mjs). By AI agents, Wed Nov 11 2026. No macro, syntax, notation, axiom, sorry.
-/
import Derived.Test.YtnoafllahiljmaaGreatDoorRows
import GoSem.ClaimSeven
namespace Go.Proofs.YtnoafllahiljmaaGreatDoor
namespace Rows

/-- THE TIED CARD OF 'waypostlaw35.ShapeOfs'. -/
def shapeOfsCard : Claim7 := { stood := { row := shapeOfsRow, standIns := [], harness := (true, "dcbd5bc418b8be82ae9bc3034f195ab39d1be986f43b45b74ac74f5e4799c24d"), looks := true }, kinds := [], alts := [], laidByText := true, laidKinds := [.data, .data], laidTests := true, laidLooks := .later }
def ShapeOfsCardSaid : Prop := Claim7.holds Tryz.pinned (.plain (OpenSpec.ofChange shapeOfsSpec)) shapeOfsCard

/-- THE TIED CARD OF 'waypostlaw35.ShapeKnown'. -/
def shapeKnownCard : Claim7 := { stood := { row := shapeKnownRow, standIns := [], harness := (true, "dcbd5bc418b8be82ae9bc3034f195ab39d1be986f43b45b74ac74f5e4799c24d"), looks := true }, kinds := [], alts := [], laidByText := true, laidKinds := [.data, .data], laidTests := true, laidLooks := .later }
def ShapeKnownCardSaid : Prop := Claim7.holds Tryz.pinned (.plain (OpenSpec.ofChange shapeKnownSpec)) shapeKnownCard

/-- THE TIED CARD OF 'waypostlaw35.ShapeWider'. -/
def shapeWiderCard : Claim7 := { stood := { row := shapeWiderRow, standIns := [], harness := (true, "dcbd5bc418b8be82ae9bc3034f195ab39d1be986f43b45b74ac74f5e4799c24d"), looks := true }, kinds := [], alts := [], laidByText := true, laidKinds := [.data, .data], laidTests := true, laidLooks := .later }
def ShapeWiderCardSaid : Prop := Claim7.holds Tryz.pinned (.plain (OpenSpec.ofChange shapeWiderSpec)) shapeWiderCard

/-- THE TIED CARD OF 'waypostlaw35.ShapeMeets'. -/
def shapeMeetsCard : Claim7 := { stood := { row := shapeMeetsRow, standIns := [], harness := (true, "dcbd5bc418b8be82ae9bc3034f195ab39d1be986f43b45b74ac74f5e4799c24d"), looks := true }, kinds := [], alts := [], laidByText := true, laidKinds := [.data, .data], laidTests := true, laidLooks := .later }
def ShapeMeetsCardSaid : Prop := Claim7.holds Tryz.pinned (.plain (OpenSpec.ofChange shapeMeetsSpec)) shapeMeetsCard

/-- THE TIED CARD OF 'waypostlaw35.ShapeSound'. -/
def shapeSoundCard : Claim7 := { stood := { row := shapeSoundRow, standIns := [], harness := (true, "dcbd5bc418b8be82ae9bc3034f195ab39d1be986f43b45b74ac74f5e4799c24d"), looks := true }, kinds := [], alts := [], laidByText := true, laidKinds := [.data, .data], laidTests := true, laidLooks := .later }
def ShapeSoundCardSaid : Prop := Claim7.holds Tryz.pinned (.plain (OpenSpec.ofChange shapeSoundSpec)) shapeSoundCard

/-- THE SECOND FORM's CARD OF 'waypostlaw35.ShapeOfs'. -/
def shapeOfsUptoCard : Claim7 := { stood := { row := shapeOfsUptoRow, standIns := [], harness := (true, "dcbd5bc418b8be82ae9bc3034f195ab39d1be986f43b45b74ac74f5e4799c24d"), looks := true }, kinds := [], alts := [], laidByText := true, laidKinds := [.data, .data], laidTests := true, laidLooks := .later }
def ShapeOfsUptoCardSaid : Prop := Claim7.holds Tryz.pinned (.plain (OpenSpec.upto shapeOfsSpec)) shapeOfsUptoCard

/-- THE SECOND FORM's CARD OF 'waypostlaw35.ShapeKnown'. -/
def shapeKnownUptoCard : Claim7 := { stood := { row := shapeKnownUptoRow, standIns := [], harness := (true, "dcbd5bc418b8be82ae9bc3034f195ab39d1be986f43b45b74ac74f5e4799c24d"), looks := true }, kinds := [], alts := [], laidByText := true, laidKinds := [.data, .data], laidTests := true, laidLooks := .later }
def ShapeKnownUptoCardSaid : Prop := Claim7.holds Tryz.pinned (.plain (OpenSpec.upto shapeKnownSpec)) shapeKnownUptoCard

/-- THE SECOND FORM's CARD OF 'waypostlaw35.ShapeWider'. -/
def shapeWiderUptoCard : Claim7 := { stood := { row := shapeWiderUptoRow, standIns := [], harness := (true, "dcbd5bc418b8be82ae9bc3034f195ab39d1be986f43b45b74ac74f5e4799c24d"), looks := true }, kinds := [], alts := [], laidByText := true, laidKinds := [.data, .data], laidTests := true, laidLooks := .later }
def ShapeWiderUptoCardSaid : Prop := Claim7.holds Tryz.pinned (.plain (OpenSpec.upto shapeWiderSpec)) shapeWiderUptoCard

/-- THE SECOND FORM's CARD OF 'waypostlaw35.ShapeMeets'. -/
def shapeMeetsUptoCard : Claim7 := { stood := { row := shapeMeetsUptoRow, standIns := [], harness := (true, "dcbd5bc418b8be82ae9bc3034f195ab39d1be986f43b45b74ac74f5e4799c24d"), looks := true }, kinds := [], alts := [], laidByText := true, laidKinds := [.data, .data], laidTests := true, laidLooks := .later }
def ShapeMeetsUptoCardSaid : Prop := Claim7.holds Tryz.pinned (.plain (OpenSpec.upto shapeMeetsSpec)) shapeMeetsUptoCard

/-- THE SECOND FORM's CARD OF 'waypostlaw35.ShapeSound'. -/
def shapeSoundUptoCard : Claim7 := { stood := { row := shapeSoundUptoRow, standIns := [], harness := (true, "dcbd5bc418b8be82ae9bc3034f195ab39d1be986f43b45b74ac74f5e4799c24d"), looks := true }, kinds := [], alts := [], laidByText := true, laidKinds := [.data, .data], laidTests := true, laidLooks := .later }
def ShapeSoundUptoCardSaid : Prop := Claim7.holds Tryz.pinned (.plain (OpenSpec.upto shapeSoundSpec)) shapeSoundUptoCard
end Rows
end Go.Proofs.YtnoafllahiljmaaGreatDoor
