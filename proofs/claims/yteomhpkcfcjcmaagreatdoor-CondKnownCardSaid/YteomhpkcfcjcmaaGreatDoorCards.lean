/-
  DERIVED. GIVEN WITH THE SEED: THE CARDS: each row of YteomhpkcfcjcmaaGreatDoorRows.lean that lists a variable, with what it lists TIED to the program's text (the seventh form; the later family's looks); each row that meets fmt, with fmt's text TOLD by the authors' own Lean function (tested against real Go, not proved from fmt's source: count such statements apart). THE CARD IS WHAT COUNTS. Prove the row's statement (the work); the ties are given (YteomhpkcfcjcmaaGreatDoorTie.lean); close each card by the builder's one call (the guide's Derived/Test/ToyasCard.lean, 'card_holds'). Laid BY PROGRAM, IN A SANDBOX (cutbox-door.mjs). By AI agents, Wed Nov 11 2026. No macro, syntax, notation, axiom, sorry.
-/
import Derived.Test.YteomhpkcfcjcmaaGreatDoorRows
import GoSem.ClaimSeven
namespace Go.Proofs.YteomhpkcfcjcmaaGreatDoor
namespace Rows

/-- THE TIED CARD OF 'waypostlaw27.CondEvals'. -/
def condEvalsCard : Claim7 := { stood := { row := condEvalsRow, standIns := [], harness := (true, "b1360784a962fd13cbf7e44a488505b6e8abb878b5b34dec38b1ebaaacebad11"), looks := true }, kinds := [], alts := [], laidByText := true, laidKinds := [.data, .data, .data], laidTests := true, laidLooks := .later }
def CondEvalsCardSaid : Prop := Claim7.holds Tryz.pinned (.plain (OpenSpec.ofChange condEvalsSpec)) condEvalsCard

/-- THE TIED CARD OF 'waypostlaw27.CondJoins'. -/
def condJoinsCard : Claim7 := { stood := { row := condJoinsRow, standIns := [], harness := (true, "b1360784a962fd13cbf7e44a488505b6e8abb878b5b34dec38b1ebaaacebad11"), looks := true }, kinds := [], alts := [], laidByText := true, laidKinds := [.data, .data, .data], laidTests := true, laidLooks := .later }
def CondJoinsCardSaid : Prop := Claim7.holds Tryz.pinned (.plain (OpenSpec.ofChange condJoinsSpec)) condJoinsCard

/-- THE TIED CARD OF 'waypostlaw27.CondNot'. -/
def condNotCard : Claim7 := { stood := { row := condNotRow, standIns := [], harness := (true, "b1360784a962fd13cbf7e44a488505b6e8abb878b5b34dec38b1ebaaacebad11"), looks := true }, kinds := [], alts := [], laidByText := true, laidKinds := [.data, .data, .data], laidTests := true, laidLooks := .later }
def CondNotCardSaid : Prop := Claim7.holds Tryz.pinned (.plain (OpenSpec.ofChange condNotSpec)) condNotCard

/-- THE TIED CARD OF 'waypostlaw27.CondDecides'. -/
def condDecidesCard : Claim7 := { stood := { row := condDecidesRow, standIns := [], harness := (true, "b1360784a962fd13cbf7e44a488505b6e8abb878b5b34dec38b1ebaaacebad11"), looks := true }, kinds := [], alts := [], laidByText := true, laidKinds := [.data, .data, .data], laidTests := true, laidLooks := .later }
def CondDecidesCardSaid : Prop := Claim7.holds Tryz.pinned (.plain (OpenSpec.ofChange condDecidesSpec)) condDecidesCard

/-- THE TIED CARD OF 'waypostlaw27.CondKnown'. -/
def condKnownCard : Claim7 := { stood := { row := condKnownRow, standIns := [], harness := (true, "b1360784a962fd13cbf7e44a488505b6e8abb878b5b34dec38b1ebaaacebad11"), looks := true }, kinds := [], alts := [], laidByText := true, laidKinds := [.data, .data, .data], laidTests := true, laidLooks := .later }
def CondKnownCardSaid : Prop := Claim7.holds Tryz.pinned (.plain (OpenSpec.ofChange condKnownSpec)) condKnownCard

/-- THE TIED CARD OF 'waypostlaw27.CondParts'. -/
def condPartsCard : Claim7 := { stood := { row := condPartsRow, standIns := [], harness := (true, "b1360784a962fd13cbf7e44a488505b6e8abb878b5b34dec38b1ebaaacebad11"), looks := true }, kinds := [], alts := [], laidByText := true, laidKinds := [.data, .data, .data], laidTests := true, laidLooks := .later }
def CondPartsCardSaid : Prop := Claim7.holds Tryz.pinned (.plain (OpenSpec.ofChange condPartsSpec)) condPartsCard

/-- THE SECOND FORM's CARD OF 'waypostlaw27.CondEvals'. -/
def condEvalsUptoCard : Claim7 := { stood := { row := condEvalsUptoRow, standIns := [], harness := (true, "b1360784a962fd13cbf7e44a488505b6e8abb878b5b34dec38b1ebaaacebad11"), looks := true }, kinds := [], alts := [], laidByText := true, laidKinds := [.data, .data, .data], laidTests := true, laidLooks := .later }
def CondEvalsUptoCardSaid : Prop := Claim7.holds Tryz.pinned (.plain (OpenSpec.upto condEvalsSpec)) condEvalsUptoCard

/-- THE SECOND FORM's CARD OF 'waypostlaw27.CondJoins'. -/
def condJoinsUptoCard : Claim7 := { stood := { row := condJoinsUptoRow, standIns := [], harness := (true, "b1360784a962fd13cbf7e44a488505b6e8abb878b5b34dec38b1ebaaacebad11"), looks := true }, kinds := [], alts := [], laidByText := true, laidKinds := [.data, .data, .data], laidTests := true, laidLooks := .later }
def CondJoinsUptoCardSaid : Prop := Claim7.holds Tryz.pinned (.plain (OpenSpec.upto condJoinsSpec)) condJoinsUptoCard

/-- THE SECOND FORM's CARD OF 'waypostlaw27.CondNot'. -/
def condNotUptoCard : Claim7 := { stood := { row := condNotUptoRow, standIns := [], harness := (true, "b1360784a962fd13cbf7e44a488505b6e8abb878b5b34dec38b1ebaaacebad11"), looks := true }, kinds := [], alts := [], laidByText := true, laidKinds := [.data, .data, .data], laidTests := true, laidLooks := .later }
def CondNotUptoCardSaid : Prop := Claim7.holds Tryz.pinned (.plain (OpenSpec.upto condNotSpec)) condNotUptoCard

/-- THE SECOND FORM's CARD OF 'waypostlaw27.CondDecides'. -/
def condDecidesUptoCard : Claim7 := { stood := { row := condDecidesUptoRow, standIns := [], harness := (true, "b1360784a962fd13cbf7e44a488505b6e8abb878b5b34dec38b1ebaaacebad11"), looks := true }, kinds := [], alts := [], laidByText := true, laidKinds := [.data, .data, .data], laidTests := true, laidLooks := .later }
def CondDecidesUptoCardSaid : Prop := Claim7.holds Tryz.pinned (.plain (OpenSpec.upto condDecidesSpec)) condDecidesUptoCard

/-- THE SECOND FORM's CARD OF 'waypostlaw27.CondKnown'. -/
def condKnownUptoCard : Claim7 := { stood := { row := condKnownUptoRow, standIns := [], harness := (true, "b1360784a962fd13cbf7e44a488505b6e8abb878b5b34dec38b1ebaaacebad11"), looks := true }, kinds := [], alts := [], laidByText := true, laidKinds := [.data, .data, .data], laidTests := true, laidLooks := .later }
def CondKnownUptoCardSaid : Prop := Claim7.holds Tryz.pinned (.plain (OpenSpec.upto condKnownSpec)) condKnownUptoCard

/-- THE SECOND FORM's CARD OF 'waypostlaw27.CondParts'. -/
def condPartsUptoCard : Claim7 := { stood := { row := condPartsUptoRow, standIns := [], harness := (true, "b1360784a962fd13cbf7e44a488505b6e8abb878b5b34dec38b1ebaaacebad11"), looks := true }, kinds := [], alts := [], laidByText := true, laidKinds := [.data, .data, .data], laidTests := true, laidLooks := .later }
def CondPartsUptoCardSaid : Prop := Claim7.holds Tryz.pinned (.plain (OpenSpec.upto condPartsSpec)) condPartsUptoCard
end Rows
end Go.Proofs.YteomhpkcfcjcmaaGreatDoor
