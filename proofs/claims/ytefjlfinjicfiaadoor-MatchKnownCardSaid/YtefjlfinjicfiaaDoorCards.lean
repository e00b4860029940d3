/-
  DERIVED. GIVEN WITH THE SEED: THE CARDS: each row of YtefjlfinjicfiaaDoorRows.lean that lists a variable, with what it lists TIED to the program's text (the seventh form; the later family's looks); each row that meets fmt, with fmt's text TOLD by the authors' own Lean function (tested against real Go, not proved from fmt's source: count such statements apart). THE CARD IS WHAT COUNTS. Prove the row's statement (the work); the ties are given (YtefjlfinjicfiaaDoorTie.lean); close each card by the builder's one call (the guide's Derived/Test/ToyasCard.lean, 'card_holds'). Laid BY PROGRAM, IN A SANDBOX (cutbox-door.mjs). By AI agents, Wed Nov 11 2026. No macro, syntax, notation, axiom, sorry.
-/
import Derived.Test.YtefjlfinjicfiaaDoorRows
import GoSem.ClaimSeven
namespace Go.Proofs.YtefjlfinjicfiaaDoor
namespace Rows

/-- THE TIED CARD OF 'waypostlaw21.MatchSpans'. -/
def matchSpansCard : Claim7 := { stood := { row := matchSpansRow, standIns := [], harness := (true, "838360ad20e20325d1145600997f566698447657258db0324aed10d383365a37"), looks := true }, kinds := [], alts := [], laidByText := true, laidKinds := [.data, .data], laidTests := true, laidLooks := .later }
def MatchSpansCardSaid : Prop := Claim7.holds Tryd.pinned (.plain (OpenSpec.ofChange matchSpansSpec)) matchSpansCard

/-- THE TIED CARD OF 'waypostlaw21.MatchKnown'. -/
def matchKnownCard : Claim7 := { stood := { row := matchKnownRow, standIns := [], harness := (true, "838360ad20e20325d1145600997f566698447657258db0324aed10d383365a37"), looks := true }, kinds := [], alts := [], laidByText := true, laidKinds := [.data, .data], laidTests := true, laidLooks := .later }
def MatchKnownCardSaid : Prop := Claim7.holds Tryd.pinned (.plain (OpenSpec.ofChange matchKnownSpec)) matchKnownCard

/-- THE TIED CARD OF 'waypostlaw21.MatchWhole'. -/
def matchWholeCard : Claim7 := { stood := { row := matchWholeRow, standIns := [], harness := (true, "838360ad20e20325d1145600997f566698447657258db0324aed10d383365a37"), looks := true }, kinds := [], alts := [], laidByText := true, laidKinds := [.data, .data], laidTests := true, laidLooks := .later }
def MatchWholeCardSaid : Prop := Claim7.holds Tryd.pinned (.plain (OpenSpec.ofChange matchWholeSpec)) matchWholeCard

/-- THE TIED CARD OF 'waypostlaw21.MatchLiteral'. -/
def matchLiteralCard : Claim7 := { stood := { row := matchLiteralRow, standIns := [], harness := (true, "838360ad20e20325d1145600997f566698447657258db0324aed10d383365a37"), looks := true }, kinds := [], alts := [], laidByText := true, laidKinds := [.data, .data], laidTests := true, laidLooks := .later }
def MatchLiteralCardSaid : Prop := Claim7.holds Tryd.pinned (.plain (OpenSpec.ofChange matchLiteralSpec)) matchLiteralCard

/-- THE SECOND FORM's CARD OF 'waypostlaw21.MatchSpans'. -/
def matchSpansUptoCard : Claim7 := { stood := { row := matchSpansUptoRow, standIns := [], harness := (true, "838360ad20e20325d1145600997f566698447657258db0324aed10d383365a37"), looks := true }, kinds := [], alts := [], laidByText := true, laidKinds := [.data, .data], laidTests := true, laidLooks := .later }
def MatchSpansUptoCardSaid : Prop := Claim7.holds Tryd.pinned (.plain (OpenSpec.upto matchSpansSpec)) matchSpansUptoCard

/-- THE SECOND FORM's CARD OF 'waypostlaw21.MatchKnown'. -/
def matchKnownUptoCard : Claim7 := { stood := { row := matchKnownUptoRow, standIns := [], harness := (true, "838360ad20e20325d1145600997f566698447657258db0324aed10d383365a37"), looks := true }, kinds := [], alts := [], laidByText := true, laidKinds := [.data, .data], laidTests := true, laidLooks := .later }
def MatchKnownUptoCardSaid : Prop := Claim7.holds Tryd.pinned (.plain (OpenSpec.upto matchKnownSpec)) matchKnownUptoCard

/-- THE SECOND FORM's CARD OF 'waypostlaw21.MatchWhole'. -/
def matchWholeUptoCard : Claim7 := { stood := { row := matchWholeUptoRow, standIns := [], harness := (true, "838360ad20e20325d1145600997f566698447657258db0324aed10d383365a37"), looks := true }, kinds := [], alts := [], laidByText := true, laidKinds := [.data, .data], laidTests := true, laidLooks := .later }
def MatchWholeUptoCardSaid : Prop := Claim7.holds Tryd.pinned (.plain (OpenSpec.upto matchWholeSpec)) matchWholeUptoCard

/-- THE SECOND FORM's CARD OF 'waypostlaw21.MatchLiteral'. -/
def matchLiteralUptoCard : Claim7 := { stood := { row := matchLiteralUptoRow, standIns := [], harness := (true, "838360ad20e20325d1145600997f566698447657258db0324aed10d383365a37"), looks := true }, kinds := [], alts := [], laidByText := true, laidKinds := [.data, .data], laidTests := true, laidLooks := .later }
def MatchLiteralUptoCardSaid : Prop := Claim7.holds Tryd.pinned (.plain (OpenSpec.upto matchLiteralSpec)) matchLiteralUptoCard
end Rows
end Go.Proofs.YtefjlfinjicfiaaDoor
