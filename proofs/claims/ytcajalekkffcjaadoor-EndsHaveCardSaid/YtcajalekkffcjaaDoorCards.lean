/-
  DERIVED. GIVEN WITH THE SEED: THE CARDS: each row of YtcajalekkffcjaaDoorRows.lean that lists a variable, with what it lists TIED to the program's text (the seventh form; the later family's looks); each row that meets fmt, with fmt's text TOLD by the authors' own Lean function (tested against real Go, not proved from fmt's source: count such statements apart). THE CARD IS WHAT COUNTS. Prove the row's statement (the work); the ties are given (YtcajalekkffcjaaDoorTie.lean); close each card by the builder's one call (the guide's Derived/Test/ToyasCard.lean, 'card_holds'). Laid BY PROGRAM, IN A SANDBOX (cutbox-door.mjs). By AI agents, Wed Nov 11 2026. No macro, syntax, notation, axiom, sorry.
-/
import Derived.Test.YtcajalekkffcjaaDoorRows
import GoSem.ClaimSeven
namespace Go.Proofs.YtcajalekkffcjaaDoor
namespace Rows

/-- THE TIED CARD OF 'waypostlaw23.EndsOfs'. -/
def endsOfsCard : Claim7 := { stood := { row := endsOfsRow, standIns := [], harness := (true, "081a64b175be19537bb66306d77a087eade46af76e4b567a3af611a61aedc512"), looks := true }, kinds := [], alts := [], laidByText := true, laidKinds := [.data], laidTests := true, laidLooks := .later }
def EndsOfsCardSaid : Prop := Claim7.holds Tryd.pinned (.plain (OpenSpec.ofChange endsOfsSpec)) endsOfsCard

/-- THE TIED CARD OF 'waypostlaw23.EndsTwo'. -/
def endsTwoCard : Claim7 := { stood := { row := endsTwoRow, standIns := [], harness := (true, "081a64b175be19537bb66306d77a087eade46af76e4b567a3af611a61aedc512"), looks := true }, kinds := [], alts := [], laidByText := true, laidKinds := [.data], laidTests := true, laidLooks := .later }
def EndsTwoCardSaid : Prop := Claim7.holds Tryd.pinned (.plain (OpenSpec.ofChange endsTwoSpec)) endsTwoCard

/-- THE TIED CARD OF 'waypostlaw23.EndsBoth'. -/
def endsBothCard : Claim7 := { stood := { row := endsBothRow, standIns := [], harness := (true, "081a64b175be19537bb66306d77a087eade46af76e4b567a3af611a61aedc512"), looks := true }, kinds := [], alts := [], laidByText := true, laidKinds := [.data], laidTests := true, laidLooks := .later }
def EndsBothCardSaid : Prop := Claim7.holds Tryd.pinned (.plain (OpenSpec.ofChange endsBothSpec)) endsBothCard

/-- THE TIED CARD OF 'waypostlaw23.EndsKnown'. -/
def endsKnownCard : Claim7 := { stood := { row := endsKnownRow, standIns := [], harness := (true, "081a64b175be19537bb66306d77a087eade46af76e4b567a3af611a61aedc512"), looks := true }, kinds := [], alts := [], laidByText := true, laidKinds := [.data], laidTests := true, laidLooks := .later }
def EndsKnownCardSaid : Prop := Claim7.holds Tryd.pinned (.plain (OpenSpec.ofChange endsKnownSpec)) endsKnownCard

/-- THE TIED CARD OF 'waypostlaw23.EndsHave'. -/
def endsHaveCard : Claim7 := { stood := { row := endsHaveRow, standIns := [], harness := (true, "081a64b175be19537bb66306d77a087eade46af76e4b567a3af611a61aedc512"), looks := true }, kinds := [], alts := [], laidByText := true, laidKinds := [.data], laidTests := true, laidLooks := .later }
def EndsHaveCardSaid : Prop := Claim7.holds Tryd.pinned (.plain (OpenSpec.ofChange endsHaveSpec)) endsHaveCard

/-- THE TIED CARD OF 'waypostlaw23.EndsFit'. -/
def endsFitCard : Claim7 := { stood := { row := endsFitRow, standIns := [], harness := (true, "081a64b175be19537bb66306d77a087eade46af76e4b567a3af611a61aedc512"), looks := true }, kinds := [], alts := [], laidByText := true, laidKinds := [.data], laidTests := true, laidLooks := .later }
def EndsFitCardSaid : Prop := Claim7.holds Tryd.pinned (.plain (OpenSpec.ofChange endsFitSpec)) endsFitCard

/-- THE TIED CARD OF 'waypostlaw23.EndsMatch'. -/
def endsMatchCard : Claim7 := { stood := { row := endsMatchRow, standIns := [], harness := (true, "081a64b175be19537bb66306d77a087eade46af76e4b567a3af611a61aedc512"), looks := true }, kinds := [], alts := [], laidByText := true, laidKinds := [.data], laidTests := true, laidLooks := .later }
def EndsMatchCardSaid : Prop := Claim7.holds Tryd.pinned (.plain (OpenSpec.ofChange endsMatchSpec)) endsMatchCard

/-- THE SECOND FORM's CARD OF 'waypostlaw23.EndsOfs'. -/
def endsOfsUptoCard : Claim7 := { stood := { row := endsOfsUptoRow, standIns := [], harness := (true, "081a64b175be19537bb66306d77a087eade46af76e4b567a3af611a61aedc512"), looks := true }, kinds := [], alts := [], laidByText := true, laidKinds := [.data], laidTests := true, laidLooks := .later }
def EndsOfsUptoCardSaid : Prop := Claim7.holds Tryd.pinned (.plain (OpenSpec.upto endsOfsSpec)) endsOfsUptoCard

/-- THE SECOND FORM's CARD OF 'waypostlaw23.EndsTwo'. -/
def endsTwoUptoCard : Claim7 := { stood := { row := endsTwoUptoRow, standIns := [], harness := (true, "081a64b175be19537bb66306d77a087eade46af76e4b567a3af611a61aedc512"), looks := true }, kinds := [], alts := [], laidByText := true, laidKinds := [.data], laidTests := true, laidLooks := .later }
def EndsTwoUptoCardSaid : Prop := Claim7.holds Tryd.pinned (.plain (OpenSpec.upto endsTwoSpec)) endsTwoUptoCard

/-- THE SECOND FORM's CARD OF 'waypostlaw23.EndsBoth'. -/
def endsBothUptoCard : Claim7 := { stood := { row := endsBothUptoRow, standIns := [], harness := (true, "081a64b175be19537bb66306d77a087eade46af76e4b567a3af611a61aedc512"), looks := true }, kinds := [], alts := [], laidByText := true, laidKinds := [.data], laidTests := true, laidLooks := .later }
def EndsBothUptoCardSaid : Prop := Claim7.holds Tryd.pinned (.plain (OpenSpec.upto endsBothSpec)) endsBothUptoCard

/-- THE SECOND FORM's CARD OF 'waypostlaw23.EndsKnown'. -/
def endsKnownUptoCard : Claim7 := { stood := { row := endsKnownUptoRow, standIns := [], harness := (true, "081a64b175be19537bb66306d77a087eade46af76e4b567a3af611a61aedc512"), looks := true }, kinds := [], alts := [], laidByText := true, laidKinds := [.data], laidTests := true, laidLooks := .later }
def EndsKnownUptoCardSaid : Prop := Claim7.holds Tryd.pinned (.plain (OpenSpec.upto endsKnownSpec)) endsKnownUptoCard

/-- THE SECOND FORM's CARD OF 'waypostlaw23.EndsHave'. -/
def endsHaveUptoCard : Claim7 := { stood := { row := endsHaveUptoRow, standIns := [], harness := (true, "081a64b175be19537bb66306d77a087eade46af76e4b567a3af611a61aedc512"), looks := true }, kinds := [], alts := [], laidByText := true, laidKinds := [.data], laidTests := true, laidLooks := .later }
def EndsHaveUptoCardSaid : Prop := Claim7.holds Tryd.pinned (.plain (OpenSpec.upto endsHaveSpec)) endsHaveUptoCard

/-- THE SECOND FORM's CARD OF 'waypostlaw23.EndsFit'. -/
def endsFitUptoCard : Claim7 := { stood := { row := endsFitUptoRow, standIns := [], harness := (true, "081a64b175be19537bb66306d77a087eade46af76e4b567a3af611a61aedc512"), looks := true }, kinds := [], alts := [], laidByText := true, laidKinds := [.data], laidTests := true, laidLooks := .later }
def EndsFitUptoCardSaid : Prop := Claim7.holds Tryd.pinned (.plain (OpenSpec.upto endsFitSpec)) endsFitUptoCard

/-- THE SECOND FORM's CARD OF 'waypostlaw23.EndsMatch'. -/
def endsMatchUptoCard : Claim7 := { stood := { row := endsMatchUptoRow, standIns := [], harness := (true, "081a64b175be19537bb66306d77a087eade46af76e4b567a3af611a61aedc512"), looks := true }, kinds := [], alts := [], laidByText := true, laidKinds := [.data], laidTests := true, laidLooks := .later }
def EndsMatchUptoCardSaid : Prop := Claim7.holds Tryd.pinned (.plain (OpenSpec.upto endsMatchSpec)) endsMatchUptoCard
end Rows
end Go.Proofs.YtcajalekkffcjaaDoor
