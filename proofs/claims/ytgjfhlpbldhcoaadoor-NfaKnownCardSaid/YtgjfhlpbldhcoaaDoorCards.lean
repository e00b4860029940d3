/-
  DERIVED. GIVEN WITH THE SEED: THE CARDS: each row of YtgjfhlpbldhcoaaDoorRows.lean that lists a variable, with what it lists TIED to the program's text (the seventh form; the later family's looks); each row that meets fmt, with fmt's text TOLD by the authors' own Lean function (tested against real Go, not proved from fmt's source: count such statements apart). THE CARD IS WHAT COUNTS. Prove the row's statement (the work); the ties are given (YtgjfhlpbldhcoaaDoorTie.lean); close each card by the builder's one call (the guide's Derived/Test/ToyasCard.lean, 'card_holds'). Laid BY PROGRAM, IN A SANDBOX (cutbox-door.mjs). By AI agents, Wed Nov 11 2026. No macro, syntax, notation, axiom, sorry.
-/
import Derived.Test.YtgjfhlpbldhcoaaDoorRows
import GoSem.ClaimSeven
namespace Go.Proofs.YtgjfhlpbldhcoaaDoor
namespace Rows

/-- THE TIED CARD OF 'waypostlaw24.NfaCases'. -/
def nfaCasesCard : Claim7 := { stood := { row := nfaCasesRow, standIns := [], harness := (true, "45694e256c252b5f65b61f070161c770d12fe07f6ce32c8502a44ea3823c1b34"), looks := false }, kinds := [], alts := [], laidByText := true, laidKinds := [.data], laidTests := true, laidLooks := .later }
def NfaCasesCardSaid : Prop := Claim7.holds Tryd.pinned (.plain (OpenSpec.ofChange nfaCasesSpec)) nfaCasesCard

/-- THE TIED CARD OF 'waypostlaw24.NfaAccepts'. -/
def nfaAcceptsCard : Claim7 := { stood := { row := nfaAcceptsRow, standIns := [], harness := (true, "45694e256c252b5f65b61f070161c770d12fe07f6ce32c8502a44ea3823c1b34"), looks := false }, kinds := [], alts := [], laidByText := true, laidKinds := [.data], laidTests := true, laidLooks := .later }
def NfaAcceptsCardSaid : Prop := Claim7.holds Tryd.pinned (.plain (OpenSpec.ofChange nfaAcceptsSpec)) nfaAcceptsCard

/-- THE TIED CARD OF 'waypostlaw24.NfaBeyond'. -/
def nfaBeyondCard : Claim7 := { stood := { row := nfaBeyondRow, standIns := [], harness := (true, "45694e256c252b5f65b61f070161c770d12fe07f6ce32c8502a44ea3823c1b34"), looks := false }, kinds := [], alts := [], laidByText := true, laidKinds := [.data], laidTests := true, laidLooks := .later }
def NfaBeyondCardSaid : Prop := Claim7.holds Tryd.pinned (.plain (OpenSpec.ofChange nfaBeyondSpec)) nfaBeyondCard

/-- THE TIED CARD OF 'waypostlaw24.NfaEnds'. -/
def nfaEndsCard : Claim7 := { stood := { row := nfaEndsRow, standIns := [], harness := (true, "45694e256c252b5f65b61f070161c770d12fe07f6ce32c8502a44ea3823c1b34"), looks := false }, kinds := [], alts := [], laidByText := true, laidKinds := [.data], laidTests := true, laidLooks := .later }
def NfaEndsCardSaid : Prop := Claim7.holds Tryd.pinned (.plain (OpenSpec.ofChange nfaEndsSpec)) nfaEndsCard

/-- THE TIED CARD OF 'waypostlaw24.NfaKnown'. -/
def nfaKnownCard : Claim7 := { stood := { row := nfaKnownRow, standIns := [], harness := (true, "45694e256c252b5f65b61f070161c770d12fe07f6ce32c8502a44ea3823c1b34"), looks := false }, kinds := [], alts := [], laidByText := true, laidKinds := [.data], laidTests := true, laidLooks := .later }
def NfaKnownCardSaid : Prop := Claim7.holds Tryd.pinned (.plain (OpenSpec.ofChange nfaKnownSpec)) nfaKnownCard

/-- THE TIED CARD OF 'waypostlaw24.NfaShort'. -/
def nfaShortCard : Claim7 := { stood := { row := nfaShortRow, standIns := [], harness := (true, "45694e256c252b5f65b61f070161c770d12fe07f6ce32c8502a44ea3823c1b34"), looks := false }, kinds := [], alts := [], laidByText := true, laidKinds := [.data], laidTests := true, laidLooks := .later }
def NfaShortCardSaid : Prop := Claim7.holds Tryd.pinned (.plain (OpenSpec.ofChange nfaShortSpec)) nfaShortCard

/-- THE TIED CARD OF 'waypostlaw24.NfaAgrees'. -/
def nfaAgreesCard : Claim7 := { stood := { row := nfaAgreesRow, standIns := [], harness := (true, "45694e256c252b5f65b61f070161c770d12fe07f6ce32c8502a44ea3823c1b34"), looks := false }, kinds := [], alts := [], laidByText := true, laidKinds := [.data], laidTests := true, laidLooks := .later }
def NfaAgreesCardSaid : Prop := Claim7.holds Tryd.pinned (.plain (OpenSpec.ofChange nfaAgreesSpec)) nfaAgreesCard

/-- THE SECOND FORM's CARD OF 'waypostlaw24.NfaCases'. -/
def nfaCasesUptoCard : Claim7 := { stood := { row := nfaCasesUptoRow, standIns := [], harness := (true, "45694e256c252b5f65b61f070161c770d12fe07f6ce32c8502a44ea3823c1b34"), looks := false }, kinds := [], alts := [], laidByText := true, laidKinds := [.data], laidTests := true, laidLooks := .later }
def NfaCasesUptoCardSaid : Prop := Claim7.holds Tryd.pinned (.plain (OpenSpec.upto nfaCasesSpec)) nfaCasesUptoCard

/-- THE SECOND FORM's CARD OF 'waypostlaw24.NfaAccepts'. -/
def nfaAcceptsUptoCard : Claim7 := { stood := { row := nfaAcceptsUptoRow, standIns := [], harness := (true, "45694e256c252b5f65b61f070161c770d12fe07f6ce32c8502a44ea3823c1b34"), looks := false }, kinds := [], alts := [], laidByText := true, laidKinds := [.data], laidTests := true, laidLooks := .later }
def NfaAcceptsUptoCardSaid : Prop := Claim7.holds Tryd.pinned (.plain (OpenSpec.upto nfaAcceptsSpec)) nfaAcceptsUptoCard

/-- THE SECOND FORM's CARD OF 'waypostlaw24.NfaBeyond'. -/
def nfaBeyondUptoCard : Claim7 := { stood := { row := nfaBeyondUptoRow, standIns := [], harness := (true, "45694e256c252b5f65b61f070161c770d12fe07f6ce32c8502a44ea3823c1b34"), looks := false }, kinds := [], alts := [], laidByText := true, laidKinds := [.data], laidTests := true, laidLooks := .later }
def NfaBeyondUptoCardSaid : Prop := Claim7.holds Tryd.pinned (.plain (OpenSpec.upto nfaBeyondSpec)) nfaBeyondUptoCard

/-- THE SECOND FORM's CARD OF 'waypostlaw24.NfaEnds'. -/
def nfaEndsUptoCard : Claim7 := { stood := { row := nfaEndsUptoRow, standIns := [], harness := (true, "45694e256c252b5f65b61f070161c770d12fe07f6ce32c8502a44ea3823c1b34"), looks := false }, kinds := [], alts := [], laidByText := true, laidKinds := [.data], laidTests := true, laidLooks := .later }
def NfaEndsUptoCardSaid : Prop := Claim7.holds Tryd.pinned (.plain (OpenSpec.upto nfaEndsSpec)) nfaEndsUptoCard

/-- THE SECOND FORM's CARD OF 'waypostlaw24.NfaKnown'. -/
def nfaKnownUptoCard : Claim7 := { stood := { row := nfaKnownUptoRow, standIns := [], harness := (true, "45694e256c252b5f65b61f070161c770d12fe07f6ce32c8502a44ea3823c1b34"), looks := false }, kinds := [], alts := [], laidByText := true, laidKinds := [.data], laidTests := true, laidLooks := .later }
def NfaKnownUptoCardSaid : Prop := Claim7.holds Tryd.pinned (.plain (OpenSpec.upto nfaKnownSpec)) nfaKnownUptoCard

/-- THE SECOND FORM's CARD OF 'waypostlaw24.NfaShort'. -/
def nfaShortUptoCard : Claim7 := { stood := { row := nfaShortUptoRow, standIns := [], harness := (true, "45694e256c252b5f65b61f070161c770d12fe07f6ce32c8502a44ea3823c1b34"), looks := false }, kinds := [], alts := [], laidByText := true, laidKinds := [.data], laidTests := true, laidLooks := .later }
def NfaShortUptoCardSaid : Prop := Claim7.holds Tryd.pinned (.plain (OpenSpec.upto nfaShortSpec)) nfaShortUptoCard

/-- THE SECOND FORM's CARD OF 'waypostlaw24.NfaAgrees'. -/
def nfaAgreesUptoCard : Claim7 := { stood := { row := nfaAgreesUptoRow, standIns := [], harness := (true, "45694e256c252b5f65b61f070161c770d12fe07f6ce32c8502a44ea3823c1b34"), looks := false }, kinds := [], alts := [], laidByText := true, laidKinds := [.data], laidTests := true, laidLooks := .later }
def NfaAgreesUptoCardSaid : Prop := Claim7.holds Tryd.pinned (.plain (OpenSpec.upto nfaAgreesSpec)) nfaAgreesUptoCard
end Rows
end Go.Proofs.YtgjfhlpbldhcoaaDoor
