/-
  DERIVED. GIVEN WITH THE SEED: THE CARDS: each row of YtmomjflimfajlaaDoorRows.lean that lists a variable, with what it lists TIED to the program's text (the seventh form; the later family's looks); each row that meets fmt, with fmt's text TOLD by the authors' own Lean function (tested against real Go, not proved from fmt's source: count such statements apart). THE CARD IS WHAT COUNTS. Prove the row's statement (the work); the ties are given (YtmomjflimfajlaaDoorTie.lean); close each card by the builder's one call (the guide's Derived/Test/ToyasCard.lean, 'card_holds'). Laid BY PROGRAM, IN A SANDBOX (cutbox-door.mjs). By AI agents, Wed Nov 11 2026. No macro, syntax, notation, axiom, sorry.
-/
import Derived.Test.YtmomjflimfajlaaDoorRows
import GoSem.ClaimSeven
namespace Go.Proofs.YtmomjflimfajlaaDoor
namespace Rows

/-- THE TIED CARD OF 'waypostlaw19.PatternReads'. -/
def patternReadsCard : Claim7 := { stood := { row := patternReadsRow, standIns := [], harness := (true, "627a70b13ea86c48a886a232c055cfa7e7550c1fe90d62d8359c6bebcfadc78b"), looks := false }, kinds := [], alts := [], laidByText := true, laidKinds := [.data], laidTests := true, laidLooks := .later }
def PatternReadsCardSaid : Prop := Claim7.holds Tryd.pinned (.plain (OpenSpec.ofChange patternReadsSpec)) patternReadsCard

/-- THE TIED CARD OF 'waypostlaw19.PatternBack'. -/
def patternBackCard : Claim7 := { stood := { row := patternBackRow, standIns := [], harness := (true, "627a70b13ea86c48a886a232c055cfa7e7550c1fe90d62d8359c6bebcfadc78b"), looks := false }, kinds := [], alts := [], laidByText := true, laidKinds := [.data], laidTests := true, laidLooks := .later }
def PatternBackCardSaid : Prop := Claim7.holds Tryd.pinned (.plain (OpenSpec.ofChange patternBackSpec)) patternBackCard

/-- THE TIED CARD OF 'waypostlaw19.PatternKids'. -/
def patternKidsCard : Claim7 := { stood := { row := patternKidsRow, standIns := [], harness := (true, "627a70b13ea86c48a886a232c055cfa7e7550c1fe90d62d8359c6bebcfadc78b"), looks := false }, kinds := [], alts := [], laidByText := true, laidKinds := [.data], laidTests := true, laidLooks := .later }
def PatternKidsCardSaid : Prop := Claim7.holds Tryd.pinned (.plain (OpenSpec.ofChange patternKidsSpec)) patternKidsCard

/-- THE TIED CARD OF 'waypostlaw19.PatternWrites'. -/
def patternWritesCard : Claim7 := { stood := { row := patternWritesRow, standIns := [], harness := (true, "627a70b13ea86c48a886a232c055cfa7e7550c1fe90d62d8359c6bebcfadc78b"), looks := false }, kinds := [], alts := [], laidByText := true, laidKinds := [.data], laidTests := true, laidLooks := .later }
def PatternWritesCardSaid : Prop := Claim7.holds Tryd.pinned (.plain (OpenSpec.ofChange patternWritesSpec)) patternWritesCard

/-- THE TIED CARD OF 'waypostlaw19.PatternKnown'. -/
def patternKnownCard : Claim7 := { stood := { row := patternKnownRow, standIns := [], harness := (true, "627a70b13ea86c48a886a232c055cfa7e7550c1fe90d62d8359c6bebcfadc78b"), looks := false }, kinds := [], alts := [], laidByText := true, laidKinds := [.data], laidTests := true, laidLooks := .later }
def PatternKnownCardSaid : Prop := Claim7.holds Tryd.pinned (.plain (OpenSpec.ofChange patternKnownSpec)) patternKnownCard

/-- THE TIED CARD OF 'waypostlaw19.PatternGroups'. -/
def patternGroupsCard : Claim7 := { stood := { row := patternGroupsRow, standIns := [], harness := (true, "627a70b13ea86c48a886a232c055cfa7e7550c1fe90d62d8359c6bebcfadc78b"), looks := false }, kinds := [], alts := [], laidByText := true, laidKinds := [.data], laidTests := true, laidLooks := .later }
def PatternGroupsCardSaid : Prop := Claim7.holds Tryd.pinned (.plain (OpenSpec.ofChange patternGroupsSpec)) patternGroupsCard

/-- THE TIED CARD OF 'waypostlaw19.PatternLooks'. -/
def patternLooksCard : Claim7 := { stood := { row := patternLooksRow, standIns := [], harness := (true, "627a70b13ea86c48a886a232c055cfa7e7550c1fe90d62d8359c6bebcfadc78b"), looks := false }, kinds := [], alts := [], laidByText := true, laidKinds := [.data], laidTests := true, laidLooks := .later }
def PatternLooksCardSaid : Prop := Claim7.holds Tryd.pinned (.plain (OpenSpec.ofChange patternLooksSpec)) patternLooksCard

/-- THE SECOND FORM's CARD OF 'waypostlaw19.PatternReads'. -/
def patternReadsUptoCard : Claim7 := { stood := { row := patternReadsUptoRow, standIns := [], harness := (true, "627a70b13ea86c48a886a232c055cfa7e7550c1fe90d62d8359c6bebcfadc78b"), looks := false }, kinds := [], alts := [], laidByText := true, laidKinds := [.data], laidTests := true, laidLooks := .later }
def PatternReadsUptoCardSaid : Prop := Claim7.holds Tryd.pinned (.plain (OpenSpec.upto patternReadsSpec)) patternReadsUptoCard

/-- THE SECOND FORM's CARD OF 'waypostlaw19.PatternBack'. -/
def patternBackUptoCard : Claim7 := { stood := { row := patternBackUptoRow, standIns := [], harness := (true, "627a70b13ea86c48a886a232c055cfa7e7550c1fe90d62d8359c6bebcfadc78b"), looks := false }, kinds := [], alts := [], laidByText := true, laidKinds := [.data], laidTests := true, laidLooks := .later }
def PatternBackUptoCardSaid : Prop := Claim7.holds Tryd.pinned (.plain (OpenSpec.upto patternBackSpec)) patternBackUptoCard

/-- THE SECOND FORM's CARD OF 'waypostlaw19.PatternKids'. -/
def patternKidsUptoCard : Claim7 := { stood := { row := patternKidsUptoRow, standIns := [], harness := (true, "627a70b13ea86c48a886a232c055cfa7e7550c1fe90d62d8359c6bebcfadc78b"), looks := false }, kinds := [], alts := [], laidByText := true, laidKinds := [.data], laidTests := true, laidLooks := .later }
def PatternKidsUptoCardSaid : Prop := Claim7.holds Tryd.pinned (.plain (OpenSpec.upto patternKidsSpec)) patternKidsUptoCard

/-- THE SECOND FORM's CARD OF 'waypostlaw19.PatternWrites'. -/
def patternWritesUptoCard : Claim7 := { stood := { row := patternWritesUptoRow, standIns := [], harness := (true, "627a70b13ea86c48a886a232c055cfa7e7550c1fe90d62d8359c6bebcfadc78b"), looks := false }, kinds := [], alts := [], laidByText := true, laidKinds := [.data], laidTests := true, laidLooks := .later }
def PatternWritesUptoCardSaid : Prop := Claim7.holds Tryd.pinned (.plain (OpenSpec.upto patternWritesSpec)) patternWritesUptoCard

/-- THE SECOND FORM's CARD OF 'waypostlaw19.PatternKnown'. -/
def patternKnownUptoCard : Claim7 := { stood := { row := patternKnownUptoRow, standIns := [], harness := (true, "627a70b13ea86c48a886a232c055cfa7e7550c1fe90d62d8359c6bebcfadc78b"), looks := false }, kinds := [], alts := [], laidByText := true, laidKinds := [.data], laidTests := true, laidLooks := .later }
def PatternKnownUptoCardSaid : Prop := Claim7.holds Tryd.pinned (.plain (OpenSpec.upto patternKnownSpec)) patternKnownUptoCard

/-- THE SECOND FORM's CARD OF 'waypostlaw19.PatternGroups'. -/
def patternGroupsUptoCard : Claim7 := { stood := { row := patternGroupsUptoRow, standIns := [], harness := (true, "627a70b13ea86c48a886a232c055cfa7e7550c1fe90d62d8359c6bebcfadc78b"), looks := false }, kinds := [], alts := [], laidByText := true, laidKinds := [.data], laidTests := true, laidLooks := .later }
def PatternGroupsUptoCardSaid : Prop := Claim7.holds Tryd.pinned (.plain (OpenSpec.upto patternGroupsSpec)) patternGroupsUptoCard

/-- THE SECOND FORM's CARD OF 'waypostlaw19.PatternLooks'. -/
def patternLooksUptoCard : Claim7 := { stood := { row := patternLooksUptoRow, standIns := [], harness := (true, "627a70b13ea86c48a886a232c055cfa7e7550c1fe90d62d8359c6bebcfadc78b"), looks := false }, kinds := [], alts := [], laidByText := true, laidKinds := [.data], laidTests := true, laidLooks := .later }
def PatternLooksUptoCardSaid : Prop := Claim7.holds Tryd.pinned (.plain (OpenSpec.upto patternLooksSpec)) patternLooksUptoCard
end Rows
end Go.Proofs.YtmomjflimfajlaaDoor
