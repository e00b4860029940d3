/-
  NARROWER THAN 'FOR EVERY INPUT', by the rows' own cells (each row's printed sentence says how): PatternReads: laid · PatternBack: laid · PatternKids: laid · PatternWrites: laid · PatternKnown: laid · PatternGroups: laid · PatternLooks: laid.
  DERIVED. THE GIVEN ROWS OF THIS SEAT. 7 by the template 'for every input the law returns true; each argument reads behind the call as it read before'; 0 by the template 'total and deterministic' (their statements: YtmomjflimfajlaaDoorTotals.lean).
  GIVEN WITH THE SEED: the statements are not yours to turn. If you find one false, say at which input.
  Laid BY PROGRAM, IN A SANDBOX (cutbox-rows.mjs): the forced cells as the released guide's own fill.sh prints them over the translation 73ad80a1de2d56b3… (all of the seat's roots in one cut). By AI agents, Wed Nov 11 2026. No macro, syntax, notation, axiom, sorry.
-/
import Derived.Test.YtmomjflimfajlaaDoorChecked
import GoSem.Claim
import GoSem.ClaimJoined
import GoSem.ClaimMapViews
import Derived.JoinedTies
import Derived.KernelRfl
namespace Go.Proofs.YtmomjflimfajlaaDoor
/- THE CELL 'sum', in the pinned program and in every row, IS THE sha256 OF THE DUMP (.gsa) THAT YtmomjflimfajlaaDoorProg.lean LOADS. Nothing in Lean hashes anything: it is a label: what it is worth is what the hold of that sum in a sandbox is worth. -/
noncomputable def Tryd.pinned : Pinned := { name := "ytmomjflimfajlaadoor", sum := "73ad80a1de2d56b3b4c76bf85da658355134f28632780e48ad3122710dac0784", checked := Tryd.checked }
namespace Rows
def none {H : Type} : Left H := { results := [], args := [] }

/- WHAT THE LISTED PACKAGE-LEVEL VARIABLES READ AS WHEN THE CALL BEGINS. Each datum BY PROGRAM (the guide's laid-datum.mjs) off the statement by which the dump's own 'gosem.cut.vars' lays the variable. In a bare row this is a premise. The card (YtmomjflimfajlaaDoorCards.lean) ties it to the program's text. -/
def laid_math_bits_deBruijn64tab {H : Type} : DataW H := .agg [.lit (.int .u8 0), .lit (.int .u8 1), .lit (.int .u8 56), .lit (.int .u8 2), .lit (.int .u8 57), .lit (.int .u8 49), .lit (.int .u8 28), .lit (.int .u8 3), .lit (.int .u8 61), .lit (.int .u8 58), .lit (.int .u8 42), .lit (.int .u8 50), .lit (.int .u8 38), .lit (.int .u8 29), .lit (.int .u8 17), .lit (.int .u8 4), .lit (.int .u8 62), .lit (.int .u8 47), .lit (.int .u8 59), .lit (.int .u8 36), .lit (.int .u8 45), .lit (.int .u8 43), .lit (.int .u8 51), .lit (.int .u8 22), .lit (.int .u8 53), .lit (.int .u8 39), .lit (.int .u8 33), .lit (.int .u8 30), .lit (.int .u8 24), .lit (.int .u8 18), .lit (.int .u8 12), .lit (.int .u8 5), .lit (.int .u8 63), .lit (.int .u8 55), .lit (.int .u8 48), .lit (.int .u8 27), .lit (.int .u8 60), .lit (.int .u8 41), .lit (.int .u8 37), .lit (.int .u8 16), .lit (.int .u8 46), .lit (.int .u8 35), .lit (.int .u8 44), .lit (.int .u8 21), .lit (.int .u8 52), .lit (.int .u8 32), .lit (.int .u8 23), .lit (.int .u8 11), .lit (.int .u8 54), .lit (.int .u8 26), .lit (.int .u8 40), .lit (.int .u8 15), .lit (.int .u8 34), .lit (.int .u8 20), .lit (.int .u8 31), .lit (.int .u8 10), .lit (.int .u8 25), .lit (.int .u8 14), .lit (.int .u8 19), .lit (.int .u8 9), .lit (.int .u8 13), .lit (.int .u8 8), .lit (.int .u8 7), .lit (.int .u8 6)]

/-- 'waypostlaw19.PatternReads': WHATEVER THE INPUT: true; the input reads as it did. -/
def patternReadsSpec : ChangeSpec := { name := "patternReads", fn := fun _ => fun
  | [d] => { results := [.lit (.bool true)], args := [d] }
  | _ => none }
def patternReadsRow : OpenClaim := { program := "ytmomjflimfajlaadoor", sum := "73ad80a1de2d56b3b4c76bf85da658355134f28632780e48ad3122710dac0784", func := "waypost/waypostlaw19.PatternReads", spec := "patternReads", inPlace := ["internal/bytealg.IndexByteString", "internal/abi.NoEscape", "internal/bytealg.MakeNoZero"], unfollowed := true, recurses := true, named := ["math/bits.deBruijn64tab"], apart := false, laid := [("math/bits.deBruijn64tab", laid_math_bits_deBruijn64tab)] }
def PatternReadsSaid : Prop := patternReadsRow.holds Tryd.pinned (OpenSpec.ofChange patternReadsSpec)

/-- ITS FALSE NEIGHBOUR: 'it returns false'. Refute it at one input. -/
def patternReadsWrong : ChangeSpec := { name := "patternReads", fn := fun _ => fun
  | [d] => { results := [.lit (.bool false)], args := [d] }
  | _ => none }
def PatternReadsWrongFalsely : Prop := patternReadsRow.holds Tryd.pinned (OpenSpec.ofChange patternReadsWrong)

/-- 'waypostlaw19.PatternBack': WHATEVER THE INPUT: true; the input reads as it did. -/
def patternBackSpec : ChangeSpec := { name := "patternBack", fn := fun _ => fun
  | [d] => { results := [.lit (.bool true)], args := [d] }
  | _ => none }
def patternBackRow : OpenClaim := { program := "ytmomjflimfajlaadoor", sum := "73ad80a1de2d56b3b4c76bf85da658355134f28632780e48ad3122710dac0784", func := "waypost/waypostlaw19.PatternBack", spec := "patternBack", inPlace := ["internal/bytealg.IndexByteString", "internal/abi.NoEscape", "internal/bytealg.MakeNoZero"], unfollowed := true, recurses := true, named := ["math/bits.deBruijn64tab"], apart := false, laid := [("math/bits.deBruijn64tab", laid_math_bits_deBruijn64tab)] }
def PatternBackSaid : Prop := patternBackRow.holds Tryd.pinned (OpenSpec.ofChange patternBackSpec)

/-- ITS FALSE NEIGHBOUR: 'it returns false'. Refute it at one input. -/
def patternBackWrong : ChangeSpec := { name := "patternBack", fn := fun _ => fun
  | [d] => { results := [.lit (.bool false)], args := [d] }
  | _ => none }
def PatternBackWrongFalsely : Prop := patternBackRow.holds Tryd.pinned (OpenSpec.ofChange patternBackWrong)

/-- 'waypostlaw19.PatternKids': WHATEVER THE INPUT: true; the input reads as it did. -/
def patternKidsSpec : ChangeSpec := { name := "patternKids", fn := fun _ => fun
  | [d] => { results := [.lit (.bool true)], args := [d] }
  | _ => none }
def patternKidsRow : OpenClaim := { program := "ytmomjflimfajlaadoor", sum := "73ad80a1de2d56b3b4c76bf85da658355134f28632780e48ad3122710dac0784", func := "waypost/waypostlaw19.PatternKids", spec := "patternKids", inPlace := ["internal/bytealg.IndexByteString", "internal/abi.NoEscape", "internal/bytealg.MakeNoZero"], unfollowed := true, recurses := true, named := ["math/bits.deBruijn64tab"], apart := false, laid := [("math/bits.deBruijn64tab", laid_math_bits_deBruijn64tab)] }
def PatternKidsSaid : Prop := patternKidsRow.holds Tryd.pinned (OpenSpec.ofChange patternKidsSpec)

/-- ITS FALSE NEIGHBOUR: 'it returns false'. Refute it at one input. -/
def patternKidsWrong : ChangeSpec := { name := "patternKids", fn := fun _ => fun
  | [d] => { results := [.lit (.bool false)], args := [d] }
  | _ => none }
def PatternKidsWrongFalsely : Prop := patternKidsRow.holds Tryd.pinned (OpenSpec.ofChange patternKidsWrong)

/-- 'waypostlaw19.PatternWrites': WHATEVER THE INPUT: true; the input reads as it did. -/
def patternWritesSpec : ChangeSpec := { name := "patternWrites", fn := fun _ => fun
  | [d] => { results := [.lit (.bool true)], args := [d] }
  | _ => none }
def patternWritesRow : OpenClaim := { program := "ytmomjflimfajlaadoor", sum := "73ad80a1de2d56b3b4c76bf85da658355134f28632780e48ad3122710dac0784", func := "waypost/waypostlaw19.PatternWrites", spec := "patternWrites", inPlace := ["internal/bytealg.IndexByteString", "internal/abi.NoEscape", "internal/bytealg.MakeNoZero"], unfollowed := true, recurses := true, named := ["math/bits.deBruijn64tab"], apart := false, laid := [("math/bits.deBruijn64tab", laid_math_bits_deBruijn64tab)] }
def PatternWritesSaid : Prop := patternWritesRow.holds Tryd.pinned (OpenSpec.ofChange patternWritesSpec)

/-- ITS FALSE NEIGHBOUR: 'it returns false'. Refute it at one input. -/
def patternWritesWrong : ChangeSpec := { name := "patternWrites", fn := fun _ => fun
  | [d] => { results := [.lit (.bool false)], args := [d] }
  | _ => none }
def PatternWritesWrongFalsely : Prop := patternWritesRow.holds Tryd.pinned (OpenSpec.ofChange patternWritesWrong)

/-- 'waypostlaw19.PatternKnown': WHATEVER THE INPUT: true; the input reads as it did. -/
def patternKnownSpec : ChangeSpec := { name := "patternKnown", fn := fun _ => fun
  | [] => { results := [.lit (.bool true)], args := [] }
  | _ => none }
def patternKnownRow : OpenClaim := { program := "ytmomjflimfajlaadoor", sum := "73ad80a1de2d56b3b4c76bf85da658355134f28632780e48ad3122710dac0784", func := "waypost/waypostlaw19.PatternKnown", spec := "patternKnown", inPlace := ["internal/bytealg.IndexByteString", "internal/abi.NoEscape", "internal/bytealg.MakeNoZero"], unfollowed := true, recurses := true, named := ["math/bits.deBruijn64tab"], apart := false, laid := [("math/bits.deBruijn64tab", laid_math_bits_deBruijn64tab)] }
def PatternKnownSaid : Prop := patternKnownRow.holds Tryd.pinned (OpenSpec.ofChange patternKnownSpec)

/-- ITS FALSE NEIGHBOUR: 'it returns false'. Refute it at one input. -/
def patternKnownWrong : ChangeSpec := { name := "patternKnown", fn := fun _ => fun
  | [] => { results := [.lit (.bool false)], args := [] }
  | _ => none }
def PatternKnownWrongFalsely : Prop := patternKnownRow.holds Tryd.pinned (OpenSpec.ofChange patternKnownWrong)

/-- 'waypostlaw19.PatternGroups': WHATEVER THE INPUT: true; the input reads as it did. -/
def patternGroupsSpec : ChangeSpec := { name := "patternGroups", fn := fun _ => fun
  | [d] => { results := [.lit (.bool true)], args := [d] }
  | _ => none }
def patternGroupsRow : OpenClaim := { program := "ytmomjflimfajlaadoor", sum := "73ad80a1de2d56b3b4c76bf85da658355134f28632780e48ad3122710dac0784", func := "waypost/waypostlaw19.PatternGroups", spec := "patternGroups", inPlace := ["internal/bytealg.IndexByteString", "internal/abi.NoEscape", "internal/bytealg.MakeNoZero"], unfollowed := true, recurses := true, named := ["math/bits.deBruijn64tab"], apart := false, laid := [("math/bits.deBruijn64tab", laid_math_bits_deBruijn64tab)] }
def PatternGroupsSaid : Prop := patternGroupsRow.holds Tryd.pinned (OpenSpec.ofChange patternGroupsSpec)

/-- ITS FALSE NEIGHBOUR: 'it returns false'. Refute it at one input. -/
def patternGroupsWrong : ChangeSpec := { name := "patternGroups", fn := fun _ => fun
  | [d] => { results := [.lit (.bool false)], args := [d] }
  | _ => none }
def PatternGroupsWrongFalsely : Prop := patternGroupsRow.holds Tryd.pinned (OpenSpec.ofChange patternGroupsWrong)

/-- 'waypostlaw19.PatternLooks': WHATEVER THE INPUT: true; the input reads as it did. -/
def patternLooksSpec : ChangeSpec := { name := "patternLooks", fn := fun _ => fun
  | [d1, d2, d3, d4] => { results := [.lit (.bool true)], args := [d1, d2, d3, d4] }
  | _ => none }
def patternLooksRow : OpenClaim := { program := "ytmomjflimfajlaadoor", sum := "73ad80a1de2d56b3b4c76bf85da658355134f28632780e48ad3122710dac0784", func := "waypost/waypostlaw19.PatternLooks", spec := "patternLooks", inPlace := ["internal/bytealg.IndexByteString", "internal/abi.NoEscape", "internal/bytealg.MakeNoZero"], unfollowed := true, recurses := true, named := ["math/bits.deBruijn64tab"], apart := false, laid := [("math/bits.deBruijn64tab", laid_math_bits_deBruijn64tab)] }
def PatternLooksSaid : Prop := patternLooksRow.holds Tryd.pinned (OpenSpec.ofChange patternLooksSpec)

/-- ITS FALSE NEIGHBOUR: 'it returns false'. Refute it at one input. -/
def patternLooksWrong : ChangeSpec := { name := "patternLooks", fn := fun _ => fun
  | [d1, d2, d3, d4] => { results := [.lit (.bool false)], args := [d1, d2, d3, d4] }
  | _ => none }
def PatternLooksWrongFalsely : Prop := patternLooksRow.holds Tryd.pinned (OpenSpec.ofChange patternLooksWrong)

/- THE SECOND FORM. 'bulk': how many values and letters a reading holds, each counted each time it is reached (what is shared counts as often as it is met; a slice's spare places count too). A statement '..UptoSaid' is the law's where the arguments, and the package variables that the reading takes, are together of bulk at most 1048576: NARROWER than '..Said'. Prove '..Said' where nothing that the law and all that it calls make is longer than what came in: it says more and counts as full. Else prove '..UptoSaid'. A law counts once. -/
mutual
def uptoBulk {H : Type} : DataW H → Nat
  | .lit (.string bytes) => bytes.length + 1
  | .lit _ => 1
  | .nil => 1
  | .ptr d => uptoBulk d + 1
  | .slice elems spare => uptoBulkAll elems + uptoBulkAll spare + 1
  | .agg parts => uptoBulkAll parts + 1
  | .iface _ d => uptoBulk d + 1
  | .map entries => uptoBulkEntries entries + 1
  | .held _ => 1
def uptoBulkAll {H : Type} : List (DataW H) → Nat
  | [] => 0
  | d :: r => uptoBulk d + uptoBulkAll r
def uptoBulkEntries {H : Type} : List (Lit × DataW H) → Nat
  | [] => 0
  | x :: r => uptoBulkEntry x + uptoBulkEntries r
def uptoBulkEntry {H : Type} : Lit × DataW H → Nat
  | (.string bytes, d) => bytes.length + uptoBulk d + 1
  | (_, d) => uptoBulk d + 1
 end
def uptoSmall : (H : Type) → List (DataW H) → Bool := fun _ ds => decide (uptoBulkAll ds ≤ 1048576)
def OpenSpec.upto (s : _root_.Go.ChangeSpec) : _root_.Go.OpenSpec := { _root_.Go.OpenSpec.ofChange s with cond := some uptoSmall }

/-- 'waypostlaw19.PatternReads', WHERE WHAT IT READS IS OF BULK AT MOST 1048576: true; the input reads as it did. -/
def patternReadsUptoRow : OpenClaim := { program := "ytmomjflimfajlaadoor", sum := "73ad80a1de2d56b3b4c76bf85da658355134f28632780e48ad3122710dac0784", func := "waypost/waypostlaw19.PatternReads", spec := "patternReads", inPlace := ["internal/bytealg.IndexByteString", "internal/abi.NoEscape", "internal/bytealg.MakeNoZero"], unfollowed := true, recurses := true, named := ["math/bits.deBruijn64tab"], apart := false, laid := [("math/bits.deBruijn64tab", laid_math_bits_deBruijn64tab)], narrowed := true }
def PatternReadsUptoSaid : Prop := patternReadsUptoRow.holds Tryd.pinned (OpenSpec.upto patternReadsSpec)

/-- 'waypostlaw19.PatternBack', WHERE WHAT IT READS IS OF BULK AT MOST 1048576: true; the input reads as it did. -/
def patternBackUptoRow : OpenClaim := { program := "ytmomjflimfajlaadoor", sum := "73ad80a1de2d56b3b4c76bf85da658355134f28632780e48ad3122710dac0784", func := "waypost/waypostlaw19.PatternBack", spec := "patternBack", inPlace := ["internal/bytealg.IndexByteString", "internal/abi.NoEscape", "internal/bytealg.MakeNoZero"], unfollowed := true, recurses := true, named := ["math/bits.deBruijn64tab"], apart := false, laid := [("math/bits.deBruijn64tab", laid_math_bits_deBruijn64tab)], narrowed := true }
def PatternBackUptoSaid : Prop := patternBackUptoRow.holds Tryd.pinned (OpenSpec.upto patternBackSpec)

/-- 'waypostlaw19.PatternKids', WHERE WHAT IT READS IS OF BULK AT MOST 1048576: true; the input reads as it did. -/
def patternKidsUptoRow : OpenClaim := { program := "ytmomjflimfajlaadoor", sum := "73ad80a1de2d56b3b4c76bf85da658355134f28632780e48ad3122710dac0784", func := "waypost/waypostlaw19.PatternKids", spec := "patternKids", inPlace := ["internal/bytealg.IndexByteString", "internal/abi.NoEscape", "internal/bytealg.MakeNoZero"], unfollowed := true, recurses := true, named := ["math/bits.deBruijn64tab"], apart := false, laid := [("math/bits.deBruijn64tab", laid_math_bits_deBruijn64tab)], narrowed := true }
def PatternKidsUptoSaid : Prop := patternKidsUptoRow.holds Tryd.pinned (OpenSpec.upto patternKidsSpec)

/-- 'waypostlaw19.PatternWrites', WHERE WHAT IT READS IS OF BULK AT MOST 1048576: true; the input reads as it did. -/
def patternWritesUptoRow : OpenClaim := { program := "ytmomjflimfajlaadoor", sum := "73ad80a1de2d56b3b4c76bf85da658355134f28632780e48ad3122710dac0784", func := "waypost/waypostlaw19.PatternWrites", spec := "patternWrites", inPlace := ["internal/bytealg.IndexByteString", "internal/abi.NoEscape", "internal/bytealg.MakeNoZero"], unfollowed := true, recurses := true, named := ["math/bits.deBruijn64tab"], apart := false, laid := [("math/bits.deBruijn64tab", laid_math_bits_deBruijn64tab)], narrowed := true }
def PatternWritesUptoSaid : Prop := patternWritesUptoRow.holds Tryd.pinned (OpenSpec.upto patternWritesSpec)

/-- 'waypostlaw19.PatternKnown', WHERE WHAT IT READS IS OF BULK AT MOST 1048576: true; the input reads as it did. -/
def patternKnownUptoRow : OpenClaim := { program := "ytmomjflimfajlaadoor", sum := "73ad80a1de2d56b3b4c76bf85da658355134f28632780e48ad3122710dac0784", func := "waypost/waypostlaw19.PatternKnown", spec := "patternKnown", inPlace := ["internal/bytealg.IndexByteString", "internal/abi.NoEscape", "internal/bytealg.MakeNoZero"], unfollowed := true, recurses := true, named := ["math/bits.deBruijn64tab"], apart := false, laid := [("math/bits.deBruijn64tab", laid_math_bits_deBruijn64tab)], narrowed := true }
def PatternKnownUptoSaid : Prop := patternKnownUptoRow.holds Tryd.pinned (OpenSpec.upto patternKnownSpec)

/-- 'waypostlaw19.PatternGroups', WHERE WHAT IT READS IS OF BULK AT MOST 1048576: true; the input reads as it did. -/
def patternGroupsUptoRow : OpenClaim := { program := "ytmomjflimfajlaadoor", sum := "73ad80a1de2d56b3b4c76bf85da658355134f28632780e48ad3122710dac0784", func := "waypost/waypostlaw19.PatternGroups", spec := "patternGroups", inPlace := ["internal/bytealg.IndexByteString", "internal/abi.NoEscape", "internal/bytealg.MakeNoZero"], unfollowed := true, recurses := true, named := ["math/bits.deBruijn64tab"], apart := false, laid := [("math/bits.deBruijn64tab", laid_math_bits_deBruijn64tab)], narrowed := true }
def PatternGroupsUptoSaid : Prop := patternGroupsUptoRow.holds Tryd.pinned (OpenSpec.upto patternGroupsSpec)

/-- 'waypostlaw19.PatternLooks', WHERE WHAT IT READS IS OF BULK AT MOST 1048576: true; the input reads as it did. -/
def patternLooksUptoRow : OpenClaim := { program := "ytmomjflimfajlaadoor", sum := "73ad80a1de2d56b3b4c76bf85da658355134f28632780e48ad3122710dac0784", func := "waypost/waypostlaw19.PatternLooks", spec := "patternLooks", inPlace := ["internal/bytealg.IndexByteString", "internal/abi.NoEscape", "internal/bytealg.MakeNoZero"], unfollowed := true, recurses := true, named := ["math/bits.deBruijn64tab"], apart := false, laid := [("math/bits.deBruijn64tab", laid_math_bits_deBruijn64tab)], narrowed := true }
def PatternLooksUptoSaid : Prop := patternLooksUptoRow.holds Tryd.pinned (OpenSpec.upto patternLooksSpec)

end Rows
end Go.Proofs.YtmomjflimfajlaaDoor
