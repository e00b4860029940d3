/-
  NARROWER THAN 'FOR EVERY INPUT', by the rows' own cells (each row's printed sentence says how): CondEvals: laid · CondJoins: laid · CondNot: laid · CondDecides: laid · CondKnown: laid · CondParts: laid.
  DERIVED. THE GIVEN ROWS OF THIS SEAT. 6 by the template 'for every input the law returns true; each argument reads behind the call as it read before'; 0 by the template 'total and deterministic' (their statements: YteomhpkcfcjcmaaGreatDoorTotals.lean).
  GIVEN WITH THE SEED: the statements are not yours to turn. If you find one false, say at which input.
  Laid BY PROGRAM, IN A SANDBOX (cutbox-rows.mjs): the forced cells as the released guide's own fill.sh prints them over the translation 78429c825243b56f… (all of the seat's roots in one cut). By AI agents, Wed Nov 11 2026. No macro, syntax, notation, axiom, sorry.
-/
import Derived.Test.YteomhpkcfcjcmaaGreatDoorChecked
import GoSem.Claim
import GoSem.ClaimJoined
import GoSem.ClaimMapViews
import Derived.JoinedTies
import Derived.KernelRfl
namespace Go.Proofs.YteomhpkcfcjcmaaGreatDoor
/- THE CELL 'sum', in the pinned program and in every row, IS THE sha256 OF THE DUMP (.gsa) THAT YteomhpkcfcjcmaaGreatDoorProg.lean LOADS. Nothing in Lean hashes anything: it is a label: what it is worth is what the hold of that sum in a sandbox is worth. -/
noncomputable def Tryz.pinned : Pinned := { name := "yteomhpkcfcjcmaagreatdoor", sum := "78429c825243b56f7e58ef0a228090ae0731638d81ceb2549d26428e54391361", checked := Tryz.checked }
namespace Rows
def none {H : Type} : Left H := { results := [], args := [] }

/- WHAT THE LISTED PACKAGE-LEVEL VARIABLES READ AS WHEN THE CALL BEGINS. Each datum BY PROGRAM (the guide's laid-datum.mjs) off the statement by which the dump's own 'gosem.cut.vars' lays the variable. In a bare row this is a premise. The card (YteomhpkcfcjcmaaGreatDoorCards.lean) ties it to the program's text. -/
def laid_math_bits_deBruijn64tab {H : Type} : DataW H := .agg [.lit (.int .u8 0), .lit (.int .u8 1), .lit (.int .u8 56), .lit (.int .u8 2), .lit (.int .u8 57), .lit (.int .u8 49), .lit (.int .u8 28), .lit (.int .u8 3), .lit (.int .u8 61), .lit (.int .u8 58), .lit (.int .u8 42), .lit (.int .u8 50), .lit (.int .u8 38), .lit (.int .u8 29), .lit (.int .u8 17), .lit (.int .u8 4), .lit (.int .u8 62), .lit (.int .u8 47), .lit (.int .u8 59), .lit (.int .u8 36), .lit (.int .u8 45), .lit (.int .u8 43), .lit (.int .u8 51), .lit (.int .u8 22), .lit (.int .u8 53), .lit (.int .u8 39), .lit (.int .u8 33), .lit (.int .u8 30), .lit (.int .u8 24), .lit (.int .u8 18), .lit (.int .u8 12), .lit (.int .u8 5), .lit (.int .u8 63), .lit (.int .u8 55), .lit (.int .u8 48), .lit (.int .u8 27), .lit (.int .u8 60), .lit (.int .u8 41), .lit (.int .u8 37), .lit (.int .u8 16), .lit (.int .u8 46), .lit (.int .u8 35), .lit (.int .u8 44), .lit (.int .u8 21), .lit (.int .u8 52), .lit (.int .u8 32), .lit (.int .u8 23), .lit (.int .u8 11), .lit (.int .u8 54), .lit (.int .u8 26), .lit (.int .u8 40), .lit (.int .u8 15), .lit (.int .u8 34), .lit (.int .u8 20), .lit (.int .u8 31), .lit (.int .u8 10), .lit (.int .u8 25), .lit (.int .u8 14), .lit (.int .u8 19), .lit (.int .u8 9), .lit (.int .u8 13), .lit (.int .u8 8), .lit (.int .u8 7), .lit (.int .u8 6)]
def laid_waypost_match_unset {H : Type} : DataW H := .agg [.lit (.int .i64 (-1)), .lit (.int .i64 (-1))]
def laid_waypost_template_names {H : Type} : DataW H := .agg [.lit (.string []), .lit (.string [80, 65, 84, 72]), .lit (.string [81, 85, 69, 82, 89]), .lit (.string [72, 79, 83, 84]), .lit (.string [77, 69, 84, 72, 79, 68])]

/-- 'waypostlaw27.CondEvals': WHATEVER THE INPUT: true; the input reads as it did. -/
def condEvalsSpec : ChangeSpec := { name := "condEvals", fn := fun _ => fun
  | [d1, d2, d3] => { results := [.lit (.bool true)], args := [d1, d2, d3] }
  | _ => none }
def condEvalsRow : OpenClaim := { program := "yteomhpkcfcjcmaagreatdoor", sum := "78429c825243b56f7e58ef0a228090ae0731638d81ceb2549d26428e54391361", func := "waypost/waypostlaw27.CondEvals", spec := "condEvals", inPlace := ["internal/bytealg.IndexByteString", "internal/bytealg.IndexString", "internal/abi.NoEscape", "internal/bytealg.MakeNoZero"], unfollowed := true, recurses := true, named := ["waypost/template.names", "internal/bytealg.MaxLen", "math/bits.deBruijn64tab", "waypost/match.unset"], apart := false, laid := [("math/bits.deBruijn64tab", laid_math_bits_deBruijn64tab), ("waypost/match.unset", laid_waypost_match_unset), ("waypost/template.names", laid_waypost_template_names)] }
def CondEvalsSaid : Prop := condEvalsRow.holds Tryz.pinned (OpenSpec.ofChange condEvalsSpec)

/-- ITS FALSE NEIGHBOUR: 'it returns false'. Refute it at one input. -/
def condEvalsWrong : ChangeSpec := { name := "condEvals", fn := fun _ => fun
  | [d1, d2, d3] => { results := [.lit (.bool false)], args := [d1, d2, d3] }
  | _ => none }
def CondEvalsWrongFalsely : Prop := condEvalsRow.holds Tryz.pinned (OpenSpec.ofChange condEvalsWrong)

/-- 'waypostlaw27.CondJoins': WHATEVER THE INPUT: true; the input reads as it did. -/
def condJoinsSpec : ChangeSpec := { name := "condJoins", fn := fun _ => fun
  | [d1, d2] => { results := [.lit (.bool true)], args := [d1, d2] }
  | _ => none }
def condJoinsRow : OpenClaim := { program := "yteomhpkcfcjcmaagreatdoor", sum := "78429c825243b56f7e58ef0a228090ae0731638d81ceb2549d26428e54391361", func := "waypost/waypostlaw27.CondJoins", spec := "condJoins", inPlace := ["internal/bytealg.IndexByteString", "internal/bytealg.IndexString", "internal/abi.NoEscape", "internal/bytealg.MakeNoZero"], unfollowed := true, recurses := true, named := ["waypost/template.names", "internal/bytealg.MaxLen", "math/bits.deBruijn64tab", "waypost/match.unset"], apart := false, laid := [("math/bits.deBruijn64tab", laid_math_bits_deBruijn64tab), ("waypost/match.unset", laid_waypost_match_unset), ("waypost/template.names", laid_waypost_template_names)] }
def CondJoinsSaid : Prop := condJoinsRow.holds Tryz.pinned (OpenSpec.ofChange condJoinsSpec)

/-- ITS FALSE NEIGHBOUR: 'it returns false'. Refute it at one input. -/
def condJoinsWrong : ChangeSpec := { name := "condJoins", fn := fun _ => fun
  | [d1, d2] => { results := [.lit (.bool false)], args := [d1, d2] }
  | _ => none }
def CondJoinsWrongFalsely : Prop := condJoinsRow.holds Tryz.pinned (OpenSpec.ofChange condJoinsWrong)

/-- 'waypostlaw27.CondNot': WHATEVER THE INPUT: true; the input reads as it did. -/
def condNotSpec : ChangeSpec := { name := "condNot", fn := fun _ => fun
  | [d] => { results := [.lit (.bool true)], args := [d] }
  | _ => none }
def condNotRow : OpenClaim := { program := "yteomhpkcfcjcmaagreatdoor", sum := "78429c825243b56f7e58ef0a228090ae0731638d81ceb2549d26428e54391361", func := "waypost/waypostlaw27.CondNot", spec := "condNot", inPlace := ["internal/bytealg.IndexByteString", "internal/bytealg.IndexString", "internal/abi.NoEscape", "internal/bytealg.MakeNoZero"], unfollowed := true, recurses := true, named := ["waypost/template.names", "internal/bytealg.MaxLen", "math/bits.deBruijn64tab", "waypost/match.unset"], apart := false, laid := [("math/bits.deBruijn64tab", laid_math_bits_deBruijn64tab), ("waypost/match.unset", laid_waypost_match_unset), ("waypost/template.names", laid_waypost_template_names)] }
def CondNotSaid : Prop := condNotRow.holds Tryz.pinned (OpenSpec.ofChange condNotSpec)

/-- ITS FALSE NEIGHBOUR: 'it returns false'. Refute it at one input. -/
def condNotWrong : ChangeSpec := { name := "condNot", fn := fun _ => fun
  | [d] => { results := [.lit (.bool false)], args := [d] }
  | _ => none }
def CondNotWrongFalsely : Prop := condNotRow.holds Tryz.pinned (OpenSpec.ofChange condNotWrong)

/-- 'waypostlaw27.CondDecides': WHATEVER THE INPUT: true; the input reads as it did. -/
def condDecidesSpec : ChangeSpec := { name := "condDecides", fn := fun _ => fun
  | [d] => { results := [.lit (.bool true)], args := [d] }
  | _ => none }
def condDecidesRow : OpenClaim := { program := "yteomhpkcfcjcmaagreatdoor", sum := "78429c825243b56f7e58ef0a228090ae0731638d81ceb2549d26428e54391361", func := "waypost/waypostlaw27.CondDecides", spec := "condDecides", inPlace := ["internal/bytealg.IndexByteString", "internal/bytealg.IndexString", "internal/abi.NoEscape", "internal/bytealg.MakeNoZero"], unfollowed := true, recurses := true, named := ["waypost/template.names", "internal/bytealg.MaxLen", "math/bits.deBruijn64tab", "waypost/match.unset"], apart := false, laid := [("math/bits.deBruijn64tab", laid_math_bits_deBruijn64tab), ("waypost/match.unset", laid_waypost_match_unset), ("waypost/template.names", laid_waypost_template_names)] }
def CondDecidesSaid : Prop := condDecidesRow.holds Tryz.pinned (OpenSpec.ofChange condDecidesSpec)

/-- ITS FALSE NEIGHBOUR: 'it returns false'. Refute it at one input. -/
def condDecidesWrong : ChangeSpec := { name := "condDecides", fn := fun _ => fun
  | [d] => { results := [.lit (.bool false)], args := [d] }
  | _ => none }
def CondDecidesWrongFalsely : Prop := condDecidesRow.holds Tryz.pinned (OpenSpec.ofChange condDecidesWrong)

/-- 'waypostlaw27.CondKnown': WHATEVER THE INPUT: true; the input reads as it did. -/
def condKnownSpec : ChangeSpec := { name := "condKnown", fn := fun _ => fun
  | [] => { results := [.lit (.bool true)], args := [] }
  | _ => none }
def condKnownRow : OpenClaim := { program := "yteomhpkcfcjcmaagreatdoor", sum := "78429c825243b56f7e58ef0a228090ae0731638d81ceb2549d26428e54391361", func := "waypost/waypostlaw27.CondKnown", spec := "condKnown", inPlace := ["internal/bytealg.IndexByteString", "internal/bytealg.IndexString", "internal/abi.NoEscape", "internal/bytealg.MakeNoZero"], unfollowed := true, recurses := true, named := ["waypost/template.names", "internal/bytealg.MaxLen", "math/bits.deBruijn64tab", "waypost/match.unset"], apart := false, laid := [("math/bits.deBruijn64tab", laid_math_bits_deBruijn64tab), ("waypost/match.unset", laid_waypost_match_unset), ("waypost/template.names", laid_waypost_template_names)] }
def CondKnownSaid : Prop := condKnownRow.holds Tryz.pinned (OpenSpec.ofChange condKnownSpec)

/-- ITS FALSE NEIGHBOUR: 'it returns false'. Refute it at one input. -/
def condKnownWrong : ChangeSpec := { name := "condKnown", fn := fun _ => fun
  | [] => { results := [.lit (.bool false)], args := [] }
  | _ => none }
def CondKnownWrongFalsely : Prop := condKnownRow.holds Tryz.pinned (OpenSpec.ofChange condKnownWrong)

/-- 'waypostlaw27.CondParts': WHATEVER THE INPUT: true; the input reads as it did. -/
def condPartsSpec : ChangeSpec := { name := "condParts", fn := fun _ => fun
  | [d1, d2] => { results := [.lit (.bool true)], args := [d1, d2] }
  | _ => none }
def condPartsRow : OpenClaim := { program := "yteomhpkcfcjcmaagreatdoor", sum := "78429c825243b56f7e58ef0a228090ae0731638d81ceb2549d26428e54391361", func := "waypost/waypostlaw27.CondParts", spec := "condParts", inPlace := ["internal/bytealg.IndexByteString", "internal/bytealg.IndexString", "internal/abi.NoEscape", "internal/bytealg.MakeNoZero"], unfollowed := true, recurses := true, named := ["waypost/template.names", "internal/bytealg.MaxLen", "math/bits.deBruijn64tab", "waypost/match.unset"], apart := false, laid := [("math/bits.deBruijn64tab", laid_math_bits_deBruijn64tab), ("waypost/match.unset", laid_waypost_match_unset), ("waypost/template.names", laid_waypost_template_names)] }
def CondPartsSaid : Prop := condPartsRow.holds Tryz.pinned (OpenSpec.ofChange condPartsSpec)

/-- ITS FALSE NEIGHBOUR: 'it returns false'. Refute it at one input. -/
def condPartsWrong : ChangeSpec := { name := "condParts", fn := fun _ => fun
  | [d1, d2] => { results := [.lit (.bool false)], args := [d1, d2] }
  | _ => none }
def CondPartsWrongFalsely : Prop := condPartsRow.holds Tryz.pinned (OpenSpec.ofChange condPartsWrong)

/- THE SECOND FORM. 'bulk': how many values and letters a reading holds, each counted each time it is reached (what is shared counts as often as it is met; a slice's spare places count too). A statement '..UptoSaid' is the law's where the arguments, and the package variables that the reading takes, are together of bulk at most 1048576: NARROWER than '..Said'. Prove '..Said' where nothing that the law and all that it calls make is longer than what came in: it says more and counts as full. Else prove '..UptoSaid'. A law counts once. -/
mutual
def uptoBulk {H : Type} : DataW H → Nat
  | .lit (.string bytes) => bytes.length + 1
  | .lit _ => 1
  | .nil => 1
  | .ptr d => uptoBulk d + 1
  | .slice elems spare => uptoBulkAll elems + uptoBulkAll spare + 1
  | .agg parts => uptoBulkAll parts + 1
  | .iface _ d => uptoBulk d + 1
  | .map entries => uptoBulkEntries entries + 1
  | .held _ => 1
def uptoBulkAll {H : Type} : List (DataW H) → Nat
  | [] => 0
  | d :: r => uptoBulk d + uptoBulkAll r
def uptoBulkEntries {H : Type} : List (Lit × DataW H) → Nat
  | [] => 0
  | x :: r => uptoBulkEntry x + uptoBulkEntries r
def uptoBulkEntry {H : Type} : Lit × DataW H → Nat
  | (.string bytes, d) => bytes.length + uptoBulk d + 1
  | (_, d) => uptoBulk d + 1
 end
def uptoSmall : (H : Type) → List (DataW H) → Bool := fun _ ds => decide (uptoBulkAll ds ≤ 1048576)
def OpenSpec.upto (s : _root_.Go.ChangeSpec) : _root_.Go.OpenSpec := { _root_.Go.OpenSpec.ofChange s with cond := some uptoSmall }

/-- 'waypostlaw27.CondEvals', WHERE WHAT IT READS IS OF BULK AT MOST 1048576: true; the input reads as it did. -/
def condEvalsUptoRow : OpenClaim := { program := "yteomhpkcfcjcmaagreatdoor", sum := "78429c825243b56f7e58ef0a228090ae0731638d81ceb2549d26428e54391361", func := "waypost/waypostlaw27.CondEvals", spec := "condEvals", inPlace := ["internal/bytealg.IndexByteString", "internal/bytealg.IndexString", "internal/abi.NoEscape", "internal/bytealg.MakeNoZero"], unfollowed := true, recurses := true, named := ["waypost/template.names", "internal/bytealg.MaxLen", "math/bits.deBruijn64tab", "waypost/match.unset"], apart := false, laid := [("math/bits.deBruijn64tab", laid_math_bits_deBruijn64tab), ("waypost/match.unset", laid_waypost_match_unset), ("waypost/template.names", laid_waypost_template_names)], narrowed := true }
def CondEvalsUptoSaid : Prop := condEvalsUptoRow.holds Tryz.pinned (OpenSpec.upto condEvalsSpec)

/-- 'waypostlaw27.CondJoins', WHERE WHAT IT READS IS OF BULK AT MOST 1048576: true; the input reads as it did. -/
def condJoinsUptoRow : OpenClaim := { program := "yteomhpkcfcjcmaagreatdoor", sum := "78429c825243b56f7e58ef0a228090ae0731638d81ceb2549d26428e54391361", func := "waypost/waypostlaw27.CondJoins", spec := "condJoins", inPlace := ["internal/bytealg.IndexByteString", "internal/bytealg.IndexString", "internal/abi.NoEscape", "internal/bytealg.MakeNoZero"], unfollowed := true, recurses := true, named := ["waypost/template.names", "internal/bytealg.MaxLen", "math/bits.deBruijn64tab", "waypost/match.unset"], apart := false, laid := [("math/bits.deBruijn64tab", laid_math_bits_deBruijn64tab), ("waypost/match.unset", laid_waypost_match_unset), ("waypost/template.names", laid_waypost_template_names)], narrowed := true }
def CondJoinsUptoSaid : Prop := condJoinsUptoRow.holds Tryz.pinned (OpenSpec.upto condJoinsSpec)

/-- 'waypostlaw27.CondNot', WHERE WHAT IT READS IS OF BULK AT MOST 1048576: true; the input reads as it did. -/
def condNotUptoRow : OpenClaim := { program := "yteomhpkcfcjcmaagreatdoor", sum := "78429c825243b56f7e58ef0a228090ae0731638d81ceb2549d26428e54391361", func := "waypost/waypostlaw27.CondNot", spec := "condNot", inPlace := ["internal/bytealg.IndexByteString", "internal/bytealg.IndexString", "internal/abi.NoEscape", "internal/bytealg.MakeNoZero"], unfollowed := true, recurses := true, named := ["waypost/template.names", "internal/bytealg.MaxLen", "math/bits.deBruijn64tab", "waypost/match.unset"], apart := false, laid := [("math/bits.deBruijn64tab", laid_math_bits_deBruijn64tab), ("waypost/match.unset", laid_waypost_match_unset), ("waypost/template.names", laid_waypost_template_names)], narrowed := true }
def CondNotUptoSaid : Prop := condNotUptoRow.holds Tryz.pinned (OpenSpec.upto condNotSpec)

/-- 'waypostlaw27.CondDecides', WHERE WHAT IT READS IS OF BULK AT MOST 1048576: true; the input reads as it did. -/
def condDecidesUptoRow : OpenClaim := { program := "yteomhpkcfcjcmaagreatdoor", sum := "78429c825243b56f7e58ef0a228090ae0731638d81ceb2549d26428e54391361", func := "waypost/waypostlaw27.CondDecides", spec := "condDecides", inPlace := ["internal/bytealg.IndexByteString", "internal/bytealg.IndexString", "internal/abi.NoEscape", "internal/bytealg.MakeNoZero"], unfollowed := true, recurses := true, named := ["waypost/template.names", "internal/bytealg.MaxLen", "math/bits.deBruijn64tab", "waypost/match.unset"], apart := false, laid := [("math/bits.deBruijn64tab", laid_math_bits_deBruijn64tab), ("waypost/match.unset", laid_waypost_match_unset), ("waypost/template.names", laid_waypost_template_names)], narrowed := true }
def CondDecidesUptoSaid : Prop := condDecidesUptoRow.holds Tryz.pinned (OpenSpec.upto condDecidesSpec)

/-- 'waypostlaw27.CondKnown', WHERE WHAT IT READS IS OF BULK AT MOST 1048576: true; the input reads as it did. -/
def condKnownUptoRow : OpenClaim := { program := "yteomhpkcfcjcmaagreatdoor", sum := "78429c825243b56f7e58ef0a228090ae0731638d81ceb2549d26428e54391361", func := "waypost/waypostlaw27.CondKnown", spec := "condKnown", inPlace := ["internal/bytealg.IndexByteString", "internal/bytealg.IndexString", "internal/abi.NoEscape", "internal/bytealg.MakeNoZero"], unfollowed := true, recurses := true, named := ["waypost/template.names", "internal/bytealg.MaxLen", "math/bits.deBruijn64tab", "waypost/match.unset"], apart := false, laid := [("math/bits.deBruijn64tab", laid_math_bits_deBruijn64tab), ("waypost/match.unset", laid_waypost_match_unset), ("waypost/template.names", laid_waypost_template_names)], narrowed := true }
def CondKnownUptoSaid : Prop := condKnownUptoRow.holds Tryz.pinned (OpenSpec.upto condKnownSpec)

/-- 'waypostlaw27.CondParts', WHERE WHAT IT READS IS OF BULK AT MOST 1048576: true; the input reads as it did. -/
def condPartsUptoRow : OpenClaim := { program := "yteomhpkcfcjcmaagreatdoor", sum := "78429c825243b56f7e58ef0a228090ae0731638d81ceb2549d26428e54391361", func := "waypost/waypostlaw27.CondParts", spec := "condParts", inPlace := ["internal/bytealg.IndexByteString", "internal/bytealg.IndexString", "internal/abi.NoEscape", "internal/bytealg.MakeNoZero"], unfollowed := true, recurses := true, named := ["waypost/template.names", "internal/bytealg.MaxLen", "math/bits.deBruijn64tab", "waypost/match.unset"], apart := false, laid := [("math/bits.deBruijn64tab", laid_math_bits_deBruijn64tab), ("waypost/match.unset", laid_waypost_match_unset), ("waypost/template.names", laid_waypost_template_names)], narrowed := true }
def CondPartsUptoSaid : Prop := condPartsUptoRow.holds Tryz.pinned (OpenSpec.upto condPartsSpec)

end Rows
end Go.Proofs.YteomhpkcfcjcmaaGreatDoor
