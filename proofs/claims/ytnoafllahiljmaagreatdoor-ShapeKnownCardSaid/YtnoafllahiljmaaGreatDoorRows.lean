/-
  NARROWER THAN 'FOR EVERY INPUT', by the rows' own cells (each row's printed sentence says how): ShapeOfs: laid · ShapeKnown: laid · ShapeWider: laid · ShapeMeets: laid · ShapeSound: laid.
  DERIVED. THE GIVEN ROWS OF THIS SEAT. 5 by the template 'for every input the law returns true; each argument reads behind the call as it read before'; 0 by the template 'total and deterministic' (their statements: YtnoafllahiljmaaGreatDoorTotals.lean).
  GIVEN WITH THE SEED: the statements are not yours to turn. If you find one false, say at which input.
  Laid BY PROGRAM, IN A SANDBOX (cutbox-rows.mjs): the forced cells as the released guide's own fill.sh prints them over the translation 35ee6297336b56a7… (all of the seat's roots in one cut). By AI agents, Wed Nov 11 2026. No macro, syntax, notation, axiom, sorry.
-/
import Derived.Test.YtnoafllahiljmaaGreatDoorChecked
import GoSem.Claim
import GoSem.ClaimJoined
import GoSem.ClaimMapViews
import Derived.JoinedTies
import Derived.KernelRfl
namespace Go.Proofs.YtnoafllahiljmaaGreatDoor
/- THE CELL 'sum', in the pinned program and in every row, IS THE sha256 OF THE DUMP (.gsa) THAT YtnoafllahiljmaaGreatDoorProg.lean LOADS. Nothing in Lean hashes anything: it is a label: what it is worth is what the hold of that sum in a sandbox is worth. -/
noncomputable def Tryz.pinned : Pinned := { name := "ytnoafllahiljmaagreatdoor", sum := "35ee6297336b56a7e8dd1511d81a5d5a8fd12d2d042cd6507b61e55ad6c973f6", checked := Tryz.checked }
namespace Rows
def none {H : Type} : Left H := { results := [], args := [] }

/- WHAT THE LISTED PACKAGE-LEVEL VARIABLES READ AS WHEN THE CALL BEGINS. Each datum BY PROGRAM (the guide's laid-datum.mjs) off the statement by which the dump's own 'gosem.cut.vars' lays the variable. In a bare row this is a premise. The card (YtnoafllahiljmaaGreatDoorCards.lean) ties it to the program's text. -/
def laid_math_bits_deBruijn64tab {H : Type} : DataW H := .agg [.lit (.int .u8 0), .lit (.int .u8 1), .lit (.int .u8 56), .lit (.int .u8 2), .lit (.int .u8 57), .lit (.int .u8 49), .lit (.int .u8 28), .lit (.int .u8 3), .lit (.int .u8 61), .lit (.int .u8 58), .lit (.int .u8 42), .lit (.int .u8 50), .lit (.int .u8 38), .lit (.int .u8 29), .lit (.int .u8 17), .lit (.int .u8 4), .lit (.int .u8 62), .lit (.int .u8 47), .lit (.int .u8 59), .lit (.int .u8 36), .lit (.int .u8 45), .lit (.int .u8 43), .lit (.int .u8 51), .lit (.int .u8 22), .lit (.int .u8 53), .lit (.int .u8 39), .lit (.int .u8 33), .lit (.int .u8 30), .lit (.int .u8 24), .lit (.int .u8 18), .lit (.int .u8 12), .lit (.int .u8 5), .lit (.int .u8 63), .lit (.int .u8 55), .lit (.int .u8 48), .lit (.int .u8 27), .lit (.int .u8 60), .lit (.int .u8 41), .lit (.int .u8 37), .lit (.int .u8 16), .lit (.int .u8 46), .lit (.int .u8 35), .lit (.int .u8 44), .lit (.int .u8 21), .lit (.int .u8 52), .lit (.int .u8 32), .lit (.int .u8 23), .lit (.int .u8 11), .lit (.int .u8 54), .lit (.int .u8 26), .lit (.int .u8 40), .lit (.int .u8 15), .lit (.int .u8 34), .lit (.int .u8 20), .lit (.int .u8 31), .lit (.int .u8 10), .lit (.int .u8 25), .lit (.int .u8 14), .lit (.int .u8 19), .lit (.int .u8 9), .lit (.int .u8 13), .lit (.int .u8 8), .lit (.int .u8 7), .lit (.int .u8 6)]
def laid_waypost_template_names {H : Type} : DataW H := .agg [.lit (.string []), .lit (.string [80, 65, 84, 72]), .lit (.string [81, 85, 69, 82, 89]), .lit (.string [72, 79, 83, 84]), .lit (.string [77, 69, 84, 72, 79, 68])]

/-- 'waypostlaw35.ShapeOfs': WHATEVER THE INPUT: true; the input reads as it did. -/
def shapeOfsSpec : ChangeSpec := { name := "shapeOfs", fn := fun _ => fun
  | [d] => { results := [.lit (.bool true)], args := [d] }
  | _ => none }
def shapeOfsRow : OpenClaim := { program := "ytnoafllahiljmaagreatdoor", sum := "35ee6297336b56a7e8dd1511d81a5d5a8fd12d2d042cd6507b61e55ad6c973f6", func := "waypost/waypostlaw35.ShapeOfs", spec := "shapeOfs", inPlace := ["internal/bytealg.IndexByteString", "internal/bytealg.IndexString", "internal/abi.NoEscape"], unfollowed := true, recurses := true, named := ["waypost/template.names", "internal/bytealg.MaxLen", "math/bits.deBruijn64tab"], apart := false, laid := [("math/bits.deBruijn64tab", laid_math_bits_deBruijn64tab), ("waypost/template.names", laid_waypost_template_names)] }
def ShapeOfsSaid : Prop := shapeOfsRow.holds Tryz.pinned (OpenSpec.ofChange shapeOfsSpec)

/-- ITS FALSE NEIGHBOUR: 'it returns false'. Refute it at one input. -/
def shapeOfsWrong : ChangeSpec := { name := "shapeOfs", fn := fun _ => fun
  | [d] => { results := [.lit (.bool false)], args := [d] }
  | _ => none }
def ShapeOfsWrongFalsely : Prop := shapeOfsRow.holds Tryz.pinned (OpenSpec.ofChange shapeOfsWrong)

/-- 'waypostlaw35.ShapeKnown': WHATEVER THE INPUT: true; the input reads as it did. -/
def shapeKnownSpec : ChangeSpec := { name := "shapeKnown", fn := fun _ => fun
  | [] => { results := [.lit (.bool true)], args := [] }
  | _ => none }
def shapeKnownRow : OpenClaim := { program := "ytnoafllahiljmaagreatdoor", sum := "35ee6297336b56a7e8dd1511d81a5d5a8fd12d2d042cd6507b61e55ad6c973f6", func := "waypost/waypostlaw35.ShapeKnown", spec := "shapeKnown", inPlace := ["internal/bytealg.IndexByteString", "internal/bytealg.IndexString", "internal/abi.NoEscape"], unfollowed := true, recurses := true, named := ["waypost/template.names", "internal/bytealg.MaxLen", "math/bits.deBruijn64tab"], apart := false, laid := [("math/bits.deBruijn64tab", laid_math_bits_deBruijn64tab), ("waypost/template.names", laid_waypost_template_names)] }
def ShapeKnownSaid : Prop := shapeKnownRow.holds Tryz.pinned (OpenSpec.ofChange shapeKnownSpec)

/-- ITS FALSE NEIGHBOUR: 'it returns false'. Refute it at one input. -/
def shapeKnownWrong : ChangeSpec := { name := "shapeKnown", fn := fun _ => fun
  | [] => { results := [.lit (.bool false)], args := [] }
  | _ => none }
def ShapeKnownWrongFalsely : Prop := shapeKnownRow.holds Tryz.pinned (OpenSpec.ofChange shapeKnownWrong)

/-- 'waypostlaw35.ShapeWider': WHATEVER THE INPUT: true; the input reads as it did. -/
def shapeWiderSpec : ChangeSpec := { name := "shapeWider", fn := fun _ => fun
  | [d1, d2] => { results := [.lit (.bool true)], args := [d1, d2] }
  | _ => none }
def shapeWiderRow : OpenClaim := { program := "ytnoafllahiljmaagreatdoor", sum := "35ee6297336b56a7e8dd1511d81a5d5a8fd12d2d042cd6507b61e55ad6c973f6", func := "waypost/waypostlaw35.ShapeWider", spec := "shapeWider", inPlace := ["internal/bytealg.IndexByteString", "internal/bytealg.IndexString", "internal/abi.NoEscape"], unfollowed := true, recurses := true, named := ["waypost/template.names", "internal/bytealg.MaxLen", "math/bits.deBruijn64tab"], apart := false, laid := [("math/bits.deBruijn64tab", laid_math_bits_deBruijn64tab), ("waypost/template.names", laid_waypost_template_names)] }
def ShapeWiderSaid : Prop := shapeWiderRow.holds Tryz.pinned (OpenSpec.ofChange shapeWiderSpec)

/-- ITS FALSE NEIGHBOUR: 'it returns false'. Refute it at one input. -/
def shapeWiderWrong : ChangeSpec := { name := "shapeWider", fn := fun _ => fun
  | [d1, d2] => { results := [.lit (.bool false)], args := [d1, d2] }
  | _ => none }
def ShapeWiderWrongFalsely : Prop := shapeWiderRow.holds Tryz.pinned (OpenSpec.ofChange shapeWiderWrong)

/-- 'waypostlaw35.ShapeMeets': WHATEVER THE INPUT: true; the input reads as it did. -/
def shapeMeetsSpec : ChangeSpec := { name := "shapeMeets", fn := fun _ => fun
  | [d1, d2, d3, d4] => { results := [.lit (.bool true)], args := [d1, d2, d3, d4] }
  | _ => none }
def shapeMeetsRow : OpenClaim := { program := "ytnoafllahiljmaagreatdoor", sum := "35ee6297336b56a7e8dd1511d81a5d5a8fd12d2d042cd6507b61e55ad6c973f6", func := "waypost/waypostlaw35.ShapeMeets", spec := "shapeMeets", inPlace := ["internal/bytealg.IndexByteString", "internal/bytealg.IndexString", "internal/abi.NoEscape"], unfollowed := true, recurses := true, named := ["waypost/template.names", "internal/bytealg.MaxLen", "math/bits.deBruijn64tab"], apart := false, laid := [("math/bits.deBruijn64tab", laid_math_bits_deBruijn64tab), ("waypost/template.names", laid_waypost_template_names)] }
def ShapeMeetsSaid : Prop := shapeMeetsRow.holds Tryz.pinned (OpenSpec.ofChange shapeMeetsSpec)

/-- ITS FALSE NEIGHBOUR: 'it returns false'. Refute it at one input. -/
def shapeMeetsWrong : ChangeSpec := { name := "shapeMeets", fn := fun _ => fun
  | [d1, d2, d3, d4] => { results := [.lit (.bool false)], args := [d1, d2, d3, d4] }
  | _ => none }
def ShapeMeetsWrongFalsely : Prop := shapeMeetsRow.holds Tryz.pinned (OpenSpec.ofChange shapeMeetsWrong)

/-- 'waypostlaw35.ShapeSound': WHATEVER THE INPUT: true; the input reads as it did. -/
def shapeSoundSpec : ChangeSpec := { name := "shapeSound", fn := fun _ => fun
  | [d1, d2, d3] => { results := [.lit (.bool true)], args := [d1, d2, d3] }
  | _ => none }
def shapeSoundRow : OpenClaim := { program := "ytnoafllahiljmaagreatdoor", sum := "35ee6297336b56a7e8dd1511d81a5d5a8fd12d2d042cd6507b61e55ad6c973f6", func := "waypost/waypostlaw35.ShapeSound", spec := "shapeSound", inPlace := ["internal/bytealg.IndexByteString", "internal/bytealg.IndexString", "internal/abi.NoEscape", "internal/bytealg.MakeNoZero"], unfollowed := true, recurses := true, named := ["waypost/template.names", "internal/bytealg.MaxLen", "math/bits.deBruijn64tab"], apart := false, laid := [("math/bits.deBruijn64tab", laid_math_bits_deBruijn64tab), ("waypost/template.names", laid_waypost_template_names)] }
def ShapeSoundSaid : Prop := shapeSoundRow.holds Tryz.pinned (OpenSpec.ofChange shapeSoundSpec)

/-- ITS FALSE NEIGHBOUR: 'it returns false'. Refute it at one input. -/
def shapeSoundWrong : ChangeSpec := { name := "shapeSound", fn := fun _ => fun
  | [d1, d2, d3] => { results := [.lit (.bool false)], args := [d1, d2, d3] }
  | _ => none }
def ShapeSoundWrongFalsely : Prop := shapeSoundRow.holds Tryz.pinned (OpenSpec.ofChange shapeSoundWrong)

/- THE SECOND FORM. 'bulk': how many values and letters a reading holds, each counted each time it is reached (what is shared counts as often as it is met; a slice's spare places count too). A statement '..UptoSaid' is the law's where the arguments, and the package variables that the reading takes, are together of bulk at most 1048576: NARROWER than '..Said'. Prove '..Said' where nothing that the law and all that it calls make is longer than what came in: it says more and counts as full. Else prove '..UptoSaid'. A law counts once. -/
mutual
def uptoBulk {H : Type} : DataW H → Nat
  | .lit (.string bytes) => bytes.length + 1
  | .lit _ => 1
  | .nil => 1
  | .ptr d => uptoBulk d + 1
  | .slice elems spare => uptoBulkAll elems + uptoBulkAll spare + 1
  | .agg parts => uptoBulkAll parts + 1
  | .iface _ d => uptoBulk d + 1
  | .map entries => uptoBulkEntries entries + 1
  | .held _ => 1
def uptoBulkAll {H : Type} : List (DataW H) → Nat
  | [] => 0
  | d :: r => uptoBulk d + uptoBulkAll r
def uptoBulkEntries {H : Type} : List (Lit × DataW H) → Nat
  | [] => 0
  | x :: r => uptoBulkEntry x + uptoBulkEntries r
def uptoBulkEntry {H : Type} : Lit × DataW H → Nat
  | (.string bytes, d) => bytes.length + uptoBulk d + 1
  | (_, d) => uptoBulk d + 1
 end
def uptoSmall : (H : Type) → List (DataW H) → Bool := fun _ ds => decide (uptoBulkAll ds ≤ 1048576)
def OpenSpec.upto (s : _root_.Go.ChangeSpec) : _root_.Go.OpenSpec := { _root_.Go.OpenSpec.ofChange s with cond := some uptoSmall }

/-- 'waypostlaw35.ShapeOfs', WHERE WHAT IT READS IS OF BULK AT MOST 1048576: true; the input reads as it did. -/
def shapeOfsUptoRow : OpenClaim := { program := "ytnoafllahiljmaagreatdoor", sum := "35ee6297336b56a7e8dd1511d81a5d5a8fd12d2d042cd6507b61e55ad6c973f6", func := "waypost/waypostlaw35.ShapeOfs", spec := "shapeOfs", inPlace := ["internal/bytealg.IndexByteString", "internal/bytealg.IndexString", "internal/abi.NoEscape"], unfollowed := true, recurses := true, named := ["waypost/template.names", "internal/bytealg.MaxLen", "math/bits.deBruijn64tab"], apart := false, laid := [("math/bits.deBruijn64tab", laid_math_bits_deBruijn64tab), ("waypost/template.names", laid_waypost_template_names)], narrowed := true }
def ShapeOfsUptoSaid : Prop := shapeOfsUptoRow.holds Tryz.pinned (OpenSpec.upto shapeOfsSpec)

/-- 'waypostlaw35.ShapeKnown', WHERE WHAT IT READS IS OF BULK AT MOST 1048576: true; the input reads as it did. -/
def shapeKnownUptoRow : OpenClaim := { program := "ytnoafllahiljmaagreatdoor", sum := "35ee6297336b56a7e8dd1511d81a5d5a8fd12d2d042cd6507b61e55ad6c973f6", func := "waypost/waypostlaw35.ShapeKnown", spec := "shapeKnown", inPlace := ["internal/bytealg.IndexByteString", "internal/bytealg.IndexString", "internal/abi.NoEscape"], unfollowed := true, recurses := true, named := ["waypost/template.names", "internal/bytealg.MaxLen", "math/bits.deBruijn64tab"], apart := false, laid := [("math/bits.deBruijn64tab", laid_math_bits_deBruijn64tab), ("waypost/template.names", laid_waypost_template_names)], narrowed := true }
def ShapeKnownUptoSaid : Prop := shapeKnownUptoRow.holds Tryz.pinned (OpenSpec.upto shapeKnownSpec)

/-- 'waypostlaw35.ShapeWider', WHERE WHAT IT READS IS OF BULK AT MOST 1048576: true; the input reads as it did. -/
def shapeWiderUptoRow : OpenClaim := { program := "ytnoafllahiljmaagreatdoor", sum := "35ee6297336b56a7e8dd1511d81a5d5a8fd12d2d042cd6507b61e55ad6c973f6", func := "waypost/waypostlaw35.ShapeWider", spec := "shapeWider", inPlace := ["internal/bytealg.IndexByteString", "internal/bytealg.IndexString", "internal/abi.NoEscape"], unfollowed := true, recurses := true, named := ["waypost/template.names", "internal/bytealg.MaxLen", "math/bits.deBruijn64tab"], apart := false, laid := [("math/bits.deBruijn64tab", laid_math_bits_deBruijn64tab), ("waypost/template.names", laid_waypost_template_names)], narrowed := true }
def ShapeWiderUptoSaid : Prop := shapeWiderUptoRow.holds Tryz.pinned (OpenSpec.upto shapeWiderSpec)

/-- 'waypostlaw35.ShapeMeets', WHERE WHAT IT READS IS OF BULK AT MOST 1048576: true; the input reads as it did. -/
def shapeMeetsUptoRow : OpenClaim := { program := "ytnoafllahiljmaagreatdoor", sum := "35ee6297336b56a7e8dd1511d81a5d5a8fd12d2d042cd6507b61e55ad6c973f6", func := "waypost/waypostlaw35.ShapeMeets", spec := "shapeMeets", inPlace := ["internal/bytealg.IndexByteString", "internal/bytealg.IndexString", "internal/abi.NoEscape"], unfollowed := true, recurses := true, named := ["waypost/template.names", "internal/bytealg.MaxLen", "math/bits.deBruijn64tab"], apart := false, laid := [("math/bits.deBruijn64tab", laid_math_bits_deBruijn64tab), ("waypost/template.names", laid_waypost_template_names)], narrowed := true }
def ShapeMeetsUptoSaid : Prop := shapeMeetsUptoRow.holds Tryz.pinned (OpenSpec.upto shapeMeetsSpec)

/-- 'waypostlaw35.ShapeSound', WHERE WHAT IT READS IS OF BULK AT MOST 1048576: true; the input reads as it did. -/
def shapeSoundUptoRow : OpenClaim := { program := "ytnoafllahiljmaagreatdoor", sum := "35ee6297336b56a7e8dd1511d81a5d5a8fd12d2d042cd6507b61e55ad6c973f6", func := "waypost/waypostlaw35.ShapeSound", spec := "shapeSound", inPlace := ["internal/bytealg.IndexByteString", "internal/bytealg.IndexString", "internal/abi.NoEscape", "internal/bytealg.MakeNoZero"], unfollowed := true, recurses := true, named := ["waypost/template.names", "internal/bytealg.MaxLen", "math/bits.deBruijn64tab"], apart := false, laid := [("math/bits.deBruijn64tab", laid_math_bits_deBruijn64tab), ("waypost/template.names", laid_waypost_template_names)], narrowed := true }
def ShapeSoundUptoSaid : Prop := shapeSoundUptoRow.holds Tryz.pinned (OpenSpec.upto shapeSoundSpec)

end Rows
end Go.Proofs.YtnoafllahiljmaaGreatDoor
