/-
  No cell of these rows narrows 'for every input' (looked for: loops, veiled, ifaces, maps, wideKeys, modest, calm, conditions, laid).
  DERIVED. THE GIVEN ROWS OF THIS SEAT. 7 by the template 'for every input the law returns true; each argument reads behind the call as it read before'; 0 by the template 'total and deterministic' (their statements: YtegiokgbljmamaaTotals.lean).
  GIVEN WITH THE SEED: the statements are not yours to turn. If you find one false, say at which input.
  Laid BY PROGRAM, IN A SANDBOX (cutbox-rows.mjs): the forced cells as the released guide's own fill.sh prints them over the translation b7941001a21a4b94… (all of the seat's roots in one cut). By AI agents, Wed Nov 11 2026. No macro, syntax, notation, axiom, sorry.
-/
import Derived.Test.YtegiokgbljmamaaChecked
import GoSem.Claim
import GoSem.ClaimJoined
import GoSem.ClaimMapViews
import Derived.JoinedTies
import Derived.KernelRfl
namespace Go.Proofs.Ytegiokgbljmamaa
/- THE CELL 'sum', in the pinned program and in every row, IS THE sha256 OF THE DUMP (.gsa) THAT YtegiokgbljmamaaProg.lean LOADS. Nothing in Lean hashes anything: it is a label: what it is worth is what the hold of that sum in a sandbox is worth. -/
noncomputable def Try.pinned : Pinned := { name := "ytegiokgbljmamaa", sum := "b7941001a21a4b94fecab17f5ebbe96f17a7f1f5d8565b718595bb016e79fdc8", checked := Try.checked }
namespace Rows
def none {H : Type} : Left H := { results := [], args := [] }

/-- 'waypostlaw20.WidthGroups': WHATEVER THE INPUT: true; the input reads as it did. -/
def widthGroupsSpec : ChangeSpec := { name := "widthGroups", fn := fun _ => fun
  | [d1, d2] => { results := [.lit (.bool true)], args := [d1, d2] }
  | _ => none }
def widthGroupsRow : OpenClaim := { program := "ytegiokgbljmamaa", sum := "b7941001a21a4b94fecab17f5ebbe96f17a7f1f5d8565b718595bb016e79fdc8", func := "waypost/waypostlaw20.WidthGroups", spec := "widthGroups", inPlace := ["internal/bytealg.IndexByteString"], unfollowed := true, recurses := true, apart := false }
def WidthGroupsSaid : Prop := widthGroupsRow.holds Try.pinned (OpenSpec.ofChange widthGroupsSpec)

/-- ITS FALSE NEIGHBOUR: 'it returns false'. Refute it at one input. -/
def widthGroupsWrong : ChangeSpec := { name := "widthGroups", fn := fun _ => fun
  | [d1, d2] => { results := [.lit (.bool false)], args := [d1, d2] }
  | _ => none }
def WidthGroupsWrongFalsely : Prop := widthGroupsRow.holds Try.pinned (OpenSpec.ofChange widthGroupsWrong)

/-- 'waypostlaw20.WidthNodes': WHATEVER THE INPUT: true; the input reads as it did. -/
def widthNodesSpec : ChangeSpec := { name := "widthNodes", fn := fun _ => fun
  | [d1, d2, d3] => { results := [.lit (.bool true)], args := [d1, d2, d3] }
  | _ => none }
def widthNodesRow : OpenClaim := { program := "ytegiokgbljmamaa", sum := "b7941001a21a4b94fecab17f5ebbe96f17a7f1f5d8565b718595bb016e79fdc8", func := "waypost/waypostlaw20.WidthNodes", spec := "widthNodes", inPlace := ["internal/bytealg.IndexByteString"], unfollowed := true, recurses := true, apart := false }
def WidthNodesSaid : Prop := widthNodesRow.holds Try.pinned (OpenSpec.ofChange widthNodesSpec)

/-- ITS FALSE NEIGHBOUR: 'it returns false'. Refute it at one input. -/
def widthNodesWrong : ChangeSpec := { name := "widthNodes", fn := fun _ => fun
  | [d1, d2, d3] => { results := [.lit (.bool false)], args := [d1, d2, d3] }
  | _ => none }
def WidthNodesWrongFalsely : Prop := widthNodesRow.holds Try.pinned (OpenSpec.ofChange widthNodesWrong)

/-- 'waypostlaw20.WidthOutside': WHATEVER THE INPUT: true; the input reads as it did. -/
def widthOutsideSpec : ChangeSpec := { name := "widthOutside", fn := fun _ => fun
  | [d1, d2, d3] => { results := [.lit (.bool true)], args := [d1, d2, d3] }
  | _ => none }
def widthOutsideRow : OpenClaim := { program := "ytegiokgbljmamaa", sum := "b7941001a21a4b94fecab17f5ebbe96f17a7f1f5d8565b718595bb016e79fdc8", func := "waypost/waypostlaw20.WidthOutside", spec := "widthOutside", inPlace := ["internal/bytealg.IndexByteString"], unfollowed := true, recurses := true, apart := false }
def WidthOutsideSaid : Prop := widthOutsideRow.holds Try.pinned (OpenSpec.ofChange widthOutsideSpec)

/-- ITS FALSE NEIGHBOUR: 'it returns false'. Refute it at one input. -/
def widthOutsideWrong : ChangeSpec := { name := "widthOutside", fn := fun _ => fun
  | [d1, d2, d3] => { results := [.lit (.bool false)], args := [d1, d2, d3] }
  | _ => none }
def WidthOutsideWrongFalsely : Prop := widthOutsideRow.holds Try.pinned (OpenSpec.ofChange widthOutsideWrong)

/-- 'waypostlaw20.WidthEnds': WHATEVER THE INPUT: true; the input reads as it did. -/
def widthEndsSpec : ChangeSpec := { name := "widthEnds", fn := fun _ => fun
  | [d] => { results := [.lit (.bool true)], args := [d] }
  | _ => none }
def widthEndsRow : OpenClaim := { program := "ytegiokgbljmamaa", sum := "b7941001a21a4b94fecab17f5ebbe96f17a7f1f5d8565b718595bb016e79fdc8", func := "waypost/waypostlaw20.WidthEnds", spec := "widthEnds", inPlace := ["internal/bytealg.IndexByteString"], unfollowed := true, recurses := true, apart := false }
def WidthEndsSaid : Prop := widthEndsRow.holds Try.pinned (OpenSpec.ofChange widthEndsSpec)

/-- ITS FALSE NEIGHBOUR: 'it returns false'. Refute it at one input. -/
def widthEndsWrong : ChangeSpec := { name := "widthEnds", fn := fun _ => fun
  | [d] => { results := [.lit (.bool false)], args := [d] }
  | _ => none }
def WidthEndsWrongFalsely : Prop := widthEndsRow.holds Try.pinned (OpenSpec.ofChange widthEndsWrong)

/-- 'waypostlaw20.WidthMatches': WHATEVER THE INPUT: true; the input reads as it did. -/
def widthMatchesSpec : ChangeSpec := { name := "widthMatches", fn := fun _ => fun
  | [d1, d2, d3] => { results := [.lit (.bool true)], args := [d1, d2, d3] }
  | _ => none }
def widthMatchesRow : OpenClaim := { program := "ytegiokgbljmamaa", sum := "b7941001a21a4b94fecab17f5ebbe96f17a7f1f5d8565b718595bb016e79fdc8", func := "waypost/waypostlaw20.WidthMatches", spec := "widthMatches", inPlace := ["internal/bytealg.IndexByteString"], unfollowed := true, recurses := true, apart := false }
def WidthMatchesSaid : Prop := widthMatchesRow.holds Try.pinned (OpenSpec.ofChange widthMatchesSpec)

/-- ITS FALSE NEIGHBOUR: 'it returns false'. Refute it at one input. -/
def widthMatchesWrong : ChangeSpec := { name := "widthMatches", fn := fun _ => fun
  | [d1, d2, d3] => { results := [.lit (.bool false)], args := [d1, d2, d3] }
  | _ => none }
def WidthMatchesWrongFalsely : Prop := widthMatchesRow.holds Try.pinned (OpenSpec.ofChange widthMatchesWrong)

/-- 'waypostlaw20.WidthSums': WHATEVER THE INPUT: true; the input reads as it did. -/
def widthSumsSpec : ChangeSpec := { name := "widthSums", fn := fun _ => fun
  | [d1, d2] => { results := [.lit (.bool true)], args := [d1, d2] }
  | _ => none }
def widthSumsRow : OpenClaim := { program := "ytegiokgbljmamaa", sum := "b7941001a21a4b94fecab17f5ebbe96f17a7f1f5d8565b718595bb016e79fdc8", func := "waypost/waypostlaw20.WidthSums", spec := "widthSums", inPlace := ["internal/bytealg.IndexByteString"], unfollowed := true, recurses := true, apart := false }
def WidthSumsSaid : Prop := widthSumsRow.holds Try.pinned (OpenSpec.ofChange widthSumsSpec)

/-- ITS FALSE NEIGHBOUR: 'it returns false'. Refute it at one input. -/
def widthSumsWrong : ChangeSpec := { name := "widthSums", fn := fun _ => fun
  | [d1, d2] => { results := [.lit (.bool false)], args := [d1, d2] }
  | _ => none }
def WidthSumsWrongFalsely : Prop := widthSumsRow.holds Try.pinned (OpenSpec.ofChange widthSumsWrong)

/-- 'waypostlaw20.WidthKnown': WHATEVER THE INPUT: true; the input reads as it did. -/
def widthKnownSpec : ChangeSpec := { name := "widthKnown", fn := fun _ => fun
  | [] => { results := [.lit (.bool true)], args := [] }
  | _ => none }
def widthKnownRow : OpenClaim := { program := "ytegiokgbljmamaa", sum := "b7941001a21a4b94fecab17f5ebbe96f17a7f1f5d8565b718595bb016e79fdc8", func := "waypost/waypostlaw20.WidthKnown", spec := "widthKnown", inPlace := ["internal/bytealg.IndexByteString"], unfollowed := true, recurses := true, apart := false }
def WidthKnownSaid : Prop := widthKnownRow.holds Try.pinned (OpenSpec.ofChange widthKnownSpec)

/-- ITS FALSE NEIGHBOUR: 'it returns false'. Refute it at one input. -/
def widthKnownWrong : ChangeSpec := { name := "widthKnown", fn := fun _ => fun
  | [] => { results := [.lit (.bool false)], args := [] }
  | _ => none }
def WidthKnownWrongFalsely : Prop := widthKnownRow.holds Try.pinned (OpenSpec.ofChange widthKnownWrong)

/- THE SECOND FORM. 'bulk': how many values and letters a reading holds, each counted each time it is reached (what is shared counts as often as it is met; a slice's spare places count too). A statement '..UptoSaid' is the law's where the arguments, and the package variables that the reading takes, are together of bulk at most 1048576: NARROWER than '..Said'. Prove '..Said' where nothing that the law and all that it calls make is longer than what came in: it says more and counts as full. Else prove '..UptoSaid'. A law counts once. -/
mutual
def uptoBulk {H : Type} : DataW H → Nat
  | .lit (.string bytes) => bytes.length + 1
  | .lit _ => 1
  | .nil => 1
  | .ptr d => uptoBulk d + 1
  | .slice elems spare => uptoBulkAll elems + uptoBulkAll spare + 1
  | .agg parts => uptoBulkAll parts + 1
  | .iface _ d => uptoBulk d + 1
  | .map entries => uptoBulkEntries entries + 1
  | .held _ => 1
def uptoBulkAll {H : Type} : List (DataW H) → Nat
  | [] => 0
  | d :: r => uptoBulk d + uptoBulkAll r
def uptoBulkEntries {H : Type} : List (Lit × DataW H) → Nat
  | [] => 0
  | x :: r => uptoBulkEntry x + uptoBulkEntries r
def uptoBulkEntry {H : Type} : Lit × DataW H → Nat
  | (.string bytes, d) => bytes.length + uptoBulk d + 1
  | (_, d) => uptoBulk d + 1
 end
def uptoSmall : (H : Type) → List (DataW H) → Bool := fun _ ds => decide (uptoBulkAll ds ≤ 1048576)
def OpenSpec.upto (s : _root_.Go.ChangeSpec) : _root_.Go.OpenSpec := { _root_.Go.OpenSpec.ofChange s with cond := some uptoSmall }

/-- 'waypostlaw20.WidthGroups', WHERE WHAT IT READS IS OF BULK AT MOST 1048576: true; the input reads as it did. -/
def widthGroupsUptoRow : OpenClaim := { program := "ytegiokgbljmamaa", sum := "b7941001a21a4b94fecab17f5ebbe96f17a7f1f5d8565b718595bb016e79fdc8", func := "waypost/waypostlaw20.WidthGroups", spec := "widthGroups", inPlace := ["internal/bytealg.IndexByteString"], unfollowed := true, recurses := true, apart := false, narrowed := true }
def WidthGroupsUptoSaid : Prop := widthGroupsUptoRow.holds Try.pinned (OpenSpec.upto widthGroupsSpec)

/-- 'waypostlaw20.WidthNodes', WHERE WHAT IT READS IS OF BULK AT MOST 1048576: true; the input reads as it did. -/
def widthNodesUptoRow : OpenClaim := { program := "ytegiokgbljmamaa", sum := "b7941001a21a4b94fecab17f5ebbe96f17a7f1f5d8565b718595bb016e79fdc8", func := "waypost/waypostlaw20.WidthNodes", spec := "widthNodes", inPlace := ["internal/bytealg.IndexByteString"], unfollowed := true, recurses := true, apart := false, narrowed := true }
def WidthNodesUptoSaid : Prop := widthNodesUptoRow.holds Try.pinned (OpenSpec.upto widthNodesSpec)

/-- 'waypostlaw20.WidthOutside', WHERE WHAT IT READS IS OF BULK AT MOST 1048576: true; the input reads as it did. -/
def widthOutsideUptoRow : OpenClaim := { program := "ytegiokgbljmamaa", sum := "b7941001a21a4b94fecab17f5ebbe96f17a7f1f5d8565b718595bb016e79fdc8", func := "waypost/waypostlaw20.WidthOutside", spec := "widthOutside", inPlace := ["internal/bytealg.IndexByteString"], unfollowed := true, recurses := true, apart := false, narrowed := true }
def WidthOutsideUptoSaid : Prop := widthOutsideUptoRow.holds Try.pinned (OpenSpec.upto widthOutsideSpec)

/-- 'waypostlaw20.WidthEnds', WHERE WHAT IT READS IS OF BULK AT MOST 1048576: true; the input reads as it did. -/
def widthEndsUptoRow : OpenClaim := { program := "ytegiokgbljmamaa", sum := "b7941001a21a4b94fecab17f5ebbe96f17a7f1f5d8565b718595bb016e79fdc8", func := "waypost/waypostlaw20.WidthEnds", spec := "widthEnds", inPlace := ["internal/bytealg.IndexByteString"], unfollowed := true, recurses := true, apart := false, narrowed := true }
def WidthEndsUptoSaid : Prop := widthEndsUptoRow.holds Try.pinned (OpenSpec.upto widthEndsSpec)

/-- 'waypostlaw20.WidthMatches', WHERE WHAT IT READS IS OF BULK AT MOST 1048576: true; the input reads as it did. -/
def widthMatchesUptoRow : OpenClaim := { program := "ytegiokgbljmamaa", sum := "b7941001a21a4b94fecab17f5ebbe96f17a7f1f5d8565b718595bb016e79fdc8", func := "waypost/waypostlaw20.WidthMatches", spec := "widthMatches", inPlace := ["internal/bytealg.IndexByteString"], unfollowed := true, recurses := true, apart := false, narrowed := true }
def WidthMatchesUptoSaid : Prop := widthMatchesUptoRow.holds Try.pinned (OpenSpec.upto widthMatchesSpec)

/-- 'waypostlaw20.WidthSums', WHERE WHAT IT READS IS OF BULK AT MOST 1048576: true; the input reads as it did. -/
def widthSumsUptoRow : OpenClaim := { program := "ytegiokgbljmamaa", sum := "b7941001a21a4b94fecab17f5ebbe96f17a7f1f5d8565b718595bb016e79fdc8", func := "waypost/waypostlaw20.WidthSums", spec := "widthSums", inPlace := ["internal/bytealg.IndexByteString"], unfollowed := true, recurses := true, apart := false, narrowed := true }
def WidthSumsUptoSaid : Prop := widthSumsUptoRow.holds Try.pinned (OpenSpec.upto widthSumsSpec)

/-- 'waypostlaw20.WidthKnown', WHERE WHAT IT READS IS OF BULK AT MOST 1048576: true; the input reads as it did. -/
def widthKnownUptoRow : OpenClaim := { program := "ytegiokgbljmamaa", sum := "b7941001a21a4b94fecab17f5ebbe96f17a7f1f5d8565b718595bb016e79fdc8", func := "waypost/waypostlaw20.WidthKnown", spec := "widthKnown", inPlace := ["internal/bytealg.IndexByteString"], unfollowed := true, recurses := true, apart := false, narrowed := true }
def WidthKnownUptoSaid : Prop := widthKnownUptoRow.holds Try.pinned (OpenSpec.upto widthKnownSpec)

end Rows
end Go.Proofs.Ytegiokgbljmamaa
