/-
  NARROWER THAN 'FOR EVERY INPUT', by the rows' own cells (each row's printed sentence says how): EndsOfs: laid · EndsTwo: laid · EndsBoth: laid · EndsKnown: laid · EndsHave: laid · EndsFit: laid · EndsMatch: laid.
  DERIVED. THE GIVEN ROWS OF THIS SEAT. 7 by the template 'for every input the law returns true; each argument reads behind the call as it read before'; 0 by the template 'total and deterministic' (their statements: YtcajalekkffcjaaDoorTotals.lean).
  GIVEN WITH THE SEED: the statements are not yours to turn. If you find one false, say at which input.
  Laid BY PROGRAM, IN A SANDBOX (cutbox-rows.mjs): the forced cells as the released guide's own fill.sh prints them over the translation 8502e0a04ae31675… (all of the seat's roots in one cut). By AI agents, Wed Nov 11 2026. No macro, syntax, notation, axiom, sorry.
-/
import Derived.Test.YtcajalekkffcjaaDoorChecked
import GoSem.Claim
import GoSem.ClaimJoined
import GoSem.ClaimMapViews
import Derived.JoinedTies
import Derived.KernelRfl
namespace Go.Proofs.YtcajalekkffcjaaDoor
/- THE CELL 'sum', in the pinned program and in every row, IS THE sha256 OF THE DUMP (.gsa) THAT YtcajalekkffcjaaDoorProg.lean LOADS. Nothing in Lean hashes anything: it is a label: what it is worth is what the hold of that sum in a sandbox is worth. -/
noncomputable def Tryd.pinned : Pinned := { name := "ytcajalekkffcjaadoor", sum := "8502e0a04ae316759ce9e35090d7927b0fe2cbd5cd58b43a823e1a97a48020c3", checked := Tryd.checked }
namespace Rows
def none {H : Type} : Left H := { results := [], args := [] }

/- WHAT THE LISTED PACKAGE-LEVEL VARIABLES READ AS WHEN THE CALL BEGINS. Each datum BY PROGRAM (the guide's laid-datum.mjs) off the statement by which the dump's own 'gosem.cut.vars' lays the variable. In a bare row this is a premise. The card (YtcajalekkffcjaaDoorCards.lean) ties it to the program's text. -/
def laid_math_bits_deBruijn64tab {H : Type} : DataW H := .agg [.lit (.int .u8 0), .lit (.int .u8 1), .lit (.int .u8 56), .lit (.int .u8 2), .lit (.int .u8 57), .lit (.int .u8 49), .lit (.int .u8 28), .lit (.int .u8 3), .lit (.int .u8 61), .lit (.int .u8 58), .lit (.int .u8 42), .lit (.int .u8 50), .lit (.int .u8 38), .lit (.int .u8 29), .lit (.int .u8 17), .lit (.int .u8 4), .lit (.int .u8 62), .lit (.int .u8 47), .lit (.int .u8 59), .lit (.int .u8 36), .lit (.int .u8 45), .lit (.int .u8 43), .lit (.int .u8 51), .lit (.int .u8 22), .lit (.int .u8 53), .lit (.int .u8 39), .lit (.int .u8 33), .lit (.int .u8 30), .lit (.int .u8 24), .lit (.int .u8 18), .lit (.int .u8 12), .lit (.int .u8 5), .lit (.int .u8 63), .lit (.int .u8 55), .lit (.int .u8 48), .lit (.int .u8 27), .lit (.int .u8 60), .lit (.int .u8 41), .lit (.int .u8 37), .lit (.int .u8 16), .lit (.int .u8 46), .lit (.int .u8 35), .lit (.int .u8 44), .lit (.int .u8 21), .lit (.int .u8 52), .lit (.int .u8 32), .lit (.int .u8 23), .lit (.int .u8 11), .lit (.int .u8 54), .lit (.int .u8 26), .lit (.int .u8 40), .lit (.int .u8 15), .lit (.int .u8 34), .lit (.int .u8 20), .lit (.int .u8 31), .lit (.int .u8 10), .lit (.int .u8 25), .lit (.int .u8 14), .lit (.int .u8 19), .lit (.int .u8 9), .lit (.int .u8 13), .lit (.int .u8 8), .lit (.int .u8 7), .lit (.int .u8 6)]

/-- 'waypostlaw23.EndsOfs': WHATEVER THE INPUT: true; the input reads as it did. -/
def endsOfsSpec : ChangeSpec := { name := "endsOfs", fn := fun _ => fun
  | [d1, d2, d3] => { results := [.lit (.bool true)], args := [d1, d2, d3] }
  | _ => none }
def endsOfsRow : OpenClaim := { program := "ytcajalekkffcjaadoor", sum := "8502e0a04ae316759ce9e35090d7927b0fe2cbd5cd58b43a823e1a97a48020c3", func := "waypost/waypostlaw23.EndsOfs", spec := "endsOfs", inPlace := ["internal/bytealg.IndexByteString"], unfollowed := true, recurses := true, named := ["math/bits.deBruijn64tab"], apart := false, laid := [("math/bits.deBruijn64tab", laid_math_bits_deBruijn64tab)] }
def EndsOfsSaid : Prop := endsOfsRow.holds Tryd.pinned (OpenSpec.ofChange endsOfsSpec)

/-- ITS FALSE NEIGHBOUR: 'it returns false'. Refute it at one input. -/
def endsOfsWrong : ChangeSpec := { name := "endsOfs", fn := fun _ => fun
  | [d1, d2, d3] => { results := [.lit (.bool false)], args := [d1, d2, d3] }
  | _ => none }
def EndsOfsWrongFalsely : Prop := endsOfsRow.holds Tryd.pinned (OpenSpec.ofChange endsOfsWrong)

/-- 'waypostlaw23.EndsTwo': WHATEVER THE INPUT: true; the input reads as it did. -/
def endsTwoSpec : ChangeSpec := { name := "endsTwo", fn := fun _ => fun
  | [d1, d2] => { results := [.lit (.bool true)], args := [d1, d2] }
  | _ => none }
def endsTwoRow : OpenClaim := { program := "ytcajalekkffcjaadoor", sum := "8502e0a04ae316759ce9e35090d7927b0fe2cbd5cd58b43a823e1a97a48020c3", func := "waypost/waypostlaw23.EndsTwo", spec := "endsTwo", inPlace := ["internal/bytealg.IndexByteString"], unfollowed := true, recurses := true, named := ["math/bits.deBruijn64tab"], apart := false, laid := [("math/bits.deBruijn64tab", laid_math_bits_deBruijn64tab)] }
def EndsTwoSaid : Prop := endsTwoRow.holds Tryd.pinned (OpenSpec.ofChange endsTwoSpec)

/-- ITS FALSE NEIGHBOUR: 'it returns false'. Refute it at one input. -/
def endsTwoWrong : ChangeSpec := { name := "endsTwo", fn := fun _ => fun
  | [d1, d2] => { results := [.lit (.bool false)], args := [d1, d2] }
  | _ => none }
def EndsTwoWrongFalsely : Prop := endsTwoRow.holds Tryd.pinned (OpenSpec.ofChange endsTwoWrong)

/-- 'waypostlaw23.EndsBoth': WHATEVER THE INPUT: true; the input reads as it did. -/
def endsBothSpec : ChangeSpec := { name := "endsBoth", fn := fun _ => fun
  | [d1, d2, d3] => { results := [.lit (.bool true)], args := [d1, d2, d3] }
  | _ => none }
def endsBothRow : OpenClaim := { program := "ytcajalekkffcjaadoor", sum := "8502e0a04ae316759ce9e35090d7927b0fe2cbd5cd58b43a823e1a97a48020c3", func := "waypost/waypostlaw23.EndsBoth", spec := "endsBoth", inPlace := ["internal/bytealg.IndexByteString"], unfollowed := true, recurses := true, named := ["math/bits.deBruijn64tab"], apart := false, laid := [("math/bits.deBruijn64tab", laid_math_bits_deBruijn64tab)] }
def EndsBothSaid : Prop := endsBothRow.holds Tryd.pinned (OpenSpec.ofChange endsBothSpec)

/-- ITS FALSE NEIGHBOUR: 'it returns false'. Refute it at one input. -/
def endsBothWrong : ChangeSpec := { name := "endsBoth", fn := fun _ => fun
  | [d1, d2, d3] => { results := [.lit (.bool false)], args := [d1, d2, d3] }
  | _ => none }
def EndsBothWrongFalsely : Prop := endsBothRow.holds Tryd.pinned (OpenSpec.ofChange endsBothWrong)

/-- 'waypostlaw23.EndsKnown': WHATEVER THE INPUT: true; the input reads as it did. -/
def endsKnownSpec : ChangeSpec := { name := "endsKnown", fn := fun _ => fun
  | [] => { results := [.lit (.bool true)], args := [] }
  | _ => none }
def endsKnownRow : OpenClaim := { program := "ytcajalekkffcjaadoor", sum := "8502e0a04ae316759ce9e35090d7927b0fe2cbd5cd58b43a823e1a97a48020c3", func := "waypost/waypostlaw23.EndsKnown", spec := "endsKnown", inPlace := ["internal/bytealg.IndexByteString"], unfollowed := true, recurses := true, named := ["math/bits.deBruijn64tab"], apart := false, laid := [("math/bits.deBruijn64tab", laid_math_bits_deBruijn64tab)] }
def EndsKnownSaid : Prop := endsKnownRow.holds Tryd.pinned (OpenSpec.ofChange endsKnownSpec)

/-- ITS FALSE NEIGHBOUR: 'it returns false'. Refute it at one input. -/
def endsKnownWrong : ChangeSpec := { name := "endsKnown", fn := fun _ => fun
  | [] => { results := [.lit (.bool false)], args := [] }
  | _ => none }
def EndsKnownWrongFalsely : Prop := endsKnownRow.holds Tryd.pinned (OpenSpec.ofChange endsKnownWrong)

/-- 'waypostlaw23.EndsHave': WHATEVER THE INPUT: true; the input reads as it did. -/
def endsHaveSpec : ChangeSpec := { name := "endsHave", fn := fun _ => fun
  | [d1, d2, d3] => { results := [.lit (.bool true)], args := [d1, d2, d3] }
  | _ => none }
def endsHaveRow : OpenClaim := { program := "ytcajalekkffcjaadoor", sum := "8502e0a04ae316759ce9e35090d7927b0fe2cbd5cd58b43a823e1a97a48020c3", func := "waypost/waypostlaw23.EndsHave", spec := "endsHave", inPlace := ["internal/bytealg.IndexByteString"], unfollowed := true, recurses := true, named := ["math/bits.deBruijn64tab"], apart := false, laid := [("math/bits.deBruijn64tab", laid_math_bits_deBruijn64tab)] }
def EndsHaveSaid : Prop := endsHaveRow.holds Tryd.pinned (OpenSpec.ofChange endsHaveSpec)

/-- ITS FALSE NEIGHBOUR: 'it returns false'. Refute it at one input. -/
def endsHaveWrong : ChangeSpec := { name := "endsHave", fn := fun _ => fun
  | [d1, d2, d3] => { results := [.lit (.bool false)], args := [d1, d2, d3] }
  | _ => none }
def EndsHaveWrongFalsely : Prop := endsHaveRow.holds Tryd.pinned (OpenSpec.ofChange endsHaveWrong)

/-- 'waypostlaw23.EndsFit': WHATEVER THE INPUT: true; the input reads as it did. -/
def endsFitSpec : ChangeSpec := { name := "endsFit", fn := fun _ => fun
  | [d1, d2, d3, d4] => { results := [.lit (.bool true)], args := [d1, d2, d3, d4] }
  | _ => none }
def endsFitRow : OpenClaim := { program := "ytcajalekkffcjaadoor", sum := "8502e0a04ae316759ce9e35090d7927b0fe2cbd5cd58b43a823e1a97a48020c3", func := "waypost/waypostlaw23.EndsFit", spec := "endsFit", inPlace := ["internal/bytealg.IndexByteString"], unfollowed := true, recurses := true, named := ["math/bits.deBruijn64tab"], apart := false, laid := [("math/bits.deBruijn64tab", laid_math_bits_deBruijn64tab)] }
def EndsFitSaid : Prop := endsFitRow.holds Tryd.pinned (OpenSpec.ofChange endsFitSpec)

/-- ITS FALSE NEIGHBOUR: 'it returns false'. Refute it at one input. -/
def endsFitWrong : ChangeSpec := { name := "endsFit", fn := fun _ => fun
  | [d1, d2, d3, d4] => { results := [.lit (.bool false)], args := [d1, d2, d3, d4] }
  | _ => none }
def EndsFitWrongFalsely : Prop := endsFitRow.holds Tryd.pinned (OpenSpec.ofChange endsFitWrong)

/-- 'waypostlaw23.EndsMatch': WHATEVER THE INPUT: true; the input reads as it did. -/
def endsMatchSpec : ChangeSpec := { name := "endsMatch", fn := fun _ => fun
  | [d1, d2, d3] => { results := [.lit (.bool true)], args := [d1, d2, d3] }
  | _ => none }
def endsMatchRow : OpenClaim := { program := "ytcajalekkffcjaadoor", sum := "8502e0a04ae316759ce9e35090d7927b0fe2cbd5cd58b43a823e1a97a48020c3", func := "waypost/waypostlaw23.EndsMatch", spec := "endsMatch", inPlace := ["internal/bytealg.IndexByteString"], unfollowed := true, recurses := true, named := ["math/bits.deBruijn64tab"], apart := false, laid := [("math/bits.deBruijn64tab", laid_math_bits_deBruijn64tab)] }
def EndsMatchSaid : Prop := endsMatchRow.holds Tryd.pinned (OpenSpec.ofChange endsMatchSpec)

/-- ITS FALSE NEIGHBOUR: 'it returns false'. Refute it at one input. -/
def endsMatchWrong : ChangeSpec := { name := "endsMatch", fn := fun _ => fun
  | [d1, d2, d3] => { results := [.lit (.bool false)], args := [d1, d2, d3] }
  | _ => none }
def EndsMatchWrongFalsely : Prop := endsMatchRow.holds Tryd.pinned (OpenSpec.ofChange endsMatchWrong)

/- THE SECOND FORM. 'bulk': how many values and letters a reading holds, each counted each time it is reached (what is shared counts as often as it is met; a slice's spare places count too). A statement '..UptoSaid' is the law's where the arguments, and the package variables that the reading takes, are together of bulk at most 1048576: NARROWER than '..Said'. Prove '..Said' where nothing that the law and all that it calls make is longer than what came in: it says more and counts as full. Else prove '..UptoSaid'. A law counts once. -/
mutual
def uptoBulk {H : Type} : DataW H → Nat
  | .lit (.string bytes) => bytes.length + 1
  | .lit _ => 1
  | .nil => 1
  | .ptr d => uptoBulk d + 1
  | .slice elems spare => uptoBulkAll elems + uptoBulkAll spare + 1
  | .agg parts => uptoBulkAll parts + 1
  | .iface _ d => uptoBulk d + 1
  | .map entries => uptoBulkEntries entries + 1
  | .held _ => 1
def uptoBulkAll {H : Type} : List (DataW H) → Nat
  | [] => 0
  | d :: r => uptoBulk d + uptoBulkAll r
def uptoBulkEntries {H : Type} : List (Lit × DataW H) → Nat
  | [] => 0
  | x :: r => uptoBulkEntry x + uptoBulkEntries r
def uptoBulkEntry {H : Type} : Lit × DataW H → Nat
  | (.string bytes, d) => bytes.length + uptoBulk d + 1
  | (_, d) => uptoBulk d + 1
 end
def uptoSmall : (H : Type) → List (DataW H) → Bool := fun _ ds => decide (uptoBulkAll ds ≤ 1048576)
def OpenSpec.upto (s : _root_.Go.ChangeSpec) : _root_.Go.OpenSpec := { _root_.Go.OpenSpec.ofChange s with cond := some uptoSmall }

/-- 'waypostlaw23.EndsOfs', WHERE WHAT IT READS IS OF BULK AT MOST 1048576: true; the input reads as it did. -/
def endsOfsUptoRow : OpenClaim := { program := "ytcajalekkffcjaadoor", sum := "8502e0a04ae316759ce9e35090d7927b0fe2cbd5cd58b43a823e1a97a48020c3", func := "waypost/waypostlaw23.EndsOfs", spec := "endsOfs", inPlace := ["internal/bytealg.IndexByteString"], unfollowed := true, recurses := true, named := ["math/bits.deBruijn64tab"], apart := false, laid := [("math/bits.deBruijn64tab", laid_math_bits_deBruijn64tab)], narrowed := true }
def EndsOfsUptoSaid : Prop := endsOfsUptoRow.holds Tryd.pinned (OpenSpec.upto endsOfsSpec)

/-- 'waypostlaw23.EndsTwo', WHERE WHAT IT READS IS OF BULK AT MOST 1048576: true; the input reads as it did. -/
def endsTwoUptoRow : OpenClaim := { program := "ytcajalekkffcjaadoor", sum := "8502e0a04ae316759ce9e35090d7927b0fe2cbd5cd58b43a823e1a97a48020c3", func := "waypost/waypostlaw23.EndsTwo", spec := "endsTwo", inPlace := ["internal/bytealg.IndexByteString"], unfollowed := true, recurses := true, named := ["math/bits.deBruijn64tab"], apart := false, laid := [("math/bits.deBruijn64tab", laid_math_bits_deBruijn64tab)], narrowed := true }
def EndsTwoUptoSaid : Prop := endsTwoUptoRow.holds Tryd.pinned (OpenSpec.upto endsTwoSpec)

/-- 'waypostlaw23.EndsBoth', WHERE WHAT IT READS IS OF BULK AT MOST 1048576: true; the input reads as it did. -/
def endsBothUptoRow : OpenClaim := { program := "ytcajalekkffcjaadoor", sum := "8502e0a04ae316759ce9e35090d7927b0fe2cbd5cd58b43a823e1a97a48020c3", func := "waypost/waypostlaw23.EndsBoth", spec := "endsBoth", inPlace := ["internal/bytealg.IndexByteString"], unfollowed := true, recurses := true, named := ["math/bits.deBruijn64tab"], apart := false, laid := [("math/bits.deBruijn64tab", laid_math_bits_deBruijn64tab)], narrowed := true }
def EndsBothUptoSaid : Prop := endsBothUptoRow.holds Tryd.pinned (OpenSpec.upto endsBothSpec)

/-- 'waypostlaw23.EndsKnown', WHERE WHAT IT READS IS OF BULK AT MOST 1048576: true; the input reads as it did. -/
def endsKnownUptoRow : OpenClaim := { program := "ytcajalekkffcjaadoor", sum := "8502e0a04ae316759ce9e35090d7927b0fe2cbd5cd58b43a823e1a97a48020c3", func := "waypost/waypostlaw23.EndsKnown", spec := "endsKnown", inPlace := ["internal/bytealg.IndexByteString"], unfollowed := true, recurses := true, named := ["math/bits.deBruijn64tab"], apart := false, laid := [("math/bits.deBruijn64tab", laid_math_bits_deBruijn64tab)], narrowed := true }
def EndsKnownUptoSaid : Prop := endsKnownUptoRow.holds Tryd.pinned (OpenSpec.upto endsKnownSpec)

/-- 'waypostlaw23.EndsHave', WHERE WHAT IT READS IS OF BULK AT MOST 1048576: true; the input reads as it did. -/
def endsHaveUptoRow : OpenClaim := { program := "ytcajalekkffcjaadoor", sum := "8502e0a04ae316759ce9e35090d7927b0fe2cbd5cd58b43a823e1a97a48020c3", func := "waypost/waypostlaw23.EndsHave", spec := "endsHave", inPlace := ["internal/bytealg.IndexByteString"], unfollowed := true, recurses := true, named := ["math/bits.deBruijn64tab"], apart := false, laid := [("math/bits.deBruijn64tab", laid_math_bits_deBruijn64tab)], narrowed := true }
def EndsHaveUptoSaid : Prop := endsHaveUptoRow.holds Tryd.pinned (OpenSpec.upto endsHaveSpec)

/-- 'waypostlaw23.EndsFit', WHERE WHAT IT READS IS OF BULK AT MOST 1048576: true; the input reads as it did. -/
def endsFitUptoRow : OpenClaim := { program := "ytcajalekkffcjaadoor", sum := "8502e0a04ae316759ce9e35090d7927b0fe2cbd5cd58b43a823e1a97a48020c3", func := "waypost/waypostlaw23.EndsFit", spec := "endsFit", inPlace := ["internal/bytealg.IndexByteString"], unfollowed := true, recurses := true, named := ["math/bits.deBruijn64tab"], apart := false, laid := [("math/bits.deBruijn64tab", laid_math_bits_deBruijn64tab)], narrowed := true }
def EndsFitUptoSaid : Prop := endsFitUptoRow.holds Tryd.pinned (OpenSpec.upto endsFitSpec)

/-- 'waypostlaw23.EndsMatch', WHERE WHAT IT READS IS OF BULK AT MOST 1048576: true; the input reads as it did. -/
def endsMatchUptoRow : OpenClaim := { program := "ytcajalekkffcjaadoor", sum := "8502e0a04ae316759ce9e35090d7927b0fe2cbd5cd58b43a823e1a97a48020c3", func := "waypost/waypostlaw23.EndsMatch", spec := "endsMatch", inPlace := ["internal/bytealg.IndexByteString"], unfollowed := true, recurses := true, named := ["math/bits.deBruijn64tab"], apart := false, laid := [("math/bits.deBruijn64tab", laid_math_bits_deBruijn64tab)], narrowed := true }
def EndsMatchUptoSaid : Prop := endsMatchUptoRow.holds Tryd.pinned (OpenSpec.upto endsMatchSpec)

end Rows
end Go.Proofs.YtcajalekkffcjaaDoor
