/-
  NARROWER THAN 'FOR EVERY INPUT', by the rows' own cells (each row's printed sentence says how): FollowShapes: laid · FollowKnown: laid · FollowSome: laid · FollowGraphs: laid · FollowWalks: laid.
  DERIVED. THE GIVEN ROWS OF THIS SEAT. 5 by the template 'for every input the law returns true; each argument reads behind the call as it read before'; 0 by the template 'total and deterministic' (their statements: YtkdclmfgnjphoaaGreatDoorTotals.lean).
  GIVEN WITH THE SEED: the statements are not yours to turn. If you find one false, say at which input.
  Laid BY PROGRAM, IN A SANDBOX (cutbox-rows.mjs): the forced cells as the released guide's own fill.sh prints them over the translation 4b52eb3fd6152a2e… (all of the seat's roots in one cut). By AI agents, Wed Nov 11 2026. No macro, syntax, notation, axiom, sorry.
-/
import Derived.Test.YtkdclmfgnjphoaaGreatDoorChecked
import GoSem.Claim
import GoSem.ClaimJoined
import GoSem.ClaimMapViews
import Derived.JoinedTies
import Derived.KernelRfl
namespace Go.Proofs.YtkdclmfgnjphoaaGreatDoor
/- THE CELL 'sum', in the pinned program and in every row, IS THE sha256 OF THE DUMP (.gsa) THAT YtkdclmfgnjphoaaGreatDoorProg.lean LOADS. Nothing in Lean hashes anything: it is a label: what it is worth is what the hold of that sum in a sandbox is worth. -/
noncomputable def Tryz.pinned : Pinned := { name := "ytkdclmfgnjphoaagreatdoor", sum := "4b52eb3fd6152a2ecb07273394f3702a424d90149f330dfc3aa2f9b5ec5b28c3", checked := Tryz.checked }
namespace Rows
def none {H : Type} : Left H := { results := [], args := [] }

/- WHAT THE LISTED PACKAGE-LEVEL VARIABLES READ AS WHEN THE CALL BEGINS. Each datum BY PROGRAM (the guide's laid-datum.mjs) off the statement by which the dump's own 'gosem.cut.vars' lays the variable. In a bare row this is a premise. The card (YtkdclmfgnjphoaaGreatDoorCards.lean) ties it to the program's text. -/
def laid_math_bits_deBruijn32tab {H : Type} : DataW H := .agg [.lit (.int .u8 0), .lit (.int .u8 1), .lit (.int .u8 28), .lit (.int .u8 2), .lit (.int .u8 29), .lit (.int .u8 14), .lit (.int .u8 24), .lit (.int .u8 3), .lit (.int .u8 30), .lit (.int .u8 22), .lit (.int .u8 20), .lit (.int .u8 15), .lit (.int .u8 25), .lit (.int .u8 17), .lit (.int .u8 4), .lit (.int .u8 8), .lit (.int .u8 31), .lit (.int .u8 27), .lit (.int .u8 13), .lit (.int .u8 23), .lit (.int .u8 21), .lit (.int .u8 19), .lit (.int .u8 16), .lit (.int .u8 7), .lit (.int .u8 26), .lit (.int .u8 12), .lit (.int .u8 18), .lit (.int .u8 6), .lit (.int .u8 11), .lit (.int .u8 5), .lit (.int .u8 10), .lit (.int .u8 9)]
def laid_math_bits_deBruijn64tab {H : Type} : DataW H := .agg [.lit (.int .u8 0), .lit (.int .u8 1), .lit (.int .u8 56), .lit (.int .u8 2), .lit (.int .u8 57), .lit (.int .u8 49), .lit (.int .u8 28), .lit (.int .u8 3), .lit (.int .u8 61), .lit (.int .u8 58), .lit (.int .u8 42), .lit (.int .u8 50), .lit (.int .u8 38), .lit (.int .u8 29), .lit (.int .u8 17), .lit (.int .u8 4), .lit (.int .u8 62), .lit (.int .u8 47), .lit (.int .u8 59), .lit (.int .u8 36), .lit (.int .u8 45), .lit (.int .u8 43), .lit (.int .u8 51), .lit (.int .u8 22), .lit (.int .u8 53), .lit (.int .u8 39), .lit (.int .u8 33), .lit (.int .u8 30), .lit (.int .u8 24), .lit (.int .u8 18), .lit (.int .u8 12), .lit (.int .u8 5), .lit (.int .u8 63), .lit (.int .u8 55), .lit (.int .u8 48), .lit (.int .u8 27), .lit (.int .u8 60), .lit (.int .u8 41), .lit (.int .u8 37), .lit (.int .u8 16), .lit (.int .u8 46), .lit (.int .u8 35), .lit (.int .u8 44), .lit (.int .u8 21), .lit (.int .u8 52), .lit (.int .u8 32), .lit (.int .u8 23), .lit (.int .u8 11), .lit (.int .u8 54), .lit (.int .u8 26), .lit (.int .u8 40), .lit (.int .u8 15), .lit (.int .u8 34), .lit (.int .u8 20), .lit (.int .u8 31), .lit (.int .u8 10), .lit (.int .u8 25), .lit (.int .u8 14), .lit (.int .u8 19), .lit (.int .u8 9), .lit (.int .u8 13), .lit (.int .u8 8), .lit (.int .u8 7), .lit (.int .u8 6)]
def laid_internal_strconv_uint64pow10 {H : Type} : DataW H := .agg [.lit (.int .u64 1), .lit (.int .u64 10), .lit (.int .u64 100), .lit (.int .u64 1000), .lit (.int .u64 10000), .lit (.int .u64 100000), .lit (.int .u64 1000000), .lit (.int .u64 10000000), .lit (.int .u64 100000000), .lit (.int .u64 1000000000), .lit (.int .u64 10000000000), .lit (.int .u64 100000000000), .lit (.int .u64 1000000000000), .lit (.int .u64 10000000000000), .lit (.int .u64 100000000000000), .lit (.int .u64 1000000000000000), .lit (.int .u64 10000000000000000), .lit (.int .u64 100000000000000000), .lit (.int .u64 1000000000000000000), .lit (.int .u64 10000000000000000000)]
def laid_waypost_flag_codes {H : Type} : DataW H := .agg [.lit (.int .i64 301), .lit (.int .i64 302), .lit (.int .i64 303), .lit (.int .i64 307), .lit (.int .i64 308)]
def laid_waypost_template_names {H : Type} : DataW H := .agg [.lit (.string []), .lit (.string [80, 65, 84, 72]), .lit (.string [81, 85, 69, 82, 89]), .lit (.string [72, 79, 83, 84]), .lit (.string [77, 69, 84, 72, 79, 68])]

/-- 'waypostlaw36.FollowShapes': WHATEVER THE INPUT: true; the input reads as it did. -/
def followShapesSpec : ChangeSpec := { name := "followShapes", fn := fun _ => fun
  | [d] => { results := [.lit (.bool true)], args := [d] }
  | _ => none }
def followShapesRow : OpenClaim := { program := "ytkdclmfgnjphoaagreatdoor", sum := "4b52eb3fd6152a2ecb07273394f3702a424d90149f330dfc3aa2f9b5ec5b28c3", func := "waypost/waypostlaw36.FollowShapes", spec := "followShapes", inPlace := ["internal/bytealg.IndexByteString", "internal/bytealg.IndexString", "internal/abi.NoEscape"], unfollowed := true, recurses := true, named := ["waypost/template.names", "internal/bytealg.MaxLen", "waypost/flag.codes", "internal/strconv.uint64pow10", "math/bits.deBruijn32tab", "math/bits.deBruijn64tab"], plainKeys := false, apart := false, laid := [("math/bits.deBruijn32tab", laid_math_bits_deBruijn32tab), ("math/bits.deBruijn64tab", laid_math_bits_deBruijn64tab), ("internal/strconv.uint64pow10", laid_internal_strconv_uint64pow10), ("waypost/flag.codes", laid_waypost_flag_codes), ("waypost/template.names", laid_waypost_template_names)] }
def FollowShapesSaid : Prop := followShapesRow.holds Tryz.pinned (OpenSpec.ofChange followShapesSpec)

/-- ITS FALSE NEIGHBOUR: 'it returns false'. Refute it at one input. -/
def followShapesWrong : ChangeSpec := { name := "followShapes", fn := fun _ => fun
  | [d] => { results := [.lit (.bool false)], args := [d] }
  | _ => none }
def FollowShapesWrongFalsely : Prop := followShapesRow.holds Tryz.pinned (OpenSpec.ofChange followShapesWrong)

/-- 'waypostlaw36.FollowKnown': WHATEVER THE INPUT: true; the input reads as it did. -/
def followKnownSpec : ChangeSpec := { name := "followKnown", fn := fun _ => fun
  | [] => { results := [.lit (.bool true)], args := [] }
  | _ => none }
def followKnownRow : OpenClaim := { program := "ytkdclmfgnjphoaagreatdoor", sum := "4b52eb3fd6152a2ecb07273394f3702a424d90149f330dfc3aa2f9b5ec5b28c3", func := "waypost/waypostlaw36.FollowKnown", spec := "followKnown", inPlace := ["internal/bytealg.IndexByteString", "internal/bytealg.IndexString", "internal/abi.NoEscape"], unfollowed := true, recurses := true, named := ["waypost/template.names", "internal/bytealg.MaxLen", "waypost/flag.codes", "internal/strconv.uint64pow10", "math/bits.deBruijn32tab", "math/bits.deBruijn64tab"], plainKeys := false, apart := false, laid := [("math/bits.deBruijn32tab", laid_math_bits_deBruijn32tab), ("math/bits.deBruijn64tab", laid_math_bits_deBruijn64tab), ("internal/strconv.uint64pow10", laid_internal_strconv_uint64pow10), ("waypost/flag.codes", laid_waypost_flag_codes), ("waypost/template.names", laid_waypost_template_names)] }
def FollowKnownSaid : Prop := followKnownRow.holds Tryz.pinned (OpenSpec.ofChange followKnownSpec)

/-- ITS FALSE NEIGHBOUR: 'it returns false'. Refute it at one input. -/
def followKnownWrong : ChangeSpec := { name := "followKnown", fn := fun _ => fun
  | [] => { results := [.lit (.bool false)], args := [] }
  | _ => none }
def FollowKnownWrongFalsely : Prop := followKnownRow.holds Tryz.pinned (OpenSpec.ofChange followKnownWrong)

/-- 'waypostlaw36.FollowSome': WHATEVER THE INPUT: true; the input reads as it did. -/
def followSomeSpec : ChangeSpec := { name := "followSome", fn := fun _ => fun
  | [d1, d2] => { results := [.lit (.bool true)], args := [d1, d2] }
  | _ => none }
def followSomeRow : OpenClaim := { program := "ytkdclmfgnjphoaagreatdoor", sum := "4b52eb3fd6152a2ecb07273394f3702a424d90149f330dfc3aa2f9b5ec5b28c3", func := "waypost/waypostlaw36.FollowSome", spec := "followSome", inPlace := ["internal/bytealg.IndexByteString", "internal/bytealg.IndexString", "internal/abi.NoEscape"], unfollowed := true, recurses := true, named := ["waypost/template.names", "internal/bytealg.MaxLen", "waypost/flag.codes", "internal/strconv.uint64pow10", "math/bits.deBruijn32tab", "math/bits.deBruijn64tab"], plainKeys := false, apart := false, laid := [("math/bits.deBruijn32tab", laid_math_bits_deBruijn32tab), ("math/bits.deBruijn64tab", laid_math_bits_deBruijn64tab), ("internal/strconv.uint64pow10", laid_internal_strconv_uint64pow10), ("waypost/flag.codes", laid_waypost_flag_codes), ("waypost/template.names", laid_waypost_template_names)] }
def FollowSomeSaid : Prop := followSomeRow.holds Tryz.pinned (OpenSpec.ofChange followSomeSpec)

/-- ITS FALSE NEIGHBOUR: 'it returns false'. Refute it at one input. -/
def followSomeWrong : ChangeSpec := { name := "followSome", fn := fun _ => fun
  | [d1, d2] => { results := [.lit (.bool false)], args := [d1, d2] }
  | _ => none }
def FollowSomeWrongFalsely : Prop := followSomeRow.holds Tryz.pinned (OpenSpec.ofChange followSomeWrong)

/-- 'waypostlaw36.FollowGraphs': WHATEVER THE INPUT: true; the input reads as it did. -/
def followGraphsSpec : ChangeSpec := { name := "followGraphs", fn := fun _ => fun
  | [d] => { results := [.lit (.bool true)], args := [d] }
  | _ => none }
def followGraphsRow : OpenClaim := { program := "ytkdclmfgnjphoaagreatdoor", sum := "4b52eb3fd6152a2ecb07273394f3702a424d90149f330dfc3aa2f9b5ec5b28c3", func := "waypost/waypostlaw36.FollowGraphs", spec := "followGraphs", inPlace := ["internal/bytealg.IndexByteString", "internal/bytealg.IndexString", "internal/abi.NoEscape"], unfollowed := true, recurses := true, named := ["waypost/template.names", "internal/bytealg.MaxLen", "waypost/flag.codes", "internal/strconv.uint64pow10", "math/bits.deBruijn32tab", "math/bits.deBruijn64tab"], plainKeys := false, apart := false, laid := [("math/bits.deBruijn32tab", laid_math_bits_deBruijn32tab), ("math/bits.deBruijn64tab", laid_math_bits_deBruijn64tab), ("internal/strconv.uint64pow10", laid_internal_strconv_uint64pow10), ("waypost/flag.codes", laid_waypost_flag_codes), ("waypost/template.names", laid_waypost_template_names)] }
def FollowGraphsSaid : Prop := followGraphsRow.holds Tryz.pinned (OpenSpec.ofChange followGraphsSpec)

/-- ITS FALSE NEIGHBOUR: 'it returns false'. Refute it at one input. -/
def followGraphsWrong : ChangeSpec := { name := "followGraphs", fn := fun _ => fun
  | [d] => { results := [.lit (.bool false)], args := [d] }
  | _ => none }
def FollowGraphsWrongFalsely : Prop := followGraphsRow.holds Tryz.pinned (OpenSpec.ofChange followGraphsWrong)

/-- 'waypostlaw36.FollowWalks': WHATEVER THE INPUT: true; the input reads as it did. -/
def followWalksSpec : ChangeSpec := { name := "followWalks", fn := fun _ => fun
  | [d1, d2] => { results := [.lit (.bool true)], args := [d1, d2] }
  | _ => none }
def followWalksRow : OpenClaim := { program := "ytkdclmfgnjphoaagreatdoor", sum := "4b52eb3fd6152a2ecb07273394f3702a424d90149f330dfc3aa2f9b5ec5b28c3", func := "waypost/waypostlaw36.FollowWalks", spec := "followWalks", inPlace := ["internal/bytealg.IndexByteString", "internal/bytealg.IndexString", "internal/abi.NoEscape"], unfollowed := true, recurses := true, named := ["waypost/template.names", "internal/bytealg.MaxLen", "waypost/flag.codes", "internal/strconv.uint64pow10", "math/bits.deBruijn32tab", "math/bits.deBruijn64tab"], plainKeys := false, apart := false, laid := [("math/bits.deBruijn32tab", laid_math_bits_deBruijn32tab), ("math/bits.deBruijn64tab", laid_math_bits_deBruijn64tab), ("internal/strconv.uint64pow10", laid_internal_strconv_uint64pow10), ("waypost/flag.codes", laid_waypost_flag_codes), ("waypost/template.names", laid_waypost_template_names)] }
def FollowWalksSaid : Prop := followWalksRow.holds Tryz.pinned (OpenSpec.ofChange followWalksSpec)

/-- ITS FALSE NEIGHBOUR: 'it returns false'. Refute it at one input. -/
def followWalksWrong : ChangeSpec := { name := "followWalks", fn := fun _ => fun
  | [d1, d2] => { results := [.lit (.bool false)], args := [d1, d2] }
  | _ => none }
def FollowWalksWrongFalsely : Prop := followWalksRow.holds Tryz.pinned (OpenSpec.ofChange followWalksWrong)

/- THE SECOND FORM. 'bulk': how many values and letters a reading holds, each counted each time it is reached (what is shared counts as often as it is met; a slice's spare places count too). A statement '..UptoSaid' is the law's where the arguments, and the package variables that the reading takes, are together of bulk at most 1048576: NARROWER than '..Said'. Prove '..Said' where nothing that the law and all that it calls make is longer than what came in: it says more and counts as full. Else prove '..UptoSaid'. A law counts once. -/
mutual
def uptoBulk {H : Type} : DataW H → Nat
  | .lit (.string bytes) => bytes.length + 1
  | .lit _ => 1
  | .nil => 1
  | .ptr d => uptoBulk d + 1
  | .slice elems spare => uptoBulkAll elems + uptoBulkAll spare + 1
  | .agg parts => uptoBulkAll parts + 1
  | .iface _ d => uptoBulk d + 1
  | .map entries => uptoBulkEntries entries + 1
  | .held _ => 1
def uptoBulkAll {H : Type} : List (DataW H) → Nat
  | [] => 0
  | d :: r => uptoBulk d + uptoBulkAll r
def uptoBulkEntries {H : Type} : List (Lit × DataW H) → Nat
  | [] => 0
  | x :: r => uptoBulkEntry x + uptoBulkEntries r
def uptoBulkEntry {H : Type} : Lit × DataW H → Nat
  | (.string bytes, d) => bytes.length + uptoBulk d + 1
  | (_, d) => uptoBulk d + 1
 end
def uptoSmall : (H : Type) → List (DataW H) → Bool := fun _ ds => decide (uptoBulkAll ds ≤ 1048576)
def OpenSpec.upto (s : _root_.Go.ChangeSpec) : _root_.Go.OpenSpec := { _root_.Go.OpenSpec.ofChange s with cond := some uptoSmall }

/-- 'waypostlaw36.FollowShapes', WHERE WHAT IT READS IS OF BULK AT MOST 1048576: true; the input reads as it did. -/
def followShapesUptoRow : OpenClaim := { program := "ytkdclmfgnjphoaagreatdoor", sum := "4b52eb3fd6152a2ecb07273394f3702a424d90149f330dfc3aa2f9b5ec5b28c3", func := "waypost/waypostlaw36.FollowShapes", spec := "followShapes", inPlace := ["internal/bytealg.IndexByteString", "internal/bytealg.IndexString", "internal/abi.NoEscape"], unfollowed := true, recurses := true, named := ["waypost/template.names", "internal/bytealg.MaxLen", "waypost/flag.codes", "internal/strconv.uint64pow10", "math/bits.deBruijn32tab", "math/bits.deBruijn64tab"], plainKeys := false, apart := false, laid := [("math/bits.deBruijn32tab", laid_math_bits_deBruijn32tab), ("math/bits.deBruijn64tab", laid_math_bits_deBruijn64tab), ("internal/strconv.uint64pow10", laid_internal_strconv_uint64pow10), ("waypost/flag.codes", laid_waypost_flag_codes), ("waypost/template.names", laid_waypost_template_names)], narrowed := true }
def FollowShapesUptoSaid : Prop := followShapesUptoRow.holds Tryz.pinned (OpenSpec.upto followShapesSpec)

/-- 'waypostlaw36.FollowKnown', WHERE WHAT IT READS IS OF BULK AT MOST 1048576: true; the input reads as it did. -/
def followKnownUptoRow : OpenClaim := { program := "ytkdclmfgnjphoaagreatdoor", sum := "4b52eb3fd6152a2ecb07273394f3702a424d90149f330dfc3aa2f9b5ec5b28c3", func := "waypost/waypostlaw36.FollowKnown", spec := "followKnown", inPlace := ["internal/bytealg.IndexByteString", "internal/bytealg.IndexString", "internal/abi.NoEscape"], unfollowed := true, recurses := true, named := ["waypost/template.names", "internal/bytealg.MaxLen", "waypost/flag.codes", "internal/strconv.uint64pow10", "math/bits.deBruijn32tab", "math/bits.deBruijn64tab"], plainKeys := false, apart := false, laid := [("math/bits.deBruijn32tab", laid_math_bits_deBruijn32tab), ("math/bits.deBruijn64tab", laid_math_bits_deBruijn64tab), ("internal/strconv.uint64pow10", laid_internal_strconv_uint64pow10), ("waypost/flag.codes", laid_waypost_flag_codes), ("waypost/template.names", laid_waypost_template_names)], narrowed := true }
def FollowKnownUptoSaid : Prop := followKnownUptoRow.holds Tryz.pinned (OpenSpec.upto followKnownSpec)

/-- 'waypostlaw36.FollowSome', WHERE WHAT IT READS IS OF BULK AT MOST 1048576: true; the input reads as it did. -/
def followSomeUptoRow : OpenClaim := { program := "ytkdclmfgnjphoaagreatdoor", sum := "4b52eb3fd6152a2ecb07273394f3702a424d90149f330dfc3aa2f9b5ec5b28c3", func := "waypost/waypostlaw36.FollowSome", spec := "followSome", inPlace := ["internal/bytealg.IndexByteString", "internal/bytealg.IndexString", "internal/abi.NoEscape"], unfollowed := true, recurses := true, named := ["waypost/template.names", "internal/bytealg.MaxLen", "waypost/flag.codes", "internal/strconv.uint64pow10", "math/bits.deBruijn32tab", "math/bits.deBruijn64tab"], plainKeys := false, apart := false, laid := [("math/bits.deBruijn32tab", laid_math_bits_deBruijn32tab), ("math/bits.deBruijn64tab", laid_math_bits_deBruijn64tab), ("internal/strconv.uint64pow10", laid_internal_strconv_uint64pow10), ("waypost/flag.codes", laid_waypost_flag_codes), ("waypost/template.names", laid_waypost_template_names)], narrowed := true }
def FollowSomeUptoSaid : Prop := followSomeUptoRow.holds Tryz.pinned (OpenSpec.upto followSomeSpec)

/-- 'waypostlaw36.FollowGraphs', WHERE WHAT IT READS IS OF BULK AT MOST 1048576: true; the input reads as it did. -/
def followGraphsUptoRow : OpenClaim := { program := "ytkdclmfgnjphoaagreatdoor", sum := "4b52eb3fd6152a2ecb07273394f3702a424d90149f330dfc3aa2f9b5ec5b28c3", func := "waypost/waypostlaw36.FollowGraphs", spec := "followGraphs", inPlace := ["internal/bytealg.IndexByteString", "internal/bytealg.IndexString", "internal/abi.NoEscape"], unfollowed := true, recurses := true, named := ["waypost/template.names", "internal/bytealg.MaxLen", "waypost/flag.codes", "internal/strconv.uint64pow10", "math/bits.deBruijn32tab", "math/bits.deBruijn64tab"], plainKeys := false, apart := false, laid := [("math/bits.deBruijn32tab", laid_math_bits_deBruijn32tab), ("math/bits.deBruijn64tab", laid_math_bits_deBruijn64tab), ("internal/strconv.uint64pow10", laid_internal_strconv_uint64pow10), ("waypost/flag.codes", laid_waypost_flag_codes), ("waypost/template.names", laid_waypost_template_names)], narrowed := true }
def FollowGraphsUptoSaid : Prop := followGraphsUptoRow.holds Tryz.pinned (OpenSpec.upto followGraphsSpec)

/-- 'waypostlaw36.FollowWalks', WHERE WHAT IT READS IS OF BULK AT MOST 1048576: true; the input reads as it did. -/
def followWalksUptoRow : OpenClaim := { program := "ytkdclmfgnjphoaagreatdoor", sum := "4b52eb3fd6152a2ecb07273394f3702a424d90149f330dfc3aa2f9b5ec5b28c3", func := "waypost/waypostlaw36.FollowWalks", spec := "followWalks", inPlace := ["internal/bytealg.IndexByteString", "internal/bytealg.IndexString", "internal/abi.NoEscape"], unfollowed := true, recurses := true, named := ["waypost/template.names", "internal/bytealg.MaxLen", "waypost/flag.codes", "internal/strconv.uint64pow10", "math/bits.deBruijn32tab", "math/bits.deBruijn64tab"], plainKeys := false, apart := false, laid := [("math/bits.deBruijn32tab", laid_math_bits_deBruijn32tab), ("math/bits.deBruijn64tab", laid_math_bits_deBruijn64tab), ("internal/strconv.uint64pow10", laid_internal_strconv_uint64pow10), ("waypost/flag.codes", laid_waypost_flag_codes), ("waypost/template.names", laid_waypost_template_names)], narrowed := true }
def FollowWalksUptoSaid : Prop := followWalksUptoRow.holds Tryz.pinned (OpenSpec.upto followWalksSpec)

end Rows
end Go.Proofs.YtkdclmfgnjphoaaGreatDoor
