/-
  NARROWER THAN 'FOR EVERY INPUT', by the rows' own cells (each row's printed sentence says how): FnExactViewOf: laid · FnExactPastByStamps: laid · FnExactNewerOf: laid · FnExactStampsOf: laid · FnExactLatestKnown: laid · FnExactKnownCounts: laid · FnExactSecondHand: laid · FnExactLabelsOf: laid · FnExactNewerByLabels: laid.
  DERIVED. THE GIVEN ROWS OF THIS SEAT. 9 by the template 'for every input the law returns true; each argument reads behind the call as it read before'; 0 by the template 'total and deterministic' (their statements: YtfkplolefaijiaaDoorTotals.lean).
  GIVEN WITH THE SEED: the statements are not yours to turn. If you find one false, say at which input.
  Laid BY PROGRAM, IN A SANDBOX (cutbox-rows.mjs): the forced cells as the released guide's own fill.sh prints them over the translation 019ab5a4272fd6dc… (all of the seat's roots in one cut). By AI agents, Wed Nov 11 2026. No macro, syntax, notation, axiom, sorry.
-/
import Derived.Test.YtfkplolefaijiaaDoorChecked
import GoSem.Claim
import GoSem.ClaimJoined
import GoSem.ClaimMapViews
import Derived.JoinedTies
import Derived.KernelRfl
namespace Go.Proofs.YtfkplolefaijiaaDoor
/- THE CELL 'sum', in the pinned program and in every row, IS THE sha256 OF THE DUMP (.gsa) THAT YtfkplolefaijiaaDoorProg.lean LOADS. Nothing in Lean hashes anything: it is a label: what it is worth is what the hold of that sum in a sandbox is worth. -/
noncomputable def Tryd.pinned : Pinned := { name := "ytfkplolefaijiaadoor", sum := "019ab5a4272fd6dc4919f5b7f8122d1a1930f5807bbd09b53e54a1582c314d7b", checked := Tryd.checked }
namespace Rows
def none {H : Type} : Left H := { results := [], args := [] }

/- WHAT THE LISTED PACKAGE-LEVEL VARIABLES READ AS WHEN THE CALL BEGINS. Each datum BY PROGRAM (the guide's laid-datum.mjs) off the statement by which the dump's own 'gosem.cut.vars' lays the variable. In a bare row this is a premise. The card (YtfkplolefaijiaaDoorCards.lean) ties it to the program's text. -/
def laid_math_bits_deBruijn64tab {H : Type} : DataW H := .agg [.lit (.int .u8 0), .lit (.int .u8 1), .lit (.int .u8 56), .lit (.int .u8 2), .lit (.int .u8 57), .lit (.int .u8 49), .lit (.int .u8 28), .lit (.int .u8 3), .lit (.int .u8 61), .lit (.int .u8 58), .lit (.int .u8 42), .lit (.int .u8 50), .lit (.int .u8 38), .lit (.int .u8 29), .lit (.int .u8 17), .lit (.int .u8 4), .lit (.int .u8 62), .lit (.int .u8 47), .lit (.int .u8 59), .lit (.int .u8 36), .lit (.int .u8 45), .lit (.int .u8 43), .lit (.int .u8 51), .lit (.int .u8 22), .lit (.int .u8 53), .lit (.int .u8 39), .lit (.int .u8 33), .lit (.int .u8 30), .lit (.int .u8 24), .lit (.int .u8 18), .lit (.int .u8 12), .lit (.int .u8 5), .lit (.int .u8 63), .lit (.int .u8 55), .lit (.int .u8 48), .lit (.int .u8 27), .lit (.int .u8 60), .lit (.int .u8 41), .lit (.int .u8 37), .lit (.int .u8 16), .lit (.int .u8 46), .lit (.int .u8 35), .lit (.int .u8 44), .lit (.int .u8 21), .lit (.int .u8 52), .lit (.int .u8 32), .lit (.int .u8 23), .lit (.int .u8 11), .lit (.int .u8 54), .lit (.int .u8 26), .lit (.int .u8 40), .lit (.int .u8 15), .lit (.int .u8 34), .lit (.int .u8 20), .lit (.int .u8 31), .lit (.int .u8 10), .lit (.int .u8 25), .lit (.int .u8 14), .lit (.int .u8 19), .lit (.int .u8 9), .lit (.int .u8 13), .lit (.int .u8 8), .lit (.int .u8 7), .lit (.int .u8 6)]

/-- 'laws.FnExactViewOf': WHATEVER THE INPUT: true; the input reads as it did. -/
def fnExactViewOfSpec : ChangeSpec := { name := "fnExactViewOf", fn := fun _ => fun
  | [d1, d2, d3, d4] => { results := [.lit (.bool true)], args := [d1, d2, d3, d4] }
  | _ => none }
def fnExactViewOfRow : OpenClaim := { program := "ytfkplolefaijiaadoor", sum := "019ab5a4272fd6dc4919f5b7f8122d1a1930f5807bbd09b53e54a1582c314d7b", func := "loop.example/g01094/laws.FnExactViewOf", spec := "fnExactViewOf", unfollowed := true, recurses := true, named := ["math/bits.deBruijn64tab"], apart := false, laid := [("math/bits.deBruijn64tab", laid_math_bits_deBruijn64tab)] }
def FnExactViewOfSaid : Prop := fnExactViewOfRow.holds Tryd.pinned (OpenSpec.ofChange fnExactViewOfSpec)

/-- ITS FALSE NEIGHBOUR: 'it returns false'. Refute it at one input. -/
def fnExactViewOfWrong : ChangeSpec := { name := "fnExactViewOf", fn := fun _ => fun
  | [d1, d2, d3, d4] => { results := [.lit (.bool false)], args := [d1, d2, d3, d4] }
  | _ => none }
def FnExactViewOfWrongFalsely : Prop := fnExactViewOfRow.holds Tryd.pinned (OpenSpec.ofChange fnExactViewOfWrong)

/-- 'laws.FnExactPastByStamps': WHATEVER THE INPUT: true; the input reads as it did. -/
def fnExactPastByStampsSpec : ChangeSpec := { name := "fnExactPastByStamps", fn := fun _ => fun
  | [d1, d2, d3, d4] => { results := [.lit (.bool true)], args := [d1, d2, d3, d4] }
  | _ => none }
def fnExactPastByStampsRow : OpenClaim := { program := "ytfkplolefaijiaadoor", sum := "019ab5a4272fd6dc4919f5b7f8122d1a1930f5807bbd09b53e54a1582c314d7b", func := "loop.example/g01094/laws.FnExactPastByStamps", spec := "fnExactPastByStamps", unfollowed := true, recurses := true, named := ["math/bits.deBruijn64tab"], apart := false, laid := [("math/bits.deBruijn64tab", laid_math_bits_deBruijn64tab)] }
def FnExactPastByStampsSaid : Prop := fnExactPastByStampsRow.holds Tryd.pinned (OpenSpec.ofChange fnExactPastByStampsSpec)

/-- ITS FALSE NEIGHBOUR: 'it returns false'. Refute it at one input. -/
def fnExactPastByStampsWrong : ChangeSpec := { name := "fnExactPastByStamps", fn := fun _ => fun
  | [d1, d2, d3, d4] => { results := [.lit (.bool false)], args := [d1, d2, d3, d4] }
  | _ => none }
def FnExactPastByStampsWrongFalsely : Prop := fnExactPastByStampsRow.holds Tryd.pinned (OpenSpec.ofChange fnExactPastByStampsWrong)

/-- 'laws.FnExactNewerOf': WHATEVER THE INPUT: true; the input reads as it did. -/
def fnExactNewerOfSpec : ChangeSpec := { name := "fnExactNewerOf", fn := fun _ => fun
  | [d1, d2, d3, d4, d5, d6] => { results := [.lit (.bool true)], args := [d1, d2, d3, d4, d5, d6] }
  | _ => none }
def fnExactNewerOfRow : OpenClaim := { program := "ytfkplolefaijiaadoor", sum := "019ab5a4272fd6dc4919f5b7f8122d1a1930f5807bbd09b53e54a1582c314d7b", func := "loop.example/g01094/laws.FnExactNewerOf", spec := "fnExactNewerOf", unfollowed := true, recurses := true, named := ["math/bits.deBruijn64tab"], apart := false, laid := [("math/bits.deBruijn64tab", laid_math_bits_deBruijn64tab)] }
def FnExactNewerOfSaid : Prop := fnExactNewerOfRow.holds Tryd.pinned (OpenSpec.ofChange fnExactNewerOfSpec)

/-- ITS FALSE NEIGHBOUR: 'it returns false'. Refute it at one input. -/
def fnExactNewerOfWrong : ChangeSpec := { name := "fnExactNewerOf", fn := fun _ => fun
  | [d1, d2, d3, d4, d5, d6] => { results := [.lit (.bool false)], args := [d1, d2, d3, d4, d5, d6] }
  | _ => none }
def FnExactNewerOfWrongFalsely : Prop := fnExactNewerOfRow.holds Tryd.pinned (OpenSpec.ofChange fnExactNewerOfWrong)

/-- 'laws.FnExactStampsOf': WHATEVER THE INPUT: true; the input reads as it did. -/
def fnExactStampsOfSpec : ChangeSpec := { name := "fnExactStampsOf", fn := fun _ => fun
  | [d1, d2, d3] => { results := [.lit (.bool true)], args := [d1, d2, d3] }
  | _ => none }
def fnExactStampsOfRow : OpenClaim := { program := "ytfkplolefaijiaadoor", sum := "019ab5a4272fd6dc4919f5b7f8122d1a1930f5807bbd09b53e54a1582c314d7b", func := "loop.example/g01094/laws.FnExactStampsOf", spec := "fnExactStampsOf", unfollowed := true, recurses := true, named := ["math/bits.deBruijn64tab"], apart := false, laid := [("math/bits.deBruijn64tab", laid_math_bits_deBruijn64tab)] }
def FnExactStampsOfSaid : Prop := fnExactStampsOfRow.holds Tryd.pinned (OpenSpec.ofChange fnExactStampsOfSpec)

/-- ITS FALSE NEIGHBOUR: 'it returns false'. Refute it at one input. -/
def fnExactStampsOfWrong : ChangeSpec := { name := "fnExactStampsOf", fn := fun _ => fun
  | [d1, d2, d3] => { results := [.lit (.bool false)], args := [d1, d2, d3] }
  | _ => none }
def FnExactStampsOfWrongFalsely : Prop := fnExactStampsOfRow.holds Tryd.pinned (OpenSpec.ofChange fnExactStampsOfWrong)

/-- 'laws.FnExactLatestKnown': WHATEVER THE INPUT: true; the input reads as it did. -/
def fnExactLatestKnownSpec : ChangeSpec := { name := "fnExactLatestKnown", fn := fun _ => fun
  | [d1, d2, d3, d4] => { results := [.lit (.bool true)], args := [d1, d2, d3, d4] }
  | _ => none }
def fnExactLatestKnownRow : OpenClaim := { program := "ytfkplolefaijiaadoor", sum := "019ab5a4272fd6dc4919f5b7f8122d1a1930f5807bbd09b53e54a1582c314d7b", func := "loop.example/g01094/laws.FnExactLatestKnown", spec := "fnExactLatestKnown", unfollowed := true, recurses := true, named := ["math/bits.deBruijn64tab"], apart := false, laid := [("math/bits.deBruijn64tab", laid_math_bits_deBruijn64tab)] }
def FnExactLatestKnownSaid : Prop := fnExactLatestKnownRow.holds Tryd.pinned (OpenSpec.ofChange fnExactLatestKnownSpec)

/-- ITS FALSE NEIGHBOUR: 'it returns false'. Refute it at one input. -/
def fnExactLatestKnownWrong : ChangeSpec := { name := "fnExactLatestKnown", fn := fun _ => fun
  | [d1, d2, d3, d4] => { results := [.lit (.bool false)], args := [d1, d2, d3, d4] }
  | _ => none }
def FnExactLatestKnownWrongFalsely : Prop := fnExactLatestKnownRow.holds Tryd.pinned (OpenSpec.ofChange fnExactLatestKnownWrong)

/-- 'laws.FnExactKnownCounts': WHATEVER THE INPUT: true; the input reads as it did. -/
def fnExactKnownCountsSpec : ChangeSpec := { name := "fnExactKnownCounts", fn := fun _ => fun
  | [d1, d2, d3] => { results := [.lit (.bool true)], args := [d1, d2, d3] }
  | _ => none }
def fnExactKnownCountsRow : OpenClaim := { program := "ytfkplolefaijiaadoor", sum := "019ab5a4272fd6dc4919f5b7f8122d1a1930f5807bbd09b53e54a1582c314d7b", func := "loop.example/g01094/laws.FnExactKnownCounts", spec := "fnExactKnownCounts", unfollowed := true, recurses := true, named := ["math/bits.deBruijn64tab"], apart := false, laid := [("math/bits.deBruijn64tab", laid_math_bits_deBruijn64tab)] }
def FnExactKnownCountsSaid : Prop := fnExactKnownCountsRow.holds Tryd.pinned (OpenSpec.ofChange fnExactKnownCountsSpec)

/-- ITS FALSE NEIGHBOUR: 'it returns false'. Refute it at one input. -/
def fnExactKnownCountsWrong : ChangeSpec := { name := "fnExactKnownCounts", fn := fun _ => fun
  | [d1, d2, d3] => { results := [.lit (.bool false)], args := [d1, d2, d3] }
  | _ => none }
def FnExactKnownCountsWrongFalsely : Prop := fnExactKnownCountsRow.holds Tryd.pinned (OpenSpec.ofChange fnExactKnownCountsWrong)

/-- 'laws.FnExactSecondHand': WHATEVER THE INPUT: true; the input reads as it did. -/
def fnExactSecondHandSpec : ChangeSpec := { name := "fnExactSecondHand", fn := fun _ => fun
  | [d1, d2, d3, d4] => { results := [.lit (.bool true)], args := [d1, d2, d3, d4] }
  | _ => none }
def fnExactSecondHandRow : OpenClaim := { program := "ytfkplolefaijiaadoor", sum := "019ab5a4272fd6dc4919f5b7f8122d1a1930f5807bbd09b53e54a1582c314d7b", func := "loop.example/g01094/laws.FnExactSecondHand", spec := "fnExactSecondHand", unfollowed := true, recurses := true, named := ["math/bits.deBruijn64tab"], apart := false, laid := [("math/bits.deBruijn64tab", laid_math_bits_deBruijn64tab)] }
def FnExactSecondHandSaid : Prop := fnExactSecondHandRow.holds Tryd.pinned (OpenSpec.ofChange fnExactSecondHandSpec)

/-- ITS FALSE NEIGHBOUR: 'it returns false'. Refute it at one input. -/
def fnExactSecondHandWrong : ChangeSpec := { name := "fnExactSecondHand", fn := fun _ => fun
  | [d1, d2, d3, d4] => { results := [.lit (.bool false)], args := [d1, d2, d3, d4] }
  | _ => none }
def FnExactSecondHandWrongFalsely : Prop := fnExactSecondHandRow.holds Tryd.pinned (OpenSpec.ofChange fnExactSecondHandWrong)

/-- 'laws.FnExactLabelsOf': WHATEVER THE INPUT: true; the input reads as it did. -/
def fnExactLabelsOfSpec : ChangeSpec := { name := "fnExactLabelsOf", fn := fun _ => fun
  | [d1, d2, d3] => { results := [.lit (.bool true)], args := [d1, d2, d3] }
  | _ => none }
def fnExactLabelsOfRow : OpenClaim := { program := "ytfkplolefaijiaadoor", sum := "019ab5a4272fd6dc4919f5b7f8122d1a1930f5807bbd09b53e54a1582c314d7b", func := "loop.example/g01094/laws.FnExactLabelsOf", spec := "fnExactLabelsOf", unfollowed := true, recurses := true, named := ["math/bits.deBruijn64tab"], apart := false, laid := [("math/bits.deBruijn64tab", laid_math_bits_deBruijn64tab)] }
def FnExactLabelsOfSaid : Prop := fnExactLabelsOfRow.holds Tryd.pinned (OpenSpec.ofChange fnExactLabelsOfSpec)

/-- ITS FALSE NEIGHBOUR: 'it returns false'. Refute it at one input. -/
def fnExactLabelsOfWrong : ChangeSpec := { name := "fnExactLabelsOf", fn := fun _ => fun
  | [d1, d2, d3] => { results := [.lit (.bool false)], args := [d1, d2, d3] }
  | _ => none }
def FnExactLabelsOfWrongFalsely : Prop := fnExactLabelsOfRow.holds Tryd.pinned (OpenSpec.ofChange fnExactLabelsOfWrong)

/-- 'laws.FnExactNewerByLabels': WHATEVER THE INPUT: true; the input reads as it did. -/
def fnExactNewerByLabelsSpec : ChangeSpec := { name := "fnExactNewerByLabels", fn := fun _ => fun
  | [d1, d2, d3, d4, d5, d6] => { results := [.lit (.bool true)], args := [d1, d2, d3, d4, d5, d6] }
  | _ => none }
def fnExactNewerByLabelsRow : OpenClaim := { program := "ytfkplolefaijiaadoor", sum := "019ab5a4272fd6dc4919f5b7f8122d1a1930f5807bbd09b53e54a1582c314d7b", func := "loop.example/g01094/laws.FnExactNewerByLabels", spec := "fnExactNewerByLabels", unfollowed := true, recurses := true, named := ["math/bits.deBruijn64tab"], apart := false, laid := [("math/bits.deBruijn64tab", laid_math_bits_deBruijn64tab)] }
def FnExactNewerByLabelsSaid : Prop := fnExactNewerByLabelsRow.holds Tryd.pinned (OpenSpec.ofChange fnExactNewerByLabelsSpec)

/-- ITS FALSE NEIGHBOUR: 'it returns false'. Refute it at one input. -/
def fnExactNewerByLabelsWrong : ChangeSpec := { name := "fnExactNewerByLabels", fn := fun _ => fun
  | [d1, d2, d3, d4, d5, d6] => { results := [.lit (.bool false)], args := [d1, d2, d3, d4, d5, d6] }
  | _ => none }
def FnExactNewerByLabelsWrongFalsely : Prop := fnExactNewerByLabelsRow.holds Tryd.pinned (OpenSpec.ofChange fnExactNewerByLabelsWrong)

/- THE SECOND FORM. 'bulk': how many values and letters a reading holds, each counted each time it is reached (what is shared counts as often as it is met; a slice's spare places count too). A statement '..UptoSaid' is the law's where the arguments, and the package variables that the reading takes, are together of bulk at most 1048576: NARROWER than '..Said'. Prove '..Said' where nothing that the law and all that it calls make is longer than what came in: it says more and counts as full. Else prove '..UptoSaid'. A law counts once. -/
mutual
def uptoBulk {H : Type} : DataW H → Nat
  | .lit (.string bytes) => bytes.length + 1
  | .lit _ => 1
  | .nil => 1
  | .ptr d => uptoBulk d + 1
  | .slice elems spare => uptoBulkAll elems + uptoBulkAll spare + 1
  | .agg parts => uptoBulkAll parts + 1
  | .iface _ d => uptoBulk d + 1
  | .map entries => uptoBulkEntries entries + 1
  | .held _ => 1
def uptoBulkAll {H : Type} : List (DataW H) → Nat
  | [] => 0
  | d :: r => uptoBulk d + uptoBulkAll r
def uptoBulkEntries {H : Type} : List (Lit × DataW H) → Nat
  | [] => 0
  | x :: r => uptoBulkEntry x + uptoBulkEntries r
def uptoBulkEntry {H : Type} : Lit × DataW H → Nat
  | (.string bytes, d) => bytes.length + uptoBulk d + 1
  | (_, d) => uptoBulk d + 1
 end
def uptoSmall : (H : Type) → List (DataW H) → Bool := fun _ ds => decide (uptoBulkAll ds ≤ 1048576)
def OpenSpec.upto (s : _root_.Go.ChangeSpec) : _root_.Go.OpenSpec := { _root_.Go.OpenSpec.ofChange s with cond := some uptoSmall }

/-- 'laws.FnExactViewOf', WHERE WHAT IT READS IS OF BULK AT MOST 1048576: true; the input reads as it did. -/
def fnExactViewOfUptoRow : OpenClaim := { program := "ytfkplolefaijiaadoor", sum := "019ab5a4272fd6dc4919f5b7f8122d1a1930f5807bbd09b53e54a1582c314d7b", func := "loop.example/g01094/laws.FnExactViewOf", spec := "fnExactViewOf", unfollowed := true, recurses := true, named := ["math/bits.deBruijn64tab"], apart := false, laid := [("math/bits.deBruijn64tab", laid_math_bits_deBruijn64tab)], narrowed := true }
def FnExactViewOfUptoSaid : Prop := fnExactViewOfUptoRow.holds Tryd.pinned (OpenSpec.upto fnExactViewOfSpec)

/-- 'laws.FnExactPastByStamps', WHERE WHAT IT READS IS OF BULK AT MOST 1048576: true; the input reads as it did. -/
def fnExactPastByStampsUptoRow : OpenClaim := { program := "ytfkplolefaijiaadoor", sum := "019ab5a4272fd6dc4919f5b7f8122d1a1930f5807bbd09b53e54a1582c314d7b", func := "loop.example/g01094/laws.FnExactPastByStamps", spec := "fnExactPastByStamps", unfollowed := true, recurses := true, named := ["math/bits.deBruijn64tab"], apart := false, laid := [("math/bits.deBruijn64tab", laid_math_bits_deBruijn64tab)], narrowed := true }
def FnExactPastByStampsUptoSaid : Prop := fnExactPastByStampsUptoRow.holds Tryd.pinned (OpenSpec.upto fnExactPastByStampsSpec)

/-- 'laws.FnExactNewerOf', WHERE WHAT IT READS IS OF BULK AT MOST 1048576: true; the input reads as it did. -/
def fnExactNewerOfUptoRow : OpenClaim := { program := "ytfkplolefaijiaadoor", sum := "019ab5a4272fd6dc4919f5b7f8122d1a1930f5807bbd09b53e54a1582c314d7b", func := "loop.example/g01094/laws.FnExactNewerOf", spec := "fnExactNewerOf", unfollowed := true, recurses := true, named := ["math/bits.deBruijn64tab"], apart := false, laid := [("math/bits.deBruijn64tab", laid_math_bits_deBruijn64tab)], narrowed := true }
def FnExactNewerOfUptoSaid : Prop := fnExactNewerOfUptoRow.holds Tryd.pinned (OpenSpec.upto fnExactNewerOfSpec)

/-- 'laws.FnExactStampsOf', WHERE WHAT IT READS IS OF BULK AT MOST 1048576: true; the input reads as it did. -/
def fnExactStampsOfUptoRow : OpenClaim := { program := "ytfkplolefaijiaadoor", sum := "019ab5a4272fd6dc4919f5b7f8122d1a1930f5807bbd09b53e54a1582c314d7b", func := "loop.example/g01094/laws.FnExactStampsOf", spec := "fnExactStampsOf", unfollowed := true, recurses := true, named := ["math/bits.deBruijn64tab"], apart := false, laid := [("math/bits.deBruijn64tab", laid_math_bits_deBruijn64tab)], narrowed := true }
def FnExactStampsOfUptoSaid : Prop := fnExactStampsOfUptoRow.holds Tryd.pinned (OpenSpec.upto fnExactStampsOfSpec)

/-- 'laws.FnExactLatestKnown', WHERE WHAT IT READS IS OF BULK AT MOST 1048576: true; the input reads as it did. -/
def fnExactLatestKnownUptoRow : OpenClaim := { program := "ytfkplolefaijiaadoor", sum := "019ab5a4272fd6dc4919f5b7f8122d1a1930f5807bbd09b53e54a1582c314d7b", func := "loop.example/g01094/laws.FnExactLatestKnown", spec := "fnExactLatestKnown", unfollowed := true, recurses := true, named := ["math/bits.deBruijn64tab"], apart := false, laid := [("math/bits.deBruijn64tab", laid_math_bits_deBruijn64tab)], narrowed := true }
def FnExactLatestKnownUptoSaid : Prop := fnExactLatestKnownUptoRow.holds Tryd.pinned (OpenSpec.upto fnExactLatestKnownSpec)

/-- 'laws.FnExactKnownCounts', WHERE WHAT IT READS IS OF BULK AT MOST 1048576: true; the input reads as it did. -/
def fnExactKnownCountsUptoRow : OpenClaim := { program := "ytfkplolefaijiaadoor", sum := "019ab5a4272fd6dc4919f5b7f8122d1a1930f5807bbd09b53e54a1582c314d7b", func := "loop.example/g01094/laws.FnExactKnownCounts", spec := "fnExactKnownCounts", unfollowed := true, recurses := true, named := ["math/bits.deBruijn64tab"], apart := false, laid := [("math/bits.deBruijn64tab", laid_math_bits_deBruijn64tab)], narrowed := true }
def FnExactKnownCountsUptoSaid : Prop := fnExactKnownCountsUptoRow.holds Tryd.pinned (OpenSpec.upto fnExactKnownCountsSpec)

/-- 'laws.FnExactSecondHand', WHERE WHAT IT READS IS OF BULK AT MOST 1048576: true; the input reads as it did. -/
def fnExactSecondHandUptoRow : OpenClaim := { program := "ytfkplolefaijiaadoor", sum := "019ab5a4272fd6dc4919f5b7f8122d1a1930f5807bbd09b53e54a1582c314d7b", func := "loop.example/g01094/laws.FnExactSecondHand", spec := "fnExactSecondHand", unfollowed := true, recurses := true, named := ["math/bits.deBruijn64tab"], apart := false, laid := [("math/bits.deBruijn64tab", laid_math_bits_deBruijn64tab)], narrowed := true }
def FnExactSecondHandUptoSaid : Prop := fnExactSecondHandUptoRow.holds Tryd.pinned (OpenSpec.upto fnExactSecondHandSpec)

/-- 'laws.FnExactLabelsOf', WHERE WHAT IT READS IS OF BULK AT MOST 1048576: true; the input reads as it did. -/
def fnExactLabelsOfUptoRow : OpenClaim := { program := "ytfkplolefaijiaadoor", sum := "019ab5a4272fd6dc4919f5b7f8122d1a1930f5807bbd09b53e54a1582c314d7b", func := "loop.example/g01094/laws.FnExactLabelsOf", spec := "fnExactLabelsOf", unfollowed := true, recurses := true, named := ["math/bits.deBruijn64tab"], apart := false, laid := [("math/bits.deBruijn64tab", laid_math_bits_deBruijn64tab)], narrowed := true }
def FnExactLabelsOfUptoSaid : Prop := fnExactLabelsOfUptoRow.holds Tryd.pinned (OpenSpec.upto fnExactLabelsOfSpec)

/-- 'laws.FnExactNewerByLabels', WHERE WHAT IT READS IS OF BULK AT MOST 1048576: true; the input reads as it did. -/
def fnExactNewerByLabelsUptoRow : OpenClaim := { program := "ytfkplolefaijiaadoor", sum := "019ab5a4272fd6dc4919f5b7f8122d1a1930f5807bbd09b53e54a1582c314d7b", func := "loop.example/g01094/laws.FnExactNewerByLabels", spec := "fnExactNewerByLabels", unfollowed := true, recurses := true, named := ["math/bits.deBruijn64tab"], apart := false, laid := [("math/bits.deBruijn64tab", laid_math_bits_deBruijn64tab)], narrowed := true }
def FnExactNewerByLabelsUptoSaid : Prop := fnExactNewerByLabelsUptoRow.holds Tryd.pinned (OpenSpec.upto fnExactNewerByLabelsSpec)

end Rows
end Go.Proofs.YtfkplolefaijiaaDoor
