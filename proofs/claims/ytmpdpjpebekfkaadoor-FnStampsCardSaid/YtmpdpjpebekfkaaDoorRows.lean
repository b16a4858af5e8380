/-
  NARROWER THAN 'FOR EVERY INPUT', by the rows' own cells (each row's printed sentence says how): FnExactRunFrom: laid · FnGossip: laid · FnStamps: laid · FnIsomorphisms: laid · FnExactGlobalStates: laid.
  DERIVED. THE GIVEN ROWS OF THIS SEAT. 5 by the template 'for every input the law returns true; each argument reads behind the call as it read before'; 0 by the template 'total and deterministic' (their statements: YtmpdpjpebekfkaaDoorTotals.lean).
  GIVEN WITH THE SEED: the statements are not yours to turn. If you find one false, say at which input.
  Laid BY PROGRAM, IN A SANDBOX (cutbox-rows.mjs): the forced cells as the released guide's own fill.sh prints them over the translation 5788085f4975726c… (all of the seat's roots in one cut). By AI agents, Wed Nov 11 2026. No macro, syntax, notation, axiom, sorry.
-/
import Derived.Test.YtmpdpjpebekfkaaDoorChecked
import GoSem.Claim
import GoSem.ClaimJoined
import GoSem.ClaimMapViews
import Derived.JoinedTies
import Derived.KernelRfl
namespace Go.Proofs.YtmpdpjpebekfkaaDoor
/- THE CELL 'sum', in the pinned program and in every row, IS THE sha256 OF THE DUMP (.gsa) THAT YtmpdpjpebekfkaaDoorProg.lean LOADS. Nothing in Lean hashes anything: it is a label: what it is worth is what the hold of that sum in a sandbox is worth. -/
noncomputable def Tryd.pinned : Pinned := { name := "ytmpdpjpebekfkaadoor", sum := "5788085f4975726c6b17d69827910d8eac1e666a2d5fe85fc364ea5528d5addf", checked := Tryd.checked }
namespace Rows
def none {H : Type} : Left H := { results := [], args := [] }

/- WHAT THE LISTED PACKAGE-LEVEL VARIABLES READ AS WHEN THE CALL BEGINS. Each datum BY PROGRAM (the guide's laid-datum.mjs) off the statement by which the dump's own 'gosem.cut.vars' lays the variable. In a bare row this is a premise. The card (YtmpdpjpebekfkaaDoorCards.lean) ties it to the program's text. -/
def laid_math_bits_deBruijn64tab {H : Type} : DataW H := .agg [.lit (.int .u8 0), .lit (.int .u8 1), .lit (.int .u8 56), .lit (.int .u8 2), .lit (.int .u8 57), .lit (.int .u8 49), .lit (.int .u8 28), .lit (.int .u8 3), .lit (.int .u8 61), .lit (.int .u8 58), .lit (.int .u8 42), .lit (.int .u8 50), .lit (.int .u8 38), .lit (.int .u8 29), .lit (.int .u8 17), .lit (.int .u8 4), .lit (.int .u8 62), .lit (.int .u8 47), .lit (.int .u8 59), .lit (.int .u8 36), .lit (.int .u8 45), .lit (.int .u8 43), .lit (.int .u8 51), .lit (.int .u8 22), .lit (.int .u8 53), .lit (.int .u8 39), .lit (.int .u8 33), .lit (.int .u8 30), .lit (.int .u8 24), .lit (.int .u8 18), .lit (.int .u8 12), .lit (.int .u8 5), .lit (.int .u8 63), .lit (.int .u8 55), .lit (.int .u8 48), .lit (.int .u8 27), .lit (.int .u8 60), .lit (.int .u8 41), .lit (.int .u8 37), .lit (.int .u8 16), .lit (.int .u8 46), .lit (.int .u8 35), .lit (.int .u8 44), .lit (.int .u8 21), .lit (.int .u8 52), .lit (.int .u8 32), .lit (.int .u8 23), .lit (.int .u8 11), .lit (.int .u8 54), .lit (.int .u8 26), .lit (.int .u8 40), .lit (.int .u8 15), .lit (.int .u8 34), .lit (.int .u8 20), .lit (.int .u8 31), .lit (.int .u8 10), .lit (.int .u8 25), .lit (.int .u8 14), .lit (.int .u8 19), .lit (.int .u8 9), .lit (.int .u8 13), .lit (.int .u8 8), .lit (.int .u8 7), .lit (.int .u8 6)]

/-- 'laws.FnExactRunFrom': WHATEVER THE INPUT: true; the input reads as it did. -/
def fnExactRunFromSpec : ChangeSpec := { name := "fnExactRunFrom", fn := fun _ => fun
  | [d1, d2, d3] => { results := [.lit (.bool true)], args := [d1, d2, d3] }
  | _ => none }
def fnExactRunFromRow : OpenClaim := { program := "ytmpdpjpebekfkaadoor", sum := "5788085f4975726c6b17d69827910d8eac1e666a2d5fe85fc364ea5528d5addf", func := "loop.example/g01094/laws.FnExactRunFrom", spec := "fnExactRunFrom", unfollowed := true, recurses := true, named := ["math/bits.deBruijn64tab"], apart := false, laid := [("math/bits.deBruijn64tab", laid_math_bits_deBruijn64tab)] }
def FnExactRunFromSaid : Prop := fnExactRunFromRow.holds Tryd.pinned (OpenSpec.ofChange fnExactRunFromSpec)

/-- ITS FALSE NEIGHBOUR: 'it returns false'. Refute it at one input. -/
def fnExactRunFromWrong : ChangeSpec := { name := "fnExactRunFrom", fn := fun _ => fun
  | [d1, d2, d3] => { results := [.lit (.bool false)], args := [d1, d2, d3] }
  | _ => none }
def FnExactRunFromWrongFalsely : Prop := fnExactRunFromRow.holds Tryd.pinned (OpenSpec.ofChange fnExactRunFromWrong)

/-- 'laws.FnGossip': WHATEVER THE INPUT: true; the input reads as it did. -/
def fnGossipSpec : ChangeSpec := { name := "fnGossip", fn := fun _ => fun
  | [d] => { results := [.lit (.bool true)], args := [d] }
  | _ => none }
def fnGossipRow : OpenClaim := { program := "ytmpdpjpebekfkaadoor", sum := "5788085f4975726c6b17d69827910d8eac1e666a2d5fe85fc364ea5528d5addf", func := "loop.example/g01094/laws.FnGossip", spec := "fnGossip", unfollowed := true, recurses := true, named := ["math/bits.deBruijn64tab"], apart := false, laid := [("math/bits.deBruijn64tab", laid_math_bits_deBruijn64tab)] }
def FnGossipSaid : Prop := fnGossipRow.holds Tryd.pinned (OpenSpec.ofChange fnGossipSpec)

/-- ITS FALSE NEIGHBOUR: 'it returns false'. Refute it at one input. -/
def fnGossipWrong : ChangeSpec := { name := "fnGossip", fn := fun _ => fun
  | [d] => { results := [.lit (.bool false)], args := [d] }
  | _ => none }
def FnGossipWrongFalsely : Prop := fnGossipRow.holds Tryd.pinned (OpenSpec.ofChange fnGossipWrong)

/-- 'laws.FnStamps': WHATEVER THE INPUT: true; the input reads as it did. -/
def fnStampsSpec : ChangeSpec := { name := "fnStamps", fn := fun _ => fun
  | [d] => { results := [.lit (.bool true)], args := [d] }
  | _ => none }
def fnStampsRow : OpenClaim := { program := "ytmpdpjpebekfkaadoor", sum := "5788085f4975726c6b17d69827910d8eac1e666a2d5fe85fc364ea5528d5addf", func := "loop.example/g01094/laws.FnStamps", spec := "fnStamps", unfollowed := true, recurses := true, named := ["math/bits.deBruijn64tab"], apart := false, laid := [("math/bits.deBruijn64tab", laid_math_bits_deBruijn64tab)] }
def FnStampsSaid : Prop := fnStampsRow.holds Tryd.pinned (OpenSpec.ofChange fnStampsSpec)

/-- ITS FALSE NEIGHBOUR: 'it returns false'. Refute it at one input. -/
def fnStampsWrong : ChangeSpec := { name := "fnStamps", fn := fun _ => fun
  | [d] => { results := [.lit (.bool false)], args := [d] }
  | _ => none }
def FnStampsWrongFalsely : Prop := fnStampsRow.holds Tryd.pinned (OpenSpec.ofChange fnStampsWrong)

/-- 'laws.FnIsomorphisms': WHATEVER THE INPUT: true; the input reads as it did. -/
def fnIsomorphismsSpec : ChangeSpec := { name := "fnIsomorphisms", fn := fun _ => fun
  | [d] => { results := [.lit (.bool true)], args := [d] }
  | _ => none }
def fnIsomorphismsRow : OpenClaim := { program := "ytmpdpjpebekfkaadoor", sum := "5788085f4975726c6b17d69827910d8eac1e666a2d5fe85fc364ea5528d5addf", func := "loop.example/g01094/laws.FnIsomorphisms", spec := "fnIsomorphisms", unfollowed := true, recurses := true, named := ["math/bits.deBruijn64tab"], apart := false, laid := [("math/bits.deBruijn64tab", laid_math_bits_deBruijn64tab)] }
def FnIsomorphismsSaid : Prop := fnIsomorphismsRow.holds Tryd.pinned (OpenSpec.ofChange fnIsomorphismsSpec)

/-- ITS FALSE NEIGHBOUR: 'it returns false'. Refute it at one input. -/
def fnIsomorphismsWrong : ChangeSpec := { name := "fnIsomorphisms", fn := fun _ => fun
  | [d] => { results := [.lit (.bool false)], args := [d] }
  | _ => none }
def FnIsomorphismsWrongFalsely : Prop := fnIsomorphismsRow.holds Tryd.pinned (OpenSpec.ofChange fnIsomorphismsWrong)

/-- 'laws.FnExactGlobalStates': WHATEVER THE INPUT: true; the input reads as it did. -/
def fnExactGlobalStatesSpec : ChangeSpec := { name := "fnExactGlobalStates", fn := fun _ => fun
  | [d] => { results := [.lit (.bool true)], args := [d] }
  | _ => none }
def fnExactGlobalStatesRow : OpenClaim := { program := "ytmpdpjpebekfkaadoor", sum := "5788085f4975726c6b17d69827910d8eac1e666a2d5fe85fc364ea5528d5addf", func := "loop.example/g01094/laws.FnExactGlobalStates", spec := "fnExactGlobalStates", unfollowed := true, recurses := true, named := ["math/bits.deBruijn64tab"], apart := false, laid := [("math/bits.deBruijn64tab", laid_math_bits_deBruijn64tab)] }
def FnExactGlobalStatesSaid : Prop := fnExactGlobalStatesRow.holds Tryd.pinned (OpenSpec.ofChange fnExactGlobalStatesSpec)

/-- ITS FALSE NEIGHBOUR: 'it returns false'. Refute it at one input. -/
def fnExactGlobalStatesWrong : ChangeSpec := { name := "fnExactGlobalStates", fn := fun _ => fun
  | [d] => { results := [.lit (.bool false)], args := [d] }
  | _ => none }
def FnExactGlobalStatesWrongFalsely : Prop := fnExactGlobalStatesRow.holds Tryd.pinned (OpenSpec.ofChange fnExactGlobalStatesWrong)

/- THE SECOND FORM. 'bulk': how many values and letters a reading holds, each counted each time it is reached (what is shared counts as often as it is met; a slice's spare places count too). A statement '..UptoSaid' is the law's where the arguments, and the package variables that the reading takes, are together of bulk at most 1048576: NARROWER than '..Said'. Prove '..Said' where nothing that the law and all that it calls make is longer than what came in: it says more and counts as full. Else prove '..UptoSaid'. A law counts once. -/
mutual
def uptoBulk {H : Type} : DataW H → Nat
  | .lit (.string bytes) => bytes.length + 1
  | .lit _ => 1
  | .nil => 1
  | .ptr d => uptoBulk d + 1
  | .slice elems spare => uptoBulkAll elems + uptoBulkAll spare + 1
  | .agg parts => uptoBulkAll parts + 1
  | .iface _ d => uptoBulk d + 1
  | .map entries => uptoBulkEntries entries + 1
  | .held _ => 1
def uptoBulkAll {H : Type} : List (DataW H) → Nat
  | [] => 0
  | d :: r => uptoBulk d + uptoBulkAll r
def uptoBulkEntries {H : Type} : List (Lit × DataW H) → Nat
  | [] => 0
  | x :: r => uptoBulkEntry x + uptoBulkEntries r
def uptoBulkEntry {H : Type} : Lit × DataW H → Nat
  | (.string bytes, d) => bytes.length + uptoBulk d + 1
  | (_, d) => uptoBulk d + 1
 end
def uptoSmall : (H : Type) → List (DataW H) → Bool := fun _ ds => decide (uptoBulkAll ds ≤ 1048576)
def OpenSpec.upto (s : _root_.Go.ChangeSpec) : _root_.Go.OpenSpec := { _root_.Go.OpenSpec.ofChange s with cond := some uptoSmall }

/-- 'laws.FnExactRunFrom', WHERE WHAT IT READS IS OF BULK AT MOST 1048576: true; the input reads as it did. -/
def fnExactRunFromUptoRow : OpenClaim := { program := "ytmpdpjpebekfkaadoor", sum := "5788085f4975726c6b17d69827910d8eac1e666a2d5fe85fc364ea5528d5addf", func := "loop.example/g01094/laws.FnExactRunFrom", spec := "fnExactRunFrom", unfollowed := true, recurses := true, named := ["math/bits.deBruijn64tab"], apart := false, laid := [("math/bits.deBruijn64tab", laid_math_bits_deBruijn64tab)], narrowed := true }
def FnExactRunFromUptoSaid : Prop := fnExactRunFromUptoRow.holds Tryd.pinned (OpenSpec.upto fnExactRunFromSpec)

/-- 'laws.FnGossip', WHERE WHAT IT READS IS OF BULK AT MOST 1048576: true; the input reads as it did. -/
def fnGossipUptoRow : OpenClaim := { program := "ytmpdpjpebekfkaadoor", sum := "5788085f4975726c6b17d69827910d8eac1e666a2d5fe85fc364ea5528d5addf", func := "loop.example/g01094/laws.FnGossip", spec := "fnGossip", unfollowed := true, recurses := true, named := ["math/bits.deBruijn64tab"], apart := false, laid := [("math/bits.deBruijn64tab", laid_math_bits_deBruijn64tab)], narrowed := true }
def FnGossipUptoSaid : Prop := fnGossipUptoRow.holds Tryd.pinned (OpenSpec.upto fnGossipSpec)

/-- 'laws.FnStamps', WHERE WHAT IT READS IS OF BULK AT MOST 1048576: true; the input reads as it did. -/
def fnStampsUptoRow : OpenClaim := { program := "ytmpdpjpebekfkaadoor", sum := "5788085f4975726c6b17d69827910d8eac1e666a2d5fe85fc364ea5528d5addf", func := "loop.example/g01094/laws.FnStamps", spec := "fnStamps", unfollowed := true, recurses := true, named := ["math/bits.deBruijn64tab"], apart := false, laid := [("math/bits.deBruijn64tab", laid_math_bits_deBruijn64tab)], narrowed := true }
def FnStampsUptoSaid : Prop := fnStampsUptoRow.holds Tryd.pinned (OpenSpec.upto fnStampsSpec)

/-- 'laws.FnIsomorphisms', WHERE WHAT IT READS IS OF BULK AT MOST 1048576: true; the input reads as it did. -/
def fnIsomorphismsUptoRow : OpenClaim := { program := "ytmpdpjpebekfkaadoor", sum := "5788085f4975726c6b17d69827910d8eac1e666a2d5fe85fc364ea5528d5addf", func := "loop.example/g01094/laws.FnIsomorphisms", spec := "fnIsomorphisms", unfollowed := true, recurses := true, named := ["math/bits.deBruijn64tab"], apart := false, laid := [("math/bits.deBruijn64tab", laid_math_bits_deBruijn64tab)], narrowed := true }
def FnIsomorphismsUptoSaid : Prop := fnIsomorphismsUptoRow.holds Tryd.pinned (OpenSpec.upto fnIsomorphismsSpec)

/-- 'laws.FnExactGlobalStates', WHERE WHAT IT READS IS OF BULK AT MOST 1048576: true; the input reads as it did. -/
def fnExactGlobalStatesUptoRow : OpenClaim := { program := "ytmpdpjpebekfkaadoor", sum := "5788085f4975726c6b17d69827910d8eac1e666a2d5fe85fc364ea5528d5addf", func := "loop.example/g01094/laws.FnExactGlobalStates", spec := "fnExactGlobalStates", unfollowed := true, recurses := true, named := ["math/bits.deBruijn64tab"], apart := false, laid := [("math/bits.deBruijn64tab", laid_math_bits_deBruijn64tab)], narrowed := true }
def FnExactGlobalStatesUptoSaid : Prop := fnExactGlobalStatesUptoRow.holds Tryd.pinned (OpenSpec.upto fnExactGlobalStatesSpec)

end Rows
end Go.Proofs.YtmpdpjpebekfkaaDoor
