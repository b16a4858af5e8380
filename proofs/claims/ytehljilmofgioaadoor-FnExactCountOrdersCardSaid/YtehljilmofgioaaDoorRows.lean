/-
  NARROWER THAN 'FOR EVERY INPUT', by the rows' own cells (each row's printed sentence says how): FnExactIsConfiguration: laid · FnExactCountOrders: laid · FnExactImmediateClashes: laid · FnExactAfterConfiguration: laid · FnExactIsomorphismOf: laid · FnExactIsTraceStructure: laid · FnExactWordOfConfiguration: laid.
  DERIVED. THE GIVEN ROWS OF THIS SEAT. 7 by the template 'for every input the law returns true; each argument reads behind the call as it read before'; 0 by the template 'total and deterministic' (their statements: YtehljilmofgioaaDoorTotals.lean).
  GIVEN WITH THE SEED: the statements are not yours to turn. If you find one false, say at which input.
  Laid BY PROGRAM, IN A SANDBOX (cutbox-rows.mjs): the forced cells as the released guide's own fill.sh prints them over the translation 79f3351f19f98899… (all of the seat's roots in one cut). By AI agents, Wed Nov 11 2026. No macro, syntax, notation, axiom, sorry.
-/
import Derived.Test.YtehljilmofgioaaDoorChecked
import GoSem.Claim
import GoSem.ClaimJoined
import GoSem.ClaimMapViews
import Derived.JoinedTies
import Derived.KernelRfl
namespace Go.Proofs.YtehljilmofgioaaDoor
/- THE CELL 'sum', in the pinned program and in every row, IS THE sha256 OF THE DUMP (.gsa) THAT YtehljilmofgioaaDoorProg.lean LOADS. Nothing in Lean hashes anything: it is a label: what it is worth is what the hold of that sum in a sandbox is worth. -/
noncomputable def Tryd.pinned : Pinned := { name := "ytehljilmofgioaadoor", sum := "79f3351f19f988995be9fe63152a74dcbb52d6e3514f112f674d57c4c3a1daaf", checked := Tryd.checked }
namespace Rows
def none {H : Type} : Left H := { results := [], args := [] }

/- WHAT THE LISTED PACKAGE-LEVEL VARIABLES READ AS WHEN THE CALL BEGINS. Each datum BY PROGRAM (the guide's laid-datum.mjs) off the statement by which the dump's own 'gosem.cut.vars' lays the variable. In a bare row this is a premise. The card (YtehljilmofgioaaDoorCards.lean) ties it to the program's text. -/
def laid_math_bits_deBruijn64tab {H : Type} : DataW H := .agg [.lit (.int .u8 0), .lit (.int .u8 1), .lit (.int .u8 56), .lit (.int .u8 2), .lit (.int .u8 57), .lit (.int .u8 49), .lit (.int .u8 28), .lit (.int .u8 3), .lit (.int .u8 61), .lit (.int .u8 58), .lit (.int .u8 42), .lit (.int .u8 50), .lit (.int .u8 38), .lit (.int .u8 29), .lit (.int .u8 17), .lit (.int .u8 4), .lit (.int .u8 62), .lit (.int .u8 47), .lit (.int .u8 59), .lit (.int .u8 36), .lit (.int .u8 45), .lit (.int .u8 43), .lit (.int .u8 51), .lit (.int .u8 22), .lit (.int .u8 53), .lit (.int .u8 39), .lit (.int .u8 33), .lit (.int .u8 30), .lit (.int .u8 24), .lit (.int .u8 18), .lit (.int .u8 12), .lit (.int .u8 5), .lit (.int .u8 63), .lit (.int .u8 55), .lit (.int .u8 48), .lit (.int .u8 27), .lit (.int .u8 60), .lit (.int .u8 41), .lit (.int .u8 37), .lit (.int .u8 16), .lit (.int .u8 46), .lit (.int .u8 35), .lit (.int .u8 44), .lit (.int .u8 21), .lit (.int .u8 52), .lit (.int .u8 32), .lit (.int .u8 23), .lit (.int .u8 11), .lit (.int .u8 54), .lit (.int .u8 26), .lit (.int .u8 40), .lit (.int .u8 15), .lit (.int .u8 34), .lit (.int .u8 20), .lit (.int .u8 31), .lit (.int .u8 10), .lit (.int .u8 25), .lit (.int .u8 14), .lit (.int .u8 19), .lit (.int .u8 9), .lit (.int .u8 13), .lit (.int .u8 8), .lit (.int .u8 7), .lit (.int .u8 6)]

/-- 'laws.FnExactIsConfiguration': WHATEVER THE INPUT: true; the input reads as it did. -/
def fnExactIsConfigurationSpec : ChangeSpec := { name := "fnExactIsConfiguration", fn := fun _ => fun
  | [d1, d2] => { results := [.lit (.bool true)], args := [d1, d2] }
  | _ => none }
def fnExactIsConfigurationRow : OpenClaim := { program := "ytehljilmofgioaadoor", sum := "79f3351f19f988995be9fe63152a74dcbb52d6e3514f112f674d57c4c3a1daaf", func := "loop.example/g01094/laws.FnExactIsConfiguration", spec := "fnExactIsConfiguration", unfollowed := true, recurses := true, named := ["math/bits.deBruijn64tab"], apart := false, laid := [("math/bits.deBruijn64tab", laid_math_bits_deBruijn64tab)] }
def FnExactIsConfigurationSaid : Prop := fnExactIsConfigurationRow.holds Tryd.pinned (OpenSpec.ofChange fnExactIsConfigurationSpec)

/-- ITS FALSE NEIGHBOUR: 'it returns false'. Refute it at one input. -/
def fnExactIsConfigurationWrong : ChangeSpec := { name := "fnExactIsConfiguration", fn := fun _ => fun
  | [d1, d2] => { results := [.lit (.bool false)], args := [d1, d2] }
  | _ => none }
def FnExactIsConfigurationWrongFalsely : Prop := fnExactIsConfigurationRow.holds Tryd.pinned (OpenSpec.ofChange fnExactIsConfigurationWrong)

/-- 'laws.FnExactCountOrders': WHATEVER THE INPUT: true; the input reads as it did. -/
def fnExactCountOrdersSpec : ChangeSpec := { name := "fnExactCountOrders", fn := fun _ => fun
  | [d1, d2] => { results := [.lit (.bool true)], args := [d1, d2] }
  | _ => none }
def fnExactCountOrdersRow : OpenClaim := { program := "ytehljilmofgioaadoor", sum := "79f3351f19f988995be9fe63152a74dcbb52d6e3514f112f674d57c4c3a1daaf", func := "loop.example/g01094/laws.FnExactCountOrders", spec := "fnExactCountOrders", unfollowed := true, recurses := true, named := ["math/bits.deBruijn64tab"], apart := false, laid := [("math/bits.deBruijn64tab", laid_math_bits_deBruijn64tab)] }
def FnExactCountOrdersSaid : Prop := fnExactCountOrdersRow.holds Tryd.pinned (OpenSpec.ofChange fnExactCountOrdersSpec)

/-- ITS FALSE NEIGHBOUR: 'it returns false'. Refute it at one input. -/
def fnExactCountOrdersWrong : ChangeSpec := { name := "fnExactCountOrders", fn := fun _ => fun
  | [d1, d2] => { results := [.lit (.bool false)], args := [d1, d2] }
  | _ => none }
def FnExactCountOrdersWrongFalsely : Prop := fnExactCountOrdersRow.holds Tryd.pinned (OpenSpec.ofChange fnExactCountOrdersWrong)

/-- 'laws.FnExactImmediateClashes': WHATEVER THE INPUT: true; the input reads as it did. -/
def fnExactImmediateClashesSpec : ChangeSpec := { name := "fnExactImmediateClashes", fn := fun _ => fun
  | [d] => { results := [.lit (.bool true)], args := [d] }
  | _ => none }
def fnExactImmediateClashesRow : OpenClaim := { program := "ytehljilmofgioaadoor", sum := "79f3351f19f988995be9fe63152a74dcbb52d6e3514f112f674d57c4c3a1daaf", func := "loop.example/g01094/laws.FnExactImmediateClashes", spec := "fnExactImmediateClashes", unfollowed := true, recurses := true, named := ["math/bits.deBruijn64tab"], apart := false, laid := [("math/bits.deBruijn64tab", laid_math_bits_deBruijn64tab)] }
def FnExactImmediateClashesSaid : Prop := fnExactImmediateClashesRow.holds Tryd.pinned (OpenSpec.ofChange fnExactImmediateClashesSpec)

/-- ITS FALSE NEIGHBOUR: 'it returns false'. Refute it at one input. -/
def fnExactImmediateClashesWrong : ChangeSpec := { name := "fnExactImmediateClashes", fn := fun _ => fun
  | [d] => { results := [.lit (.bool false)], args := [d] }
  | _ => none }
def FnExactImmediateClashesWrongFalsely : Prop := fnExactImmediateClashesRow.holds Tryd.pinned (OpenSpec.ofChange fnExactImmediateClashesWrong)

/-- 'laws.FnExactAfterConfiguration': WHATEVER THE INPUT: true; the input reads as it did. -/
def fnExactAfterConfigurationSpec : ChangeSpec := { name := "fnExactAfterConfiguration", fn := fun _ => fun
  | [d1, d2] => { results := [.lit (.bool true)], args := [d1, d2] }
  | _ => none }
def fnExactAfterConfigurationRow : OpenClaim := { program := "ytehljilmofgioaadoor", sum := "79f3351f19f988995be9fe63152a74dcbb52d6e3514f112f674d57c4c3a1daaf", func := "loop.example/g01094/laws.FnExactAfterConfiguration", spec := "fnExactAfterConfiguration", unfollowed := true, recurses := true, named := ["math/bits.deBruijn64tab"], apart := false, laid := [("math/bits.deBruijn64tab", laid_math_bits_deBruijn64tab)] }
def FnExactAfterConfigurationSaid : Prop := fnExactAfterConfigurationRow.holds Tryd.pinned (OpenSpec.ofChange fnExactAfterConfigurationSpec)

/-- ITS FALSE NEIGHBOUR: 'it returns false'. Refute it at one input. -/
def fnExactAfterConfigurationWrong : ChangeSpec := { name := "fnExactAfterConfiguration", fn := fun _ => fun
  | [d1, d2] => { results := [.lit (.bool false)], args := [d1, d2] }
  | _ => none }
def FnExactAfterConfigurationWrongFalsely : Prop := fnExactAfterConfigurationRow.holds Tryd.pinned (OpenSpec.ofChange fnExactAfterConfigurationWrong)

/-- 'laws.FnExactIsomorphismOf': WHATEVER THE INPUT: true; the input reads as it did. -/
def fnExactIsomorphismOfSpec : ChangeSpec := { name := "fnExactIsomorphismOf", fn := fun _ => fun
  | [d1, d2] => { results := [.lit (.bool true)], args := [d1, d2] }
  | _ => none }
def fnExactIsomorphismOfRow : OpenClaim := { program := "ytehljilmofgioaadoor", sum := "79f3351f19f988995be9fe63152a74dcbb52d6e3514f112f674d57c4c3a1daaf", func := "loop.example/g01094/laws.FnExactIsomorphismOf", spec := "fnExactIsomorphismOf", unfollowed := true, recurses := true, named := ["math/bits.deBruijn64tab"], apart := false, laid := [("math/bits.deBruijn64tab", laid_math_bits_deBruijn64tab)] }
def FnExactIsomorphismOfSaid : Prop := fnExactIsomorphismOfRow.holds Tryd.pinned (OpenSpec.ofChange fnExactIsomorphismOfSpec)

/-- ITS FALSE NEIGHBOUR: 'it returns false'. Refute it at one input. -/
def fnExactIsomorphismOfWrong : ChangeSpec := { name := "fnExactIsomorphismOf", fn := fun _ => fun
  | [d1, d2] => { results := [.lit (.bool false)], args := [d1, d2] }
  | _ => none }
def FnExactIsomorphismOfWrongFalsely : Prop := fnExactIsomorphismOfRow.holds Tryd.pinned (OpenSpec.ofChange fnExactIsomorphismOfWrong)

/-- 'laws.FnExactIsTraceStructure': WHATEVER THE INPUT: true; the input reads as it did. -/
def fnExactIsTraceStructureSpec : ChangeSpec := { name := "fnExactIsTraceStructure", fn := fun _ => fun
  | [d1, d2] => { results := [.lit (.bool true)], args := [d1, d2] }
  | _ => none }
def fnExactIsTraceStructureRow : OpenClaim := { program := "ytehljilmofgioaadoor", sum := "79f3351f19f988995be9fe63152a74dcbb52d6e3514f112f674d57c4c3a1daaf", func := "loop.example/g01094/laws.FnExactIsTraceStructure", spec := "fnExactIsTraceStructure", unfollowed := true, recurses := true, named := ["math/bits.deBruijn64tab"], apart := false, laid := [("math/bits.deBruijn64tab", laid_math_bits_deBruijn64tab)] }
def FnExactIsTraceStructureSaid : Prop := fnExactIsTraceStructureRow.holds Tryd.pinned (OpenSpec.ofChange fnExactIsTraceStructureSpec)

/-- ITS FALSE NEIGHBOUR: 'it returns false'. Refute it at one input. -/
def fnExactIsTraceStructureWrong : ChangeSpec := { name := "fnExactIsTraceStructure", fn := fun _ => fun
  | [d1, d2] => { results := [.lit (.bool false)], args := [d1, d2] }
  | _ => none }
def FnExactIsTraceStructureWrongFalsely : Prop := fnExactIsTraceStructureRow.holds Tryd.pinned (OpenSpec.ofChange fnExactIsTraceStructureWrong)

/-- 'laws.FnExactWordOfConfiguration': WHATEVER THE INPUT: true; the input reads as it did. -/
def fnExactWordOfConfigurationSpec : ChangeSpec := { name := "fnExactWordOfConfiguration", fn := fun _ => fun
  | [d1, d2] => { results := [.lit (.bool true)], args := [d1, d2] }
  | _ => none }
def fnExactWordOfConfigurationRow : OpenClaim := { program := "ytehljilmofgioaadoor", sum := "79f3351f19f988995be9fe63152a74dcbb52d6e3514f112f674d57c4c3a1daaf", func := "loop.example/g01094/laws.FnExactWordOfConfiguration", spec := "fnExactWordOfConfiguration", unfollowed := true, recurses := true, named := ["math/bits.deBruijn64tab"], apart := false, laid := [("math/bits.deBruijn64tab", laid_math_bits_deBruijn64tab)] }
def FnExactWordOfConfigurationSaid : Prop := fnExactWordOfConfigurationRow.holds Tryd.pinned (OpenSpec.ofChange fnExactWordOfConfigurationSpec)

/-- ITS FALSE NEIGHBOUR: 'it returns false'. Refute it at one input. -/
def fnExactWordOfConfigurationWrong : ChangeSpec := { name := "fnExactWordOfConfiguration", fn := fun _ => fun
  | [d1, d2] => { results := [.lit (.bool false)], args := [d1, d2] }
  | _ => none }
def FnExactWordOfConfigurationWrongFalsely : Prop := fnExactWordOfConfigurationRow.holds Tryd.pinned (OpenSpec.ofChange fnExactWordOfConfigurationWrong)

/- THE SECOND FORM. 'bulk': how many values and letters a reading holds, each counted each time it is reached (what is shared counts as often as it is met; a slice's spare places count too). A statement '..UptoSaid' is the law's where the arguments, and the package variables that the reading takes, are together of bulk at most 1048576: NARROWER than '..Said'. Prove '..Said' where nothing that the law and all that it calls make is longer than what came in: it says more and counts as full. Else prove '..UptoSaid'. A law counts once. -/
mutual
def uptoBulk {H : Type} : DataW H → Nat
  | .lit (.string bytes) => bytes.length + 1
  | .lit _ => 1
  | .nil => 1
  | .ptr d => uptoBulk d + 1
  | .slice elems spare => uptoBulkAll elems + uptoBulkAll spare + 1
  | .agg parts => uptoBulkAll parts + 1
  | .iface _ d => uptoBulk d + 1
  | .map entries => uptoBulkEntries entries + 1
  | .held _ => 1
def uptoBulkAll {H : Type} : List (DataW H) → Nat
  | [] => 0
  | d :: r => uptoBulk d + uptoBulkAll r
def uptoBulkEntries {H : Type} : List (Lit × DataW H) → Nat
  | [] => 0
  | x :: r => uptoBulkEntry x + uptoBulkEntries r
def uptoBulkEntry {H : Type} : Lit × DataW H → Nat
  | (.string bytes, d) => bytes.length + uptoBulk d + 1
  | (_, d) => uptoBulk d + 1
 end
def uptoSmall : (H : Type) → List (DataW H) → Bool := fun _ ds => decide (uptoBulkAll ds ≤ 1048576)
def OpenSpec.upto (s : _root_.Go.ChangeSpec) : _root_.Go.OpenSpec := { _root_.Go.OpenSpec.ofChange s with cond := some uptoSmall }

/-- 'laws.FnExactIsConfiguration', WHERE WHAT IT READS IS OF BULK AT MOST 1048576: true; the input reads as it did. -/
def fnExactIsConfigurationUptoRow : OpenClaim := { program := "ytehljilmofgioaadoor", sum := "79f3351f19f988995be9fe63152a74dcbb52d6e3514f112f674d57c4c3a1daaf", func := "loop.example/g01094/laws.FnExactIsConfiguration", spec := "fnExactIsConfiguration", unfollowed := true, recurses := true, named := ["math/bits.deBruijn64tab"], apart := false, laid := [("math/bits.deBruijn64tab", laid_math_bits_deBruijn64tab)], narrowed := true }
def FnExactIsConfigurationUptoSaid : Prop := fnExactIsConfigurationUptoRow.holds Tryd.pinned (OpenSpec.upto fnExactIsConfigurationSpec)

/-- 'laws.FnExactCountOrders', WHERE WHAT IT READS IS OF BULK AT MOST 1048576: true; the input reads as it did. -/
def fnExactCountOrdersUptoRow : OpenClaim := { program := "ytehljilmofgioaadoor", sum := "79f3351f19f988995be9fe63152a74dcbb52d6e3514f112f674d57c4c3a1daaf", func := "loop.example/g01094/laws.FnExactCountOrders", spec := "fnExactCountOrders", unfollowed := true, recurses := true, named := ["math/bits.deBruijn64tab"], apart := false, laid := [("math/bits.deBruijn64tab", laid_math_bits_deBruijn64tab)], narrowed := true }
def FnExactCountOrdersUptoSaid : Prop := fnExactCountOrdersUptoRow.holds Tryd.pinned (OpenSpec.upto fnExactCountOrdersSpec)

/-- 'laws.FnExactImmediateClashes', WHERE WHAT IT READS IS OF BULK AT MOST 1048576: true; the input reads as it did. -/
def fnExactImmediateClashesUptoRow : OpenClaim := { program := "ytehljilmofgioaadoor", sum := "79f3351f19f988995be9fe63152a74dcbb52d6e3514f112f674d57c4c3a1daaf", func := "loop.example/g01094/laws.FnExactImmediateClashes", spec := "fnExactImmediateClashes", unfollowed := true, recurses := true, named := ["math/bits.deBruijn64tab"], apart := false, laid := [("math/bits.deBruijn64tab", laid_math_bits_deBruijn64tab)], narrowed := true }
def FnExactImmediateClashesUptoSaid : Prop := fnExactImmediateClashesUptoRow.holds Tryd.pinned (OpenSpec.upto fnExactImmediateClashesSpec)

/-- 'laws.FnExactAfterConfiguration', WHERE WHAT IT READS IS OF BULK AT MOST 1048576: true; the input reads as it did. -/
def fnExactAfterConfigurationUptoRow : OpenClaim := { program := "ytehljilmofgioaadoor", sum := "79f3351f19f988995be9fe63152a74dcbb52d6e3514f112f674d57c4c3a1daaf", func := "loop.example/g01094/laws.FnExactAfterConfiguration", spec := "fnExactAfterConfiguration", unfollowed := true, recurses := true, named := ["math/bits.deBruijn64tab"], apart := false, laid := [("math/bits.deBruijn64tab", laid_math_bits_deBruijn64tab)], narrowed := true }
def FnExactAfterConfigurationUptoSaid : Prop := fnExactAfterConfigurationUptoRow.holds Tryd.pinned (OpenSpec.upto fnExactAfterConfigurationSpec)

/-- 'laws.FnExactIsomorphismOf', WHERE WHAT IT READS IS OF BULK AT MOST 1048576: true; the input reads as it did. -/
def fnExactIsomorphismOfUptoRow : OpenClaim := { program := "ytehljilmofgioaadoor", sum := "79f3351f19f988995be9fe63152a74dcbb52d6e3514f112f674d57c4c3a1daaf", func := "loop.example/g01094/laws.FnExactIsomorphismOf", spec := "fnExactIsomorphismOf", unfollowed := true, recurses := true, named := ["math/bits.deBruijn64tab"], apart := false, laid := [("math/bits.deBruijn64tab", laid_math_bits_deBruijn64tab)], narrowed := true }
def FnExactIsomorphismOfUptoSaid : Prop := fnExactIsomorphismOfUptoRow.holds Tryd.pinned (OpenSpec.upto fnExactIsomorphismOfSpec)

/-- 'laws.FnExactIsTraceStructure', WHERE WHAT IT READS IS OF BULK AT MOST 1048576: true; the input reads as it did. -/
def fnExactIsTraceStructureUptoRow : OpenClaim := { program := "ytehljilmofgioaadoor", sum := "79f3351f19f988995be9fe63152a74dcbb52d6e3514f112f674d57c4c3a1daaf", func := "loop.example/g01094/laws.FnExactIsTraceStructure", spec := "fnExactIsTraceStructure", unfollowed := true, recurses := true, named := ["math/bits.deBruijn64tab"], apart := false, laid := [("math/bits.deBruijn64tab", laid_math_bits_deBruijn64tab)], narrowed := true }
def FnExactIsTraceStructureUptoSaid : Prop := fnExactIsTraceStructureUptoRow.holds Tryd.pinned (OpenSpec.upto fnExactIsTraceStructureSpec)

/-- 'laws.FnExactWordOfConfiguration', WHERE WHAT IT READS IS OF BULK AT MOST 1048576: true; the input reads as it did. -/
def fnExactWordOfConfigurationUptoRow : OpenClaim := { program := "ytehljilmofgioaadoor", sum := "79f3351f19f988995be9fe63152a74dcbb52d6e3514f112f674d57c4c3a1daaf", func := "loop.example/g01094/laws.FnExactWordOfConfiguration", spec := "fnExactWordOfConfiguration", unfollowed := true, recurses := true, named := ["math/bits.deBruijn64tab"], apart := false, laid := [("math/bits.deBruijn64tab", laid_math_bits_deBruijn64tab)], narrowed := true }
def FnExactWordOfConfigurationUptoSaid : Prop := fnExactWordOfConfigurationUptoRow.holds Tryd.pinned (OpenSpec.upto fnExactWordOfConfigurationSpec)

end Rows
end Go.Proofs.YtehljilmofgioaaDoor
