/-
  NARROWER THAN 'FOR EVERY INPUT', by the rows' own cells (each row's printed sentence says how): FnExactStructureOfTraces: laid · FnStructureOfTraces: laid · FnAfterConfigurations: laid · FnTraceStructures: laid · FnExactUnfoldAutomaton: laid · FnUnfoldedAutomata: laid.
  DERIVED. THE GIVEN ROWS OF THIS SEAT. 6 by the template 'for every input the law returns true; each argument reads behind the call as it read before'; 0 by the template 'total and deterministic' (their statements: YthabclhldlikfaaGreatDoorTotals.lean).
  GIVEN WITH THE SEED: the statements are not yours to turn. If you find one false, say at which input.
  Laid BY PROGRAM, IN A SANDBOX (cutbox-rows.mjs): the forced cells as the released guide's own fill.sh prints them over the translation b89b093220c3bb32… (all of the seat's roots in one cut). By AI agents, Wed Nov 11 2026. No macro, syntax, notation, axiom, sorry.
-/
import Derived.Test.YthabclhldlikfaaGreatDoorChecked
import GoSem.Claim
import GoSem.ClaimJoined
import GoSem.ClaimMapViews
import Derived.JoinedTies
import Derived.KernelRfl
namespace Go.Proofs.YthabclhldlikfaaGreatDoor
/- THE CELL 'sum', in the pinned program and in every row, IS THE sha256 OF THE DUMP (.gsa) THAT YthabclhldlikfaaGreatDoorProg.lean LOADS. Nothing in Lean hashes anything: it is a label: what it is worth is what the hold of that sum in a sandbox is worth. -/
noncomputable def Tryz.pinned : Pinned := { name := "ythabclhldlikfaagreatdoor", sum := "b89b093220c3bb3202fe9e4e07dfc23d606b2cd5bba362f1de49e7862778400a", checked := Tryz.checked }
namespace Rows
def none {H : Type} : Left H := { results := [], args := [] }

/- WHAT THE LISTED PACKAGE-LEVEL VARIABLES READ AS WHEN THE CALL BEGINS. Each datum BY PROGRAM (the guide's laid-datum.mjs) off the statement by which the dump's own 'gosem.cut.vars' lays the variable. In a bare row this is a premise. The card (YthabclhldlikfaaGreatDoorCards.lean) ties it to the program's text. -/
def laid_math_bits_deBruijn64tab {H : Type} : DataW H := .agg [.lit (.int .u8 0), .lit (.int .u8 1), .lit (.int .u8 56), .lit (.int .u8 2), .lit (.int .u8 57), .lit (.int .u8 49), .lit (.int .u8 28), .lit (.int .u8 3), .lit (.int .u8 61), .lit (.int .u8 58), .lit (.int .u8 42), .lit (.int .u8 50), .lit (.int .u8 38), .lit (.int .u8 29), .lit (.int .u8 17), .lit (.int .u8 4), .lit (.int .u8 62), .lit (.int .u8 47), .lit (.int .u8 59), .lit (.int .u8 36), .lit (.int .u8 45), .lit (.int .u8 43), .lit (.int .u8 51), .lit (.int .u8 22), .lit (.int .u8 53), .lit (.int .u8 39), .lit (.int .u8 33), .lit (.int .u8 30), .lit (.int .u8 24), .lit (.int .u8 18), .lit (.int .u8 12), .lit (.int .u8 5), .lit (.int .u8 63), .lit (.int .u8 55), .lit (.int .u8 48), .lit (.int .u8 27), .lit (.int .u8 60), .lit (.int .u8 41), .lit (.int .u8 37), .lit (.int .u8 16), .lit (.int .u8 46), .lit (.int .u8 35), .lit (.int .u8 44), .lit (.int .u8 21), .lit (.int .u8 52), .lit (.int .u8 32), .lit (.int .u8 23), .lit (.int .u8 11), .lit (.int .u8 54), .lit (.int .u8 26), .lit (.int .u8 40), .lit (.int .u8 15), .lit (.int .u8 34), .lit (.int .u8 20), .lit (.int .u8 31), .lit (.int .u8 10), .lit (.int .u8 25), .lit (.int .u8 14), .lit (.int .u8 19), .lit (.int .u8 9), .lit (.int .u8 13), .lit (.int .u8 8), .lit (.int .u8 7), .lit (.int .u8 6)]

/-- 'laws.FnExactStructureOfTraces': WHATEVER THE INPUT: true; the input reads as it did. -/
def fnExactStructureOfTracesSpec : ChangeSpec := { name := "fnExactStructureOfTraces", fn := fun _ => fun
  | [d1, d2] => { results := [.lit (.bool true)], args := [d1, d2] }
  | _ => none }
def fnExactStructureOfTracesRow : OpenClaim := { program := "ythabclhldlikfaagreatdoor", sum := "b89b093220c3bb3202fe9e4e07dfc23d606b2cd5bba362f1de49e7862778400a", func := "loop.example/g01094/laws.FnExactStructureOfTraces", spec := "fnExactStructureOfTraces", unfollowed := true, recurses := true, named := ["math/bits.deBruijn64tab"], apart := false, laid := [("math/bits.deBruijn64tab", laid_math_bits_deBruijn64tab)] }
def FnExactStructureOfTracesSaid : Prop := fnExactStructureOfTracesRow.holds Tryz.pinned (OpenSpec.ofChange fnExactStructureOfTracesSpec)

/-- ITS FALSE NEIGHBOUR: 'it returns false'. Refute it at one input. -/
def fnExactStructureOfTracesWrong : ChangeSpec := { name := "fnExactStructureOfTraces", fn := fun _ => fun
  | [d1, d2] => { results := [.lit (.bool false)], args := [d1, d2] }
  | _ => none }
def FnExactStructureOfTracesWrongFalsely : Prop := fnExactStructureOfTracesRow.holds Tryz.pinned (OpenSpec.ofChange fnExactStructureOfTracesWrong)

/-- 'laws.FnStructureOfTraces': WHATEVER THE INPUT: true; the input reads as it did. -/
def fnStructureOfTracesSpec : ChangeSpec := { name := "fnStructureOfTraces", fn := fun _ => fun
  | [d] => { results := [.lit (.bool true)], args := [d] }
  | _ => none }
def fnStructureOfTracesRow : OpenClaim := { program := "ythabclhldlikfaagreatdoor", sum := "b89b093220c3bb3202fe9e4e07dfc23d606b2cd5bba362f1de49e7862778400a", func := "loop.example/g01094/laws.FnStructureOfTraces", spec := "fnStructureOfTraces", unfollowed := true, recurses := true, named := ["math/bits.deBruijn64tab"], apart := false, laid := [("math/bits.deBruijn64tab", laid_math_bits_deBruijn64tab)] }
def FnStructureOfTracesSaid : Prop := fnStructureOfTracesRow.holds Tryz.pinned (OpenSpec.ofChange fnStructureOfTracesSpec)

/-- ITS FALSE NEIGHBOUR: 'it returns false'. Refute it at one input. -/
def fnStructureOfTracesWrong : ChangeSpec := { name := "fnStructureOfTraces", fn := fun _ => fun
  | [d] => { results := [.lit (.bool false)], args := [d] }
  | _ => none }
def FnStructureOfTracesWrongFalsely : Prop := fnStructureOfTracesRow.holds Tryz.pinned (OpenSpec.ofChange fnStructureOfTracesWrong)

/-- 'laws.FnAfterConfigurations': WHATEVER THE INPUT: true; the input reads as it did. -/
def fnAfterConfigurationsSpec : ChangeSpec := { name := "fnAfterConfigurations", fn := fun _ => fun
  | [d] => { results := [.lit (.bool true)], args := [d] }
  | _ => none }
def fnAfterConfigurationsRow : OpenClaim := { program := "ythabclhldlikfaagreatdoor", sum := "b89b093220c3bb3202fe9e4e07dfc23d606b2cd5bba362f1de49e7862778400a", func := "loop.example/g01094/laws.FnAfterConfigurations", spec := "fnAfterConfigurations", unfollowed := true, recurses := true, named := ["math/bits.deBruijn64tab"], apart := false, laid := [("math/bits.deBruijn64tab", laid_math_bits_deBruijn64tab)] }
def FnAfterConfigurationsSaid : Prop := fnAfterConfigurationsRow.holds Tryz.pinned (OpenSpec.ofChange fnAfterConfigurationsSpec)

/-- ITS FALSE NEIGHBOUR: 'it returns false'. Refute it at one input. -/
def fnAfterConfigurationsWrong : ChangeSpec := { name := "fnAfterConfigurations", fn := fun _ => fun
  | [d] => { results := [.lit (.bool false)], args := [d] }
  | _ => none }
def FnAfterConfigurationsWrongFalsely : Prop := fnAfterConfigurationsRow.holds Tryz.pinned (OpenSpec.ofChange fnAfterConfigurationsWrong)

/-- 'laws.FnTraceStructures': WHATEVER THE INPUT: true; the input reads as it did. -/
def fnTraceStructuresSpec : ChangeSpec := { name := "fnTraceStructures", fn := fun _ => fun
  | [d] => { results := [.lit (.bool true)], args := [d] }
  | _ => none }
def fnTraceStructuresRow : OpenClaim := { program := "ythabclhldlikfaagreatdoor", sum := "b89b093220c3bb3202fe9e4e07dfc23d606b2cd5bba362f1de49e7862778400a", func := "loop.example/g01094/laws.FnTraceStructures", spec := "fnTraceStructures", unfollowed := true, recurses := true, named := ["math/bits.deBruijn64tab"], apart := false, laid := [("math/bits.deBruijn64tab", laid_math_bits_deBruijn64tab)] }
def FnTraceStructuresSaid : Prop := fnTraceStructuresRow.holds Tryz.pinned (OpenSpec.ofChange fnTraceStructuresSpec)

/-- ITS FALSE NEIGHBOUR: 'it returns false'. Refute it at one input. -/
def fnTraceStructuresWrong : ChangeSpec := { name := "fnTraceStructures", fn := fun _ => fun
  | [d] => { results := [.lit (.bool false)], args := [d] }
  | _ => none }
def FnTraceStructuresWrongFalsely : Prop := fnTraceStructuresRow.holds Tryz.pinned (OpenSpec.ofChange fnTraceStructuresWrong)

/-- 'laws.FnExactUnfoldAutomaton': WHATEVER THE INPUT: true; the input reads as it did. -/
def fnExactUnfoldAutomatonSpec : ChangeSpec := { name := "fnExactUnfoldAutomaton", fn := fun _ => fun
  | [d1, d2, d3] => { results := [.lit (.bool true)], args := [d1, d2, d3] }
  | _ => none }
def fnExactUnfoldAutomatonRow : OpenClaim := { program := "ythabclhldlikfaagreatdoor", sum := "b89b093220c3bb3202fe9e4e07dfc23d606b2cd5bba362f1de49e7862778400a", func := "loop.example/g01094/laws.FnExactUnfoldAutomaton", spec := "fnExactUnfoldAutomaton", unfollowed := true, recurses := true, named := ["math/bits.deBruijn64tab"], apart := false, laid := [("math/bits.deBruijn64tab", laid_math_bits_deBruijn64tab)] }
def FnExactUnfoldAutomatonSaid : Prop := fnExactUnfoldAutomatonRow.holds Tryz.pinned (OpenSpec.ofChange fnExactUnfoldAutomatonSpec)

/-- ITS FALSE NEIGHBOUR: 'it returns false'. Refute it at one input. -/
def fnExactUnfoldAutomatonWrong : ChangeSpec := { name := "fnExactUnfoldAutomaton", fn := fun _ => fun
  | [d1, d2, d3] => { results := [.lit (.bool false)], args := [d1, d2, d3] }
  | _ => none }
def FnExactUnfoldAutomatonWrongFalsely : Prop := fnExactUnfoldAutomatonRow.holds Tryz.pinned (OpenSpec.ofChange fnExactUnfoldAutomatonWrong)

/-- 'laws.FnUnfoldedAutomata': WHATEVER THE INPUT: true; the input reads as it did. -/
def fnUnfoldedAutomataSpec : ChangeSpec := { name := "fnUnfoldedAutomata", fn := fun _ => fun
  | [d] => { results := [.lit (.bool true)], args := [d] }
  | _ => none }
def fnUnfoldedAutomataRow : OpenClaim := { program := "ythabclhldlikfaagreatdoor", sum := "b89b093220c3bb3202fe9e4e07dfc23d606b2cd5bba362f1de49e7862778400a", func := "loop.example/g01094/laws.FnUnfoldedAutomata", spec := "fnUnfoldedAutomata", unfollowed := true, recurses := true, named := ["math/bits.deBruijn64tab"], apart := false, laid := [("math/bits.deBruijn64tab", laid_math_bits_deBruijn64tab)] }
def FnUnfoldedAutomataSaid : Prop := fnUnfoldedAutomataRow.holds Tryz.pinned (OpenSpec.ofChange fnUnfoldedAutomataSpec)

/-- ITS FALSE NEIGHBOUR: 'it returns false'. Refute it at one input. -/
def fnUnfoldedAutomataWrong : ChangeSpec := { name := "fnUnfoldedAutomata", fn := fun _ => fun
  | [d] => { results := [.lit (.bool false)], args := [d] }
  | _ => none }
def FnUnfoldedAutomataWrongFalsely : Prop := fnUnfoldedAutomataRow.holds Tryz.pinned (OpenSpec.ofChange fnUnfoldedAutomataWrong)

/- THE SECOND FORM. 'bulk': how many values and letters a reading holds, each counted each time it is reached (what is shared counts as often as it is met; a slice's spare places count too). A statement '..UptoSaid' is the law's where the arguments, and the package variables that the reading takes, are together of bulk at most 1048576: NARROWER than '..Said'. Prove '..Said' where nothing that the law and all that it calls make is longer than what came in: it says more and counts as full. Else prove '..UptoSaid'. A law counts once. -/
mutual
def uptoBulk {H : Type} : DataW H → Nat
  | .lit (.string bytes) => bytes.length + 1
  | .lit _ => 1
  | .nil => 1
  | .ptr d => uptoBulk d + 1
  | .slice elems spare => uptoBulkAll elems + uptoBulkAll spare + 1
  | .agg parts => uptoBulkAll parts + 1
  | .iface _ d => uptoBulk d + 1
  | .map entries => uptoBulkEntries entries + 1
  | .held _ => 1
def uptoBulkAll {H : Type} : List (DataW H) → Nat
  | [] => 0
  | d :: r => uptoBulk d + uptoBulkAll r
def uptoBulkEntries {H : Type} : List (Lit × DataW H) → Nat
  | [] => 0
  | x :: r => uptoBulkEntry x + uptoBulkEntries r
def uptoBulkEntry {H : Type} : Lit × DataW H → Nat
  | (.string bytes, d) => bytes.length + uptoBulk d + 1
  | (_, d) => uptoBulk d + 1
 end
def uptoSmall : (H : Type) → List (DataW H) → Bool := fun _ ds => decide (uptoBulkAll ds ≤ 1048576)
def OpenSpec.upto (s : _root_.Go.ChangeSpec) : _root_.Go.OpenSpec := { _root_.Go.OpenSpec.ofChange s with cond := some uptoSmall }

/-- 'laws.FnExactStructureOfTraces', WHERE WHAT IT READS IS OF BULK AT MOST 1048576: true; the input reads as it did. -/
def fnExactStructureOfTracesUptoRow : OpenClaim := { program := "ythabclhldlikfaagreatdoor", sum := "b89b093220c3bb3202fe9e4e07dfc23d606b2cd5bba362f1de49e7862778400a", func := "loop.example/g01094/laws.FnExactStructureOfTraces", spec := "fnExactStructureOfTraces", unfollowed := true, recurses := true, named := ["math/bits.deBruijn64tab"], apart := false, laid := [("math/bits.deBruijn64tab", laid_math_bits_deBruijn64tab)], narrowed := true }
def FnExactStructureOfTracesUptoSaid : Prop := fnExactStructureOfTracesUptoRow.holds Tryz.pinned (OpenSpec.upto fnExactStructureOfTracesSpec)

/-- 'laws.FnStructureOfTraces', WHERE WHAT IT READS IS OF BULK AT MOST 1048576: true; the input reads as it did. -/
def fnStructureOfTracesUptoRow : OpenClaim := { program := "ythabclhldlikfaagreatdoor", sum := "b89b093220c3bb3202fe9e4e07dfc23d606b2cd5bba362f1de49e7862778400a", func := "loop.example/g01094/laws.FnStructureOfTraces", spec := "fnStructureOfTraces", unfollowed := true, recurses := true, named := ["math/bits.deBruijn64tab"], apart := false, laid := [("math/bits.deBruijn64tab", laid_math_bits_deBruijn64tab)], narrowed := true }
def FnStructureOfTracesUptoSaid : Prop := fnStructureOfTracesUptoRow.holds Tryz.pinned (OpenSpec.upto fnStructureOfTracesSpec)

/-- 'laws.FnAfterConfigurations', WHERE WHAT IT READS IS OF BULK AT MOST 1048576: true; the input reads as it did. -/
def fnAfterConfigurationsUptoRow : OpenClaim := { program := "ythabclhldlikfaagreatdoor", sum := "b89b093220c3bb3202fe9e4e07dfc23d606b2cd5bba362f1de49e7862778400a", func := "loop.example/g01094/laws.FnAfterConfigurations", spec := "fnAfterConfigurations", unfollowed := true, recurses := true, named := ["math/bits.deBruijn64tab"], apart := false, laid := [("math/bits.deBruijn64tab", laid_math_bits_deBruijn64tab)], narrowed := true }
def FnAfterConfigurationsUptoSaid : Prop := fnAfterConfigurationsUptoRow.holds Tryz.pinned (OpenSpec.upto fnAfterConfigurationsSpec)

/-- 'laws.FnTraceStructures', WHERE WHAT IT READS IS OF BULK AT MOST 1048576: true; the input reads as it did. -/
def fnTraceStructuresUptoRow : OpenClaim := { program := "ythabclhldlikfaagreatdoor", sum := "b89b093220c3bb3202fe9e4e07dfc23d606b2cd5bba362f1de49e7862778400a", func := "loop.example/g01094/laws.FnTraceStructures", spec := "fnTraceStructures", unfollowed := true, recurses := true, named := ["math/bits.deBruijn64tab"], apart := false, laid := [("math/bits.deBruijn64tab", laid_math_bits_deBruijn64tab)], narrowed := true }
def FnTraceStructuresUptoSaid : Prop := fnTraceStructuresUptoRow.holds Tryz.pinned (OpenSpec.upto fnTraceStructuresSpec)

/-- 'laws.FnExactUnfoldAutomaton', WHERE WHAT IT READS IS OF BULK AT MOST 1048576: true; the input reads as it did. -/
def fnExactUnfoldAutomatonUptoRow : OpenClaim := { program := "ythabclhldlikfaagreatdoor", sum := "b89b093220c3bb3202fe9e4e07dfc23d606b2cd5bba362f1de49e7862778400a", func := "loop.example/g01094/laws.FnExactUnfoldAutomaton", spec := "fnExactUnfoldAutomaton", unfollowed := true, recurses := true, named := ["math/bits.deBruijn64tab"], apart := false, laid := [("math/bits.deBruijn64tab", laid_math_bits_deBruijn64tab)], narrowed := true }
def FnExactUnfoldAutomatonUptoSaid : Prop := fnExactUnfoldAutomatonUptoRow.holds Tryz.pinned (OpenSpec.upto fnExactUnfoldAutomatonSpec)

/-- 'laws.FnUnfoldedAutomata', WHERE WHAT IT READS IS OF BULK AT MOST 1048576: true; the input reads as it did. -/
def fnUnfoldedAutomataUptoRow : OpenClaim := { program := "ythabclhldlikfaagreatdoor", sum := "b89b093220c3bb3202fe9e4e07dfc23d606b2cd5bba362f1de49e7862778400a", func := "loop.example/g01094/laws.FnUnfoldedAutomata", spec := "fnUnfoldedAutomata", unfollowed := true, recurses := true, named := ["math/bits.deBruijn64tab"], apart := false, laid := [("math/bits.deBruijn64tab", laid_math_bits_deBruijn64tab)], narrowed := true }
def FnUnfoldedAutomataUptoSaid : Prop := fnUnfoldedAutomataUptoRow.holds Tryz.pinned (OpenSpec.upto fnUnfoldedAutomataSpec)

end Rows
end Go.Proofs.YthabclhldlikfaaGreatDoor
