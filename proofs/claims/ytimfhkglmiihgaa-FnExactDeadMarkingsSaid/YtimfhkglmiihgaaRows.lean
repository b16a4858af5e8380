/-
  No cell of these rows narrows 'for every input' (looked for: loops, veiled, ifaces, maps, wideKeys, modest, calm, conditions, laid).
  DERIVED. THE GIVEN ROWS OF THIS SEAT. 4 by the template 'for every input the law returns true; each argument reads behind the call as it read before'; 0 by the template 'total and deterministic' (their statements: YtimfhkglmiihgaaTotals.lean).
  GIVEN WITH THE SEED: the statements are not yours to turn. If you find one false, say at which input.
  Laid BY PROGRAM, IN A SANDBOX (cutbox-rows.mjs): the forced cells as the released guide's own fill.sh prints them over the translation dfaf43f5eddadabc… (all of the seat's roots in one cut). By AI agents, Wed Nov 11 2026. No macro, syntax, notation, axiom, sorry.
-/
import Derived.Test.YtimfhkglmiihgaaChecked
import GoSem.Claim
import GoSem.ClaimJoined
import GoSem.ClaimMapViews
import Derived.JoinedTies
import Derived.KernelRfl
namespace Go.Proofs.Ytimfhkglmiihgaa
/- THE CELL 'sum', in the pinned program and in every row, IS THE sha256 OF THE DUMP (.gsa) THAT YtimfhkglmiihgaaProg.lean LOADS. Nothing in Lean hashes anything: it is a label: what it is worth is what the hold of that sum in a sandbox is worth. -/
noncomputable def Try.pinned : Pinned := { name := "ytimfhkglmiihgaa", sum := "dfaf43f5eddadabcc3f5276a501d87f91e2b899c4c8152a13911a4ff729545e8", checked := Try.checked }
namespace Rows
def none {H : Type} : Left H := { results := [], args := [] }

/-- 'laws.FnInvariants': WHATEVER THE INPUT: true; the input reads as it did. -/
def fnInvariantsSpec : ChangeSpec := { name := "fnInvariants", fn := fun _ => fun
  | [d] => { results := [.lit (.bool true)], args := [d] }
  | _ => none }
def fnInvariantsRow : OpenClaim := { program := "ytimfhkglmiihgaa", sum := "dfaf43f5eddadabcc3f5276a501d87f91e2b899c4c8152a13911a4ff729545e8", func := "loop.example/g01094/laws.FnInvariants", spec := "fnInvariants", unfollowed := true, recurses := true, apart := false }
def FnInvariantsSaid : Prop := fnInvariantsRow.holds Try.pinned (OpenSpec.ofChange fnInvariantsSpec)

/-- ITS FALSE NEIGHBOUR: 'it returns false'. Refute it at one input. -/
def fnInvariantsWrong : ChangeSpec := { name := "fnInvariants", fn := fun _ => fun
  | [d] => { results := [.lit (.bool false)], args := [d] }
  | _ => none }
def FnInvariantsWrongFalsely : Prop := fnInvariantsRow.holds Try.pinned (OpenSpec.ofChange fnInvariantsWrong)

/-- 'laws.FnExactMarkingsOf': WHATEVER THE INPUT: true; the input reads as it did. -/
def fnExactMarkingsOfSpec : ChangeSpec := { name := "fnExactMarkingsOf", fn := fun _ => fun
  | [d] => { results := [.lit (.bool true)], args := [d] }
  | _ => none }
def fnExactMarkingsOfRow : OpenClaim := { program := "ytimfhkglmiihgaa", sum := "dfaf43f5eddadabcc3f5276a501d87f91e2b899c4c8152a13911a4ff729545e8", func := "loop.example/g01094/laws.FnExactMarkingsOf", spec := "fnExactMarkingsOf", recurses := true, apart := false }
def FnExactMarkingsOfSaid : Prop := fnExactMarkingsOfRow.holds Try.pinned (OpenSpec.ofChange fnExactMarkingsOfSpec)

/-- ITS FALSE NEIGHBOUR: 'it returns false'. Refute it at one input. -/
def fnExactMarkingsOfWrong : ChangeSpec := { name := "fnExactMarkingsOf", fn := fun _ => fun
  | [d] => { results := [.lit (.bool false)], args := [d] }
  | _ => none }
def FnExactMarkingsOfWrongFalsely : Prop := fnExactMarkingsOfRow.holds Try.pinned (OpenSpec.ofChange fnExactMarkingsOfWrong)

/-- 'laws.FnExactDeadMarkings': WHATEVER THE INPUT: true; the input reads as it did. -/
def fnExactDeadMarkingsSpec : ChangeSpec := { name := "fnExactDeadMarkings", fn := fun _ => fun
  | [d] => { results := [.lit (.bool true)], args := [d] }
  | _ => none }
def fnExactDeadMarkingsRow : OpenClaim := { program := "ytimfhkglmiihgaa", sum := "dfaf43f5eddadabcc3f5276a501d87f91e2b899c4c8152a13911a4ff729545e8", func := "loop.example/g01094/laws.FnExactDeadMarkings", spec := "fnExactDeadMarkings", unfollowed := true, recurses := true, apart := false }
def FnExactDeadMarkingsSaid : Prop := fnExactDeadMarkingsRow.holds Try.pinned (OpenSpec.ofChange fnExactDeadMarkingsSpec)

/-- ITS FALSE NEIGHBOUR: 'it returns false'. Refute it at one input. -/
def fnExactDeadMarkingsWrong : ChangeSpec := { name := "fnExactDeadMarkings", fn := fun _ => fun
  | [d] => { results := [.lit (.bool false)], args := [d] }
  | _ => none }
def FnExactDeadMarkingsWrongFalsely : Prop := fnExactDeadMarkingsRow.holds Try.pinned (OpenSpec.ofChange fnExactDeadMarkingsWrong)

/-- 'laws.FnExactContactOf': WHATEVER THE INPUT: true; the input reads as it did. -/
def fnExactContactOfSpec : ChangeSpec := { name := "fnExactContactOf", fn := fun _ => fun
  | [d] => { results := [.lit (.bool true)], args := [d] }
  | _ => none }
def fnExactContactOfRow : OpenClaim := { program := "ytimfhkglmiihgaa", sum := "dfaf43f5eddadabcc3f5276a501d87f91e2b899c4c8152a13911a4ff729545e8", func := "loop.example/g01094/laws.FnExactContactOf", spec := "fnExactContactOf", recurses := true, apart := false }
def FnExactContactOfSaid : Prop := fnExactContactOfRow.holds Try.pinned (OpenSpec.ofChange fnExactContactOfSpec)

/-- ITS FALSE NEIGHBOUR: 'it returns false'. Refute it at one input. -/
def fnExactContactOfWrong : ChangeSpec := { name := "fnExactContactOf", fn := fun _ => fun
  | [d] => { results := [.lit (.bool false)], args := [d] }
  | _ => none }
def FnExactContactOfWrongFalsely : Prop := fnExactContactOfRow.holds Try.pinned (OpenSpec.ofChange fnExactContactOfWrong)

/- THE SECOND FORM. 'bulk': how many values and letters a reading holds, each counted each time it is reached (what is shared counts as often as it is met; a slice's spare places count too). A statement '..UptoSaid' is the law's where the arguments, and the package variables that the reading takes, are together of bulk at most 1048576: NARROWER than '..Said'. Prove '..Said' where nothing that the law and all that it calls make is longer than what came in: it says more and counts as full. Else prove '..UptoSaid'. A law counts once. -/
mutual
def uptoBulk {H : Type} : DataW H → Nat
  | .lit (.string bytes) => bytes.length + 1
  | .lit _ => 1
  | .nil => 1
  | .ptr d => uptoBulk d + 1
  | .slice elems spare => uptoBulkAll elems + uptoBulkAll spare + 1
  | .agg parts => uptoBulkAll parts + 1
  | .iface _ d => uptoBulk d + 1
  | .map entries => uptoBulkEntries entries + 1
  | .held _ => 1
def uptoBulkAll {H : Type} : List (DataW H) → Nat
  | [] => 0
  | d :: r => uptoBulk d + uptoBulkAll r
def uptoBulkEntries {H : Type} : List (Lit × DataW H) → Nat
  | [] => 0
  | x :: r => uptoBulkEntry x + uptoBulkEntries r
def uptoBulkEntry {H : Type} : Lit × DataW H → Nat
  | (.string bytes, d) => bytes.length + uptoBulk d + 1
  | (_, d) => uptoBulk d + 1
 end
def uptoSmall : (H : Type) → List (DataW H) → Bool := fun _ ds => decide (uptoBulkAll ds ≤ 1048576)
def OpenSpec.upto (s : _root_.Go.ChangeSpec) : _root_.Go.OpenSpec := { _root_.Go.OpenSpec.ofChange s with cond := some uptoSmall }

/-- 'laws.FnInvariants', WHERE WHAT IT READS IS OF BULK AT MOST 1048576: true; the input reads as it did. -/
def fnInvariantsUptoRow : OpenClaim := { program := "ytimfhkglmiihgaa", sum := "dfaf43f5eddadabcc3f5276a501d87f91e2b899c4c8152a13911a4ff729545e8", func := "loop.example/g01094/laws.FnInvariants", spec := "fnInvariants", unfollowed := true, recurses := true, apart := false, narrowed := true }
def FnInvariantsUptoSaid : Prop := fnInvariantsUptoRow.holds Try.pinned (OpenSpec.upto fnInvariantsSpec)

/-- 'laws.FnExactMarkingsOf', WHERE WHAT IT READS IS OF BULK AT MOST 1048576: true; the input reads as it did. -/
def fnExactMarkingsOfUptoRow : OpenClaim := { program := "ytimfhkglmiihgaa", sum := "dfaf43f5eddadabcc3f5276a501d87f91e2b899c4c8152a13911a4ff729545e8", func := "loop.example/g01094/laws.FnExactMarkingsOf", spec := "fnExactMarkingsOf", recurses := true, apart := false, narrowed := true }
def FnExactMarkingsOfUptoSaid : Prop := fnExactMarkingsOfUptoRow.holds Try.pinned (OpenSpec.upto fnExactMarkingsOfSpec)

/-- 'laws.FnExactDeadMarkings', WHERE WHAT IT READS IS OF BULK AT MOST 1048576: true; the input reads as it did. -/
def fnExactDeadMarkingsUptoRow : OpenClaim := { program := "ytimfhkglmiihgaa", sum := "dfaf43f5eddadabcc3f5276a501d87f91e2b899c4c8152a13911a4ff729545e8", func := "loop.example/g01094/laws.FnExactDeadMarkings", spec := "fnExactDeadMarkings", unfollowed := true, recurses := true, apart := false, narrowed := true }
def FnExactDeadMarkingsUptoSaid : Prop := fnExactDeadMarkingsUptoRow.holds Try.pinned (OpenSpec.upto fnExactDeadMarkingsSpec)

/-- 'laws.FnExactContactOf', WHERE WHAT IT READS IS OF BULK AT MOST 1048576: true; the input reads as it did. -/
def fnExactContactOfUptoRow : OpenClaim := { program := "ytimfhkglmiihgaa", sum := "dfaf43f5eddadabcc3f5276a501d87f91e2b899c4c8152a13911a4ff729545e8", func := "loop.example/g01094/laws.FnExactContactOf", spec := "fnExactContactOf", recurses := true, apart := false, narrowed := true }
def FnExactContactOfUptoSaid : Prop := fnExactContactOfUptoRow.holds Try.pinned (OpenSpec.upto fnExactContactOfSpec)

end Rows
end Go.Proofs.Ytimfhkglmiihgaa
