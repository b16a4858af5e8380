/-
  No cell of these rows narrows 'for every input' (looked for: loops, veiled, ifaces, maps, wideKeys, modest, calm, conditions, laid).
  DERIVED. THE GIVEN ROWS OF THIS SEAT. 8 by the template 'for every input the law returns true; each argument reads behind the call as it read before'; 0 by the template 'total and deterministic' (their statements: YtnbembgjjepbpaaTotals.lean).
  GIVEN WITH THE SEED: the statements are not yours to turn. If you find one false, say at which input.
  Laid BY PROGRAM, IN A SANDBOX (cutbox-rows.mjs): the forced cells as the released guide's own fill.sh prints them over the translation ec73d8b129cdb335… (all of the seat's roots in one cut). By AI agents, Wed Nov 11 2026. No macro, syntax, notation, axiom, sorry.
-/
import Derived.Test.YtnbembgjjepbpaaChecked
import GoSem.Claim
import GoSem.ClaimJoined
import GoSem.ClaimMapViews
import Derived.JoinedTies
import Derived.KernelRfl
namespace Go.Proofs.Ytnbembgjjepbpaa
/- THE CELL 'sum', in the pinned program and in every row, IS THE sha256 OF THE DUMP (.gsa) THAT YtnbembgjjepbpaaProg.lean LOADS. Nothing in Lean hashes anything: it is a label: what it is worth is what the hold of that sum in a sandbox is worth. -/
noncomputable def Try.pinned : Pinned := { name := "ytnbembgjjepbpaa", sum := "ec73d8b129cdb335d6cb8c4e1f42ac2839ed0e84e956d921c5393810b2c51a74", checked := Try.checked }
namespace Rows
def none {H : Type} : Left H := { results := [], args := [] }

/-- 'laws.FnExactArePlaces': WHATEVER THE INPUT: true; the input reads as it did. -/
def fnExactArePlacesSpec : ChangeSpec := { name := "fnExactArePlaces", fn := fun _ => fun
  | [d1, d2] => { results := [.lit (.bool true)], args := [d1, d2] }
  | _ => none }
def fnExactArePlacesRow : OpenClaim := { program := "ytnbembgjjepbpaa", sum := "ec73d8b129cdb335d6cb8c4e1f42ac2839ed0e84e956d921c5393810b2c51a74", func := "loop.example/g01094/laws.FnExactArePlaces", spec := "fnExactArePlaces", unfollowed := true, recurses := true, apart := false }
def FnExactArePlacesSaid : Prop := fnExactArePlacesRow.holds Try.pinned (OpenSpec.ofChange fnExactArePlacesSpec)

/-- ITS FALSE NEIGHBOUR: 'it returns false'. Refute it at one input. -/
def fnExactArePlacesWrong : ChangeSpec := { name := "fnExactArePlaces", fn := fun _ => fun
  | [d1, d2] => { results := [.lit (.bool false)], args := [d1, d2] }
  | _ => none }
def FnExactArePlacesWrongFalsely : Prop := fnExactArePlacesRow.holds Try.pinned (OpenSpec.ofChange fnExactArePlacesWrong)

/-- 'laws.FnExactIsNet': WHATEVER THE INPUT: true; the input reads as it did. -/
def fnExactIsNetSpec : ChangeSpec := { name := "fnExactIsNet", fn := fun _ => fun
  | [d] => { results := [.lit (.bool true)], args := [d] }
  | _ => none }
def fnExactIsNetRow : OpenClaim := { program := "ytnbembgjjepbpaa", sum := "ec73d8b129cdb335d6cb8c4e1f42ac2839ed0e84e956d921c5393810b2c51a74", func := "loop.example/g01094/laws.FnExactIsNet", spec := "fnExactIsNet", apart := false }
def FnExactIsNetSaid : Prop := fnExactIsNetRow.holds Try.pinned (OpenSpec.ofChange fnExactIsNetSpec)

/-- ITS FALSE NEIGHBOUR: 'it returns false'. Refute it at one input. -/
def fnExactIsNetWrong : ChangeSpec := { name := "fnExactIsNet", fn := fun _ => fun
  | [d] => { results := [.lit (.bool false)], args := [d] }
  | _ => none }
def FnExactIsNetWrongFalsely : Prop := fnExactIsNetRow.holds Try.pinned (OpenSpec.ofChange fnExactIsNetWrong)

/-- 'laws.FnExactReverseNet': WHATEVER THE INPUT: true; the input reads as it did. -/
def fnExactReverseNetSpec : ChangeSpec := { name := "fnExactReverseNet", fn := fun _ => fun
  | [d] => { results := [.lit (.bool true)], args := [d] }
  | _ => none }
def fnExactReverseNetRow : OpenClaim := { program := "ytnbembgjjepbpaa", sum := "ec73d8b129cdb335d6cb8c4e1f42ac2839ed0e84e956d921c5393810b2c51a74", func := "loop.example/g01094/laws.FnExactReverseNet", spec := "fnExactReverseNet", apart := false }
def FnExactReverseNetSaid : Prop := fnExactReverseNetRow.holds Try.pinned (OpenSpec.ofChange fnExactReverseNetSpec)

/-- ITS FALSE NEIGHBOUR: 'it returns false'. Refute it at one input. -/
def fnExactReverseNetWrong : ChangeSpec := { name := "fnExactReverseNet", fn := fun _ => fun
  | [d] => { results := [.lit (.bool false)], args := [d] }
  | _ => none }
def FnExactReverseNetWrongFalsely : Prop := fnExactReverseNetRow.holds Try.pinned (OpenSpec.ofChange fnExactReverseNetWrong)

/-- 'laws.FnExactEnabledIn': WHATEVER THE INPUT: true; the input reads as it did. -/
def fnExactEnabledInSpec : ChangeSpec := { name := "fnExactEnabledIn", fn := fun _ => fun
  | [d1, d2] => { results := [.lit (.bool true)], args := [d1, d2] }
  | _ => none }
def fnExactEnabledInRow : OpenClaim := { program := "ytnbembgjjepbpaa", sum := "ec73d8b129cdb335d6cb8c4e1f42ac2839ed0e84e956d921c5393810b2c51a74", func := "loop.example/g01094/laws.FnExactEnabledIn", spec := "fnExactEnabledIn", apart := false }
def FnExactEnabledInSaid : Prop := fnExactEnabledInRow.holds Try.pinned (OpenSpec.ofChange fnExactEnabledInSpec)

/-- ITS FALSE NEIGHBOUR: 'it returns false'. Refute it at one input. -/
def fnExactEnabledInWrong : ChangeSpec := { name := "fnExactEnabledIn", fn := fun _ => fun
  | [d1, d2] => { results := [.lit (.bool false)], args := [d1, d2] }
  | _ => none }
def FnExactEnabledInWrongFalsely : Prop := fnExactEnabledInRow.holds Try.pinned (OpenSpec.ofChange fnExactEnabledInWrong)

/-- 'laws.FnExactAlphabetOfNet': WHATEVER THE INPUT: true; the input reads as it did. -/
def fnExactAlphabetOfNetSpec : ChangeSpec := { name := "fnExactAlphabetOfNet", fn := fun _ => fun
  | [d] => { results := [.lit (.bool true)], args := [d] }
  | _ => none }
def fnExactAlphabetOfNetRow : OpenClaim := { program := "ytnbembgjjepbpaa", sum := "ec73d8b129cdb335d6cb8c4e1f42ac2839ed0e84e956d921c5393810b2c51a74", func := "loop.example/g01094/laws.FnExactAlphabetOfNet", spec := "fnExactAlphabetOfNet", apart := false }
def FnExactAlphabetOfNetSaid : Prop := fnExactAlphabetOfNetRow.holds Try.pinned (OpenSpec.ofChange fnExactAlphabetOfNetSpec)

/-- ITS FALSE NEIGHBOUR: 'it returns false'. Refute it at one input. -/
def fnExactAlphabetOfNetWrong : ChangeSpec := { name := "fnExactAlphabetOfNet", fn := fun _ => fun
  | [d] => { results := [.lit (.bool false)], args := [d] }
  | _ => none }
def FnExactAlphabetOfNetWrongFalsely : Prop := fnExactAlphabetOfNetRow.holds Try.pinned (OpenSpec.ofChange fnExactAlphabetOfNetWrong)

/-- 'laws.FnExactFireWord': WHATEVER THE INPUT: true; the input reads as it did. -/
def fnExactFireWordSpec : ChangeSpec := { name := "fnExactFireWord", fn := fun _ => fun
  | [d1, d2, d3] => { results := [.lit (.bool true)], args := [d1, d2, d3] }
  | _ => none }
def fnExactFireWordRow : OpenClaim := { program := "ytnbembgjjepbpaa", sum := "ec73d8b129cdb335d6cb8c4e1f42ac2839ed0e84e956d921c5393810b2c51a74", func := "loop.example/g01094/laws.FnExactFireWord", spec := "fnExactFireWord", unfollowed := true, recurses := true, apart := false }
def FnExactFireWordSaid : Prop := fnExactFireWordRow.holds Try.pinned (OpenSpec.ofChange fnExactFireWordSpec)

/-- ITS FALSE NEIGHBOUR: 'it returns false'. Refute it at one input. -/
def fnExactFireWordWrong : ChangeSpec := { name := "fnExactFireWord", fn := fun _ => fun
  | [d1, d2, d3] => { results := [.lit (.bool false)], args := [d1, d2, d3] }
  | _ => none }
def FnExactFireWordWrongFalsely : Prop := fnExactFireWordRow.holds Try.pinned (OpenSpec.ofChange fnExactFireWordWrong)

/-- 'laws.FnExactInvariantsOf': WHATEVER THE INPUT: true; the input reads as it did. -/
def fnExactInvariantsOfSpec : ChangeSpec := { name := "fnExactInvariantsOf", fn := fun _ => fun
  | [d] => { results := [.lit (.bool true)], args := [d] }
  | _ => none }
def fnExactInvariantsOfRow : OpenClaim := { program := "ytnbembgjjepbpaa", sum := "ec73d8b129cdb335d6cb8c4e1f42ac2839ed0e84e956d921c5393810b2c51a74", func := "loop.example/g01094/laws.FnExactInvariantsOf", spec := "fnExactInvariantsOf", unfollowed := true, recurses := true, apart := false }
def FnExactInvariantsOfSaid : Prop := fnExactInvariantsOfRow.holds Try.pinned (OpenSpec.ofChange fnExactInvariantsOfSpec)

/-- ITS FALSE NEIGHBOUR: 'it returns false'. Refute it at one input. -/
def fnExactInvariantsOfWrong : ChangeSpec := { name := "fnExactInvariantsOf", fn := fun _ => fun
  | [d] => { results := [.lit (.bool false)], args := [d] }
  | _ => none }
def FnExactInvariantsOfWrongFalsely : Prop := fnExactInvariantsOfRow.holds Try.pinned (OpenSpec.ofChange fnExactInvariantsOfWrong)

/-- 'laws.FnInvariants': WHATEVER THE INPUT: true; the input reads as it did. -/
def fnInvariantsSpec : ChangeSpec := { name := "fnInvariants", fn := fun _ => fun
  | [d] => { results := [.lit (.bool true)], args := [d] }
  | _ => none }
def fnInvariantsRow : OpenClaim := { program := "ytnbembgjjepbpaa", sum := "ec73d8b129cdb335d6cb8c4e1f42ac2839ed0e84e956d921c5393810b2c51a74", func := "loop.example/g01094/laws.FnInvariants", spec := "fnInvariants", unfollowed := true, recurses := true, apart := false }
def FnInvariantsSaid : Prop := fnInvariantsRow.holds Try.pinned (OpenSpec.ofChange fnInvariantsSpec)

/-- ITS FALSE NEIGHBOUR: 'it returns false'. Refute it at one input. -/
def fnInvariantsWrong : ChangeSpec := { name := "fnInvariants", fn := fun _ => fun
  | [d] => { results := [.lit (.bool false)], args := [d] }
  | _ => none }
def FnInvariantsWrongFalsely : Prop := fnInvariantsRow.holds Try.pinned (OpenSpec.ofChange fnInvariantsWrong)

/- THE SECOND FORM. 'bulk': how many values and letters a reading holds, each counted each time it is reached (what is shared counts as often as it is met; a slice's spare places count too). A statement '..UptoSaid' is the law's where the arguments, and the package variables that the reading takes, are together of bulk at most 1048576: NARROWER than '..Said'. Prove '..Said' where nothing that the law and all that it calls make is longer than what came in: it says more and counts as full. Else prove '..UptoSaid'. A law counts once. -/
mutual
def uptoBulk {H : Type} : DataW H → Nat
  | .lit (.string bytes) => bytes.length + 1
  | .lit _ => 1
  | .nil => 1
  | .ptr d => uptoBulk d + 1
  | .slice elems spare => uptoBulkAll elems + uptoBulkAll spare + 1
  | .agg parts => uptoBulkAll parts + 1
  | .iface _ d => uptoBulk d + 1
  | .map entries => uptoBulkEntries entries + 1
  | .held _ => 1
def uptoBulkAll {H : Type} : List (DataW H) → Nat
  | [] => 0
  | d :: r => uptoBulk d + uptoBulkAll r
def uptoBulkEntries {H : Type} : List (Lit × DataW H) → Nat
  | [] => 0
  | x :: r => uptoBulkEntry x + uptoBulkEntries r
def uptoBulkEntry {H : Type} : Lit × DataW H → Nat
  | (.string bytes, d) => bytes.length + uptoBulk d + 1
  | (_, d) => uptoBulk d + 1
 end
def uptoSmall : (H : Type) → List (DataW H) → Bool := fun _ ds => decide (uptoBulkAll ds ≤ 1048576)
def OpenSpec.upto (s : _root_.Go.ChangeSpec) : _root_.Go.OpenSpec := { _root_.Go.OpenSpec.ofChange s with cond := some uptoSmall }

/-- 'laws.FnExactArePlaces', WHERE WHAT IT READS IS OF BULK AT MOST 1048576: true; the input reads as it did. -/
def fnExactArePlacesUptoRow : OpenClaim := { program := "ytnbembgjjepbpaa", sum := "ec73d8b129cdb335d6cb8c4e1f42ac2839ed0e84e956d921c5393810b2c51a74", func := "loop.example/g01094/laws.FnExactArePlaces", spec := "fnExactArePlaces", unfollowed := true, recurses := true, apart := false, narrowed := true }
def FnExactArePlacesUptoSaid : Prop := fnExactArePlacesUptoRow.holds Try.pinned (OpenSpec.upto fnExactArePlacesSpec)

/-- 'laws.FnExactIsNet', WHERE WHAT IT READS IS OF BULK AT MOST 1048576: true; the input reads as it did. -/
def fnExactIsNetUptoRow : OpenClaim := { program := "ytnbembgjjepbpaa", sum := "ec73d8b129cdb335d6cb8c4e1f42ac2839ed0e84e956d921c5393810b2c51a74", func := "loop.example/g01094/laws.FnExactIsNet", spec := "fnExactIsNet", apart := false, narrowed := true }
def FnExactIsNetUptoSaid : Prop := fnExactIsNetUptoRow.holds Try.pinned (OpenSpec.upto fnExactIsNetSpec)

/-- 'laws.FnExactReverseNet', WHERE WHAT IT READS IS OF BULK AT MOST 1048576: true; the input reads as it did. -/
def fnExactReverseNetUptoRow : OpenClaim := { program := "ytnbembgjjepbpaa", sum := "ec73d8b129cdb335d6cb8c4e1f42ac2839ed0e84e956d921c5393810b2c51a74", func := "loop.example/g01094/laws.FnExactReverseNet", spec := "fnExactReverseNet", apart := false, narrowed := true }
def FnExactReverseNetUptoSaid : Prop := fnExactReverseNetUptoRow.holds Try.pinned (OpenSpec.upto fnExactReverseNetSpec)

/-- 'laws.FnExactEnabledIn', WHERE WHAT IT READS IS OF BULK AT MOST 1048576: true; the input reads as it did. -/
def fnExactEnabledInUptoRow : OpenClaim := { program := "ytnbembgjjepbpaa", sum := "ec73d8b129cdb335d6cb8c4e1f42ac2839ed0e84e956d921c5393810b2c51a74", func := "loop.example/g01094/laws.FnExactEnabledIn", spec := "fnExactEnabledIn", apart := false, narrowed := true }
def FnExactEnabledInUptoSaid : Prop := fnExactEnabledInUptoRow.holds Try.pinned (OpenSpec.upto fnExactEnabledInSpec)

/-- 'laws.FnExactAlphabetOfNet', WHERE WHAT IT READS IS OF BULK AT MOST 1048576: true; the input reads as it did. -/
def fnExactAlphabetOfNetUptoRow : OpenClaim := { program := "ytnbembgjjepbpaa", sum := "ec73d8b129cdb335d6cb8c4e1f42ac2839ed0e84e956d921c5393810b2c51a74", func := "loop.example/g01094/laws.FnExactAlphabetOfNet", spec := "fnExactAlphabetOfNet", apart := false, narrowed := true }
def FnExactAlphabetOfNetUptoSaid : Prop := fnExactAlphabetOfNetUptoRow.holds Try.pinned (OpenSpec.upto fnExactAlphabetOfNetSpec)

/-- 'laws.FnExactFireWord', WHERE WHAT IT READS IS OF BULK AT MOST 1048576: true; the input reads as it did. -/
def fnExactFireWordUptoRow : OpenClaim := { program := "ytnbembgjjepbpaa", sum := "ec73d8b129cdb335d6cb8c4e1f42ac2839ed0e84e956d921c5393810b2c51a74", func := "loop.example/g01094/laws.FnExactFireWord", spec := "fnExactFireWord", unfollowed := true, recurses := true, apart := false, narrowed := true }
def FnExactFireWordUptoSaid : Prop := fnExactFireWordUptoRow.holds Try.pinned (OpenSpec.upto fnExactFireWordSpec)

/-- 'laws.FnExactInvariantsOf', WHERE WHAT IT READS IS OF BULK AT MOST 1048576: true; the input reads as it did. -/
def fnExactInvariantsOfUptoRow : OpenClaim := { program := "ytnbembgjjepbpaa", sum := "ec73d8b129cdb335d6cb8c4e1f42ac2839ed0e84e956d921c5393810b2c51a74", func := "loop.example/g01094/laws.FnExactInvariantsOf", spec := "fnExactInvariantsOf", unfollowed := true, recurses := true, apart := false, narrowed := true }
def FnExactInvariantsOfUptoSaid : Prop := fnExactInvariantsOfUptoRow.holds Try.pinned (OpenSpec.upto fnExactInvariantsOfSpec)

/-- 'laws.FnInvariants', WHERE WHAT IT READS IS OF BULK AT MOST 1048576: true; the input reads as it did. -/
def fnInvariantsUptoRow : OpenClaim := { program := "ytnbembgjjepbpaa", sum := "ec73d8b129cdb335d6cb8c4e1f42ac2839ed0e84e956d921c5393810b2c51a74", func := "loop.example/g01094/laws.FnInvariants", spec := "fnInvariants", unfollowed := true, recurses := true, apart := false, narrowed := true }
def FnInvariantsUptoSaid : Prop := fnInvariantsUptoRow.holds Try.pinned (OpenSpec.upto fnInvariantsSpec)

end Rows
end Go.Proofs.Ytnbembgjjepbpaa
