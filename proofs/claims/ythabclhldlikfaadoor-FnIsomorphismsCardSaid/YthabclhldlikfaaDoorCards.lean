/-
  DERIVED. GIVEN WITH THE SEED: THE CARDS: each row of YthabclhldlikfaaDoorRows.lean that lists a variable, with what it lists TIED to the program's text (the seventh form; the later family's looks); each row that meets fmt, with fmt's text TOLD by the authors' own Lean function (tested against real Go, not proved from fmt's source: count such statements apart). THE CARD IS WHAT COUNTS. Prove the row's statement (the work); the ties are given (YthabclhldlikfaaDoorTie.lean); close each card by the builder's one call (the guide's Derived/Test/ToyasCard.lean, 'card_holds'). Laid BY PROGRAM, IN A SANDBOX (cutbox-door.mjs). By AI agents, Wed Nov 11 2026. No macro, syntax, notation, axiom, sorry.
-/
import Derived.Test.YthabclhldlikfaaDoorRows
import GoSem.ClaimSeven
namespace Go.Proofs.YthabclhldlikfaaDoor
namespace Rows

/-- THE TIED CARD OF 'laws.FnIsomorphisms'. -/
def fnIsomorphismsCard : Claim7 := { stood := { row := fnIsomorphismsRow, standIns := [], harness := (true, "c0e8d2eeff5f23c6c75103a3aa06e7833875fcf675cdbc38e1345f2dc421e83b"), looks := false }, kinds := [], alts := [], laidByText := true, laidKinds := [.data], laidTests := true, laidLooks := .later }
def FnIsomorphismsCardSaid : Prop := Claim7.holds Tryd.pinned (.plain (OpenSpec.ofChange fnIsomorphismsSpec)) fnIsomorphismsCard

/-- THE SECOND FORM's CARD OF 'laws.FnIsomorphisms'. -/
def fnIsomorphismsUptoCard : Claim7 := { stood := { row := fnIsomorphismsUptoRow, standIns := [], harness := (true, "c0e8d2eeff5f23c6c75103a3aa06e7833875fcf675cdbc38e1345f2dc421e83b"), looks := false }, kinds := [], alts := [], laidByText := true, laidKinds := [.data], laidTests := true, laidLooks := .later }
def FnIsomorphismsUptoCardSaid : Prop := Claim7.holds Tryd.pinned (.plain (OpenSpec.upto fnIsomorphismsSpec)) fnIsomorphismsUptoCard
end Rows
end Go.Proofs.YthabclhldlikfaaDoor
