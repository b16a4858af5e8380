/-
  DERIVED. GIVEN WITH THE SEED: THE CARDS: each row of YtokkjmgfjmapfaaDoorRows.lean that lists a variable, with what it lists TIED to the program's text (the seventh form; the later family's looks); each row that meets fmt, with fmt's text TOLD by the authors' own Lean function (tested against real Go, not proved from fmt's source: count such statements apart). THE CARD IS WHAT COUNTS. Prove the row's statement (the work); the ties are given (YtokkjmgfjmapfaaDoorTie.lean); close each card by the builder's one call (the guide's Derived/Test/ToyasCard.lean, 'card_holds'). Laid BY PROGRAM, IN A SANDBOX (cutbox-door.mjs). By AI agents, Wed Nov 11 2026. No macro, syntax, notation, axiom, sorry.
-/
import Derived.Test.YtokkjmgfjmapfaaDoorRows
import GoSem.ClaimSeven
namespace Go.Proofs.YtokkjmgfjmapfaaDoor
namespace Rows

/-- THE TIED CARD OF 'laws.FnExactAcceptsTrace'. -/
def fnExactAcceptsTraceCard : Claim7 := { stood := { row := fnExactAcceptsTraceRow, standIns := [], harness := (true, "131dfd494e33a239b494ace5d1d96eb484a25e9db8479307641f00acb78bf5da"), looks := false }, kinds := [], alts := [], laidByText := true, laidKinds := [.data], laidTests := true, laidLooks := .later }
def FnExactAcceptsTraceCardSaid : Prop := Claim7.holds Tryd.pinned (.plain (OpenSpec.ofChange fnExactAcceptsTraceSpec)) fnExactAcceptsTraceCard

/-- THE TIED CARD OF 'laws.FnExactRunFrom'. -/
def fnExactRunFromCard : Claim7 := { stood := { row := fnExactRunFromRow, standIns := [], harness := (true, "131dfd494e33a239b494ace5d1d96eb484a25e9db8479307641f00acb78bf5da"), looks := false }, kinds := [], alts := [], laidByText := true, laidKinds := [.data], laidTests := true, laidLooks := .later }
def FnExactRunFromCardSaid : Prop := Claim7.holds Tryd.pinned (.plain (OpenSpec.ofChange fnExactRunFromSpec)) fnExactRunFromCard

/-- THE TIED CARD OF 'laws.FnExactLocalPath'. -/
def fnExactLocalPathCard : Claim7 := { stood := { row := fnExactLocalPathRow, standIns := [], harness := (true, "131dfd494e33a239b494ace5d1d96eb484a25e9db8479307641f00acb78bf5da"), looks := false }, kinds := [], alts := [], laidByText := true, laidKinds := [.data], laidTests := true, laidLooks := .later }
def FnExactLocalPathCardSaid : Prop := Claim7.holds Tryd.pinned (.plain (OpenSpec.ofChange fnExactLocalPathSpec)) fnExactLocalPathCard

/-- THE SECOND FORM's CARD OF 'laws.FnExactAcceptsTrace'. -/
def fnExactAcceptsTraceUptoCard : Claim7 := { stood := { row := fnExactAcceptsTraceUptoRow, standIns := [], harness := (true, "131dfd494e33a239b494ace5d1d96eb484a25e9db8479307641f00acb78bf5da"), looks := false }, kinds := [], alts := [], laidByText := true, laidKinds := [.data], laidTests := true, laidLooks := .later }
def FnExactAcceptsTraceUptoCardSaid : Prop := Claim7.holds Tryd.pinned (.plain (OpenSpec.upto fnExactAcceptsTraceSpec)) fnExactAcceptsTraceUptoCard

/-- THE SECOND FORM's CARD OF 'laws.FnExactRunFrom'. -/
def fnExactRunFromUptoCard : Claim7 := { stood := { row := fnExactRunFromUptoRow, standIns := [], harness := (true, "131dfd494e33a239b494ace5d1d96eb484a25e9db8479307641f00acb78bf5da"), looks := false }, kinds := [], alts := [], laidByText := true, laidKinds := [.data], laidTests := true, laidLooks := .later }
def FnExactRunFromUptoCardSaid : Prop := Claim7.holds Tryd.pinned (.plain (OpenSpec.upto fnExactRunFromSpec)) fnExactRunFromUptoCard

/-- THE SECOND FORM's CARD OF 'laws.FnExactLocalPath'. -/
def fnExactLocalPathUptoCard : Claim7 := { stood := { row := fnExactLocalPathUptoRow, standIns := [], harness := (true, "131dfd494e33a239b494ace5d1d96eb484a25e9db8479307641f00acb78bf5da"), looks := false }, kinds := [], alts := [], laidByText := true, laidKinds := [.data], laidTests := true, laidLooks := .later }
def FnExactLocalPathUptoCardSaid : Prop := Claim7.holds Tryd.pinned (.plain (OpenSpec.upto fnExactLocalPathSpec)) fnExactLocalPathUptoCard
end Rows
end Go.Proofs.YtokkjmgfjmapfaaDoor
