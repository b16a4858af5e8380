/-
  DERIVED. GIVEN WITH THE SEED: THE CARDS: each row of YthabclhldlikfaaGreatDoorRows.lean that lists a variable, with what it lists TIED to the program's text (the seventh form; the later family's looks); each row that meets fmt, with fmt's text TOLD by the authors' own Lean function (tested against real Go, not proved from fmt's source: count such statements apart). THE CARD IS WHAT COUNTS. Prove the row's statement (the work); the ties are given (YthabclhldlikfaaGreatDoorTie.lean); close each card by the builder's one call (the guide's Derived/Test/ToyasCard.lean, 'card_holds'). Laid BY PROGRAM, IN A SANDBOX (cutbox-door.mjs). By AI agents, Wed Nov 11 2026. No macro, syntax, notation, axiom, sorry.
-/
import Derived.Test.YthabclhldlikfaaGreatDoorRows
import GoSem.ClaimSeven
namespace Go.Proofs.YthabclhldlikfaaGreatDoor
namespace Rows

/-- THE TIED CARD OF 'laws.FnExactStructureOfTraces'. -/
def fnExactStructureOfTracesCard : Claim7 := { stood := { row := fnExactStructureOfTracesRow, standIns := [], harness := (true, "74247c04aa4733983e0e43a80e9bb559cf15dd0b05887c89031cd735b998c015"), looks := false }, kinds := [], alts := [], laidByText := true, laidKinds := [.data], laidTests := true, laidLooks := .later }
def FnExactStructureOfTracesCardSaid : Prop := Claim7.holds Tryz.pinned (.plain (OpenSpec.ofChange fnExactStructureOfTracesSpec)) fnExactStructureOfTracesCard

/-- THE TIED CARD OF 'laws.FnStructureOfTraces'. -/
def fnStructureOfTracesCard : Claim7 := { stood := { row := fnStructureOfTracesRow, standIns := [], harness := (true, "74247c04aa4733983e0e43a80e9bb559cf15dd0b05887c89031cd735b998c015"), looks := false }, kinds := [], alts := [], laidByText := true, laidKinds := [.data], laidTests := true, laidLooks := .later }
def FnStructureOfTracesCardSaid : Prop := Claim7.holds Tryz.pinned (.plain (OpenSpec.ofChange fnStructureOfTracesSpec)) fnStructureOfTracesCard

/-- THE TIED CARD OF 'laws.FnAfterConfigurations'. -/
def fnAfterConfigurationsCard : Claim7 := { stood := { row := fnAfterConfigurationsRow, standIns := [], harness := (true, "74247c04aa4733983e0e43a80e9bb559cf15dd0b05887c89031cd735b998c015"), looks := false }, kinds := [], alts := [], laidByText := true, laidKinds := [.data], laidTests := true, laidLooks := .later }
def FnAfterConfigurationsCardSaid : Prop := Claim7.holds Tryz.pinned (.plain (OpenSpec.ofChange fnAfterConfigurationsSpec)) fnAfterConfigurationsCard

/-- THE TIED CARD OF 'laws.FnTraceStructures'. -/
def fnTraceStructuresCard : Claim7 := { stood := { row := fnTraceStructuresRow, standIns := [], harness := (true, "74247c04aa4733983e0e43a80e9bb559cf15dd0b05887c89031cd735b998c015"), looks := false }, kinds := [], alts := [], laidByText := true, laidKinds := [.data], laidTests := true, laidLooks := .later }
def FnTraceStructuresCardSaid : Prop := Claim7.holds Tryz.pinned (.plain (OpenSpec.ofChange fnTraceStructuresSpec)) fnTraceStructuresCard

/-- THE TIED CARD OF 'laws.FnExactUnfoldAutomaton'. -/
def fnExactUnfoldAutomatonCard : Claim7 := { stood := { row := fnExactUnfoldAutomatonRow, standIns := [], harness := (true, "74247c04aa4733983e0e43a80e9bb559cf15dd0b05887c89031cd735b998c015"), looks := false }, kinds := [], alts := [], laidByText := true, laidKinds := [.data], laidTests := true, laidLooks := .later }
def FnExactUnfoldAutomatonCardSaid : Prop := Claim7.holds Tryz.pinned (.plain (OpenSpec.ofChange fnExactUnfoldAutomatonSpec)) fnExactUnfoldAutomatonCard

/-- THE TIED CARD OF 'laws.FnUnfoldedAutomata'. -/
def fnUnfoldedAutomataCard : Claim7 := { stood := { row := fnUnfoldedAutomataRow, standIns := [], harness := (true, "74247c04aa4733983e0e43a80e9bb559cf15dd0b05887c89031cd735b998c015"), looks := false }, kinds := [], alts := [], laidByText := true, laidKinds := [.data], laidTests := true, laidLooks := .later }
def FnUnfoldedAutomataCardSaid : Prop := Claim7.holds Tryz.pinned (.plain (OpenSpec.ofChange fnUnfoldedAutomataSpec)) fnUnfoldedAutomataCard

/-- THE SECOND FORM's CARD OF 'laws.FnExactStructureOfTraces'. -/
def fnExactStructureOfTracesUptoCard : Claim7 := { stood := { row := fnExactStructureOfTracesUptoRow, standIns := [], harness := (true, "74247c04aa4733983e0e43a80e9bb559cf15dd0b05887c89031cd735b998c015"), looks := false }, kinds := [], alts := [], laidByText := true, laidKinds := [.data], laidTests := true, laidLooks := .later }
def FnExactStructureOfTracesUptoCardSaid : Prop := Claim7.holds Tryz.pinned (.plain (OpenSpec.upto fnExactStructureOfTracesSpec)) fnExactStructureOfTracesUptoCard

/-- THE SECOND FORM's CARD OF 'laws.FnStructureOfTraces'. -/
def fnStructureOfTracesUptoCard : Claim7 := { stood := { row := fnStructureOfTracesUptoRow, standIns := [], harness := (true, "74247c04aa4733983e0e43a80e9bb559cf15dd0b05887c89031cd735b998c015"), looks := false }, kinds := [], alts := [], laidByText := true, laidKinds := [.data], laidTests := true, laidLooks := .later }
def FnStructureOfTracesUptoCardSaid : Prop := Claim7.holds Tryz.pinned (.plain (OpenSpec.upto fnStructureOfTracesSpec)) fnStructureOfTracesUptoCard

/-- THE SECOND FORM's CARD OF 'laws.FnAfterConfigurations'. -/
def fnAfterConfigurationsUptoCard : Claim7 := { stood := { row := fnAfterConfigurationsUptoRow, standIns := [], harness := (true, "74247c04aa4733983e0e43a80e9bb559cf15dd0b05887c89031cd735b998c015"), looks := false }, kinds := [], alts := [], laidByText := true, laidKinds := [.data], laidTests := true, laidLooks := .later }
def FnAfterConfigurationsUptoCardSaid : Prop := Claim7.holds Tryz.pinned (.plain (OpenSpec.upto fnAfterConfigurationsSpec)) fnAfterConfigurationsUptoCard

/-- THE SECOND FORM's CARD OF 'laws.FnTraceStructures'. -/
def fnTraceStructuresUptoCard : Claim7 := { stood := { row := fnTraceStructuresUptoRow, standIns := [], harness := (true, "74247c04aa4733983e0e43a80e9bb559cf15dd0b05887c89031cd735b998c015"), looks := false }, kinds := [], alts := [], laidByText := true, laidKinds := [.data], laidTests := true, laidLooks := .later }
def FnTraceStructuresUptoCardSaid : Prop := Claim7.holds Tryz.pinned (.plain (OpenSpec.upto fnTraceStructuresSpec)) fnTraceStructuresUptoCard

/-- THE SECOND FORM's CARD OF 'laws.FnExactUnfoldAutomaton'. -/
def fnExactUnfoldAutomatonUptoCard : Claim7 := { stood := { row := fnExactUnfoldAutomatonUptoRow, standIns := [], harness := (true, "74247c04aa4733983e0e43a80e9bb559cf15dd0b05887c89031cd735b998c015"), looks := false }, kinds := [], alts := [], laidByText := true, laidKinds := [.data], laidTests := true, laidLooks := .later }
def FnExactUnfoldAutomatonUptoCardSaid : Prop := Claim7.holds Tryz.pinned (.plain (OpenSpec.upto fnExactUnfoldAutomatonSpec)) fnExactUnfoldAutomatonUptoCard

/-- THE SECOND FORM's CARD OF 'laws.FnUnfoldedAutomata'. -/
def fnUnfoldedAutomataUptoCard : Claim7 := { stood := { row := fnUnfoldedAutomataUptoRow, standIns := [], harness := (true, "74247c04aa4733983e0e43a80e9bb559cf15dd0b05887c89031cd735b998c015"), looks := false }, kinds := [], alts := [], laidByText := true, laidKinds := [.data], laidTests := true, laidLooks := .later }
def FnUnfoldedAutomataUptoCardSaid : Prop := Claim7.holds Tryz.pinned (.plain (OpenSpec.upto fnUnfoldedAutomataSpec)) fnUnfoldedAutomataUptoCard
end Rows
end Go.Proofs.YthabclhldlikfaaGreatDoor
