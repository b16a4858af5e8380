/-
  DERIVED. GIVEN WITH THE SEED: THE CARDS: each row of YtnimmbjbinpajaaDoorRows.lean that lists a variable, with what it lists TIED to the program's text (the seventh form; the later family's looks); each row that meets fmt, with fmt's text TOLD by the authors' own Lean function (tested against real Go, not proved from fmt's source: count such statements apart). THE CARD IS WHAT COUNTS. Prove the row's statement (the work); the ties are given (YtnimmbjbinpajaaDoorTie.lean); close each card by the builder's one call (the guide's Derived/Test/ToyasCard.lean, 'card_holds'). Laid BY PROGRAM, IN A SANDBOX (cutbox-door.mjs). By AI agents, Wed Nov 11 2026. No macro, syntax, notation, axiom, sorry.
-/
import Derived.Test.YtnimmbjbinpajaaDoorRows
import GoSem.ClaimSeven
namespace Go.Proofs.YtnimmbjbinpajaaDoor
namespace Rows

/-- THE TIED CARD OF 'laws.FnExactIsProductLanguage'. -/
def fnExactIsProductLanguageCard : Claim7 := { stood := { row := fnExactIsProductLanguageRow, standIns := [], harness := (true, "bdad98c0bdd52574cb2b5cad38dfdb117306ce9ff376b3df8cbc4cc5fe63900d"), looks := false }, kinds := [], alts := [], laidByText := true, laidKinds := [.data], laidTests := true, laidLooks := .later }
def FnExactIsProductLanguageCardSaid : Prop := Claim7.holds Tryd.pinned (.plain (OpenSpec.ofChange fnExactIsProductLanguageSpec)) fnExactIsProductLanguageCard

/-- THE TIED CARD OF 'laws.FnExactGlobalAutomaton'. -/
def fnExactGlobalAutomatonCard : Claim7 := { stood := { row := fnExactGlobalAutomatonRow, standIns := [], harness := (true, "bdad98c0bdd52574cb2b5cad38dfdb117306ce9ff376b3df8cbc4cc5fe63900d"), looks := false }, kinds := [], alts := [], laidByText := true, laidKinds := [.data], laidTests := true, laidLooks := .later }
def FnExactGlobalAutomatonCardSaid : Prop := Claim7.holds Tryd.pinned (.plain (OpenSpec.ofChange fnExactGlobalAutomatonSpec)) fnExactGlobalAutomatonCard

/-- THE TIED CARD OF 'laws.FnComplements'. -/
def fnComplementsCard : Claim7 := { stood := { row := fnComplementsRow, standIns := [], harness := (true, "bdad98c0bdd52574cb2b5cad38dfdb117306ce9ff376b3df8cbc4cc5fe63900d"), looks := false }, kinds := [], alts := [], laidByText := true, laidKinds := [.data], laidTests := true, laidLooks := .later }
def FnComplementsCardSaid : Prop := Claim7.holds Tryd.pinned (.plain (OpenSpec.ofChange fnComplementsSpec)) fnComplementsCard

/-- THE SECOND FORM's CARD OF 'laws.FnExactIsProductLanguage'. -/
def fnExactIsProductLanguageUptoCard : Claim7 := { stood := { row := fnExactIsProductLanguageUptoRow, standIns := [], harness := (true, "bdad98c0bdd52574cb2b5cad38dfdb117306ce9ff376b3df8cbc4cc5fe63900d"), looks := false }, kinds := [], alts := [], laidByText := true, laidKinds := [.data], laidTests := true, laidLooks := .later }
def FnExactIsProductLanguageUptoCardSaid : Prop := Claim7.holds Tryd.pinned (.plain (OpenSpec.upto fnExactIsProductLanguageSpec)) fnExactIsProductLanguageUptoCard

/-- THE SECOND FORM's CARD OF 'laws.FnExactGlobalAutomaton'. -/
def fnExactGlobalAutomatonUptoCard : Claim7 := { stood := { row := fnExactGlobalAutomatonUptoRow, standIns := [], harness := (true, "bdad98c0bdd52574cb2b5cad38dfdb117306ce9ff376b3df8cbc4cc5fe63900d"), looks := false }, kinds := [], alts := [], laidByText := true, laidKinds := [.data], laidTests := true, laidLooks := .later }
def FnExactGlobalAutomatonUptoCardSaid : Prop := Claim7.holds Tryd.pinned (.plain (OpenSpec.upto fnExactGlobalAutomatonSpec)) fnExactGlobalAutomatonUptoCard

/-- THE SECOND FORM's CARD OF 'laws.FnComplements'. -/
def fnComplementsUptoCard : Claim7 := { stood := { row := fnComplementsUptoRow, standIns := [], harness := (true, "bdad98c0bdd52574cb2b5cad38dfdb117306ce9ff376b3df8cbc4cc5fe63900d"), looks := false }, kinds := [], alts := [], laidByText := true, laidKinds := [.data], laidTests := true, laidLooks := .later }
def FnComplementsUptoCardSaid : Prop := Claim7.holds Tryd.pinned (.plain (OpenSpec.upto fnComplementsSpec)) fnComplementsUptoCard
end Rows
end Go.Proofs.YtnimmbjbinpajaaDoor
