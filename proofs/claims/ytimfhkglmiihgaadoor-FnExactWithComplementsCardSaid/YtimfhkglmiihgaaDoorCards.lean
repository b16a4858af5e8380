/-
  DERIVED. GIVEN WITH THE SEED: THE CARDS: each row of YtimfhkglmiihgaaDoorRows.lean that lists a variable, with what it lists TIED to the program's text (the seventh form; the later family's looks); each row that meets fmt, with fmt's text TOLD by the authors' own Lean function (tested against real Go, not proved from fmt's source: count such statements apart). THE CARD IS WHAT COUNTS. Prove the row's statement (the work); the ties are given (YtimfhkglmiihgaaDoorTie.lean); close each card by the builder's one call (the guide's Derived/Test/ToyasCard.lean, 'card_holds'). Laid BY PROGRAM, IN A SANDBOX (cutbox-door.mjs). By AI agents, Wed Nov 11 2026. No macro, syntax, notation, axiom, sorry.
-/
import Derived.Test.YtimfhkglmiihgaaDoorRows
import GoSem.ClaimSeven
namespace Go.Proofs.YtimfhkglmiihgaaDoor
namespace Rows

/-- THE TIED CARD OF 'laws.FnExactIsomorphismOf'. -/
def fnExactIsomorphismOfCard : Claim7 := { stood := { row := fnExactIsomorphismOfRow, standIns := [], harness := (true, "ae8f3ee079bba0f46adf8c9914f86e792da0b45ef39f5f82ff9f3721d406fdaa"), looks := false }, kinds := [], alts := [], laidByText := true, laidKinds := [.data], laidTests := true, laidLooks := .later }
def FnExactIsomorphismOfCardSaid : Prop := Claim7.holds Tryd.pinned (.plain (OpenSpec.ofChange fnExactIsomorphismOfSpec)) fnExactIsomorphismOfCard

/-- THE TIED CARD OF 'laws.FnIsomorphisms'. -/
def fnIsomorphismsCard : Claim7 := { stood := { row := fnIsomorphismsRow, standIns := [], harness := (true, "ae8f3ee079bba0f46adf8c9914f86e792da0b45ef39f5f82ff9f3721d406fdaa"), looks := false }, kinds := [], alts := [], laidByText := true, laidKinds := [.data], laidTests := true, laidLooks := .later }
def FnIsomorphismsCardSaid : Prop := Claim7.holds Tryd.pinned (.plain (OpenSpec.ofChange fnIsomorphismsSpec)) fnIsomorphismsCard

/-- THE TIED CARD OF 'laws.FnExactTraceOfConfiguration'. -/
def fnExactTraceOfConfigurationCard : Claim7 := { stood := { row := fnExactTraceOfConfigurationRow, standIns := [], harness := (true, "ae8f3ee079bba0f46adf8c9914f86e792da0b45ef39f5f82ff9f3721d406fdaa"), looks := false }, kinds := [], alts := [], laidByText := true, laidKinds := [.data], laidTests := true, laidLooks := .later }
def FnExactTraceOfConfigurationCardSaid : Prop := Claim7.holds Tryd.pinned (.plain (OpenSpec.ofChange fnExactTraceOfConfigurationSpec)) fnExactTraceOfConfigurationCard

/-- THE TIED CARD OF 'laws.FnGossip'. -/
def fnGossipCard : Claim7 := { stood := { row := fnGossipRow, standIns := [], harness := (true, "ae8f3ee079bba0f46adf8c9914f86e792da0b45ef39f5f82ff9f3721d406fdaa"), looks := false }, kinds := [], alts := [], laidByText := true, laidKinds := [.data], laidTests := true, laidLooks := .later }
def FnGossipCardSaid : Prop := Claim7.holds Tryd.pinned (.plain (OpenSpec.ofChange fnGossipSpec)) fnGossipCard

/-- THE TIED CARD OF 'laws.FnStamps'. -/
def fnStampsCard : Claim7 := { stood := { row := fnStampsRow, standIns := [], harness := (true, "ae8f3ee079bba0f46adf8c9914f86e792da0b45ef39f5f82ff9f3721d406fdaa"), looks := false }, kinds := [], alts := [], laidByText := true, laidKinds := [.data], laidTests := true, laidLooks := .later }
def FnStampsCardSaid : Prop := Claim7.holds Tryd.pinned (.plain (OpenSpec.ofChange fnStampsSpec)) fnStampsCard

/-- THE TIED CARD OF 'laws.FnExactConfigurationsOf'. -/
def fnExactConfigurationsOfCard : Claim7 := { stood := { row := fnExactConfigurationsOfRow, standIns := [], harness := (true, "ae8f3ee079bba0f46adf8c9914f86e792da0b45ef39f5f82ff9f3721d406fdaa"), looks := false }, kinds := [], alts := [], laidByText := true, laidKinds := [.data], laidTests := true, laidLooks := .later }
def FnExactConfigurationsOfCardSaid : Prop := Claim7.holds Tryd.pinned (.plain (OpenSpec.ofChange fnExactConfigurationsOfSpec)) fnExactConfigurationsOfCard

/-- THE TIED CARD OF 'laws.FnExactMaximalConfigurations'. -/
def fnExactMaximalConfigurationsCard : Claim7 := { stood := { row := fnExactMaximalConfigurationsRow, standIns := [], harness := (true, "ae8f3ee079bba0f46adf8c9914f86e792da0b45ef39f5f82ff9f3721d406fdaa"), looks := false }, kinds := [], alts := [], laidByText := true, laidKinds := [.data], laidTests := true, laidLooks := .later }
def FnExactMaximalConfigurationsCardSaid : Prop := Claim7.holds Tryd.pinned (.plain (OpenSpec.ofChange fnExactMaximalConfigurationsSpec)) fnExactMaximalConfigurationsCard

/-- THE TIED CARD OF 'laws.FnExactWithComplements'. -/
def fnExactWithComplementsCard : Claim7 := { stood := { row := fnExactWithComplementsRow, standIns := [], harness := (true, "ae8f3ee079bba0f46adf8c9914f86e792da0b45ef39f5f82ff9f3721d406fdaa"), looks := false }, kinds := [], alts := [], laidByText := true, laidKinds := [.data], laidTests := true, laidLooks := .later }
def FnExactWithComplementsCardSaid : Prop := Claim7.holds Tryd.pinned (.plain (OpenSpec.ofChange fnExactWithComplementsSpec)) fnExactWithComplementsCard

/-- THE SECOND FORM's CARD OF 'laws.FnExactIsomorphismOf'. -/
def fnExactIsomorphismOfUptoCard : Claim7 := { stood := { row := fnExactIsomorphismOfUptoRow, standIns := [], harness := (true, "ae8f3ee079bba0f46adf8c9914f86e792da0b45ef39f5f82ff9f3721d406fdaa"), looks := false }, kinds := [], alts := [], laidByText := true, laidKinds := [.data], laidTests := true, laidLooks := .later }
def FnExactIsomorphismOfUptoCardSaid : Prop := Claim7.holds Tryd.pinned (.plain (OpenSpec.upto fnExactIsomorphismOfSpec)) fnExactIsomorphismOfUptoCard

/-- THE SECOND FORM's CARD OF 'laws.FnIsomorphisms'. -/
def fnIsomorphismsUptoCard : Claim7 := { stood := { row := fnIsomorphismsUptoRow, standIns := [], harness := (true, "ae8f3ee079bba0f46adf8c9914f86e792da0b45ef39f5f82ff9f3721d406fdaa"), looks := false }, kinds := [], alts := [], laidByText := true, laidKinds := [.data], laidTests := true, laidLooks := .later }
def FnIsomorphismsUptoCardSaid : Prop := Claim7.holds Tryd.pinned (.plain (OpenSpec.upto fnIsomorphismsSpec)) fnIsomorphismsUptoCard

/-- THE SECOND FORM's CARD OF 'laws.FnExactTraceOfConfiguration'. -/
def fnExactTraceOfConfigurationUptoCard : Claim7 := { stood := { row := fnExactTraceOfConfigurationUptoRow, standIns := [], harness := (true, "ae8f3ee079bba0f46adf8c9914f86e792da0b45ef39f5f82ff9f3721d406fdaa"), looks := false }, kinds := [], alts := [], laidByText := true, laidKinds := [.data], laidTests := true, laidLooks := .later }
def FnExactTraceOfConfigurationUptoCardSaid : Prop := Claim7.holds Tryd.pinned (.plain (OpenSpec.upto fnExactTraceOfConfigurationSpec)) fnExactTraceOfConfigurationUptoCard

/-- THE SECOND FORM's CARD OF 'laws.FnGossip'. -/
def fnGossipUptoCard : Claim7 := { stood := { row := fnGossipUptoRow, standIns := [], harness := (true, "ae8f3ee079bba0f46adf8c9914f86e792da0b45ef39f5f82ff9f3721d406fdaa"), looks := false }, kinds := [], alts := [], laidByText := true, laidKinds := [.data], laidTests := true, laidLooks := .later }
def FnGossipUptoCardSaid : Prop := Claim7.holds Tryd.pinned (.plain (OpenSpec.upto fnGossipSpec)) fnGossipUptoCard

/-- THE SECOND FORM's CARD OF 'laws.FnStamps'. -/
def fnStampsUptoCard : Claim7 := { stood := { row := fnStampsUptoRow, standIns := [], harness := (true, "ae8f3ee079bba0f46adf8c9914f86e792da0b45ef39f5f82ff9f3721d406fdaa"), looks := false }, kinds := [], alts := [], laidByText := true, laidKinds := [.data], laidTests := true, laidLooks := .later }
def FnStampsUptoCardSaid : Prop := Claim7.holds Tryd.pinned (.plain (OpenSpec.upto fnStampsSpec)) fnStampsUptoCard

/-- THE SECOND FORM's CARD OF 'laws.FnExactConfigurationsOf'. -/
def fnExactConfigurationsOfUptoCard : Claim7 := { stood := { row := fnExactConfigurationsOfUptoRow, standIns := [], harness := (true, "ae8f3ee079bba0f46adf8c9914f86e792da0b45ef39f5f82ff9f3721d406fdaa"), looks := false }, kinds := [], alts := [], laidByText := true, laidKinds := [.data], laidTests := true, laidLooks := .later }
def FnExactConfigurationsOfUptoCardSaid : Prop := Claim7.holds Tryd.pinned (.plain (OpenSpec.upto fnExactConfigurationsOfSpec)) fnExactConfigurationsOfUptoCard

/-- THE SECOND FORM's CARD OF 'laws.FnExactMaximalConfigurations'. -/
def fnExactMaximalConfigurationsUptoCard : Claim7 := { stood := { row := fnExactMaximalConfigurationsUptoRow, standIns := [], harness := (true, "ae8f3ee079bba0f46adf8c9914f86e792da0b45ef39f5f82ff9f3721d406fdaa"), looks := false }, kinds := [], alts := [], laidByText := true, laidKinds := [.data], laidTests := true, laidLooks := .later }
def FnExactMaximalConfigurationsUptoCardSaid : Prop := Claim7.holds Tryd.pinned (.plain (OpenSpec.upto fnExactMaximalConfigurationsSpec)) fnExactMaximalConfigurationsUptoCard

/-- THE SECOND FORM's CARD OF 'laws.FnExactWithComplements'. -/
def fnExactWithComplementsUptoCard : Claim7 := { stood := { row := fnExactWithComplementsUptoRow, standIns := [], harness := (true, "ae8f3ee079bba0f46adf8c9914f86e792da0b45ef39f5f82ff9f3721d406fdaa"), looks := false }, kinds := [], alts := [], laidByText := true, laidKinds := [.data], laidTests := true, laidLooks := .later }
def FnExactWithComplementsUptoCardSaid : Prop := Claim7.holds Tryd.pinned (.plain (OpenSpec.upto fnExactWithComplementsSpec)) fnExactWithComplementsUptoCard
end Rows
end Go.Proofs.YtimfhkglmiihgaaDoor
