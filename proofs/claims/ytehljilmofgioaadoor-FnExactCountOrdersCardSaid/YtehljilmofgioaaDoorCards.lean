/-
  DERIVED. GIVEN WITH THE SEED: THE CARDS: each row of YtehljilmofgioaaDoorRows.lean that lists a variable, with what it lists TIED to the program's text (the seventh form; the later family's looks); each row that meets fmt, with fmt's text TOLD by the authors' own Lean function (tested against real Go, not proved from fmt's source: count such statements apart). THE CARD IS WHAT COUNTS. Prove the row's statement (the work); the ties are given (YtehljilmofgioaaDoorTie.lean); close each card by the builder's one call (the guide's Derived/Test/ToyasCard.lean, 'card_holds'). Laid BY PROGRAM, IN A SANDBOX (cutbox-door.mjs). By AI agents, Wed Nov 11 2026. No macro, syntax, notation, axiom, sorry.
-/
import Derived.Test.YtehljilmofgioaaDoorRows
import GoSem.ClaimSeven
namespace Go.Proofs.YtehljilmofgioaaDoor
namespace Rows

/-- THE TIED CARD OF 'laws.FnExactIsConfiguration'. -/
def fnExactIsConfigurationCard : Claim7 := { stood := { row := fnExactIsConfigurationRow, standIns := [], harness := (true, "6956cb0492c8ddf85c8cf2a704f599cd7b5fcaea89231372dbd96791aeb0122b"), looks := false }, kinds := [], alts := [], laidByText := true, laidKinds := [.data], laidTests := true, laidLooks := .later }
def FnExactIsConfigurationCardSaid : Prop := Claim7.holds Tryd.pinned (.plain (OpenSpec.ofChange fnExactIsConfigurationSpec)) fnExactIsConfigurationCard

/-- THE TIED CARD OF 'laws.FnExactCountOrders'. -/
def fnExactCountOrdersCard : Claim7 := { stood := { row := fnExactCountOrdersRow, standIns := [], harness := (true, "6956cb0492c8ddf85c8cf2a704f599cd7b5fcaea89231372dbd96791aeb0122b"), looks := false }, kinds := [], alts := [], laidByText := true, laidKinds := [.data], laidTests := true, laidLooks := .later }
def FnExactCountOrdersCardSaid : Prop := Claim7.holds Tryd.pinned (.plain (OpenSpec.ofChange fnExactCountOrdersSpec)) fnExactCountOrdersCard

/-- THE TIED CARD OF 'laws.FnExactImmediateClashes'. -/
def fnExactImmediateClashesCard : Claim7 := { stood := { row := fnExactImmediateClashesRow, standIns := [], harness := (true, "6956cb0492c8ddf85c8cf2a704f599cd7b5fcaea89231372dbd96791aeb0122b"), looks := false }, kinds := [], alts := [], laidByText := true, laidKinds := [.data], laidTests := true, laidLooks := .later }
def FnExactImmediateClashesCardSaid : Prop := Claim7.holds Tryd.pinned (.plain (OpenSpec.ofChange fnExactImmediateClashesSpec)) fnExactImmediateClashesCard

/-- THE TIED CARD OF 'laws.FnExactAfterConfiguration'. -/
def fnExactAfterConfigurationCard : Claim7 := { stood := { row := fnExactAfterConfigurationRow, standIns := [], harness := (true, "6956cb0492c8ddf85c8cf2a704f599cd7b5fcaea89231372dbd96791aeb0122b"), looks := false }, kinds := [], alts := [], laidByText := true, laidKinds := [.data], laidTests := true, laidLooks := .later }
def FnExactAfterConfigurationCardSaid : Prop := Claim7.holds Tryd.pinned (.plain (OpenSpec.ofChange fnExactAfterConfigurationSpec)) fnExactAfterConfigurationCard

/-- THE TIED CARD OF 'laws.FnExactIsomorphismOf'. -/
def fnExactIsomorphismOfCard : Claim7 := { stood := { row := fnExactIsomorphismOfRow, standIns := [], harness := (true, "6956cb0492c8ddf85c8cf2a704f599cd7b5fcaea89231372dbd96791aeb0122b"), looks := false }, kinds := [], alts := [], laidByText := true, laidKinds := [.data], laidTests := true, laidLooks := .later }
def FnExactIsomorphismOfCardSaid : Prop := Claim7.holds Tryd.pinned (.plain (OpenSpec.ofChange fnExactIsomorphismOfSpec)) fnExactIsomorphismOfCard

/-- THE TIED CARD OF 'laws.FnExactIsTraceStructure'. -/
def fnExactIsTraceStructureCard : Claim7 := { stood := { row := fnExactIsTraceStructureRow, standIns := [], harness := (true, "6956cb0492c8ddf85c8cf2a704f599cd7b5fcaea89231372dbd96791aeb0122b"), looks := false }, kinds := [], alts := [], laidByText := true, laidKinds := [.data], laidTests := true, laidLooks := .later }
def FnExactIsTraceStructureCardSaid : Prop := Claim7.holds Tryd.pinned (.plain (OpenSpec.ofChange fnExactIsTraceStructureSpec)) fnExactIsTraceStructureCard

/-- THE TIED CARD OF 'laws.FnExactWordOfConfiguration'. -/
def fnExactWordOfConfigurationCard : Claim7 := { stood := { row := fnExactWordOfConfigurationRow, standIns := [], harness := (true, "6956cb0492c8ddf85c8cf2a704f599cd7b5fcaea89231372dbd96791aeb0122b"), looks := false }, kinds := [], alts := [], laidByText := true, laidKinds := [.data], laidTests := true, laidLooks := .later }
def FnExactWordOfConfigurationCardSaid : Prop := Claim7.holds Tryd.pinned (.plain (OpenSpec.ofChange fnExactWordOfConfigurationSpec)) fnExactWordOfConfigurationCard

/-- THE SECOND FORM's CARD OF 'laws.FnExactIsConfiguration'. -/
def fnExactIsConfigurationUptoCard : Claim7 := { stood := { row := fnExactIsConfigurationUptoRow, standIns := [], harness := (true, "6956cb0492c8ddf85c8cf2a704f599cd7b5fcaea89231372dbd96791aeb0122b"), looks := false }, kinds := [], alts := [], laidByText := true, laidKinds := [.data], laidTests := true, laidLooks := .later }
def FnExactIsConfigurationUptoCardSaid : Prop := Claim7.holds Tryd.pinned (.plain (OpenSpec.upto fnExactIsConfigurationSpec)) fnExactIsConfigurationUptoCard

/-- THE SECOND FORM's CARD OF 'laws.FnExactCountOrders'. -/
def fnExactCountOrdersUptoCard : Claim7 := { stood := { row := fnExactCountOrdersUptoRow, standIns := [], harness := (true, "6956cb0492c8ddf85c8cf2a704f599cd7b5fcaea89231372dbd96791aeb0122b"), looks := false }, kinds := [], alts := [], laidByText := true, laidKinds := [.data], laidTests := true, laidLooks := .later }
def FnExactCountOrdersUptoCardSaid : Prop := Claim7.holds Tryd.pinned (.plain (OpenSpec.upto fnExactCountOrdersSpec)) fnExactCountOrdersUptoCard

/-- THE SECOND FORM's CARD OF 'laws.FnExactImmediateClashes'. -/
def fnExactImmediateClashesUptoCard : Claim7 := { stood := { row := fnExactImmediateClashesUptoRow, standIns := [], harness := (true, "6956cb0492c8ddf85c8cf2a704f599cd7b5fcaea89231372dbd96791aeb0122b"), looks := false }, kinds := [], alts := [], laidByText := true, laidKinds := [.data], laidTests := true, laidLooks := .later }
def FnExactImmediateClashesUptoCardSaid : Prop := Claim7.holds Tryd.pinned (.plain (OpenSpec.upto fnExactImmediateClashesSpec)) fnExactImmediateClashesUptoCard

/-- THE SECOND FORM's CARD OF 'laws.FnExactAfterConfiguration'. -/
def fnExactAfterConfigurationUptoCard : Claim7 := { stood := { row := fnExactAfterConfigurationUptoRow, standIns := [], harness := (true, "6956cb0492c8ddf85c8cf2a704f599cd7b5fcaea89231372dbd96791aeb0122b"), looks := false }, kinds := [], alts := [], laidByText := true, laidKinds := [.data], laidTests := true, laidLooks := .later }
def FnExactAfterConfigurationUptoCardSaid : Prop := Claim7.holds Tryd.pinned (.plain (OpenSpec.upto fnExactAfterConfigurationSpec)) fnExactAfterConfigurationUptoCard

/-- THE SECOND FORM's CARD OF 'laws.FnExactIsomorphismOf'. -/
def fnExactIsomorphismOfUptoCard : Claim7 := { stood := { row := fnExactIsomorphismOfUptoRow, standIns := [], harness := (true, "6956cb0492c8ddf85c8cf2a704f599cd7b5fcaea89231372dbd96791aeb0122b"), looks := false }, kinds := [], alts := [], laidByText := true, laidKinds := [.data], laidTests := true, laidLooks := .later }
def FnExactIsomorphismOfUptoCardSaid : Prop := Claim7.holds Tryd.pinned (.plain (OpenSpec.upto fnExactIsomorphismOfSpec)) fnExactIsomorphismOfUptoCard

/-- THE SECOND FORM's CARD OF 'laws.FnExactIsTraceStructure'. -/
def fnExactIsTraceStructureUptoCard : Claim7 := { stood := { row := fnExactIsTraceStructureUptoRow, standIns := [], harness := (true, "6956cb0492c8ddf85c8cf2a704f599cd7b5fcaea89231372dbd96791aeb0122b"), looks := false }, kinds := [], alts := [], laidByText := true, laidKinds := [.data], laidTests := true, laidLooks := .later }
def FnExactIsTraceStructureUptoCardSaid : Prop := Claim7.holds Tryd.pinned (.plain (OpenSpec.upto fnExactIsTraceStructureSpec)) fnExactIsTraceStructureUptoCard

/-- THE SECOND FORM's CARD OF 'laws.FnExactWordOfConfiguration'. -/
def fnExactWordOfConfigurationUptoCard : Claim7 := { stood := { row := fnExactWordOfConfigurationUptoRow, standIns := [], harness := (true, "6956cb0492c8ddf85c8cf2a704f599cd7b5fcaea89231372dbd96791aeb0122b"), looks := false }, kinds := [], alts := [], laidByText := true, laidKinds := [.data], laidTests := true, laidLooks := .later }
def FnExactWordOfConfigurationUptoCardSaid : Prop := Claim7.holds Tryd.pinned (.plain (OpenSpec.upto fnExactWordOfConfigurationSpec)) fnExactWordOfConfigurationUptoCard
end Rows
end Go.Proofs.YtehljilmofgioaaDoor
