/-
  DERIVED. GIVEN WITH THE SEED: THE CARDS: each row of YtmpdpjpebekfkaaDoorRows.lean that lists a variable, with what it lists TIED to the program's text (the seventh form; the later family's looks); each row that meets fmt, with fmt's text TOLD by the authors' own Lean function (tested against real Go, not proved from fmt's source: count such statements apart). THE CARD IS WHAT COUNTS. Prove the row's statement (the work); the ties are given (YtmpdpjpebekfkaaDoorTie.lean); close each card by the builder's one call (the guide's Derived/Test/ToyasCard.lean, 'card_holds'). Laid BY PROGRAM, IN A SANDBOX (cutbox-door.mjs). By AI agents, Wed Nov 11 2026. No macro, syntax, notation, axiom, sorry.
-/
import Derived.Test.YtmpdpjpebekfkaaDoorRows
import GoSem.ClaimSeven
namespace Go.Proofs.YtmpdpjpebekfkaaDoor
namespace Rows

/-- THE TIED CARD OF 'laws.FnExactRunFrom'. -/
def fnExactRunFromCard : Claim7 := { stood := { row := fnExactRunFromRow, standIns := [], harness := (true, "1d6496233a4ec3ec329a60a5d23141867875d9893b43087e1993e6d5bd6b4401"), looks := false }, kinds := [], alts := [], laidByText := true, laidKinds := [.data], laidTests := true, laidLooks := .later }
def FnExactRunFromCardSaid : Prop := Claim7.holds Tryd.pinned (.plain (OpenSpec.ofChange fnExactRunFromSpec)) fnExactRunFromCard

/-- THE TIED CARD OF 'laws.FnGossip'. -/
def fnGossipCard : Claim7 := { stood := { row := fnGossipRow, standIns := [], harness := (true, "1d6496233a4ec3ec329a60a5d23141867875d9893b43087e1993e6d5bd6b4401"), looks := false }, kinds := [], alts := [], laidByText := true, laidKinds := [.data], laidTests := true, laidLooks := .later }
def FnGossipCardSaid : Prop := Claim7.holds Tryd.pinned (.plain (OpenSpec.ofChange fnGossipSpec)) fnGossipCard

/-- THE TIED CARD OF 'laws.FnStamps'. -/
def fnStampsCard : Claim7 := { stood := { row := fnStampsRow, standIns := [], harness := (true, "1d6496233a4ec3ec329a60a5d23141867875d9893b43087e1993e6d5bd6b4401"), looks := false }, kinds := [], alts := [], laidByText := true, laidKinds := [.data], laidTests := true, laidLooks := .later }
def FnStampsCardSaid : Prop := Claim7.holds Tryd.pinned (.plain (OpenSpec.ofChange fnStampsSpec)) fnStampsCard

/-- THE TIED CARD OF 'laws.FnIsomorphisms'. -/
def fnIsomorphismsCard : Claim7 := { stood := { row := fnIsomorphismsRow, standIns := [], harness := (true, "1d6496233a4ec3ec329a60a5d23141867875d9893b43087e1993e6d5bd6b4401"), looks := false }, kinds := [], alts := [], laidByText := true, laidKinds := [.data], laidTests := true, laidLooks := .later }
def FnIsomorphismsCardSaid : Prop := Claim7.holds Tryd.pinned (.plain (OpenSpec.ofChange fnIsomorphismsSpec)) fnIsomorphismsCard

/-- THE TIED CARD OF 'laws.FnExactGlobalStates'. -/
def fnExactGlobalStatesCard : Claim7 := { stood := { row := fnExactGlobalStatesRow, standIns := [], harness := (true, "1d6496233a4ec3ec329a60a5d23141867875d9893b43087e1993e6d5bd6b4401"), looks := false }, kinds := [], alts := [], laidByText := true, laidKinds := [.data], laidTests := true, laidLooks := .later }
def FnExactGlobalStatesCardSaid : Prop := Claim7.holds Tryd.pinned (.plain (OpenSpec.ofChange fnExactGlobalStatesSpec)) fnExactGlobalStatesCard

/-- THE SECOND FORM's CARD OF 'laws.FnExactRunFrom'. -/
def fnExactRunFromUptoCard : Claim7 := { stood := { row := fnExactRunFromUptoRow, standIns := [], harness := (true, "1d6496233a4ec3ec329a60a5d23141867875d9893b43087e1993e6d5bd6b4401"), looks := false }, kinds := [], alts := [], laidByText := true, laidKinds := [.data], laidTests := true, laidLooks := .later }
def FnExactRunFromUptoCardSaid : Prop := Claim7.holds Tryd.pinned (.plain (OpenSpec.upto fnExactRunFromSpec)) fnExactRunFromUptoCard

/-- THE SECOND FORM's CARD OF 'laws.FnGossip'. -/
def fnGossipUptoCard : Claim7 := { stood := { row := fnGossipUptoRow, standIns := [], harness := (true, "1d6496233a4ec3ec329a60a5d23141867875d9893b43087e1993e6d5bd6b4401"), looks := false }, kinds := [], alts := [], laidByText := true, laidKinds := [.data], laidTests := true, laidLooks := .later }
def FnGossipUptoCardSaid : Prop := Claim7.holds Tryd.pinned (.plain (OpenSpec.upto fnGossipSpec)) fnGossipUptoCard

/-- THE SECOND FORM's CARD OF 'laws.FnStamps'. -/
def fnStampsUptoCard : Claim7 := { stood := { row := fnStampsUptoRow, standIns := [], harness := (true, "1d6496233a4ec3ec329a60a5d23141867875d9893b43087e1993e6d5bd6b4401"), looks := false }, kinds := [], alts := [], laidByText := true, laidKinds := [.data], laidTests := true, laidLooks := .later }
def FnStampsUptoCardSaid : Prop := Claim7.holds Tryd.pinned (.plain (OpenSpec.upto fnStampsSpec)) fnStampsUptoCard

/-- THE SECOND FORM's CARD OF 'laws.FnIsomorphisms'. -/
def fnIsomorphismsUptoCard : Claim7 := { stood := { row := fnIsomorphismsUptoRow, standIns := [], harness := (true, "1d6496233a4ec3ec329a60a5d23141867875d9893b43087e1993e6d5bd6b4401"), looks := false }, kinds := [], alts := [], laidByText := true, laidKinds := [.data], laidTests := true, laidLooks := .later }
def FnIsomorphismsUptoCardSaid : Prop := Claim7.holds Tryd.pinned (.plain (OpenSpec.upto fnIsomorphismsSpec)) fnIsomorphismsUptoCard

/-- THE SECOND FORM's CARD OF 'laws.FnExactGlobalStates'. -/
def fnExactGlobalStatesUptoCard : Claim7 := { stood := { row := fnExactGlobalStatesUptoRow, standIns := [], harness := (true, "1d6496233a4ec3ec329a60a5d23141867875d9893b43087e1993e6d5bd6b4401"), looks := false }, kinds := [], alts := [], laidByText := true, laidKinds := [.data], laidTests := true, laidLooks := .later }
def FnExactGlobalStatesUptoCardSaid : Prop := Claim7.holds Tryd.pinned (.plain (OpenSpec.upto fnExactGlobalStatesSpec)) fnExactGlobalStatesUptoCard
end Rows
end Go.Proofs.YtmpdpjpebekfkaaDoor
