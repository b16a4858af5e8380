/-
  DERIVED. GIVEN WITH THE SEED: THE CARDS: each row of YtnbembgjjepbpaaDoorRows.lean that lists a variable, with what it lists TIED to the program's text (the seventh form; the later family's looks); each row that meets fmt, with fmt's text TOLD by the authors' own Lean function (tested against real Go, not proved from fmt's source: count such statements apart). THE CARD IS WHAT COUNTS. Prove the row's statement (the work); the ties are given (YtnbembgjjepbpaaDoorTie.lean); close each card by the builder's one call (the guide's Derived/Test/ToyasCard.lean, 'card_holds'). Laid BY PROGRAM, IN A SANDBOX (cutbox-door.mjs). By AI agents, Wed Nov 11 2026. No macro, syntax, notation, axiom, sorry.
-/
import Derived.Test.YtnbembgjjepbpaaDoorRows
import GoSem.ClaimSeven
namespace Go.Proofs.YtnbembgjjepbpaaDoor
namespace Rows

/-- THE TIED CARD OF 'laws.FnExactKeepTransitions'. -/
def fnExactKeepTransitionsCard : Claim7 := { stood := { row := fnExactKeepTransitionsRow, standIns := [], harness := (true, "5662c63b588d04c8f174cae606854acf5c0e1798f83e61094a0b68963585a984"), looks := false }, kinds := [], alts := [], laidByText := true, laidKinds := [.data], laidTests := true, laidLooks := .later }
def FnExactKeepTransitionsCardSaid : Prop := Claim7.holds Tryd.pinned (.plain (OpenSpec.ofChange fnExactKeepTransitionsSpec)) fnExactKeepTransitionsCard

/-- THE TIED CARD OF 'laws.FnExactIsStructure'. -/
def fnExactIsStructureCard : Claim7 := { stood := { row := fnExactIsStructureRow, standIns := [], harness := (true, "5662c63b588d04c8f174cae606854acf5c0e1798f83e61094a0b68963585a984"), looks := false }, kinds := [], alts := [], laidByText := true, laidKinds := [.data], laidTests := true, laidLooks := .later }
def FnExactIsStructureCardSaid : Prop := Claim7.holds Tryd.pinned (.plain (OpenSpec.ofChange fnExactIsStructureSpec)) fnExactIsStructureCard

/-- THE TIED CARD OF 'laws.FnExactHistoryOf'. -/
def fnExactHistoryOfCard : Claim7 := { stood := { row := fnExactHistoryOfRow, standIns := [], harness := (true, "5662c63b588d04c8f174cae606854acf5c0e1798f83e61094a0b68963585a984"), looks := false }, kinds := [], alts := [], laidByText := true, laidKinds := [.data], laidTests := true, laidLooks := .later }
def FnExactHistoryOfCardSaid : Prop := Claim7.holds Tryd.pinned (.plain (OpenSpec.ofChange fnExactHistoryOfSpec)) fnExactHistoryOfCard

/-- THE TIED CARD OF 'laws.FnExactRelationOf'. -/
def fnExactRelationOfCard : Claim7 := { stood := { row := fnExactRelationOfRow, standIns := [], harness := (true, "5662c63b588d04c8f174cae606854acf5c0e1798f83e61094a0b68963585a984"), looks := false }, kinds := [], alts := [], laidByText := true, laidKinds := [.data], laidTests := true, laidLooks := .later }
def FnExactRelationOfCardSaid : Prop := Claim7.holds Tryd.pinned (.plain (OpenSpec.ofChange fnExactRelationOfSpec)) fnExactRelationOfCard

/-- THE SECOND FORM's CARD OF 'laws.FnExactKeepTransitions'. -/
def fnExactKeepTransitionsUptoCard : Claim7 := { stood := { row := fnExactKeepTransitionsUptoRow, standIns := [], harness := (true, "5662c63b588d04c8f174cae606854acf5c0e1798f83e61094a0b68963585a984"), looks := false }, kinds := [], alts := [], laidByText := true, laidKinds := [.data], laidTests := true, laidLooks := .later }
def FnExactKeepTransitionsUptoCardSaid : Prop := Claim7.holds Tryd.pinned (.plain (OpenSpec.upto fnExactKeepTransitionsSpec)) fnExactKeepTransitionsUptoCard

/-- THE SECOND FORM's CARD OF 'laws.FnExactIsStructure'. -/
def fnExactIsStructureUptoCard : Claim7 := { stood := { row := fnExactIsStructureUptoRow, standIns := [], harness := (true, "5662c63b588d04c8f174cae606854acf5c0e1798f83e61094a0b68963585a984"), looks := false }, kinds := [], alts := [], laidByText := true, laidKinds := [.data], laidTests := true, laidLooks := .later }
def FnExactIsStructureUptoCardSaid : Prop := Claim7.holds Tryd.pinned (.plain (OpenSpec.upto fnExactIsStructureSpec)) fnExactIsStructureUptoCard

/-- THE SECOND FORM's CARD OF 'laws.FnExactHistoryOf'. -/
def fnExactHistoryOfUptoCard : Claim7 := { stood := { row := fnExactHistoryOfUptoRow, standIns := [], harness := (true, "5662c63b588d04c8f174cae606854acf5c0e1798f83e61094a0b68963585a984"), looks := false }, kinds := [], alts := [], laidByText := true, laidKinds := [.data], laidTests := true, laidLooks := .later }
def FnExactHistoryOfUptoCardSaid : Prop := Claim7.holds Tryd.pinned (.plain (OpenSpec.upto fnExactHistoryOfSpec)) fnExactHistoryOfUptoCard

/-- THE SECOND FORM's CARD OF 'laws.FnExactRelationOf'. -/
def fnExactRelationOfUptoCard : Claim7 := { stood := { row := fnExactRelationOfUptoRow, standIns := [], harness := (true, "5662c63b588d04c8f174cae606854acf5c0e1798f83e61094a0b68963585a984"), looks := false }, kinds := [], alts := [], laidByText := true, laidKinds := [.data], laidTests := true, laidLooks := .later }
def FnExactRelationOfUptoCardSaid : Prop := Claim7.holds Tryd.pinned (.plain (OpenSpec.upto fnExactRelationOfSpec)) fnExactRelationOfUptoCard
end Rows
end Go.Proofs.YtnbembgjjepbpaaDoor
