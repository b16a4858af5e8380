/-
  DERIVED. GIVEN WITH THE SEED: THE CARDS: each row of YtfkplolefaijiaaDoorRows.lean that lists a variable, with what it lists TIED to the program's text (the seventh form; the later family's looks); each row that meets fmt, with fmt's text TOLD by the authors' own Lean function (tested against real Go, not proved from fmt's source: count such statements apart). THE CARD IS WHAT COUNTS. Prove the row's statement (the work); the ties are given (YtfkplolefaijiaaDoorTie.lean); close each card by the builder's one call (the guide's Derived/Test/ToyasCard.lean, 'card_holds'). Laid BY PROGRAM, IN A SANDBOX (cutbox-door.mjs). By AI agents, Wed Nov 11 2026. No macro, syntax, notation, axiom, sorry.
-/
import Derived.Test.YtfkplolefaijiaaDoorRows
import GoSem.ClaimSeven
namespace Go.Proofs.YtfkplolefaijiaaDoor
namespace Rows

/-- THE TIED CARD OF 'laws.FnExactViewOf'. -/
def fnExactViewOfCard : Claim7 := { stood := { row := fnExactViewOfRow, standIns := [], harness := (true, "d90f89bb11f097944a787038959fc2fc6077f768a3d5eebb9347fe332144e229"), looks := false }, kinds := [], alts := [], laidByText := true, laidKinds := [.data], laidTests := true, laidLooks := .later }
def FnExactViewOfCardSaid : Prop := Claim7.holds Tryd.pinned (.plain (OpenSpec.ofChange fnExactViewOfSpec)) fnExactViewOfCard

/-- THE TIED CARD OF 'laws.FnExactPastByStamps'. -/
def fnExactPastByStampsCard : Claim7 := { stood := { row := fnExactPastByStampsRow, standIns := [], harness := (true, "d90f89bb11f097944a787038959fc2fc6077f768a3d5eebb9347fe332144e229"), looks := false }, kinds := [], alts := [], laidByText := true, laidKinds := [.data], laidTests := true, laidLooks := .later }
def FnExactPastByStampsCardSaid : Prop := Claim7.holds Tryd.pinned (.plain (OpenSpec.ofChange fnExactPastByStampsSpec)) fnExactPastByStampsCard

/-- THE TIED CARD OF 'laws.FnExactNewerOf'. -/
def fnExactNewerOfCard : Claim7 := { stood := { row := fnExactNewerOfRow, standIns := [], harness := (true, "d90f89bb11f097944a787038959fc2fc6077f768a3d5eebb9347fe332144e229"), looks := false }, kinds := [], alts := [], laidByText := true, laidKinds := [.data], laidTests := true, laidLooks := .later }
def FnExactNewerOfCardSaid : Prop := Claim7.holds Tryd.pinned (.plain (OpenSpec.ofChange fnExactNewerOfSpec)) fnExactNewerOfCard

/-- THE TIED CARD OF 'laws.FnExactStampsOf'. -/
def fnExactStampsOfCard : Claim7 := { stood := { row := fnExactStampsOfRow, standIns := [], harness := (true, "d90f89bb11f097944a787038959fc2fc6077f768a3d5eebb9347fe332144e229"), looks := false }, kinds := [], alts := [], laidByText := true, laidKinds := [.data], laidTests := true, laidLooks := .later }
def FnExactStampsOfCardSaid : Prop := Claim7.holds Tryd.pinned (.plain (OpenSpec.ofChange fnExactStampsOfSpec)) fnExactStampsOfCard

/-- THE TIED CARD OF 'laws.FnExactLatestKnown'. -/
def fnExactLatestKnownCard : Claim7 := { stood := { row := fnExactLatestKnownRow, standIns := [], harness := (true, "d90f89bb11f097944a787038959fc2fc6077f768a3d5eebb9347fe332144e229"), looks := false }, kinds := [], alts := [], laidByText := true, laidKinds := [.data], laidTests := true, laidLooks := .later }
def FnExactLatestKnownCardSaid : Prop := Claim7.holds Tryd.pinned (.plain (OpenSpec.ofChange fnExactLatestKnownSpec)) fnExactLatestKnownCard

/-- THE TIED CARD OF 'laws.FnExactKnownCounts'. -/
def fnExactKnownCountsCard : Claim7 := { stood := { row := fnExactKnownCountsRow, standIns := [], harness := (true, "d90f89bb11f097944a787038959fc2fc6077f768a3d5eebb9347fe332144e229"), looks := false }, kinds := [], alts := [], laidByText := true, laidKinds := [.data], laidTests := true, laidLooks := .later }
def FnExactKnownCountsCardSaid : Prop := Claim7.holds Tryd.pinned (.plain (OpenSpec.ofChange fnExactKnownCountsSpec)) fnExactKnownCountsCard

/-- THE TIED CARD OF 'laws.FnExactSecondHand'. -/
def fnExactSecondHandCard : Claim7 := { stood := { row := fnExactSecondHandRow, standIns := [], harness := (true, "d90f89bb11f097944a787038959fc2fc6077f768a3d5eebb9347fe332144e229"), looks := false }, kinds := [], alts := [], laidByText := true, laidKinds := [.data], laidTests := true, laidLooks := .later }
def FnExactSecondHandCardSaid : Prop := Claim7.holds Tryd.pinned (.plain (OpenSpec.ofChange fnExactSecondHandSpec)) fnExactSecondHandCard

/-- THE TIED CARD OF 'laws.FnExactLabelsOf'. -/
def fnExactLabelsOfCard : Claim7 := { stood := { row := fnExactLabelsOfRow, standIns := [], harness := (true, "d90f89bb11f097944a787038959fc2fc6077f768a3d5eebb9347fe332144e229"), looks := false }, kinds := [], alts := [], laidByText := true, laidKinds := [.data], laidTests := true, laidLooks := .later }
def FnExactLabelsOfCardSaid : Prop := Claim7.holds Tryd.pinned (.plain (OpenSpec.ofChange fnExactLabelsOfSpec)) fnExactLabelsOfCard

/-- THE TIED CARD OF 'laws.FnExactNewerByLabels'. -/
def fnExactNewerByLabelsCard : Claim7 := { stood := { row := fnExactNewerByLabelsRow, standIns := [], harness := (true, "d90f89bb11f097944a787038959fc2fc6077f768a3d5eebb9347fe332144e229"), looks := false }, kinds := [], alts := [], laidByText := true, laidKinds := [.data], laidTests := true, laidLooks := .later }
def FnExactNewerByLabelsCardSaid : Prop := Claim7.holds Tryd.pinned (.plain (OpenSpec.ofChange fnExactNewerByLabelsSpec)) fnExactNewerByLabelsCard

/-- THE SECOND FORM's CARD OF 'laws.FnExactViewOf'. -/
def fnExactViewOfUptoCard : Claim7 := { stood := { row := fnExactViewOfUptoRow, standIns := [], harness := (true, "d90f89bb11f097944a787038959fc2fc6077f768a3d5eebb9347fe332144e229"), looks := false }, kinds := [], alts := [], laidByText := true, laidKinds := [.data], laidTests := true, laidLooks := .later }
def FnExactViewOfUptoCardSaid : Prop := Claim7.holds Tryd.pinned (.plain (OpenSpec.upto fnExactViewOfSpec)) fnExactViewOfUptoCard

/-- THE SECOND FORM's CARD OF 'laws.FnExactPastByStamps'. -/
def fnExactPastByStampsUptoCard : Claim7 := { stood := { row := fnExactPastByStampsUptoRow, standIns := [], harness := (true, "d90f89bb11f097944a787038959fc2fc6077f768a3d5eebb9347fe332144e229"), looks := false }, kinds := [], alts := [], laidByText := true, laidKinds := [.data], laidTests := true, laidLooks := .later }
def FnExactPastByStampsUptoCardSaid : Prop := Claim7.holds Tryd.pinned (.plain (OpenSpec.upto fnExactPastByStampsSpec)) fnExactPastByStampsUptoCard

/-- THE SECOND FORM's CARD OF 'laws.FnExactNewerOf'. -/
def fnExactNewerOfUptoCard : Claim7 := { stood := { row := fnExactNewerOfUptoRow, standIns := [], harness := (true, "d90f89bb11f097944a787038959fc2fc6077f768a3d5eebb9347fe332144e229"), looks := false }, kinds := [], alts := [], laidByText := true, laidKinds := [.data], laidTests := true, laidLooks := .later }
def FnExactNewerOfUptoCardSaid : Prop := Claim7.holds Tryd.pinned (.plain (OpenSpec.upto fnExactNewerOfSpec)) fnExactNewerOfUptoCard

/-- THE SECOND FORM's CARD OF 'laws.FnExactStampsOf'. -/
def fnExactStampsOfUptoCard : Claim7 := { stood := { row := fnExactStampsOfUptoRow, standIns := [], harness := (true, "d90f89bb11f097944a787038959fc2fc6077f768a3d5eebb9347fe332144e229"), looks := false }, kinds := [], alts := [], laidByText := true, laidKinds := [.data], laidTests := true, laidLooks := .later }
def FnExactStampsOfUptoCardSaid : Prop := Claim7.holds Tryd.pinned (.plain (OpenSpec.upto fnExactStampsOfSpec)) fnExactStampsOfUptoCard

/-- THE SECOND FORM's CARD OF 'laws.FnExactLatestKnown'. -/
def fnExactLatestKnownUptoCard : Claim7 := { stood := { row := fnExactLatestKnownUptoRow, standIns := [], harness := (true, "d90f89bb11f097944a787038959fc2fc6077f768a3d5eebb9347fe332144e229"), looks := false }, kinds := [], alts := [], laidByText := true, laidKinds := [.data], laidTests := true, laidLooks := .later }
def FnExactLatestKnownUptoCardSaid : Prop := Claim7.holds Tryd.pinned (.plain (OpenSpec.upto fnExactLatestKnownSpec)) fnExactLatestKnownUptoCard

/-- THE SECOND FORM's CARD OF 'laws.FnExactKnownCounts'. -/
def fnExactKnownCountsUptoCard : Claim7 := { stood := { row := fnExactKnownCountsUptoRow, standIns := [], harness := (true, "d90f89bb11f097944a787038959fc2fc6077f768a3d5eebb9347fe332144e229"), looks := false }, kinds := [], alts := [], laidByText := true, laidKinds := [.data], laidTests := true, laidLooks := .later }
def FnExactKnownCountsUptoCardSaid : Prop := Claim7.holds Tryd.pinned (.plain (OpenSpec.upto fnExactKnownCountsSpec)) fnExactKnownCountsUptoCard

/-- THE SECOND FORM's CARD OF 'laws.FnExactSecondHand'. -/
def fnExactSecondHandUptoCard : Claim7 := { stood := { row := fnExactSecondHandUptoRow, standIns := [], harness := (true, "d90f89bb11f097944a787038959fc2fc6077f768a3d5eebb9347fe332144e229"), looks := false }, kinds := [], alts := [], laidByText := true, laidKinds := [.data], laidTests := true, laidLooks := .later }
def FnExactSecondHandUptoCardSaid : Prop := Claim7.holds Tryd.pinned (.plain (OpenSpec.upto fnExactSecondHandSpec)) fnExactSecondHandUptoCard

/-- THE SECOND FORM's CARD OF 'laws.FnExactLabelsOf'. -/
def fnExactLabelsOfUptoCard : Claim7 := { stood := { row := fnExactLabelsOfUptoRow, standIns := [], harness := (true, "d90f89bb11f097944a787038959fc2fc6077f768a3d5eebb9347fe332144e229"), looks := false }, kinds := [], alts := [], laidByText := true, laidKinds := [.data], laidTests := true, laidLooks := .later }
def FnExactLabelsOfUptoCardSaid : Prop := Claim7.holds Tryd.pinned (.plain (OpenSpec.upto fnExactLabelsOfSpec)) fnExactLabelsOfUptoCard

/-- THE SECOND FORM's CARD OF 'laws.FnExactNewerByLabels'. -/
def fnExactNewerByLabelsUptoCard : Claim7 := { stood := { row := fnExactNewerByLabelsUptoRow, standIns := [], harness := (true, "d90f89bb11f097944a787038959fc2fc6077f768a3d5eebb9347fe332144e229"), looks := false }, kinds := [], alts := [], laidByText := true, laidKinds := [.data], laidTests := true, laidLooks := .later }
def FnExactNewerByLabelsUptoCardSaid : Prop := Claim7.holds Tryd.pinned (.plain (OpenSpec.upto fnExactNewerByLabelsSpec)) fnExactNewerByLabelsUptoCard
end Rows
end Go.Proofs.YtfkplolefaijiaaDoor
