/-
  DERIVED. GIVEN WITH THE SEED: THE CARDS: each row of YtnjbpacnmiimlaaDoorRows.lean that lists a variable, with what it lists TIED to the program's text (the seventh form; the later family's looks); each row that meets fmt, with fmt's text TOLD by the authors' own Lean function (tested against real Go, not proved from fmt's source: count such statements apart). THE CARD IS WHAT COUNTS. Prove the row's statement (the work); the ties are given (YtnjbpacnmiimlaaDoorTie.lean); close each card by the builder's one call (the guide's Derived/Test/ToyasCard.lean, 'card_holds'). Laid BY PROGRAM, IN A SANDBOX (cutbox-door.mjs). By AI agents, Wed Nov 11 2026. No macro, syntax, notation, axiom, sorry.
-/
import Derived.Test.YtnjbpacnmiimlaaDoorRows
import GoSem.ClaimSeven
namespace Go.Proofs.YtnjbpacnmiimlaaDoor
namespace Rows

/-- THE TIED CARD OF 'gleanerlaw05.GearCuts'. -/
def gearCutsCard : Claim7 := { stood := { row := gearCutsRow, standIns := [], harness := (true, "19b2d2fe111423515b52052201a3134cbe510fa7fcdfa1aee6955143fbf37515"), looks := false }, kinds := [], alts := [], laidByText := true, laidKinds := [.data, .data], laidTests := true, laidLooks := .later }
def GearCutsCardSaid : Prop := Claim7.holds Tryd.pinned (.plain (OpenSpec.ofChange gearCutsSpec)) gearCutsCard

/-- THE TIED CARD OF 'gleanerlaw05.GearBack'. -/
def gearBackCard : Claim7 := { stood := { row := gearBackRow, standIns := [], harness := (true, "19b2d2fe111423515b52052201a3134cbe510fa7fcdfa1aee6955143fbf37515"), looks := false }, kinds := [], alts := [], laidByText := true, laidKinds := [.data, .data], laidTests := true, laidLooks := .later }
def GearBackCardSaid : Prop := Claim7.holds Tryd.pinned (.plain (OpenSpec.ofChange gearBackSpec)) gearBackCard

/-- THE TIED CARD OF 'gleanerlaw05.GearPieces'. -/
def gearPiecesCard : Claim7 := { stood := { row := gearPiecesRow, standIns := [], harness := (true, "19b2d2fe111423515b52052201a3134cbe510fa7fcdfa1aee6955143fbf37515"), looks := false }, kinds := [], alts := [], laidByText := true, laidKinds := [.data, .data], laidTests := true, laidLooks := .later }
def GearPiecesCardSaid : Prop := Claim7.holds Tryd.pinned (.plain (OpenSpec.ofChange gearPiecesSpec)) gearPiecesCard

/-- THE TIED CARD OF 'gleanerlaw05.GearWhole'. -/
def gearWholeCard : Claim7 := { stood := { row := gearWholeRow, standIns := [], harness := (true, "19b2d2fe111423515b52052201a3134cbe510fa7fcdfa1aee6955143fbf37515"), looks := false }, kinds := [], alts := [], laidByText := true, laidKinds := [.data, .data], laidTests := true, laidLooks := .later }
def GearWholeCardSaid : Prop := Claim7.holds Tryd.pinned (.plain (OpenSpec.ofChange gearWholeSpec)) gearWholeCard

/-- THE TIED CARD OF 'gleanerlaw05.GearStreams'. -/
def gearStreamsCard : Claim7 := { stood := { row := gearStreamsRow, standIns := [], harness := (true, "19b2d2fe111423515b52052201a3134cbe510fa7fcdfa1aee6955143fbf37515"), looks := false }, kinds := [], alts := [], laidByText := true, laidKinds := [.data, .data], laidTests := true, laidLooks := .later }
def GearStreamsCardSaid : Prop := Claim7.holds Tryd.pinned (.plain (OpenSpec.ofChange gearStreamsSpec)) gearStreamsCard

/-- THE SECOND FORM's CARD OF 'gleanerlaw05.GearCuts'. -/
def gearCutsUptoCard : Claim7 := { stood := { row := gearCutsUptoRow, standIns := [], harness := (true, "19b2d2fe111423515b52052201a3134cbe510fa7fcdfa1aee6955143fbf37515"), looks := false }, kinds := [], alts := [], laidByText := true, laidKinds := [.data, .data], laidTests := true, laidLooks := .later }
def GearCutsUptoCardSaid : Prop := Claim7.holds Tryd.pinned (.plain (OpenSpec.upto gearCutsSpec)) gearCutsUptoCard

/-- THE SECOND FORM's CARD OF 'gleanerlaw05.GearBack'. -/
def gearBackUptoCard : Claim7 := { stood := { row := gearBackUptoRow, standIns := [], harness := (true, "19b2d2fe111423515b52052201a3134cbe510fa7fcdfa1aee6955143fbf37515"), looks := false }, kinds := [], alts := [], laidByText := true, laidKinds := [.data, .data], laidTests := true, laidLooks := .later }
def GearBackUptoCardSaid : Prop := Claim7.holds Tryd.pinned (.plain (OpenSpec.upto gearBackSpec)) gearBackUptoCard

/-- THE SECOND FORM's CARD OF 'gleanerlaw05.GearPieces'. -/
def gearPiecesUptoCard : Claim7 := { stood := { row := gearPiecesUptoRow, standIns := [], harness := (true, "19b2d2fe111423515b52052201a3134cbe510fa7fcdfa1aee6955143fbf37515"), looks := false }, kinds := [], alts := [], laidByText := true, laidKinds := [.data, .data], laidTests := true, laidLooks := .later }
def GearPiecesUptoCardSaid : Prop := Claim7.holds Tryd.pinned (.plain (OpenSpec.upto gearPiecesSpec)) gearPiecesUptoCard

/-- THE SECOND FORM's CARD OF 'gleanerlaw05.GearWhole'. -/
def gearWholeUptoCard : Claim7 := { stood := { row := gearWholeUptoRow, standIns := [], harness := (true, "19b2d2fe111423515b52052201a3134cbe510fa7fcdfa1aee6955143fbf37515"), looks := false }, kinds := [], alts := [], laidByText := true, laidKinds := [.data, .data], laidTests := true, laidLooks := .later }
def GearWholeUptoCardSaid : Prop := Claim7.holds Tryd.pinned (.plain (OpenSpec.upto gearWholeSpec)) gearWholeUptoCard

/-- THE SECOND FORM's CARD OF 'gleanerlaw05.GearStreams'. -/
def gearStreamsUptoCard : Claim7 := { stood := { row := gearStreamsUptoRow, standIns := [], harness := (true, "19b2d2fe111423515b52052201a3134cbe510fa7fcdfa1aee6955143fbf37515"), looks := false }, kinds := [], alts := [], laidByText := true, laidKinds := [.data, .data], laidTests := true, laidLooks := .later }
def GearStreamsUptoCardSaid : Prop := Claim7.holds Tryd.pinned (.plain (OpenSpec.upto gearStreamsSpec)) gearStreamsUptoCard
end Rows
end Go.Proofs.YtnjbpacnmiimlaaDoor
