/-
  DERIVED. GIVEN WITH THE SEED: THE CARDS: each row of YtkjndgapejbgcaaDoorRows.lean that lists a variable, with what it lists TIED to the program's text (the seventh form; the later family's looks); each row that meets fmt, with fmt's text TOLD by the authors' own Lean function (tested against real Go, not proved from fmt's source: count such statements apart). THE CARD IS WHAT COUNTS. Prove the row's statement (the work); the ties are given (YtkjndgapejbgcaaDoorTie.lean); close each card by the builder's one call (the guide's Derived/Test/ToyasCard.lean, 'card_holds'). Laid BY PROGRAM, IN A SANDBOX (cutbox-door.mjs). By AI agents, Wed Nov 11 2026. No macro, syntax, notation, axiom, sorry.
-/
import Derived.Test.YtkjndgapejbgcaaDoorRows
import GoSem.ClaimSeven
namespace Go.Proofs.YtkjndgapejbgcaaDoor
namespace Rows

/-- THE TIED CARD OF 'gleanerlaw04.ObjectNamed'. -/
def objectNamedCard : Claim7 := { stood := { row := objectNamedRow, standIns := [], harness := (true, "84a3035ab4fd3b1bbc3eaca6358ff6798c214499863c0b901145ce306f8e0e24"), looks := false }, kinds := [], alts := [], laidByText := true, laidKinds := [.data, .pinned], laidTests := true, laidLooks := .later }
def ObjectNamedCardSaid : Prop := Claim7.holds Tryd.pinned (.plain (OpenSpec.ofChange objectNamedSpec)) objectNamedCard

/-- THE TIED CARD OF 'gleanerlaw04.ObjectUnlike'. -/
def objectUnlikeCard : Claim7 := { stood := { row := objectUnlikeRow, standIns := [], harness := (true, "84a3035ab4fd3b1bbc3eaca6358ff6798c214499863c0b901145ce306f8e0e24"), looks := false }, kinds := [], alts := [], laidByText := true, laidKinds := [.data, .pinned], laidTests := true, laidLooks := .later }
def ObjectUnlikeCardSaid : Prop := Claim7.holds Tryd.pinned (.plain (OpenSpec.ofChange objectUnlikeSpec)) objectUnlikeCard

/-- THE TIED CARD OF 'gleanerlaw04.ObjectChecks'. -/
def objectChecksCard : Claim7 := { stood := { row := objectChecksRow, standIns := [], harness := (true, "84a3035ab4fd3b1bbc3eaca6358ff6798c214499863c0b901145ce306f8e0e24"), looks := false }, kinds := [], alts := [], laidByText := true, laidKinds := [.data, .pinned], laidTests := true, laidLooks := .later }
def ObjectChecksCardSaid : Prop := Claim7.holds Tryd.pinned (.plain (OpenSpec.ofChange objectChecksSpec)) objectChecksCard

/-- THE TIED CARD OF 'gleanerlaw04.ObjectDecodes'. -/
def objectDecodesCard : Claim7 := { stood := { row := objectDecodesRow, standIns := [], harness := (true, "84a3035ab4fd3b1bbc3eaca6358ff6798c214499863c0b901145ce306f8e0e24"), looks := false }, kinds := [], alts := [], laidByText := true, laidKinds := [.data, .pinned], laidTests := true, laidLooks := .later }
def ObjectDecodesCardSaid : Prop := Claim7.holds Tryd.pinned (.plain (OpenSpec.ofChange objectDecodesSpec)) objectDecodesCard

/-- THE TIED CARD OF 'gleanerlaw04.ObjectEncodes'. -/
def objectEncodesCard : Claim7 := { stood := { row := objectEncodesRow, standIns := [], harness := (true, "84a3035ab4fd3b1bbc3eaca6358ff6798c214499863c0b901145ce306f8e0e24"), looks := false }, kinds := [], alts := [], laidByText := true, laidKinds := [.data, .data, .data, .data, .pinned], laidTests := true, laidLooks := .later }
def ObjectEncodesCardSaid : Prop := Claim7.holds Tryd.pinned (.plain (OpenSpec.ofChange objectEncodesSpec)) objectEncodesCard

/-- THE TIED CARD OF 'gleanerlaw04.ObjectFresh'. -/
def objectFreshCard : Claim7 := { stood := { row := objectFreshRow, standIns := [], harness := (true, "84a3035ab4fd3b1bbc3eaca6358ff6798c214499863c0b901145ce306f8e0e24"), looks := false }, kinds := [], alts := [], laidByText := true, laidKinds := [.data, .pinned], laidTests := true, laidLooks := .later }
def ObjectFreshCardSaid : Prop := Claim7.holds Tryd.pinned (.plain (OpenSpec.ofChange objectFreshSpec)) objectFreshCard

/-- THE TIED CARD OF 'gleanerlaw04.ObjectBack'. -/
def objectBackCard : Claim7 := { stood := { row := objectBackRow, standIns := [], harness := (true, "84a3035ab4fd3b1bbc3eaca6358ff6798c214499863c0b901145ce306f8e0e24"), looks := false }, kinds := [], alts := [], laidByText := true, laidKinds := [.data, .data, .data, .data, .pinned], laidTests := true, laidLooks := .later }
def ObjectBackCardSaid : Prop := Claim7.holds Tryd.pinned (.plain (OpenSpec.ofChange objectBackSpec)) objectBackCard

/-- THE SECOND FORM's CARD OF 'gleanerlaw04.ObjectNamed'. -/
def objectNamedUptoCard : Claim7 := { stood := { row := objectNamedUptoRow, standIns := [], harness := (true, "84a3035ab4fd3b1bbc3eaca6358ff6798c214499863c0b901145ce306f8e0e24"), looks := false }, kinds := [], alts := [], laidByText := true, laidKinds := [.data, .pinned], laidTests := true, laidLooks := .later }
def ObjectNamedUptoCardSaid : Prop := Claim7.holds Tryd.pinned (.plain (OpenSpec.upto objectNamedSpec)) objectNamedUptoCard

/-- THE SECOND FORM's CARD OF 'gleanerlaw04.ObjectUnlike'. -/
def objectUnlikeUptoCard : Claim7 := { stood := { row := objectUnlikeUptoRow, standIns := [], harness := (true, "84a3035ab4fd3b1bbc3eaca6358ff6798c214499863c0b901145ce306f8e0e24"), looks := false }, kinds := [], alts := [], laidByText := true, laidKinds := [.data, .pinned], laidTests := true, laidLooks := .later }
def ObjectUnlikeUptoCardSaid : Prop := Claim7.holds Tryd.pinned (.plain (OpenSpec.upto objectUnlikeSpec)) objectUnlikeUptoCard

/-- THE SECOND FORM's CARD OF 'gleanerlaw04.ObjectChecks'. -/
def objectChecksUptoCard : Claim7 := { stood := { row := objectChecksUptoRow, standIns := [], harness := (true, "84a3035ab4fd3b1bbc3eaca6358ff6798c214499863c0b901145ce306f8e0e24"), looks := false }, kinds := [], alts := [], laidByText := true, laidKinds := [.data, .pinned], laidTests := true, laidLooks := .later }
def ObjectChecksUptoCardSaid : Prop := Claim7.holds Tryd.pinned (.plain (OpenSpec.upto objectChecksSpec)) objectChecksUptoCard

/-- THE SECOND FORM's CARD OF 'gleanerlaw04.ObjectDecodes'. -/
def objectDecodesUptoCard : Claim7 := { stood := { row := objectDecodesUptoRow, standIns := [], harness := (true, "84a3035ab4fd3b1bbc3eaca6358ff6798c214499863c0b901145ce306f8e0e24"), looks := false }, kinds := [], alts := [], laidByText := true, laidKinds := [.data, .pinned], laidTests := true, laidLooks := .later }
def ObjectDecodesUptoCardSaid : Prop := Claim7.holds Tryd.pinned (.plain (OpenSpec.upto objectDecodesSpec)) objectDecodesUptoCard

/-- THE SECOND FORM's CARD OF 'gleanerlaw04.ObjectEncodes'. -/
def objectEncodesUptoCard : Claim7 := { stood := { row := objectEncodesUptoRow, standIns := [], harness := (true, "84a3035ab4fd3b1bbc3eaca6358ff6798c214499863c0b901145ce306f8e0e24"), looks := false }, kinds := [], alts := [], laidByText := true, laidKinds := [.data, .data, .data, .data, .pinned], laidTests := true, laidLooks := .later }
def ObjectEncodesUptoCardSaid : Prop := Claim7.holds Tryd.pinned (.plain (OpenSpec.upto objectEncodesSpec)) objectEncodesUptoCard

/-- THE SECOND FORM's CARD OF 'gleanerlaw04.ObjectFresh'. -/
def objectFreshUptoCard : Claim7 := { stood := { row := objectFreshUptoRow, standIns := [], harness := (true, "84a3035ab4fd3b1bbc3eaca6358ff6798c214499863c0b901145ce306f8e0e24"), looks := false }, kinds := [], alts := [], laidByText := true, laidKinds := [.data, .pinned], laidTests := true, laidLooks := .later }
def ObjectFreshUptoCardSaid : Prop := Claim7.holds Tryd.pinned (.plain (OpenSpec.upto objectFreshSpec)) objectFreshUptoCard

/-- THE SECOND FORM's CARD OF 'gleanerlaw04.ObjectBack'. -/
def objectBackUptoCard : Claim7 := { stood := { row := objectBackUptoRow, standIns := [], harness := (true, "84a3035ab4fd3b1bbc3eaca6358ff6798c214499863c0b901145ce306f8e0e24"), looks := false }, kinds := [], alts := [], laidByText := true, laidKinds := [.data, .data, .data, .data, .pinned], laidTests := true, laidLooks := .later }
def ObjectBackUptoCardSaid : Prop := Claim7.holds Tryd.pinned (.plain (OpenSpec.upto objectBackSpec)) objectBackUptoCard
end Rows
end Go.Proofs.YtkjndgapejbgcaaDoor
