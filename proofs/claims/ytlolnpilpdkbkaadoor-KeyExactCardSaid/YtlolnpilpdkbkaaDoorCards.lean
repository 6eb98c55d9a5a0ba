/-
  DERIVED. GIVEN WITH THE SEED: THE CARDS: each row of YtlolnpilpdkbkaaDoorRows.lean that lists a variable, with what it lists TIED to the program's text (the seventh form; the later family's looks); each row that meets fmt, with fmt's text TOLD by the authors' own Lean function (tested against real Go, not proved from fmt's source: count such statements apart). THE CARD IS WHAT COUNTS. Prove the row's statement (the work); the ties are given (YtlolnpilpdkbkaaDoorTie.lean); close each card by the builder's one call (the guide's Derived/Test/ToyasCard.lean, 'card_holds'). Laid BY PROGRAM, IN A SANDBOX (cutbox-door.mjs). By AI agents, Wed Nov 11 2026. No macro, syntax, notation, axiom, sorry.
-/
import Derived.Test.YtlolnpilpdkbkaaDoorRows
import GoSem.ClaimSeven
namespace Go.Proofs.YtlolnpilpdkbkaaDoor
namespace Rows

/-- THE TIED CARD OF 'gleanerlaw03.KeyExact'. -/
def keyExactCard : Claim7 := { stood := { row := keyExactRow, standIns := [], harness := (true, "a3bc72fbb752cdaf972b1e78768cc78e1ba5e61252abe1c70132d0b4a28fe48d"), looks := false }, kinds := [], alts := [], laidByText := true, laidKinds := [.data, .data, .data], laidTests := true, laidLooks := .later }
def KeyExactCardSaid : Prop := Claim7.holds Tryd.pinned (.plain (OpenSpec.ofChange keyExactSpec)) keyExactCard

/-- THE SECOND FORM's CARD OF 'gleanerlaw03.KeyExact'. -/
def keyExactUptoCard : Claim7 := { stood := { row := keyExactUptoRow, standIns := [], harness := (true, "a3bc72fbb752cdaf972b1e78768cc78e1ba5e61252abe1c70132d0b4a28fe48d"), looks := false }, kinds := [], alts := [], laidByText := true, laidKinds := [.data, .data, .data], laidTests := true, laidLooks := .later }
def KeyExactUptoCardSaid : Prop := Claim7.holds Tryd.pinned (.plain (OpenSpec.upto keyExactSpec)) keyExactUptoCard
end Rows
end Go.Proofs.YtlolnpilpdkbkaaDoor
