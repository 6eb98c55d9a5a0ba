/-
  DERIVED. GIVEN WITH THE SEED: THE CARDS: each row of YtfibfaablpoilaaDoorRows.lean that lists a variable, with what it lists TIED to the program's text (the seventh form; the later family's looks); each row that meets fmt, with fmt's text TOLD by the authors' own Lean function (tested against real Go, not proved from fmt's source: count such statements apart). THE CARD IS WHAT COUNTS. Prove the row's statement (the work); the ties are given (YtfibfaablpoilaaDoorTie.lean); close each card by the builder's one call (the guide's Derived/Test/ToyasCard.lean, 'card_holds'). Laid BY PROGRAM, IN A SANDBOX (cutbox-door.mjs). By AI agents, Wed Nov 11 2026. No macro, syntax, notation, axiom, sorry.
-/
import Derived.Test.YtfibfaablpoilaaDoorRows
import GoSem.ClaimSeven
namespace Go.Proofs.YtfibfaablpoilaaDoor
namespace Rows

/-- THE TIED CARD OF 'gleanerlaw02.ShaBlocks'. -/
def shaBlocksCard : Claim7 := { stood := { row := shaBlocksRow, standIns := [], harness := (true, "d5174a3a9b300e0a8e125a596e5fa608e798bf186f1589b75d2db67f6a586298"), looks := false }, kinds := [], alts := [], laidByText := true, laidKinds := [.data, .data, .data], laidTests := true, laidLooks := .later }
def ShaBlocksCardSaid : Prop := Claim7.holds Tryd.pinned (.plain (OpenSpec.ofChange shaBlocksSpec)) shaBlocksCard

/-- THE TIED CARD OF 'gleanerlaw02.ShaSums'. -/
def shaSumsCard : Claim7 := { stood := { row := shaSumsRow, standIns := [], harness := (true, "d5174a3a9b300e0a8e125a596e5fa608e798bf186f1589b75d2db67f6a586298"), looks := false }, kinds := [], alts := [], laidByText := true, laidKinds := [.data, .data, .data], laidTests := true, laidLooks := .later }
def ShaSumsCardSaid : Prop := Claim7.holds Tryd.pinned (.plain (OpenSpec.ofChange shaSumsSpec)) shaSumsCard

/-- THE TIED CARD OF 'gleanerlaw02.ShaScript'. -/
def shaScriptCard : Claim7 := { stood := { row := shaScriptRow, standIns := [], harness := (true, "d5174a3a9b300e0a8e125a596e5fa608e798bf186f1589b75d2db67f6a586298"), looks := false }, kinds := [], alts := [], laidByText := true, laidKinds := [.data, .data, .data], laidTests := true, laidLooks := .later }
def ShaScriptCardSaid : Prop := Claim7.holds Tryd.pinned (.plain (OpenSpec.ofChange shaScriptSpec)) shaScriptCard

/-- THE TIED CARD OF 'gleanerlaw02.ShaPieces'. -/
def shaPiecesCard : Claim7 := { stood := { row := shaPiecesRow, standIns := [], harness := (true, "d5174a3a9b300e0a8e125a596e5fa608e798bf186f1589b75d2db67f6a586298"), looks := false }, kinds := [], alts := [], laidByText := true, laidKinds := [.data, .data, .data], laidTests := true, laidLooks := .later }
def ShaPiecesCardSaid : Prop := Claim7.holds Tryd.pinned (.plain (OpenSpec.ofChange shaPiecesSpec)) shaPiecesCard

/-- THE TIED CARD OF 'gleanerlaw02.ShaChains'. -/
def shaChainsCard : Claim7 := { stood := { row := shaChainsRow, standIns := [], harness := (true, "d5174a3a9b300e0a8e125a596e5fa608e798bf186f1589b75d2db67f6a586298"), looks := false }, kinds := [], alts := [], laidByText := true, laidKinds := [.data, .data, .data], laidTests := true, laidLooks := .later }
def ShaChainsCardSaid : Prop := Claim7.holds Tryd.pinned (.plain (OpenSpec.ofChange shaChainsSpec)) shaChainsCard

/-- THE SECOND FORM's CARD OF 'gleanerlaw02.ShaBlocks'. -/
def shaBlocksUptoCard : Claim7 := { stood := { row := shaBlocksUptoRow, standIns := [], harness := (true, "d5174a3a9b300e0a8e125a596e5fa608e798bf186f1589b75d2db67f6a586298"), looks := false }, kinds := [], alts := [], laidByText := true, laidKinds := [.data, .data, .data], laidTests := true, laidLooks := .later }
def ShaBlocksUptoCardSaid : Prop := Claim7.holds Tryd.pinned (.plain (OpenSpec.upto shaBlocksSpec)) shaBlocksUptoCard

/-- THE SECOND FORM's CARD OF 'gleanerlaw02.ShaSums'. -/
def shaSumsUptoCard : Claim7 := { stood := { row := shaSumsUptoRow, standIns := [], harness := (true, "d5174a3a9b300e0a8e125a596e5fa608e798bf186f1589b75d2db67f6a586298"), looks := false }, kinds := [], alts := [], laidByText := true, laidKinds := [.data, .data, .data], laidTests := true, laidLooks := .later }
def ShaSumsUptoCardSaid : Prop := Claim7.holds Tryd.pinned (.plain (OpenSpec.upto shaSumsSpec)) shaSumsUptoCard

/-- THE SECOND FORM's CARD OF 'gleanerlaw02.ShaScript'. -/
def shaScriptUptoCard : Claim7 := { stood := { row := shaScriptUptoRow, standIns := [], harness := (true, "d5174a3a9b300e0a8e125a596e5fa608e798bf186f1589b75d2db67f6a586298"), looks := false }, kinds := [], alts := [], laidByText := true, laidKinds := [.data, .data, .data], laidTests := true, laidLooks := .later }
def ShaScriptUptoCardSaid : Prop := Claim7.holds Tryd.pinned (.plain (OpenSpec.upto shaScriptSpec)) shaScriptUptoCard

/-- THE SECOND FORM's CARD OF 'gleanerlaw02.ShaPieces'. -/
def shaPiecesUptoCard : Claim7 := { stood := { row := shaPiecesUptoRow, standIns := [], harness := (true, "d5174a3a9b300e0a8e125a596e5fa608e798bf186f1589b75d2db67f6a586298"), looks := false }, kinds := [], alts := [], laidByText := true, laidKinds := [.data, .data, .data], laidTests := true, laidLooks := .later }
def ShaPiecesUptoCardSaid : Prop := Claim7.holds Tryd.pinned (.plain (OpenSpec.upto shaPiecesSpec)) shaPiecesUptoCard

/-- THE SECOND FORM's CARD OF 'gleanerlaw02.ShaChains'. -/
def shaChainsUptoCard : Claim7 := { stood := { row := shaChainsUptoRow, standIns := [], harness := (true, "d5174a3a9b300e0a8e125a596e5fa608e798bf186f1589b75d2db67f6a586298"), looks := false }, kinds := [], alts := [], laidByText := true, laidKinds := [.data, .data, .data], laidTests := true, laidLooks := .later }
def ShaChainsUptoCardSaid : Prop := Claim7.holds Tryd.pinned (.plain (OpenSpec.upto shaChainsSpec)) shaChainsUptoCard
end Rows
end Go.Proofs.YtfibfaablpoilaaDoor
