/-
  DERIVED. GIVEN WITH THE SEED: THE PROGRAM's TIES (one call each: nine closed facts by the kernel) AND EACH ROW's TIE, after the 31st guide's Derived/Test/Toyas{Tie, Card}.lean. No idea stands in it: it is a product of the set-up. Laid BY PROGRAM, IN A SANDBOX (cutbox-door.mjs). By AI agents, Wed Nov 11 2026. No macro, syntax, notation, axiom, sorry.
-/
import Derived.Test.YtlolnpilpdkbkaaDoorRows
import Derived.LaidByTextLater
import Derived.SevenTiedAt
import Derived.LaidSub
import Derived.LaidOnce
namespace Go.Proofs.YtlolnpilpdkbkaaDoor
open Go
set_option maxRecDepth 100000
theorem seatTie1 : Tryd.prog.laidByTextLater [("gleaner/gleanerref02.added", Rows.laid_gleaner_gleanerref02_added), ("gleaner/gleanerref02.begin", Rows.laid_gleaner_gleanerref02_begin), ("gleaner/sha.added", Rows.laid_gleaner_sha_added)] [.data, .data, .data] true :=
  Program.laidByTextLater_by_one 24 8 65 (by kernel_rfl) (by kernel_rfl) (by kernel_rfl) (by kernel_rfl) (by kernel_rfl) (by kernel_rfl) (fun _ _ => by kernel_rfl)
theorem noOwnUnsafe : Tryd.pinned.checked.prog.headLifts.contains "ownunsafe" = false := by kernel_rfl
theorem tie : Tryd.prog.laidByTextLater [("gleaner/gleanerref02.added", Rows.laid_gleaner_gleanerref02_added), ("gleaner/gleanerref02.begin", Rows.laid_gleaner_gleanerref02_begin), ("gleaner/sha.added", Rows.laid_gleaner_sha_added)] [.data, .data, .data] true :=
  Program.laidByTextLater.sub seatTie1 ["gleaner/gleanerref02.added", "gleaner/gleanerref02.begin", "gleaner/sha.added"] (by kernel_rfl) (by kernel_rfl)
theorem keyExact_row_tie : Rows.keyExactRow.laidByTextAt .later Tryd.pinned [.data, .data, .data] true :=
  OpenClaim.laidByTextAt_later rfl rfl tie noOwnUnsafe
theorem keyExactUpto_row_tie : Rows.keyExactUptoRow.laidByTextAt .later Tryd.pinned [.data, .data, .data] true :=
  OpenClaim.laidByTextAt_later rfl rfl tie noOwnUnsafe
end Go.Proofs.YtlolnpilpdkbkaaDoor
