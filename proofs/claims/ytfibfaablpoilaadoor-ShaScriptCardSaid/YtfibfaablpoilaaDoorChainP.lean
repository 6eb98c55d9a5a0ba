/- ShaChains: small plain words. -/
import Derived.Test.YtfibfaablpoilaaDoorLivesW
import Derived.Test.YtfibfaablpoilaaDoorTabs
namespace Go.Proofs.YtfibfaablpoilaaDoor
open Go.RowKit

set_option maxRecDepth 100000 in
theorem digests_ne : digest ksL [97, 98] ≠ digest ksL [97, 98, 99] := by
  have h : (digest ksL [97, 98] == digest ksL [97, 98, 99]) = false := by kernel_rfl
  intro e
  rw [e] at h
  simp at h
end Go.Proofs.YtfibfaablpoilaaDoor
