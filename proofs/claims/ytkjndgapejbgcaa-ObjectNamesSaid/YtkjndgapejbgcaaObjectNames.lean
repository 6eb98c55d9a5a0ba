/- ObjectNames: the law's walk: the errors' and the limits' numbers. -/
import Derived.Test.YtkjndgapejbgcaaProg
import Derived.Test.YtkjndgapejbgcaaBase
namespace Go.Proofs.Ytkjndgapejbgcaa
open Go.RowKit
theorem objectNames_calls {H : Type} (W : World) (_base : Nat) (_hsz : (DataW.weightsEach (H := H) Try.prog [] []).all (· ≤ reachBytes) = true) :
    Calls Try.prog 3 #[] W fun e W' => e = .returned (.bool true) ∧ Below W.heap.size W W' := by
  go_enter Try.func3, Try.ntmps3
  go_wp2
  go_ret
  exact ⟨rfl, Below.refl _ _⟩
end Go.Proofs.Ytkjndgapejbgcaa
