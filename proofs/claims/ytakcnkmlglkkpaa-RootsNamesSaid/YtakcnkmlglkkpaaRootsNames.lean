/- RootsNames: the law's walk: the errors' and the limits' numbers. -/
import Derived.Test.YtakcnkmlglkkpaaProg
import Derived.Test.YtakcnkmlglkkpaaBase
namespace Go.Proofs.Ytakcnkmlglkkpaa
open Go.RowKit
theorem rootsNames_calls {H : Type} (W : World) (_base : Nat) (_hsz : (DataW.weightsEach (H := H) Try.prog [] []).all (· ≤ reachBytes) = true) :
    Calls Try.prog 3 #[] W fun e W' => e = .returned (.bool true) ∧ Below W.heap.size W W' := by
  go_enter Try.func3, Try.ntmps3
  go_wp2
  go_ret
  exact ⟨rfl, Below.refl _ _⟩
end Go.Proofs.Ytakcnkmlglkkpaa
