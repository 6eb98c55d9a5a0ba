/- RootsStay: the argument opened. -/
import Derived.Test.YtakcnkmlglkkpaaPkU2
import Derived.Test.YtakcnkmlglkkpaaPkR41

namespace Go.Proofs.Ytakcnkmlglkkpaa
open Go.RowKit

theorem rootsStay_calls {H : Type} {enc : TypeId × Value → H} (W : World) (base : Nat) (v0 : Value) (d0 : DataW H) (p0 : List MemPlace)
    (o0 : Value.okWide Try.prog W .any base 27 v0) (h0 : DataW.Trod enc Try.prog W 0 (fun _ => true) true 27 v0 d0 p0)
    (hsz : (DataW.weightsEach Try.prog [27] [d0]).all (· ≤ reachBytes) = true) :
    Calls Try.prog 6 #[v0] W fun e W' => e = .returned (.bool true) ∧ Below W.heap.size W W' := by
  obtain ⟨b, l, ss, A1, A2, c1, c2, rfl, r1, r2, ht⟩ := script_open W base v0 d0 p0 o0 h0 (jj := 0) hsz rfl rfl
  exact stay_any W b l ss A1 _ c1 A2 _ c2 rfl rfl r1 r2 ht
end Go.Proofs.Ytakcnkmlglkkpaa
