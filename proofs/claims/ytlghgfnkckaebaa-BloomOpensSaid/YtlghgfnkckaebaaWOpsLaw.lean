/- BloomOpens: the argument opened. -/
import Derived.Test.YtlghgfnkckaebaaWOps
import Derived.Test.YtlghgfnkckaebaaArgs
namespace Go.Proofs.Ytlghgfnkckaebaa
open Go.RowKit

set_option maxRecDepth 100000 in
theorem bloomOpens_calls {H : Type} {enc : TypeId × Value → H} (W : World) (base : Nat) (v0 : Value) (d0 : DataW H) (p0 : List MemPlace)
    (o0 : Value.okWide Try.prog W .any base 39 v0) (h0 : DataW.Trod enc Try.prog W 0 (fun _ => true) true 39 v0 d0 p0)
    (hsz : (DataW.weightsEach Try.prog [39] [d0]).all (· ≤ reachBytes) = true) :
    Calls Try.prog 8 #[v0] W fun e W' => e = .returned (.bool true) ∧ Below W.heap.size W W' := by
  obtain ⟨A, cap, l, rfl, _, _, hb, hh, h256⟩ := arg_bytes Try.underlying39 Try.underlying5 (by kernel_rfl) o0 h0
  have hl := hh.reach hsz (j := 0) (size := 1) rfl rfl Try.underlying39 (by kernel_rfl)
  exact bopens_any W A l l.length cap rfl hb (by omega) h256
end Go.Proofs.Ytlghgfnkckaebaa
