/- BloomFresh: the argument opened. -/
import Derived.Test.YtlghgfnkckaebaaWFre
import Derived.Test.YtlghgfnkckaebaaWKeys
import Derived.Test.YtlghgfnkckaebaaArgs
namespace Go.Proofs.Ytlghgfnkckaebaa
open Go.RowKit

set_option maxRecDepth 100000 in
theorem bloomFresh_calls {H : Type} {enc : TypeId × Value → H} (W : World) (base : Nat) (v0 : Value) (d0 : DataW H) (p0 : List MemPlace)
    (o0 : Value.okWide Try.prog W .any base 47 v0) (h0 : DataW.Trod enc Try.prog W 0 (fun _ => true) true 47 v0 d0 p0)
    (hsz : (DataW.weightsEach Try.prog [47] [d0]).all (· ≤ reachBytes) = true) :
    Calls Try.prog 9 #[v0] W fun e W' => e = .returned (.bool true) ∧ Below W.heap.size W W' := by
  obtain ⟨A, len, cap, V, rfl, _, _, hr, hh, n, hy⟩ := arg_slice_v (size := 32) Try.underlying47 (by kernel_rfl) (by decide) o0 h0
  have hl := hh.reach hsz (j := 0) (size := 32) rfl rfl Try.underlying47 (by kernel_rfl)
  obtain ⟨ks, hk⟩ := key_row Try.underlying51 Try.underlying5 (by kernel_rfl) (by kernel_rfl) hr hy
  exact bfresh_any W A len cap ks hk (by omega)
end Go.Proofs.Ytlghgfnkckaebaa
