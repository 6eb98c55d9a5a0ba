/- ObjectKids: the argument opened. -/
import Derived.Test.YtkjndgapejbgcaaKidsW
import Derived.Test.YtkjndgapejbgcaaObjO
namespace Go.Proofs.Ytkjndgapejbgcaa
open Go.RowKit Go.ChangeShapes Go.WideShapes

theorem objectKids_calls {H : Type} {enc : TypeId × Value → H} (W : World) (base : Nat) (v0 : Value) (d0 : DataW H) (p0 : List MemPlace)
    (o0 : Value.okWide Try.prog W .any base 31 v0) (h0 : DataW.Trod enc Try.prog W 0 (fun _ => true) true 31 v0 d0 p0)
    (hsz : (DataW.weightsEach Try.prog [31] [d0]).all (· ≤ reachBytes) = true) :
    Calls Try.prog 5 #[v0] W fun e W' => e = .returned (.bool true) ∧ Below W.heap.size W W' := by
  obtain ⟨a, p, rfl, ha, fa, _⟩ := object_open W base v0 d0 p0 o0 h0 (jj := 0) hsz rfl rfl
  exact objectKids_any W a p ha fa
end Go.Proofs.Ytkjndgapejbgcaa
