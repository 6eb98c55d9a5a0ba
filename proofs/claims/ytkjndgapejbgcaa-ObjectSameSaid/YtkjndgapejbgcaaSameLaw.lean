/- ObjectSame: the arguments opened. -/
import Derived.Test.YtkjndgapejbgcaaSameW
import Derived.Test.YtkjndgapejbgcaaObjO
namespace Go.Proofs.Ytkjndgapejbgcaa
open Go.RowKit Go.ChangeShapes Go.WideShapes

theorem objectSame_calls {H : Type} {enc : TypeId × Value → H} (W : World) (base : Nat) (v0 v1 : Value) (d0 d1 : DataW H) (p0 p1 : List MemPlace)
    (o0 : Value.okWide Try.prog W .any base 31 v0) (h0 : DataW.Trod enc Try.prog W 0 (fun _ => true) true 31 v0 d0 p0)
    (o1 : Value.okWide Try.prog W .any base 31 v1) (h1 : DataW.Trod enc Try.prog W 0 (fun _ => true) true 31 v1 d1 p1)
    (hsz : (DataW.weightsEach Try.prog [31, 31] [d0, d1]).all (· ≤ reachBytes) = true) :
    Calls Try.prog 4 #[v0, v1] W fun e W' => e = .returned (.bool true) ∧ Below W.heap.size W W' := by
  obtain ⟨a, p, rfl, ha, fa, _⟩ := object_open W base v0 d0 p0 o0 h0 (jj := 0) hsz rfl rfl
  obtain ⟨b, q, rfl, hb, fb, _⟩ := object_open W base v1 d1 p1 o1 h1 (jj := 1) hsz rfl rfl
  exact objectSame_any W a b p q ha hb fa fb
end Go.Proofs.Ytkjndgapejbgcaa
