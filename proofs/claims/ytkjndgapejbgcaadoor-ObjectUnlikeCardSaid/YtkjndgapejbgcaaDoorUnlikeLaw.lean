/- ObjectUnlike: the arguments opened. -/
import Derived.Test.YtkjndgapejbgcaaDoorUnlikeW
import Derived.Test.YtkjndgapejbgcaaDoorChecksLaw
namespace Go.Proofs.YtkjndgapejbgcaaDoor
open Go.RowKit Go.ChangeShapes Go.WideShapes

set_option maxRecDepth 100000 in
theorem objectUnlike_calls {H : Type} {enc : TypeId × Value → H} (W : World) (base : Nat) (v0 v1 : Value) (d0 d1 : DataW H) (p0 p1 : List MemPlace)
    (o0 : Value.okWide Tryd.prog W .any base 31 v0) (h0 : DataW.Trod enc Tryd.prog W 0 (fun _ => true) true 31 v0 d0 p0)
    (o1 : Value.okWide Tryd.prog W .any base 31 v1) (h1 : DataW.Trod enc Tryd.prog W 0 (fun _ => true) true 31 v1 d1 p1)
    (hsz : (DataW.weightsEach Tryd.prog [31, 31] [d0, d1]).all (· ≤ reachBytes) = true)
    (ha : Lib.VarReads Tryd.prog W "unicode/utf8.acceptRanges" Lib.acceptData) (hf : Lib.VarReads Tryd.prog W "unicode/utf8.first" Lib.firstData) :
    Calls Tryd.prog 4 #[v0, v1] W fun e W' => e = .returned (.bool true) ∧ Below W.heap.size W W' := by
  obtain ⟨a, p, rfl, hi, fa, hg⟩ := object_open W base v0 d0 p0 o0 h0 (jj := 0) hsz rfl rfl
  obtain ⟨b, q, rfl, hi2, fb, hg2⟩ := object_open W base v1 d1 p1 o1 h1 (jj := 1) hsz rfl rfl
  exact objectUnlike_any W a b p q (enc_in (u8t_of ⟨ha, hf⟩) hi fa hg) (enc_in (u8t_of ⟨ha, hf⟩) hi2 fb hg2)
end Go.Proofs.YtkjndgapejbgcaaDoor
