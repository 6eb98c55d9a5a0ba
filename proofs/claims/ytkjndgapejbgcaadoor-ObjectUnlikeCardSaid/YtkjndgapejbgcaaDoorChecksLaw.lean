/- ObjectChecks: the argument opened. -/
import Derived.Test.YtkjndgapejbgcaaDoorChecksW
import Derived.Test.YtkjndgapejbgcaaDoorObjO
namespace Go.Proofs.YtkjndgapejbgcaaDoor
open Go.RowKit Go.ChangeShapes Go.WideShapes

theorem enc_in {w : World} {o : ObjT} {p : Lay} (ht : U8T w) (ha : ObjIn w w.heap.size o p) (hf : Fit o) (hg : Good o) : EncIn w o p :=
  ⟨⟨ht, ha, hf, fun x hx => (hg.ps x hx).2, hg.note⟩, hg⟩
set_option maxRecDepth 100000 in
theorem objectChecks_calls {H : Type} {enc : TypeId × Value → H} (W : World) (base : Nat) (v0 : Value) (d0 : DataW H) (p0 : List MemPlace)
    (o0 : Value.okWide Tryd.prog W .any base 31 v0) (h0 : DataW.Trod enc Tryd.prog W 0 (fun _ => true) true 31 v0 d0 p0)
    (hsz : (DataW.weightsEach Tryd.prog [31] [d0]).all (· ≤ reachBytes) = true)
    (ha : Lib.VarReads Tryd.prog W "unicode/utf8.acceptRanges" Lib.acceptData) (hf : Lib.VarReads Tryd.prog W "unicode/utf8.first" Lib.firstData) :
    Calls Tryd.prog 5 #[v0] W fun e W' => e = .returned (.bool true) ∧ Below W.heap.size W W' := by
  obtain ⟨a, p, rfl, hi, fa, hg⟩ := object_open W base v0 d0 p0 o0 h0 (jj := 0) hsz rfl rfl
  exact objectChecks_any W a p (enc_in (u8t_of ⟨ha, hf⟩) hi fa hg)
end Go.Proofs.YtkjndgapejbgcaaDoor
