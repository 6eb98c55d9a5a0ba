/- ObjectNamed: the law. -/
import Derived.Test.YtkjndgapejbgcaaDoorNameI
import Derived.ChangeMaps5
import Derived.ProofKit
import Derived.OpenShut
namespace Go.Proofs.YtkjndgapejbgcaaDoor
open Go.RowKit

theorem named_law (s : ByteArray) (w : World) (hT : U8T w) : Calls Tryd.prog 3 #[.string s] w fun e w' => e = .returned (.bool true) ∧ Below w.heap.size w w' := by
  have h1 := isName_any s w hT
  have h2 := named_any s
  generalize (Fine s && nameD s s.size 0) = R at h1 h2
  clear hT
  go_enter Tryd.func3, Tryd.ntmps3
  go_wp2_with (first
    | (refine h1.mono ?_; rintro e w1 ⟨rfl, hb⟩; have hb' := Lib.hid hb; clear hb)
    | (refine (h2 _).mono ?_; rintro e w' ⟨rfl, rfl⟩))
  go_ret
  exact ⟨ret_bool (by simp), hb'.out⟩

set_option maxRecDepth 100000 in
open Go.ChangeShapes Go.WideShapes in
theorem objectNamed_calls {H : Type} {enc : TypeId × Value → H} (W : World) (base : Nat) (v0 : Value) (d0 : DataW H) (p0 : List MemPlace)
    (o0 : Value.okWide Tryd.prog W .any base 9 v0) (h0 : DataW.Trod enc Tryd.prog W 0 (fun _ => true) true 9 v0 d0 p0)
    (_hsz : (DataW.weightsEach Tryd.prog [9] [d0]).all (· ≤ reachBytes) = true)
    (ha : Lib.VarReads Tryd.prog W "unicode/utf8.acceptRanges" Lib.acceptData) (hf : Lib.VarReads Tryd.prog W "unicode/utf8.first" Lib.firstData) :
    Calls Tryd.prog 3 #[v0] W fun e W' => e = .returned (.bool true) ∧ Below W.heap.size W W' := by
  obtain ⟨s, rfl, _⟩ := Go.ChangeMaps.open_string Tryd.underlying9 o0 h0
  exact named_law s W (u8t_of ⟨ha, hf⟩)
end Go.Proofs.YtkjndgapejbgcaaDoor
