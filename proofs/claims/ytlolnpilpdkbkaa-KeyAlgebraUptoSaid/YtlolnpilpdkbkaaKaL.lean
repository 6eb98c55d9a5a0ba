/- KeyAlgebra: the arguments opened. -/
import Derived.Test.YtlolnpilpdkbkaaKaWp
import Derived.Test.YtlolnpilpdkbkaaKaWz
import Derived.Test.YtlolnpilpdkbkaaKaA
namespace Go.Proofs.Ytlolnpilpdkbkaa
open Go.RowKit Go.ChangeShapes Go.WideShapes
set_option linter.unusedVariables false
section
variable {H : Type} {enc : TypeId × Value → H}
set_option maxRecDepth 100000 in
theorem keyAlgebra_calls (W : World) (base : Nat) (v0 v1 : Value) (d0 d1 : DataW H) (p0 p1 : List MemPlace)
    (o0 : Value.okWide Try.prog W .any base 34 v0) (h0 : DataW.Trod enc Try.prog W 0 (fun _ => true) true 34 v0 d0 p0)
    (o1 : Value.okWide Try.prog W .any base 34 v1) (h1 : DataW.Trod enc Try.prog W 0 (fun _ => true) true 34 v1 d1 p1)
    (hsz : (DataW.weightsEach Try.prog [34, 34] [d0, d1]).all (· ≤ reachBytes) = true) (hup : Rows.uptoSmall H [d0, d1] = true) :
    Calls Try.prog 5 #[v0, v1] W fun e W' => e = .returned (.bool true) ∧ Below W.heap.size W W' := by
  obtain ⟨A, n, c, xs, rfl, hx, hr, hh⟩ := arg_keys o0 h0
  obtain ⟨A', n', c', ys, rfl, hy, hr', hh'⟩ := arg_keys o1 h1
  have b1 := bulk_held hh
  have b2 := bulk_held hh'
  have hb : Rows.uptoBulk d0 + (Rows.uptoBulk d1 + 0) ≤ 1048576 := by
    have := of_decide_eq_true hup
    simpa [Rows.uptoBulkAll] using this
  rcases Nat.eq_zero_or_pos n with hz | hz
  · exact alg_zero W A n c xs hx hr A' n' c' ys hy hr' (by omega) (by omega) hz
  · exact alg_pos W A n c xs hx hr A' n' c' ys hy hr' (by omega) (by omega) hz
end
end Go.Proofs.Ytlolnpilpdkbkaa
