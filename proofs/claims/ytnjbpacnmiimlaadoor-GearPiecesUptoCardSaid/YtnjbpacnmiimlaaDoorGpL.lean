/- GearPieces: the arguments opened. -/
import Derived.Test.YtnjbpacnmiimlaaDoorGpX
import Derived.Test.YtnjbpacnmiimlaaDoorGearO
namespace Go.Proofs.YtnjbpacnmiimlaaDoor
open Go.RowKit

open Go.ChangeShapes Go.WideShapes in
theorem gearPieces_calls {H : Type} {enc : TypeId × Value → H} (W : World) (base : Nat) (v0 v1 : Value) (d0 d1 : DataW H) (p0 p1 : List MemPlace)
    (o0 : Value.okWide Tryd.prog W .any base 26 v0) (h0 : DataW.Trod enc Tryd.prog W 0 (fun _ => true) true 26 v0 d0 p0)
    (o1 : Value.okWide Tryd.prog W .any base 3 v1) (_h1 : DataW.Trod enc Tryd.prog W 0 (fun _ => true) true 3 v1 d1 p1)
    (_hsz : (DataW.weightsEach Tryd.prog [26, 3] [d0, d1]).all (· ≤ reachBytes) = true) (hup : Rows.uptoSmall H [d0, d1] = true)
    (_t0 : Lib.TabIs Tryd.prog W "math/bits.deBruijn32tab" .u8 [0, 1, 28, 2, 29, 14, 24, 3, 30, 22, 20, 15, 25, 17, 4, 8, 31, 27, 13, 23, 21, 19, 16, 7, 26, 12, 18, 6, 11, 5, 10, 9])
    (t1 : Lib.TabIs Tryd.prog W "math/bits.deBruijn64tab" .u8 [0, 1, 56, 2, 57, 49, 28, 3, 61, 58, 42, 50, 38, 29, 17, 4, 62, 47, 59, 36, 45, 43, 51, 22, 53, 39, 33, 30, 24, 18, 12, 5, 63, 55, 48, 27, 60, 41, 37, 16, 46, 35, 44, 21, 52, 32, 23, 11, 54, 26, 40, 15, 34, 20, 31, 10, 25, 14, 19, 9, 13, 8, 7, 6]) :
    Calls Tryd.prog 5 #[v0, v1] W fun e W' => e = .returned (.bool true) ∧ Below W.heap.size W W' := by
  have kb : Rows.uptoBulk d0 + (Rows.uptoBulk d1 + 0) ≤ 1048576 := of_decide_eq_true hup
  obtain ⟨a, m, x, l0, A0, c0, rfl, b0, r0, hc, _, k0⟩ := ask_open W base v0 d0 p0 o0 h0
  obtain ⟨s0, rfl⟩ := okWide_int Tryd.underlying3 o1
  exact gearPieces_any a m x s0 l0 A0 _ c0 W b0 rfl (by omega) hc r0 (tz_of t1)
end Go.Proofs.YtnjbpacnmiimlaaDoor
