/- FrameTurned: the argument opened. -/
import Derived.Test.YtjofpjioaiamhaaTurned
import Derived.ProofKit
import Derived.OpenShut
namespace Go.Proofs.Ytjofpjioaiamhaa
open Go.RowKit

theorem array8 {cs : Array Value} (h : cs.size = 8) : ∃ c0 c1 c2 c3 c4 c5 c6 c7, cs = #[c0, c1, c2, c3, c4, c5, c6, c7] := by
  obtain ⟨l⟩ := cs
  match l, h with
  | [c0, c1, c2, c3, c4, c5, c6, c7], _ => exact ⟨c0, c1, c2, c3, c4, c5, c6, c7, rfl⟩
theorem list4 {α : Type} {l : List α} (h : l.length = 4) : ∃ a b c d, l = [a, b, c, d] := by
  match l, h with
  | [a, b, c, d], _ => exact ⟨a, b, c, d, rfl⟩
theorem list5 {α : Type} {l : List α} (h : l.length = 5) : ∃ a b c d e, l = [a, b, c, d, e] := by
  match l, h with
  | [a, b, c, d, e], _ => exact ⟨a, b, c, d, e, rfl⟩

set_option maxRecDepth 100000 in
open Go.ChangeShapes Go.WideShapes in
/-- A Turn opened: its cells, its two lists. -/
theorem turn_open {H : Type} {enc : TypeId × Value → H} (W : World) (base : Nat) (v0 : Value) (d0 : DataW H) (p0 : List MemPlace)
    (o0 : Value.okWide Try.prog W .any base 31 v0) (h0 : DataW.Trod enc Try.prog W 0 (fun _ => true) true 31 v0 d0 p0)
    (hsz : (DataW.weightsEach Try.prog [31] [d0]).all (· ≤ reachBytes) = true) :
    ∃ (l z : List Nat) (At : Int) (y0 y1 y2 y3 : Nat) (four : Bool) (A1 A2 : Option Addr) (c1 c2 : Nat),
      v0 = .agg #[.slice A1 l.length c1, .int .i64 At, .int .u8 y0, .int .u8 y1, .int .u8 y2, .int .u8 y3, .bool four, .slice A2 z.length c2] ∧ (∀ b ∈ l, b < 256) ∧ (∀ b ∈ z, b < 256) ∧ y0 < 256 ∧ y1 < 256 ∧ y2 < 256 ∧ y3 < 256 ∧
      l.length ≤ 140737488351232 ∧ z.length ≤ 140737488351232 ∧ Byt W W.heap.size A1 l ∧ Byt W W.heap.size A2 z ∧ l.length ≤ c1 ∧ c1 ≤ maxLen ∧ z.length ≤ c2 ∧ c2 ≤ maxLen := by
  obtain ⟨cs, rfl, hcs⟩ := okWide_struct Try.underlying31 o0
  obtain ⟨c0, c1, c2, c3, c4, c5, c6, c7, rfl⟩ := array8 (hcs.trans (by kernel_rfl))
  obtain ⟨fuel, hf0⟩ := h0
  have ko : Value.cells (.agg #[c0, c1, c2, c3, c4, c5, c6, c7]) = #[c0, c1, c2, c3, c4, c5, c6, c7] := rfl
  obtain ⟨xs, m, _, hx, _, hxl, hg⟩ := DataW.trod_struct Try.underlying31 hf0
  obtain ⟨z0, z1, z2, z3, z4, rfl⟩ := list5 hxl
  have kb : Try.prog.cellsOf 23 = 1 := by kernel_rfl
  have ki : Try.prog.cellsOf 3 = 1 := by kernel_rfl
  have ku : Try.prog.cellsOf 5 = 1 := by kernel_rfl
  have kt : Try.prog.cellsOf 4 = 1 := by kernel_rfl
  have ka : Try.prog.cellsOf 29 = 4 := by kernel_rfl
  have g0 := hg 0 _ rfl
  have g1 := hg 1 _ rfl
  have g2 := hg 2 _ rfl
  have g3 := hg 3 _ rfl
  have g4 := hg 4 _ rfl
  simp [ko, kb] at g0
  simp [ko, ki] at g1
  simp [ko, ka] at g2
  simp [ko, kt] at g3
  simp [ko, kb] at g4
  obtain ⟨us, n2, _, _, _, hul, hu⟩ := DataW.trod_array Try.underlying29 g2
  obtain ⟨u0, u1, u2, u3, rfl⟩ := list4 hul
  have a0 := hu 0 (by omega)
  have a1 := hu 1 (by omega)
  have a2 := hu 2 (by omega)
  have a3 := hu 3 (by omega)
  simp [ku] at a0 a1 a2 a3
  obtain ⟨A1, q1, l, rfl, lc1, cm1, r1, hh1, b1⟩ := cell_bytes Try.underlying23 Try.underlying5 ku g0
  obtain ⟨A2, q2, z, rfl, lc2, cm2, r2, hh2, b2⟩ := cell_bytes Try.underlying23 Try.underlying5 ku g4
  obtain ⟨At, rfl, _⟩ := cell_i64 Try.underlying3 g1
  obtain ⟨four, rfl⟩ := cell_bool Try.underlying4 g3
  obtain ⟨y0, rfl, hy0⟩ := cell_u8 Try.underlying5 a0
  obtain ⟨y1, rfl, hy1⟩ := cell_u8 Try.underlying5 a1
  obtain ⟨y2, rfl, hy2⟩ := cell_u8 Try.underlying5 a2
  obtain ⟨y3, rfl, hy3⟩ := cell_u8 Try.underlying5 a3
  simp only [Prod.mk.injEq] at hx
  obtain ⟨rfl, _⟩ := hx
  have hp := reach_struct (j := 0) hsz rfl rfl Try.underlying31
  have l1 := hh1.reach (j := 0) (size := 1) hp rfl rfl Try.underlying23 (by kernel_rfl)
  have l2 := hh2.reach (j := 4) (size := 1) hp rfl rfl Try.underlying23 (by kernel_rfl)
  exact ⟨l, z, At, y0, y1, y2, y3, four, A1, A2, q1, q2, rfl, b1, b2, hy0, hy1, hy2, hy3, by omega, by omega, r1, r2, lc1, cm1, lc2, cm2⟩

theorem frameTurned_calls {H : Type} {enc : TypeId × Value → H} (W : World) (base : Nat) (v0 : Value) (d0 : DataW H) (p0 : List MemPlace)
    (o0 : Value.okWide Try.prog W .any base 31 v0) (h0 : DataW.Trod enc Try.prog W 0 (fun _ => true) true 31 v0 d0 p0)
    (hsz : (DataW.weightsEach Try.prog [31] [d0]).all (· ≤ reachBytes) = true) :
    Calls Try.prog 5 #[v0] W fun e W' => e = .returned (.bool true) ∧ Below W.heap.size W W' := by
  obtain ⟨l, z, At, y0, y1, y2, y3, four, A1, A2, q1, q2, rfl, b1, b2, hy0, hy1, hy2, hy3, l1, l2, r1, r2, _⟩ := turn_open W base v0 d0 p0 o0 h0 hsz
  exact turned_any l z At y0 y1 y2 y3 four A1 A2 l.length z.length q1 q2 W b1 b2 hy0 hy1 hy2 hy3 rfl rfl l1 l2 r1 r2
end Go.Proofs.Ytjofpjioaiamhaa
