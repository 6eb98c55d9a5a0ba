/- An Ask opened; the table that TrailingZeros reads. -/
import Derived.Test.YtnjbpacnmiimlaaDoorGearE
import Derived.Test.YtnjbpacnmiimlaaDoorArgs
import Derived.Test.YtnjbpacnmiimlaaDoorBulk
import Derived.Lib.LaidTab
import Derived.ProofKit
import Derived.OpenShut
namespace Go.Proofs.YtnjbpacnmiimlaaDoor
open Go.RowKit

theorem tz_of {W : World} (h : Lib.TabIs Tryd.prog W "math/bits.deBruijn64tab" .u8 [0, 1, 56, 2, 57, 49, 28, 3, 61, 58, 42, 50, 38, 29, 17, 4, 62, 47, 59, 36, 45, 43, 51, 22, 53, 39, 33, 30, 24, 18, 12, 5, 63, 55, 48, 27, 60, 41, 37, 16, 46, 35, 44, 21, 52, 32, 23, 11, 54, 26, 40, 15, 34, 20, 31, 10, 25, 14, 19, 9, 13, 8, 7, 6]) : Tz W := fun t ht => by
  have h1 := h.cell (g := 1) (by kernel_rfl) t (by simpa using ht)
  rw [h1]
  congr 1
  rcases Nat.lt_or_ge t 64 with h2 | h2
  · have : ∀ t : Nat, t < 64 → ([0, 1, 56, 2, 57, 49, 28, 3, 61, 58, 42, 50, 38, 29, 17, 4, 62, 47, 59, 36, 45, 43, 51, 22, 53, 39, 33, 30, 24, 18, 12, 5, 63, 55, 48, 27, 60, 41, 37, 16, 46, 35, 44, 21, 52, 32, 23, 11, 54, 26, 40, 15, 34, 20, 31, 10, 25, 14, 19, 9, 13, 8, 7, 6] : List Int).getD t 0 = ((dbL[t]?.getD 0 : Nat) : Int) := by decide
    rw [this t h2]
  · omega

theorem array4 {cs : Array Value} (h : cs.size = 4) : ∃ c0 c1 c2 c3, cs = #[c0, c1, c2, c3] := by
  obtain ⟨l⟩ := cs
  match l, h with
  | [c0, c1, c2, c3], _ => exact ⟨c0, c1, c2, c3, rfl⟩
theorem list2 {α : Type} {l : List α} (h : l.length = 2) : ∃ a b, l = [a, b] := by
  match l, h with
  | [a, b], _ => exact ⟨a, b, rfl⟩
theorem list3 {α : Type} {l : List α} (h : l.length = 3) : ∃ a b c, l = [a, b, c] := by
  match l, h with
  | [a, b, c], _ => exact ⟨a, b, c, rfl⟩

set_option maxRecDepth 100000 in
open Go.ChangeShapes Go.WideShapes in
theorem ask_open {H : Type} {enc : TypeId × Value → H} (W : World) (base : Nat) (v0 : Value) (d0 : DataW H) (p0 : List MemPlace)
    (o0 : Value.okWide Tryd.prog W .any base 26 v0) (h0 : DataW.Trod enc Tryd.prog W 0 (fun _ => true) true 26 v0 d0 p0) :
    ∃ (a m x : Int) (l : List Nat) (A : Option Addr) (c : Nat), v0 = .agg #[.int .i64 a, .int .i64 m, .int .i64 x, .slice A l.length c] ∧ (∀ b ∈ l, b < 256) ∧ Byt W W.heap.size A l ∧ l.length ≤ c ∧ c ≤ maxLen ∧ l.length + 1 ≤ Rows.uptoBulk d0 := by
  obtain ⟨cs, rfl, hcs⟩ := okWide_struct Tryd.underlying26 o0
  obtain ⟨c0, c1, c2, c3, rfl⟩ := array4 (hcs.trans (by kernel_rfl))
  obtain ⟨fuel, hf0⟩ := h0
  have ko : Value.cells (.agg #[c0, c1, c2, c3]) = #[c0, c1, c2, c3] := rfl
  obtain ⟨xs, m, _, hx, _, hxl, hg⟩ := DataW.trod_struct Tryd.underlying26 hf0
  obtain ⟨z0, z1, rfl⟩ := list2 hxl
  have kb : Tryd.prog.cellsOf 24 = 1 := by kernel_rfl
  have ki : Tryd.prog.cellsOf 3 = 1 := by kernel_rfl
  have ku : Tryd.prog.cellsOf 5 = 1 := by kernel_rfl
  have kc : Tryd.prog.cellsOf 23 = 3 := by kernel_rfl
  have g0 := hg 0 _ rfl
  have g1 := hg 1 _ rfl
  simp [ko, kc] at g0
  simp [ko, kb] at g1
  obtain ⟨us, n2, _, _, _, hul, hu⟩ := DataW.trod_struct Tryd.underlying23 g0
  obtain ⟨u0, u1, u2, rfl⟩ := list3 hul
  have a0 := hu 0 _ rfl
  have a1 := hu 1 _ rfl
  have a2 := hu 2 _ rfl
  simp [ki] at a0 a1 a2
  obtain ⟨A1, q1, l, rfl, lc1, cm1, r1, hh1, b1⟩ := cell_bytes Tryd.underlying24 Tryd.underlying5 ku g1
  obtain ⟨x0, rfl, _⟩ := cell_i64 Tryd.underlying3 a0
  obtain ⟨x1, rfl, _⟩ := cell_i64 Tryd.underlying3 a1
  obtain ⟨x2, rfl, _⟩ := cell_i64 Tryd.underlying3 a2
  simp only [Prod.mk.injEq] at hx
  obtain ⟨rfl, _⟩ := hx
  have k1 := bulk_held hh1
  refine ⟨x0, x1, x2, l, A1, q1, rfl, b1, r1, lc1, cm1, ?_⟩
  simp only [Rows.uptoBulk, List.map_cons, List.map_nil, Rows.uptoBulkAll]
  omega
end Go.Proofs.YtnjbpacnmiimlaaDoor
