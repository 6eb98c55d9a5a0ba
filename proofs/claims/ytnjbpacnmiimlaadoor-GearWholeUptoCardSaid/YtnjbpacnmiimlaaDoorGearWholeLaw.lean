/- GearWhole: the arguments opened. -/
import Derived.Test.YtnjbpacnmiimlaaDoorGearWholeW
import Derived.Test.YtnjbpacnmiimlaaDoorGearO
import Derived.Test.YtnjbpacnmiimlaaDoorBulk2
namespace Go.Proofs.YtnjbpacnmiimlaaDoor
open Go.RowKit

set_option maxRecDepth 100000 in
open Go.ChangeShapes Go.WideShapes in
/-- A list of lists of bytes opened, of small bulk. -/
theorem lists_open {H : Type} {enc : TypeId × Value → H} (W : World) (base : Nat) (v1 : Value) (d1 : DataW H) (p1 : List MemPlace)
    (o1 : Value.okWide Tryd.prog W .any base 45 v1) (h1 : DataW.Trod enc Tryd.prog W 0 (fun _ => true) true 45 v1 d1 p1) (hk : Rows.uptoBulk d1 ≤ 1048576) :
    ∃ (A : Option Addr) (cap : Nat) (zs : List Pt), v1 = .slice A zs.length cap ∧ zs.length ≤ cap ∧ cap ≤ maxLen ∧ zs.length ≤ 1048576 ∧ Rd W W.heap.size A zs.length (fun j => (zs[j]?.getD Pt.none_).v) ∧
      ∀ i : Nat, Byt W W.heap.size (zs[i]?.getD Pt.none_).A (zs[i]?.getD Pt.none_).l ∧ (∀ b ∈ (zs[i]?.getD Pt.none_).l, b < 256) ∧ (zs[i]?.getD Pt.none_).l.length ≤ 1048576 := by
  have kb : Tryd.prog.cellsOf 24 = 1 := by kernel_rfl
  have ku : Tryd.prog.cellsOf 5 = 1 := by kernel_rfl
  obtain ⟨a0, len0, cap0, rfl⟩ := okWide_slice Tryd.underlying45 o1
  obtain ⟨fuel, hf⟩ := h1
  obtain ⟨A, cap, zs, Ds, hcs, hl, hm, r0, hDl, hE, hok⟩ := cell_slice_d (fun z : Pt => [z.v]) (ok := fun z d => Byt W W.heap.size z.A z.l ∧ (∀ b ∈ z.l, b < 256) ∧ Held d z.l.length) Tryd.underlying45 kb (by omega)
    (fun n c y hy hc => by
      obtain ⟨c0, rfl⟩ : ∃ c0, c = [c0] := by
        match c, hc with
        | [c0], _ => exact ⟨c0, rfl⟩
      obtain ⟨A, q, l, rfl, _, _, r, hh, b⟩ := cell_bytes Tryd.underlying24 Tryd.underlying5 ku hy
      exact ⟨⟨A, l, q⟩, rfl, r, b, hh⟩) Pt.none_ hf
  simp [Value.cells] at hcs
  obtain ⟨rfl, rfl, rfl⟩ := hcs
  have k2 : Rows.uptoBulkAll Ds + 1 ≤ Rows.uptoBulk d1 := bulk_elems hE
  have k3 := bulk_len Ds
  refine ⟨a0, cap0, zs, rfl, hl, hm, by omega, ?_, fun i => ?_⟩
  · rw [Nat.mul_one] at r0
    exact r0.congr fun j hj => by rw [Nat.div_one, Nat.mod_one]; rfl
  · rcases Nat.lt_or_ge i zs.length with h | h
    · have h1 := bulk_held (hok i h).2.2
      have h2 := bulk_mem (l := Ds) (i := i) (by omega)
      exact ⟨(hok i h).1, (hok i h).2.1, by omega⟩
    · rw [List.getElem?_eq_none h]
      exact ⟨Rd.empty, by simp [Pt.none_], by simp [Pt.none_]⟩

theorem gearWhole_calls {H : Type} {enc : TypeId × Value → H} (W : World) (base : Nat) (v0 v1 : Value) (d0 d1 : DataW H) (p0 p1 : List MemPlace)
    (o0 : Value.okWide Tryd.prog W .any base 26 v0) (h0 : DataW.Trod enc Tryd.prog W 0 (fun _ => true) true 26 v0 d0 p0)
    (o1 : Value.okWide Tryd.prog W .any base 45 v1) (h1 : DataW.Trod enc Tryd.prog W 0 (fun _ => true) true 45 v1 d1 p1)
    (_hsz : (DataW.weightsEach Tryd.prog [26, 45] [d0, d1]).all (· ≤ reachBytes) = true) (hup : Rows.uptoSmall H [d0, d1] = true)
    (_t0 : Lib.TabIs Tryd.prog W "math/bits.deBruijn32tab" .u8 [0, 1, 28, 2, 29, 14, 24, 3, 30, 22, 20, 15, 25, 17, 4, 8, 31, 27, 13, 23, 21, 19, 16, 7, 26, 12, 18, 6, 11, 5, 10, 9])
    (t1 : Lib.TabIs Tryd.prog W "math/bits.deBruijn64tab" .u8 [0, 1, 56, 2, 57, 49, 28, 3, 61, 58, 42, 50, 38, 29, 17, 4, 62, 47, 59, 36, 45, 43, 51, 22, 53, 39, 33, 30, 24, 18, 12, 5, 63, 55, 48, 27, 60, 41, 37, 16, 46, 35, 44, 21, 52, 32, 23, 11, 54, 26, 40, 15, 34, 20, 31, 10, 25, 14, 19, 9, 13, 8, 7, 6]) :
    Calls Tryd.prog 6 #[v0, v1] W fun e W' => e = .returned (.bool true) ∧ Below W.heap.size W W' := by
  have kb : Rows.uptoBulk d0 + (Rows.uptoBulk d1 + 0) ≤ 1048576 := of_decide_eq_true hup
  obtain ⟨a, m, x, l0, A0, c0, rfl, _⟩ := ask_open W base v0 d0 p0 o0 h0
  obtain ⟨A1, c1, zs, rfl, _, _, hl, hr, hall⟩ := lists_open W base v1 d1 p1 o1 h1 (by omega)
  exact whole_any a m x A0 _ c0 zs A1 _ c1 W rfl hr (fun i => (hall i).1) (fun i => (hall i).2.1) (fun i => (hall i).2.2) hl (tz_of t1)
end Go.Proofs.YtnjbpacnmiimlaaDoor
