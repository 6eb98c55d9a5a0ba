/- Hex. -/
import Derived.Test.YtlolnpilpdkbkaaDigits
namespace Go.Proofs.Ytlolnpilpdkbkaa
open Go.RowKit
set_option linter.unusedSimpArgs false

theorem zeroB (w : World) : (zeroValue 71).run Try.prog w = .ok (.agg #[.pointer none, .slice none 0 0]) w :=
  (zero_of_info (P := Try.prog) (t := 71) (v := .agg #[.pointer none, .slice none 0 0]) (n := 2) (by kernel_rfl)).1 w
theorem dig_at {n : Nat} (h : n < (⟨#[48, 49, 50, 51, 52, 53, 54, 55, 56, 57, 97, 98, 99, 100, 101, 102]⟩ : ByteArray).size) : (⟨#[48, 49, 50, 51, 52, 53, 54, 55, 56, 57, 97, 98, 99, 100, 101, 102]⟩ : ByteArray)[n] = dg n := by
  have h1 := at_get h
  have h2 : digitsL[n]? = some (dg n) := by
    have h3 : n < digitsL.length := h
    simp [dg, List.getElem?_eq_getElem h3]
  exact Option.some.inj (h1.symm.trans h2)
theorem byteCells_snoc (l : List UInt8) (c : UInt8) : Lib.byteCells l ++ [.int .u8 (c.toNat : Int)] = Lib.byteCells (l ++ [c]) := by simp [Lib.byteCells]
theorem hexL_take {l : List Nat} {k x : Nat} (h : l[k]? = some x) : hexL (l.take (k + 1)) = hexL (l.take k) ++ [dg (x / 16)] ++ [dg (x % 16)] := by
  obtain ⟨h1, h2⟩ := List.getElem?_eq_some_iff.1 h
  rw [List.take_succ_eq_append_getElem h1, hexL_append, h2]
  simp [hexL]
/-- What stands while the digits are laid. -/
structure HX0 (w wr : World) (l : List Nat) (m : List UInt8) : Prop where
  bel : Below w.heap.size w wr
  blk : BlkY wr w.heap.size l
  bld : Lib.IsBuilder 71 5 (w.heap.size + 1) (w.heap.size + 1) (Lib.byteCells m) wr
abbrev HX (w wr : World) (l : List Nat) (k : Nat) : Prop := HX0 w wr l (hexL (l.take k))
theorem HX0.le {w wr : World} {l : List Nat} {m : List UInt8} (h : HX0 w wr l m) : w.heap.size + 1 ≤ wr.heap.size := by
  have := h.bld
  rcases this with h | h <;> exact Nat.le_of_lt h.lt
theorem HX0.put {w wr w' : World} {l : List Nat} {m : List UInt8} {c : UInt8} (h : HX0 w wr l m) (h1 : Lib.BuilderAt 71 5 (w.heap.size + 1) (w.heap.size + 1) (.pointer (some ⟨w.heap.size + 1, 0, none⟩)) (Lib.byteCells m ++ [.int .u8 (c.toNat : Int)]) w') (h2 : Below (w.heap.size + 1) wr w') : HX0 w w' l (m ++ [c]) :=
  ⟨h.bel.trans (h2.mono (by omega)), (h2.block w.heap.size (by omega)).trans h.blk, .inr (by rw [← byteCells_snoc]; exact h1)⟩

set_option maxRecDepth 100000 in
set_option maxHeartbeats 1000000 in
theorem hex_any (l : List Nat) (w : World) (hl : l.length = 32) (hb : ∀ x ∈ l, x < 256) :
    Calls Try.prog 7 #[.agg (u8s l).toArray] w fun e w' => e = .returned (.string ⟨(hexL l).toArray⟩) ∧ Below w.heap.size w w' := by
  have hz := zeroB
  have hi32 : (Try.prog.info? 25).map (·.size) = some 32 := by kernel_rfl
  have hi32' := Lib.hid hi32
  have hs32 : (u8s l).toArray.size = 32 := by simp [u8s, hl]
  have hB : Below w.heap.size w ((w.alloc (.cells (u8s l).toArray 25)).alloc (.cells #[.pointer none, .slice none 0 0] 71)) := ((Below.refl _ _).alloc (Nat.le_refl _) _).alloc (by simp) _
  have h0 : HX w ((w.alloc (.cells (u8s l).toArray 25)).alloc (.cells #[.pointer none, .slice none 0 0] 71)) l 0 :=
    ⟨hB, heap_alloc2_old w _ _, .inl ⟨Nat.le_refl _, .slice none 0 0, heap_alloc2_new w _ _, World.ownsRow_nil _ _ _ _, by simp [Value.ownBlock]⟩⟩
  have h0' := Lib.hid h0
  have hl' := Lib.hid hl
  have hb' := Lib.hid hb
  clear hi32 hB h0 hl hb
  go_enter Try.func7, Try.ntmps7
  go_wp2_with (first
    | (refine wpList_load_row rfl 25 _ rfl w.heap.size rfl 25 (u8s l).toArray (0, 0) _ h0'.out.blk Try.underlying25 rfl (by rw [hs32]; exact hi32'.out) ?_))
  generalize ((w.alloc (.cells (u8s l).toArray 25)).alloc (.cells #[.pointer none, .slice none 0 0] 71)) = w2 at h0' ⊢
  go_loopw [7] (fun i wr => ∃ k : Nat, k ≤ 32 ∧ i = .int .i64 k ∧ Hid (HX w wr l k)) (fun i _ => 32 - (intOf i).toNat)
  case atStart => exact ⟨0, by omega, rfl, h0'⟩
  case round =>
    clear h0'
    obtain ⟨k, hk, rfl, hD⟩ := hrel
    by_cases hlt : k < 32
    · obtain ⟨x, hx⟩ : ∃ x, l[k]? = some x := ⟨_, List.getElem?_eq_getElem (by rw [hl'.out]; exact hlt)⟩
      have hxl := hb'.out x (List.mem_of_getElem? hx)
      have hix : ∀ w, _ := index32 (F := l) (k := k) (x := x) hlt (by rw [u8s_get l k (by rw [hl'.out]; exact hlt), hx]; rfl)
      have hmn : (hexL (l.take k)).length = 2 * k := by rw [hexL_length, List.length_take, hl'.out]; omega
      go_wp2_with fail
      rw [dig_at]
      refine (wb_any _ _ _ _ wr hD.out.bld (by rw [Lib.byteCells_length, hmn]; omega) hD.out.le).mono ?_
      rintro e w3 ⟨rfl, h3, hb3⟩
      have hD3 := Lib.hid (hD.out.put h3 hb3)
      clear hD h3 hb3
      go_wp2_with fail
      rw [dig_at]
      refine (wb_any _ _ _ _ w3 hD3.out.bld (by rw [Lib.byteCells_length, List.length_append, hmn, List.length_singleton]; omega) hD3.out.le).mono ?_
      rintro e w4 ⟨rfl, h4, hb4⟩
      have hD4 := Lib.hid (hD3.out.put h4 hb4)
      clear hD3 h4 hb4
      go_wp2_with fail
      go_roundw
      case rel => exact ⟨k + 1, by omega, by go_num, by unfold HX; rw [hexL_take hx]; exact hD4⟩
      case measure => simp [intOf]; omega
    · rw [show k = 32 by omega] at hD
      have hD2 := hD.out
      unfold HX at hD2
      rw [List.take_of_length_le (by rw [hl'.out]; omega)] at hD2
      go_wp2_with fail
      refine (str_any _ _ _ wr hD2.bld hD2.le).mono ?_
      rintro e w3 ⟨rfl, hb3⟩
      have hB3 := Lib.hid (hD2.bel.trans (hb3.mono (by omega)))
      clear hD hD2 hb3
      go_wp2_with fail
      go_ret
      exact ⟨rfl, hB3.out⟩
end Go.Proofs.Ytlolnpilpdkbkaa
