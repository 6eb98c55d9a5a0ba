/- frame.table, More, Crc on both sides. -/
import Derived.Test.YtjofpjioaiamhaaProg
import Derived.Test.YtjofpjioaiamhaaOwn
import Derived.Test.YtjofpjioaiamhaaCrc
import Derived.Deep.WholeRow
import Derived.Laws.BitsAll
namespace Go.Proofs.Ytjofpjioaiamhaa
open Go.RowKit

/-- The table, k entries done. -/
def tabTo (k : Nat) : Array Value := ((List.range 256).map fun i => Value.int .u32 (if i < k then (Crc.lfn 8 i : Nat) else (0 : Nat))).toArray
theorem tabTo_size (k : Nat) : (tabTo k).size = 256 := by simp [tabTo]
theorem tabTo_get {k i : Nat} (h : i < 256) : (tabTo k)[i]? = some (.int .u32 (if i < k then (Crc.lfn 8 i : Nat) else (0 : Nat))) := by simp [tabTo, h]
theorem tabTo_set {k : Nat} (h : k < 256) : (tabTo k).setIfInBounds k (.int .u32 (Crc.lfn 8 k : Nat)) = tabTo (k + 1) := by
  apply Array.ext_getElem?
  intro i
  rw [Array.getElem?_setIfInBounds]
  by_cases hi : i < 256
  · rw [tabTo_get hi, tabTo_get hi]
    by_cases hk : k = i
    · subst hk
      simp [tabTo_size, hi]
    · simp only [hk, if_false]
      by_cases h2 : i < k
      · simp [h2, show i < k + 1 by omega]
      · simp [h2, show ¬ i < k + 1 by omega]
  · have h3 : ∀ m, (tabTo m)[i]? = none := fun m => Array.getElem?_eq_none (by rw [tabTo_size]; omega)
    rw [h3, h3, if_neg (by omega)]

theorem lf_walk {x : Nat} (h : x < 4294967296) : bits .xor .u32 ((x : Int) / 2) (2197175160 * bits .and .u32 (x : Int) 1 % 4294967296) = (Crc.lf x : Nat) := by
  have h1 := u32_and_nat x 1 h (by omega)
  rw [Nat.and_one_is_mod] at h1
  rw [show (1 : Int) = ((1 : Nat) : Int) from rfl, h1]
  have h2 : ((2197175160 : Int) * ((x % 2 : Nat) : Int) % 4294967296) = ((2197175160 * (x % 2) : Nat) : Int) := by omega
  have h3 : (x : Int) / 2 = ((x / 2 : Nat) : Int) := by omega
  rw [h2, h3, u32_xor_nat _ _ (by omega) (by omega)]
  unfold Crc.lf
  rcases Nat.mod_two_eq_zero_or_one x with h4 | h4 <;> rw [h4]
  · simp
  · simp

theorem table_zero (w : World) : (zeroValue 53).run Try.prog w = .ok (.agg (tabTo 0)) w :=
  (zero_of_info (P := Try.prog) (t := 53) (v := .agg (tabTo 0)) (n := 256) (by kernel_rfl)).1 w

set_option maxRecDepth 20000 in
set_option maxHeartbeats 1000000 in
theorem table_any (w : World) :
    Calls Try.prog 24 #[] w fun e w' => e = .returned (.agg (tabTo 256)) ∧ Below w.heap.size w w' := by
  have hz := table_zero
  go_enter Try.func24, Try.ntmps24
  go_wp2_with fail
  have h0 : ((w.alloc (.cells (tabTo 0) 53)).alloc (.cells (tabTo 0) 53)).heap[w.heap.size]? = some (.cells (tabTo 0) 53 (0, 0)) := heap_alloc2_old w _ _
  have h1 : ((w.alloc (.cells (tabTo 0) 53)).alloc (.cells (tabTo 0) 53)).heap[w.heap.size + 1]? = some (.cells (tabTo 0) 53 (0, 0)) := heap_alloc2_new w _ _
  have hB : Below w.heap.size w ((w.alloc (.cells (tabTo 0) 53)).alloc (.cells (tabTo 0) 53)) := ((Below.refl _ w).alloc (Nat.le_refl _) _).alloc (by simp) _
  generalize (w.alloc (.cells (tabTo 0) 53)).alloc (.cells (tabTo 0) 53) = w1 at h0 h1 hB ⊢
  go_loopw [5] (fun i wr => ∃ k : Nat, k ≤ 256 ∧ i = .int .i64 k ∧ wr.heap[w.heap.size]? = some (.cells (tabTo 0) 53 (0, 0)) ∧ wr.heap[w.heap.size + 1]? = some (.cells (tabTo k) 53 (0, 0)) ∧ Below w.heap.size w wr) (fun i _ => 256 - (intOf i).toNat)
  case atStart => exact ⟨0, by omega, rfl, h0, h1, hB⟩
  case round =>
    clear h0 h1 hB
    obtain ⟨k, hk, rfl, h0, h1, hB⟩ := hrel
    by_cases hlt : k < 256
    · have hc : wr.cell? ⟨w.heap.size + 1, k, none⟩ = some (.int .u32 (if k < k then (Crc.lfn 8 k : Nat) else (0 : Nat))) := (cell_of_row wr _ k _ _ _ h1).trans (tabTo_get hlt)
      have hf : wr.frozen? ⟨w.heap.size + 1, k, none⟩ = false := frozen_of_row wr _ k _ _ h1
      have h0' := (heap_setCell_other wr ⟨w.heap.size + 1, k, none⟩ w.heap.size (.int .u32 (Crc.lfn 8 k : Nat)) (by simp)).trans h0
      have h1' := heap_setCell_same wr (w.heap.size + 1) k _ _ (.int .u32 (Crc.lfn 8 k : Nat)) h1
      rw [tabTo_set hlt] at h1'
      have hB' : Below w.heap.size w (wr.setCell ⟨w.heap.size + 1, k, none⟩ (.int .u32 (Crc.lfn 8 k : Nat))) := hB.setCell (by simp) _
      go_wp2_with fail
      go_loop [3, 10] (fun r j => ∃ i : Nat, i ≤ 8 ∧ j = .int .i64 i ∧ r = .int .u32 (Crc.lfn i k : Nat)) (fun _ j => 8 - (intOf j).toNat)
      case atStart => exact ⟨0, by omega, rfl, by go_num⟩
      case round =>
        obtain ⟨i, hi, rfl, rfl⟩ := hrel
        by_cases hlt2 : i < 8
        · have hx := Crc.lfn_lt i (x := k) (by omega)
          go_wp2_with fail
          go_round
          case rel => exact ⟨i + 1, by omega, by go_num, by rw [lf_walk hx, Crc.lfn_step]⟩
          case measure => simp [intOf]; omega
        · obtain rfl : i = 8 := by omega
          go_wp2_with fail
          go_roundw
          case rel => exact ⟨k + 1, by omega, by go_num, h0', h1', hB'⟩
          case measure => simp [intOf]; omega
    · obtain rfl : k = 256 := by omega
      go_wp2_with (first
        | (refine wpList_load_row rfl 53 _ rfl (w.heap.size + 1) rfl _ _ _ _ h1 Try.underlying53 rfl (by rw [tabTo_size]; kernel_rfl) ?_)
        | (refine wpList_store_row rfl 53 _ _ rfl w.heap.size (tabTo 256) rfl rfl _ _ h0 (by rw [tabTo_size]; kernel_rfl) (by rw [tabTo_size, tabTo_size]) (by simp [tabTo, Value.oneCell']) ?_))
      (try simp only [Exit.inBlock, Exit.then])
      refine bodyPost_ret (results_cell_row rfl _ _ w.heap.size _ (tabTo 256) _ _ rfl (setRow_heap wr _ _ (tabTo 256) _ _ h0) Try.underlying53 rfl (by rw [tabTo_size]; kernel_rfl)) rfl ?_
      exact ⟨rfl, hB.trans (grown_below (row := some w.heap.size) ⟨rfl, rfl, rfl, by simp, fun k' _ hk' => setRow_other wr _ _ _ (fun e => hk' (by rw [e]))⟩ hB.size (by intro k' hk'; cases hk'; exact Nat.le_refl _))⟩
end Go.Proofs.Ytjofpjioaiamhaa
