/- The first state, on both sides. -/
import Derived.Test.YtlolnpilpdkbkaaDoorShaBlk
namespace Go.Proofs.YtlolnpilpdkbkaaDoor
open Go.RowKit

def startL : List Nat := [1779033703, 3144134277, 1013904242, 2773480762, 1359893119, 2600822924, 528734635, 1541459225]
set_option maxRecDepth 100000 in
theorem start_any (w : World) : Calls Tryd.prog 46 #[] w fun e w' => e = .returned (.agg (u32s startL).toArray) ∧ Below w.heap.size w w' := by
  have hz := zero8
  have hi8 : (Tryd.prog.info? 61).map (·.size) = some 8 := by kernel_rfl
  have hi8' := Lib.hid hi8
  have h0 := Lib.hid (heap_alloc_new w (.cells (u32s (zerW 8)).toArray 61))
  clear hi8
  go_enter Tryd.func46, Tryd.ntmps46
  go_wp2_with (refine wpList_store_row rfl 61 _ _ rfl w.heap.size (u32s startL).toArray rfl rfl 61 _ h0.out (by exact hi8'.out) (by simp [u32s, zerW, startL]) (by simp [u32s, Value.oneCell']) ?_)
  have hset := setRow_heap _ w.heap.size _ (u32s startL).toArray 61 _ h0.out
  exact bodyPost_ret (results_cell_row rfl _ _ w.heap.size 61 (u32s startL).toArray (0, 0) _ rfl hset Tryd.underlying61 rfl (by exact hi8'.out)) rfl ⟨rfl, setRow_belS ((Below.refl _ _).alloc (Nat.le_refl _) _) (Nat.le_refl _) _⟩

/-- The first k numbers laid. -/
def stTo (k : Nat) : List Nat := startL.take k ++ zerW (8 - k)
theorem stTo_len {k : Nat} (h : k ≤ 8) : (stTo k).length = 8 := by simp [stTo, startL, zerW]; omega
theorem stTo_set {k : Nat} (h : k < 8) : (stTo k).set k (startL[k]?.getD 0) = stTo (k + 1) := by
  rcases (show k = 0 ∨ k = 1 ∨ k = 2 ∨ k = 3 ∨ k = 4 ∨ k = 5 ∨ k = 6 ∨ k = 7 by omega) with e | e | e | e | e | e | e | e <;> subst e <;> rfl

set_option maxRecDepth 100000 in
set_option maxHeartbeats 1000000 in
theorem refStart_any (w : World) (hT : ∀ wr : World, Below w.heap.size w wr → ∀ t, t < 8 → wr.cell? ⟨0, t, none⟩ = some (.int .u64 ((startL[t]?.getD 0 : Nat) : Int))) :
    Calls Tryd.prog 32 #[] w fun e w' => e = .returned (.agg (u32s startL).toArray) ∧ Below w.heap.size w w' := by
  have hz := zero8
  have hT' := Lib.hid hT
  have hB0 := Lib.hid (((Below.refl w.heap.size w).alloc (Nat.le_refl _) (.cells (u32s (zerW 8)).toArray 61)).alloc (by simp) (.cells (u32s (zerW 8)).toArray 61))
  have h0 : Blk32 ((w.alloc (.cells (u32s (zerW 8)).toArray 61)).alloc (.cells (u32s (zerW 8)).toArray 61)) w.heap.size 61 (zerW 8) := heap_alloc2_old w _ _
  have h1 : Blk32 ((w.alloc (.cells (u32s (zerW 8)).toArray 61)).alloc (.cells (u32s (zerW 8)).toArray 61)) (w.heap.size + 1) 61 (stTo 0) := heap_alloc2_new w _ _
  have h0' := Lib.hid h0
  have h1' := Lib.hid h1
  clear hT h0 h1
  go_enter Tryd.func32, Tryd.ntmps32
  go_wp2_with fail
  generalize ((w.alloc (.cells (u32s (zerW 8)).toArray 61)).alloc (.cells (u32s (zerW 8)).toArray 61)) = w2 at hB0 h0' h1' ⊢
  go_loopw [2] (fun i wr => ∃ k : Nat, k ≤ 8 ∧ i = .int .i64 k ∧ Hid (Below w.heap.size w wr) ∧ Hid (Blk32 wr w.heap.size 61 (zerW 8)) ∧ Hid (Blk32 wr (w.heap.size + 1) 61 (stTo k))) (fun i _ => 8 - (intOf i).toNat)
  case atStart => exact ⟨0, by omega, rfl, hB0, h0', h1'⟩
  case round =>
    clear hB0 h0' h1'
    obtain ⟨k, hk, rfl, hB, h0, h1⟩ := hrel
    by_cases hlt : k < 8
    · have q := hT'.out wr hB.out k hlt
      have q2 := h1.out.cell (k := k) (by rw [stTo_len hk]; exact hlt)
      have qf := h1.out.frozen k
      have hl : startL[k]?.getD 0 < 4294967296 := by
        rcases (show k = 0 ∨ k = 1 ∨ k = 2 ∨ k = 3 ∨ k = 4 ∨ k = 5 ∨ k = 6 ∨ k = 7 by omega) with e | e | e | e | e | e | e | e <;> subst e <;> decide
      have hset := stTo_set hlt
      have hx : ∃ x, Hid (∀ _ : Unit, startL[k]?.getD 0 = x) := ⟨_, Lib.hid fun _ => rfl⟩
      obtain ⟨x, hx⟩ := hx
      rw [hx.out ()] at q hl hset
      have s1 := h1.out.set k x
      rw [hset] at s1
      have s1' := Lib.hid s1
      have s0 := Lib.hid (h0.out.far (p := ⟨w.heap.size + 1, k, none⟩) (by simp) (.int .u32 (x : Int)))
      have sB := Lib.hid (hB.out.setCell (p := ⟨w.heap.size + 1, k, none⟩) (by simp) (.int .u32 (x : Int)))
      have k0 : (0 : Int) ≤ (k : Int) := by omega
      have k1 : (k : Int) < 8 := by omega
      clear hset s1 hB h0 h1
      go_wp2_with fail
      go_roundw
      case rel => exact ⟨k + 1, by omega, by go_num, sB, s0, s1'⟩
      case measure => simp [intOf]; omega
    · rw [show k = 8 by omega] at h1
      rw [show (k : Int) = (8 : Int) by omega]
      have hi8 : (Tryd.prog.info? 61).map (·.size) = some 8 := by kernel_rfl
      have hi8' := Lib.hid hi8
      have h1'' : Hid (Blk32 wr (w.heap.size + 1) 61 startL) := h1
      clear hi8 h1 hz
      go_wp2_with (first
        | (refine wpList_load_row rfl 61 _ rfl (w.heap.size + 1) rfl 61 (u32s startL).toArray (0, 0) _ h1''.out Tryd.underlying61 rfl (by exact hi8'.out) ?_)
        | (refine wpList_store_row rfl 61 _ _ rfl w.heap.size (u32s startL).toArray rfl rfl 61 _ h0.out (by exact hi8'.out) (by simp [u32s, zerW, startL]) (by simp [u32s, Value.oneCell']) ?_))
      have hset := setRow_heap _ w.heap.size _ (u32s startL).toArray 61 _ h0.out
      exact bodyPost_ret (results_cell_row rfl _ _ w.heap.size 61 (u32s startL).toArray (0, 0) _ rfl hset Tryd.underlying61 rfl (by exact hi8'.out)) rfl ⟨rfl, setRow_belS hB.out (Nat.le_refl _) _⟩
end Go.Proofs.YtlolnpilpdkbkaaDoor
