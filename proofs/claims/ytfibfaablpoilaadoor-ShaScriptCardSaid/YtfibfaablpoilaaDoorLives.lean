/- lives: what a Hasher answers on small things; a nil one. -/
import Derived.Test.YtfibfaablpoilaaDoorSumsW
namespace Go.Proofs.YtfibfaablpoilaaDoor
open Go.RowKit
set_option linter.unusedSimpArgs false

theorem write_nil (v : Value) (w : World) : Calls Tryd.prog 18 #[.pointer none, v] w fun e w' => (∃ v, e = .returned v) ∧ w' = w := by
  go_enter Tryd.func18, Tryd.ntmps18
  go_wp2_with fail
  exact bodyPost_ret (results_none rfl _ _ _) rfl ⟨⟨_, rfl⟩, rfl⟩
theorem len_nil (w : World) : Calls Tryd.prog 20 #[.pointer none] w fun e w' => e = .returned (.int .u64 0) ∧ w = w' := by
  go_enter Tryd.func20, Tryd.ntmps20
  go_wp2_with fail
  go_ret
  exact ⟨rfl, rfl⟩
theorem len_any (w : World) {g o : Nat} {ks m : List Nat} (h : Has w g o ks m) : Calls Tryd.prog 20 #[.pointer (some ⟨g, o, none⟩)] w fun e w' => e = .returned (.int .u64 (m.length : Nat)) ∧ w = w' := by
  obtain ⟨rs, ⟨st, bg, hH, _⟩, _⟩ := h
  have c0 := hH.cn
  clear hH
  go_enter Tryd.func20, Tryd.ntmps20
  go_wp2_with fail
  go_ret
  exact ⟨rfl, rfl⟩
set_option maxRecDepth 100000 in
theorem sum_nil (w : World) : Calls Tryd.prog 19 #[.pointer none] w fun e w' => e = .returned (.agg (u8s (zeros 32)).toArray) ∧ Below w.heap.size w w' := by
  have hz := zeroK
  have hi32 : (Tryd.prog.info? 34).map (·.size) = some 32 := by kernel_rfl
  have hi32' := Lib.hid hi32
  have k0 : Blk8 ((w.alloc (.cells (u8s (zeros 32)).toArray 34)).alloc (.cells (u8s (zeros 32)).toArray 34)) w.heap.size (zeros 32) := heap_alloc2_old w _ _
  have k1 : Blk8 ((w.alloc (.cells (u8s (zeros 32)).toArray 34)).alloc (.cells (u8s (zeros 32)).toArray 34)) (w.heap.size + 1) (zeros 32) := heap_alloc2_new w _ _
  have hB : Below w.heap.size w ((w.alloc (.cells (u8s (zeros 32)).toArray 34)).alloc (.cells (u8s (zeros 32)).toArray 34)) := ((Below.refl _ _).alloc (Nat.le_refl _) _).alloc (by simp) _
  have k0' := Lib.hid k0
  have k1' := Lib.hid k1
  have hB' := Lib.hid hB
  have hz32 : (u8s (zeros 32)).toArray.size = 32 := by simp [u8s, zeros]
  have hone : (u8s (zeros 32)).toArray.all (·.oneCell') = true := all_oneCell_toArray u8s_one
  clear hi32 k0 k1 hB
  go_enter Tryd.func19, Tryd.ntmps19
  go_wp2_with (first
    | (refine wpList_load_row rfl 34 _ rfl (w.heap.size + 1) rfl 34 (u8s (zeros 32)).toArray (0, 0) _ k1'.out Tryd.underlying34 rfl (by rw [hz32]; exact hi32'.out) ?_)
    | (refine wpList_store_row rfl 34 _ _ rfl w.heap.size (u8s (zeros 32)).toArray rfl rfl 34 _ k0'.out (by rw [hz32]; exact hi32'.out) rfl hone ?_))
  have hset := setRow_heap _ w.heap.size _ (u8s (zeros 32)).toArray 34 _ k0'.out
  exact bodyPost_ret (results_cell_row rfl _ _ w.heap.size 34 (u8s (zeros 32)).toArray (0, 0) _ rfl hset Tryd.underlying34 rfl (by rw [hz32]; exact hi32'.out)) rfl ⟨rfl, setRow_below hB'.out (Nat.le_refl _) _⟩
end Go.Proofs.YtfibfaablpoilaaDoor
