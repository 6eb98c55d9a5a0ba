/- Parse of what is no key's text. -/
import Derived.Test.YtlolnpilpdkbkaaDoorParse
namespace Go.Proofs.YtlolnpilpdkbkaaDoor
open Go.RowKit
set_option linter.unusedSimpArgs false

theorem zeroKb (w : World) : (Instr.build 24 #[]).run Tryd.prog w = .ok (.agg (u8s (zeros 32)).toArray) w :=
  run_build w _ _ _ (by kernel_rfl)

set_option maxRecDepth 100000 in
set_option maxHeartbeats 1000000 in
theorem parse_bad (s : ByteArray) (w : World) (hm : s.size ≤ 9223372036854775807) (hg : good s.data.toList = false) :
    Calls Tryd.prog 15 #[.string s] w fun e w' => e = .returned (.tuple #[.agg (u8s (zeros 32)).toArray, .int .i64 30]) ∧ Below w.heap.size w w' := by
  have hz := zeroKy
  have hbl := zeroKb
  have hi32 : (Tryd.prog.info? 24).map (·.size) = some 32 := by kernel_rfl
  have hi32' := Lib.hid hi32
  have h0' := Lib.hid (heap_alloc_new w (.cells (u8s (zeros 32)).toArray 24))
  have hB' := Lib.hid ((Below.refl w.heap.size w).alloc (Nat.le_refl _) (.cells (u8s (zeros 32)).toArray 24))
  have hA' : s.size = 64 → Calls Tryd.prog 25 #[.string s] (w.alloc (.cells (u8s (zeros 32)).toArray 24)) fun e w' => e = .returned (.bool false) ∧ w' = (w.alloc (.cells (u8s (zeros 32)).toArray 24)) := fun h => by
    have := areDigits_any s (w.alloc (.cells (u8s (zeros 32)).toArray 24)) hm
    unfold good at hg
    rw [← Lib.size_eq, h] at hg
    simp only [decide_true, Bool.true_and] at hg
    rwa [hg] at this
  have hs32 : (u8s (zeros 32)).toArray.size = 32 := by simp [u8s, zeros]
  have hone : (u8s (zeros 32)).toArray.all (·.oneCell') = true := all_oneCell_toArray u8s_one
  have hA2 := Lib.hid hA'
  have hset := setRow_heap (w.alloc (.cells (u8s (zeros 32)).toArray 24)) w.heap.size _ (u8s (zeros 32)).toArray 24 _ h0'.out
  have hset' := Lib.hid hset
  clear hi32 hA' hg hset
  by_cases hs : s.size = 64
  · have hA3 := Lib.hid (hA2.out hs)
    clear hA2
    go_enter Tryd.func15, Tryd.ntmps15
    go_wp2_with (first
      | (go_at_call 25; refine hA3.out.mono ?_; rintro e w1 ⟨rfl, rfl⟩)
      | (refine wpList_store_row rfl 24 _ _ rfl w.heap.size (u8s (zeros 32)).toArray rfl rfl 24 _ h0'.out (by rw [hs32]; exact hi32'.out) (by rw [hs32]) hone ?_))
    refine bodyPost_ret (results_row_tmp rfl _ _ w.heap.size 24 (u8s (zeros 32)).toArray (0, 0) _ _ rfl rfl hset'.out Tryd.underlying24 rfl (by rw [hs32]; exact hi32'.out)) rfl ⟨rfl, setRow_below hB'.out (Nat.le_refl _) _⟩
  · have hne : ((s.size : Int) != 64) = true := by simp; omega
    clear hA2
    go_enter Tryd.func15, Tryd.ntmps15
    go_wp2_with (first
      | (refine wpList_store_row rfl 24 _ _ rfl w.heap.size (u8s (zeros 32)).toArray rfl rfl 24 _ h0'.out (by rw [hs32]; exact hi32'.out) (by rw [hs32]) hone ?_))
    refine bodyPost_ret (results_row_tmp rfl _ _ w.heap.size 24 (u8s (zeros 32)).toArray (0, 0) _ _ rfl rfl hset'.out Tryd.underlying24 rfl (by rw [hs32]; exact hi32'.out)) rfl ⟨rfl, setRow_below hB'.out (Nat.le_refl _) _⟩
end Go.Proofs.YtlolnpilpdkbkaaDoor
