/- told, of no filter. -/
import Derived.Test.YtlghgfnkckaebaaWNo
namespace Go.Proofs.Ytlghgfnkckaebaa
open Go.RowKit
set_option linter.unusedSimpArgs false
set_option linter.unusedVariables false

set_option maxRecDepth 20000 in
set_option maxHeartbeats 2000000 in
theorem told_no {w : World} {p : Option Addr} (h : NoF w p) : Calls Try.prog 25 #[.agg #[.pointer p, .pointer none]] w fun e w' => e = .returned (.bool true) ∧ Below w.heap.size w w' := by
  obtain ⟨K, hK⟩ : ∃ K, w.heap.size = K := ⟨_, rfl⟩
  obtain ⟨w1, hw1⟩ : ∃ w1, w.alloc (.cells #[.pointer p, .pointer none] 57) = w1 := ⟨_, rfl⟩
  have hb1 : Hid (Below w.heap.size w w1) := Lib.hid (by rw [← hw1]; exact (Below.refl _ _).alloc (Nat.le_refl _) _)
  have hc1 : w1.heap[K]? = some (.cells #[.pointer p, .pointer none] 57 (0, 0)) := by rw [← hw1, ← hK]; exact heap_alloc_new w _
  have c0 : w1.cell? ⟨K, 0, none⟩ = some (.pointer p) := cell_of_row _ _ _ _ _ _ hc1
  have c1 : w1.cell? ⟨K, 1, none⟩ = some (.pointer none) := cell_of_row _ _ _ _ _ _ hc1
  have hN : Hid (∀ k, NoF (w1.drewN k) p) := Lib.hid fun k => h.below (below_drewN hb1.out k)
  have hN0 : Hid (NoF w1 p) := Lib.hid (h.below hb1.out)
  clear h hc1
  go_enter Try.func25, Try.ntmps25
  go_wp2_with (go_at_call 55; refine (shape_no hN0.out).mono ?_; rintro e w9 ⟨rfl, rfl⟩)
  go_quiet (first
    | (go_at_call 28; exact quiet_e (ones_no (hN.out _)))
    | (go_at_call 32; exact quiet_e (fill_no (hN.out _)))
    | (go_at_call 31; exact quiet_e (alarm_no (hN.out _)))
    | (go_at_call 22; exact quiet_e (bytes_no (hN.out _))))
  go_wp2_with fail
  go_ret
  exact ⟨rfl, below_drewN hb1.out _⟩
end Go.Proofs.Ytlghgfnkckaebaa
