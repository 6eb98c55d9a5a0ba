/- FrameExact: sums, and what the parts share: the boxed argument; what Pack tells. -/
import Derived.Test.YtjofpjioaiamhaaFxOw
import Derived.Test.YtjofpjioaiamhaaTurned
import Derived.Test.YtjofpjioaiamhaaSameB
import Derived.Test.YtjofpjioaiamhaaFxK
import Derived.BigRegion
import Derived.Deep.RegionHeld3
namespace Go.Proofs.Ytjofpjioaiamhaa
open Go.RowKit

/-- The boxed argument, and all that was ahead. -/
abbrev Hb (w0 w : World) (g : Nat) (c0 c1 c2 c3 : Value) : Prop :=
  w.cell? ⟨g, 0, none⟩ = some c0 ∧ w.cell? ⟨g, 1, none⟩ = some c1 ∧ w.cell? ⟨g, 2, none⟩ = some c2 ∧ w.cell? ⟨g, 3, none⟩ = some c3 ∧ Below w0.heap.size w0 w
theorem Hb.keep {w0 w w' : World} {g : Nat} {c0 c1 c2 c3 : Value} (h : Hb w0 w g c0 c1 c2 c3) (hb : Below w.heap.size w w') : Hb w0 w' g c0 c1 c2 c3 :=
  ⟨(hb.cell (World.block_lt_of_cell? _ _ h.1)).trans h.1, (hb.cell (World.block_lt_of_cell? _ _ h.2.1)).trans h.2.1, (hb.cell (World.block_lt_of_cell? _ _ h.2.2.1)).trans h.2.2.1, (hb.cell (World.block_lt_of_cell? _ _ h.2.2.2.1)).trans h.2.2.2.1, h.2.2.2.2.trans (hb.mono h.2.2.2.2.size)⟩
theorem Hb.new (w : World) (t : TypeId) (c0 c1 c2 c3 : Value) : Hb w (w.alloc (.cells #[c0, c1, c2, c3] t)) w.heap.size c0 c1 c2 c3 :=
  ⟨cell_of_row _ _ 0 _ _ _ (heap_alloc_new w _), cell_of_row _ _ 1 _ _ _ (heap_alloc_new w _), cell_of_row _ _ 2 _ _ _ (heap_alloc_new w _), cell_of_row _ _ 3 _ _ _ (heap_alloc_new w _), (Below.refl _ _).alloc (Nat.le_refl _) _⟩

theorem Hb.drewN {w0 w : World} {g : Nat} {c0 c1 c2 c3 : Value} (h : Hb w0 w g c0 c1 c2 c3) (n : Nat) : Hb w0 (w.drewN n) g c0 c1 c2 c3 := ⟨h.1, h.2.1, h.2.2.1, h.2.2.2.1, below_drewN h.2.2.2.2 n⟩

set_option maxRecDepth 20000 in
set_option maxHeartbeats 1000000 in
theorem fxsums_any (rl : List Nat) (AR Ar : Option Addr) (c0 : Value) (At : Int) (Sm nR cR cr : Nat) (w : World) (hl : ∀ b ∈ rl, b < 256) (hn : rl.length = nR) (hnR : nR ≤ 140737488351232) (hS : Sm < 4294967296) (h1 : Byt w w.heap.size AR rl) (h2 : Byt w w.heap.size Ar rl) :
    Calls Try.prog 17 #[.agg #[c0, .slice AR nR cR, .int .i64 At, .int .u32 Sm], .slice Ar nR cr] w fun e w' => e = .returned (.bool true) ∧ Below w.heap.size w w' := by
  have hl' := Lib.hid hl
  have hn' := Lib.hid hn
  have h1' := Lib.hid h1
  have h2' := Lib.hid h2
  have hb0 := Lib.hid (Hb.new w 39 c0 (.slice AR nR cR) (.int .i64 At) (.int .u32 Sm))
  clear hl hn h1 h2
  go_enter Try.func17, Try.ntmps17
  go_wp2_with fail
  obtain ⟨w1, hw1⟩ : ∃ w1, w.alloc (.cells #[c0, .slice AR nR cR, .int .i64 At, .int .u32 Sm] 39) = w1 := ⟨_, rfl⟩
  rw [hw1] at hb0 ⊢
  clear hw1
  go_region_held3 (fun w' => Hb w w' w.heap.size c0 (.slice AR nR cR) (.int .i64 At) (.int .u32 Sm))
    (first | exact hb0.out.drewN 1 | exact Hb.keep (by assumption) hb | assumption)
    (first
      | (go_at_call 9; refine (crc_any rl Ar nR cr w.heap.size _ hl'.out hn'.out (by omega) (Below.size (And.right (And.right (And.right (And.right (show Hb w _ w.heap.size c0 (.slice AR nR cR) (.int .i64 At) (.int .u32 Sm) by assumption)))))) (h2'.out.below (And.right (And.right (And.right (And.right (show Hb w _ w.heap.size c0 (.slice AR nR cR) (.int .i64 At) (.int .u32 Sm) by assumption))))))).mono ?_; rintro e w' ⟨rfl, hb⟩)
      | (go_at_call 28; refine (crc2_any rl AR nR cR w.heap.size _ hl'.out hn'.out (by omega) (h1'.out.below (And.right (And.right (And.right (And.right (show Hb w _ w.heap.size c0 (.slice AR nR cR) (.int .i64 At) (.int .u32 Sm) by assumption))))))).mono ?_; rintro e w' ⟨rfl, rfl⟩)
      | (go_at_call 10; refine (more_any Sm rl Ar nR cr w.heap.size _ hS hl'.out hn'.out (by omega) (Below.size (And.right (And.right (And.right (And.right (show Hb w _ w.heap.size c0 (.slice AR nR cR) (.int .i64 At) (.int .u32 Sm) by assumption)))))) (h2'.out.below (And.right (And.right (And.right (And.right (show Hb w _ w.heap.size c0 (.slice AR nR cR) (.int .i64 At) (.int .u32 Sm) by assumption))))))).mono ?_; rintro e w' ⟨rfl, hb⟩)
      | (go_at_call 29; refine (more2_any Sm rl AR nR cR w.heap.size _ hS hl'.out hn'.out (by omega) (h1'.out.below (And.right (And.right (And.right (And.right (show Hb w _ w.heap.size c0 (.slice AR nR cR) (.int .i64 At) (.int .u32 Sm) by assumption))))))).mono ?_; rintro e w' ⟨rfl, rfl⟩))
  rename_i hH
  have h6 := Lib.hid hH
  clear hH
  go_wp2_with fail
  go_ret
  exact ⟨rfl, h6.out.2.2.2.2⟩
end Go.Proofs.Ytjofpjioaiamhaa
