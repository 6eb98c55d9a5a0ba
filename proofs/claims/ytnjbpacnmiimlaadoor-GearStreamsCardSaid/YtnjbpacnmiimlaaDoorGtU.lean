/- GearStreams: a Cutter that takes nothing more; Held. -/
import Derived.Test.YtnjbpacnmiimlaaDoorGearEnd
namespace Go.Proofs.YtnjbpacnmiimlaaDoor
open Go.RowKit

/-- A Cutter that was ended. -/
def Over (W : World) (bc : Nat) (a m x : Int) (S : Nat) : Prop := W.heap[bc]? = some (.cells (cutV a m x none 0 0 S true) 76 (0, 0))

set_option maxRecDepth 20000 in
theorem usable_nil (w : World) : Calls Tryd.prog 36 #[.pointer none] w fun e w' => e = .returned (.int .i64 1) ∧ w = w' := by
  go_enter Tryd.func36, Tryd.ntmps36
  go_wp2
  go_ret
  exact ⟨rfl, rfl⟩
set_option maxRecDepth 20000 in
theorem usable_over (w : World) {bc : Nat} {a m x : Int} {S : Nat} (h : Over w bc a m x S) : Calls Tryd.prog 36 #[.pointer (some ⟨bc, 0, none⟩)] w fun e w' => e = .returned (.int .i64 3) ∧ w = w' := by
  have q4 : w.cell? ⟨bc, 4, none⟩ = some (tstV S) := cell_of_row w bc 4 _ _ _ h
  have q5 : w.cell? ⟨bc, 5, none⟩ = some (.bool true) := cell_of_row w bc 5 _ _ _ h
  unfold tstV at q4
  have e0 := fun w cs => eql_func w 40 cs
  clear h
  go_enter Tryd.func36, Tryd.ntmps36
  go_wp2
  go_ret
  exact ⟨rfl, rfl⟩
set_option maxRecDepth 20000 in
theorem write_shut (w : World) (p : Value) (k : Int) (hk : k ≠ 0) (A : Option Addr) (n c : Nat) (hu : Calls Tryd.prog 36 #[p] w fun e w' => e = .returned (.int .i64 k) ∧ w = w') :
    Calls Tryd.prog 24 #[p, .slice A n c] w fun e w' => e = .returned (.tuple #[.slice none 0 0, .int .i64 k]) ∧ w = w' := by
  have hu' := Lib.hid hu
  have hk1 : (k != 0) = true := by simpa using hk
  clear hu hk
  go_enter Tryd.func24, Tryd.ntmps24
  go_wp2_with (go_at_call 36; refine hu'.out.mono ?_; rintro e w' ⟨rfl, rfl⟩)
  go_ret2
  exact ⟨rfl, rfl⟩
set_option maxRecDepth 20000 in
theorem end_shut (w : World) (p : Value) (k : Int) (hk : k ≠ 0) (hu : Calls Tryd.prog 36 #[p] w fun e w' => e = .returned (.int .i64 k) ∧ w = w') :
    Calls Tryd.prog 25 #[p] w fun e w' => e = .returned (.tuple #[.slice none 0 0, .int .i64 k]) ∧ w = w' := by
  have hu' := Lib.hid hu
  have hk1 : (k != 0) = true := by simpa using hk
  clear hu hk
  go_enter Tryd.func25, Tryd.ntmps25
  go_wp2_with (go_at_call 36; refine hu'.out.mono ?_; rintro e w' ⟨rfl, rfl⟩)
  go_ret2
  exact ⟨rfl, rfl⟩
set_option maxRecDepth 20000 in
theorem held_nil (w : World) : Calls Tryd.prog 29 #[.pointer none] w fun e w' => e = .returned (.int .i64 0) ∧ w = w' := by
  go_enter Tryd.func29, Tryd.ntmps29
  go_wp2
  go_ret
  exact ⟨rfl, rfl⟩
set_option maxRecDepth 20000 in
theorem held_some (w : World) {bc n c : Nat} {A : Option Addr} (h : w.cell? ⟨bc, 3, none⟩ = some (.slice A n c)) : Calls Tryd.prog 29 #[.pointer (some ⟨bc, 0, none⟩)] w fun e w' => e = .returned (.int .i64 (n : Nat)) ∧ w = w' := by
  go_enter Tryd.func29, Tryd.ntmps29
  go_wp2
  go_ret
  exact ⟨rfl, rfl⟩
end Go.Proofs.YtnjbpacnmiimlaaDoor
