/- NewCutter, usable, End. -/
import Derived.Test.YtnjbpacnmiimlaaDoorGearM
namespace Go.Proofs.YtnjbpacnmiimlaaDoor
open Go.RowKit

theorem eql_func (w : World) (f : FuncId) (cs : Array Value) : (binOp .eql 70 (.func (.func f) #[] cs) .nilFunc).run Tryd.prog w = .ok (.bool false) w := rfl

set_option maxRecDepth 20000 in
theorem usable_any {B bc : Nat} {a m x : Int} {A : Option Addr} {n c : Nat} {held : List Nat} {S : Nat} (w : World) (h : Cutr w B bc a m x A n c held S) :
    Calls Tryd.prog 36 #[.pointer (some ⟨bc, 0, none⟩)] w fun e w' => e = .returned (.int .i64 0) ∧ w = w' := by
  obtain ⟨_, _, _, _, q4, q5⟩ := h.cells
  unfold tstV at q4
  have e0 := fun w cs => eql_func w 40 cs
  clear h
  go_enter Tryd.func36, Tryd.ntmps36
  go_wp2
  go_ret
  exact ⟨rfl, rfl⟩

theorem build_cutter (w : World) (a m x : Int) (S : Nat) : (Instr.build 76 #[(0, .agg #[.int .i64 a, .int .i64 m, .int .i64 x]), (2, tstV S)]).run Tryd.prog w = .ok (.agg (cutV a m x none 0 0 S false)) w :=
  run_build w _ _ _ (by kernel_rfl)

set_option maxRecDepth 20000 in
set_option maxHeartbeats 1000000 in
theorem new_any (a m x : Int) (w : World) (ok : okRule a m x) (hT : Tz w) :
    Calls Tryd.prog 22 #[.agg #[.int .i64 a, .int .i64 m, .int .i64 x]] w fun e w' => (∃ bc S, e = .returned (.tuple #[.pointer (some ⟨bc, 0, none⟩), .int .i64 0]) ∧ Cutr w' w.heap.size bc a m x none 0 0 [] S) ∧ Below w.heap.size w w' := by
  have ck := chk_ok ok
  have ok' := Lib.hid ok
  have hT' := Lib.hid hT
  obtain ⟨c0, c1, c2⟩ := box3 w a m x
  have hb0 := Lib.hid ((Below.refl w.heap.size w).alloc (Nat.le_refl _) (.cells #[.int .i64 a, .int .i64 m, .int .i64 x] 23))
  clear ok hT
  go_enter Tryd.func22, Tryd.ntmps22
  go_wp2_with (go_at_call 23; refine (check_any a m x _).mono ?_; rw [ck]; rintro e w1 ⟨rfl, hb1⟩)
  have d0 := (hb1.cell (p := ⟨w.heap.size, 0, none⟩) (by simp)).trans c0
  have d1 := (hb1.cell (p := ⟨w.heap.size, 1, none⟩) (by simp)).trans c1
  have d2 := (hb1.cell (p := ⟨w.heap.size, 2, none⟩) (by simp)).trans c2
  have hB1 := Lib.hid (hb0.out.trans (hb1.mono (by simp)))
  have hP1 : w.heap.size + 1 ≤ w1.heap.size := by have := hb1.size; simpa using this
  clear hb1 c0 c1 c2 hb0
  have hends := Lib.hid fun W (hW : Below w.heap.size w W) => ends_any a m x W ok'.out (hT'.out.below hW)
  have hbd := fun w S => build_cutter w a m x S
  unfold tstV cutV at hbd
  unfold tstV at hends
  go_region_held3 (fun w' => Below w.heap.size w w' ∧ w'.cell? ⟨w.heap.size, 0, none⟩ = some (.int .i64 a) ∧ w'.cell? ⟨w.heap.size, 1, none⟩ = some (.int .i64 m) ∧ w'.cell? ⟨w.heap.size, 2, none⟩ = some (.int .i64 x))
    (first | exact ⟨below_drewN hB1.out 1, d0, d1, d2⟩ | exact keep3 hb2 ⟨hB1.out, d0, d1, d2⟩ | exact keep3 hb2 (by assumption) | exact keep3 ((Below.refl _ _).alloc (Nat.le_refl _) _) (by assumption) | assumption)
    (first | (go_at_call 31; refine (hends.out _ (And.left (by assumption))).mono ?_; rintro e w2 ⟨rfl, ht2, hb2, hs2⟩))
  rename_i hH
  have hB := hH.1
  have hal := heap_alloc_new w2 (.cells (cutV a m x none 0 0 w1.heap.size false) 76)
  rw [hs2] at hal
  have hta := ht2.below ((Below.refl w2.heap.size w2).alloc (Nat.le_refl _) (.cells (cutV a m x none 0 0 w1.heap.size false) 76)) (by rw [hs2]; exact Nat.le_refl _)
  have hta' := Lib.hid hta
  have hal' := Lib.hid hal
  have hB' := Lib.hid hB
  clear hH hB hal hta ht2 hbd
  go_wp2_with fail
  go_ret2
  exact ⟨⟨_, _, rfl, ⟨ok'.out, hal'.out, ownB_nil _ _ _, hta'.out, rfl, by simp [blockOf], .inr (Nat.le_refl _), (fun k hk => by cases hk), by omega, by omega⟩⟩, hB'.out⟩
end Go.Proofs.YtnjbpacnmiimlaaDoor
