/- left: a lent list is as it was. -/
import Derived.Test.YtnjbpacnmiimlaaDoorGLent
namespace Go.Proofs.YtnjbpacnmiimlaaDoor
open Go.RowKit

set_option maxRecDepth 100000 in
set_option maxHeartbeats 1000000 in
theorem left_any (w : World) (b : List Nat) (A : Option Addr) (c cc ga : Nat) (hA : Byt w w.heap.size A b) (hM : Byt w w.heap.size (some ⟨ga, 0, none⟩) (marked b 80)) (hL : b.length ≤ 140737488355328) (hcc : b.length + 80 ≤ cc) :
    Calls Tryd.prog 14 #[.slice (some ⟨ga, 0, none⟩) b.length cc, .slice A b.length c] w fun e w' => e = .returned (.bool true) ∧ ∃ m, w' = w.drewN m := by
  obtain ⟨L, hLL⟩ : ∃ L, Hid (∀ _ : Unit, b.length = L) := ⟨_, Lib.hid fun _ => rfl⟩
  rw [hLL.out ()] at hL hcc ⊢
  have hA' := Lib.hid hA
  have hM' := Lib.hid hM
  have hsl : ∀ W : World, (Instr.slice 24 (.slice (some ⟨ga, 0, none⟩) L cc) none (some (.int .i64 ((L : Int) + 80))) none).run Tryd.prog W = .ok (.slice (some ⟨ga, 0, none⟩) (L + 80) cc) W := fun W => by
    have hs : (sizeOf (Tryd.prog.elem 24)).run Tryd.prog W = .ok 1 W := by kernel_rfl
    have e : ((L : Int) + 80).toNat = L + 80 := by omega
    rw [run_slice_h W 24 _ L cc (by rw [Tryd.underlying24]; kernel_rfl) .i64 ((L : Int) + 80) (by omega) (by omega), hs]
    simp only [Result.andThen, sliced, e, Nat.zero_mul, Nat.sub_zero]
    rw [if_neg (by omega)]
    simp [Addr.add_lit]
  clear hA hM
  go_enter Tryd.func14, Tryd.ntmps14
  go_wp2_with fail
  go_loopw [6] (fun i wr => ∃ k m : Nat, k ≤ L + 80 ∧ i = .int .i64 k ∧ wr = w.drewN m) (fun i _ => L + 80 - (intOf i).toNat)
  case atStart => exact ⟨0, 0, by omega, rfl, rfl⟩
  case round =>
    obtain ⟨k, m, hk, rfl, rfl⟩ := hrel
    by_cases hlt : k < L + 80
    · have hml : (marked b 80).length = L + 80 := by rw [marked_length, hLL.out ()]
      obtain ⟨b2, off2, e2, _, q2⟩ := hM'.out.get (k := k) (by rw [hml]; exact hlt)
      cases e2
      rw [Nat.zero_add] at q2
      by_cases hkL : k < L
      · obtain ⟨b1, off1, rfl, _, q1⟩ := hA'.out.get (k := k) (by rw [hLL.out ()]; exact hkL)
        have em : (marked b 80)[k]?.getD 0 = b[k]?.getD 0 := by
          unfold marked
          rw [List.getElem?_append_left (by rw [hLL.out ()]; exact hkL)]
        rw [em] at q2
        obtain ⟨x, hx⟩ : ∃ x, Hid (∀ _ : Unit, b[k]?.getD 0 = x) := ⟨_, Lib.hid fun _ => rfl⟩
        rw [hx.out ()] at q1 q2
        have c1 : decide ((k : Int) < (L : Int)) = true := decide_eq_true (by omega)
        have c2 : decide (L ≤ k) = false := decide_eq_false (by omega)
        have i1 : (k : Int) < (L : Int) := by omega
        have i2 : (k : Int) < (L : Int) + 80 := by omega
        have i0 : (0 : Int) ≤ (k : Int) := by omega
        clear em hml
        go_wp2_with fail
        go_quiet (fail)
        go_wp2_with fail
        go_roundw
        case rel => exact ⟨k + 1, _, by omega, by go_num, rfl⟩
        case measure => simp [intOf]; omega
      · have em : (marked b 80)[k]?.getD 0 = 165 := by
          unfold marked
          rw [List.getElem?_append_right (by rw [hLL.out ()]; omega), hLL.out (), List.getElem?_replicate, if_pos (by omega)]
          rfl
        rw [em] at q2
        have c1 : decide ((k : Int) < (L : Int)) = false := decide_eq_false (by omega)
        have i1 : (L : Int) ≤ (k : Int) := by omega
        have i2 : (k : Int) < (L : Int) + 80 := by omega
        have i0 : (0 : Int) ≤ (k : Int) := by omega
        clear em hml
        go_wp2_with fail
        go_quiet (fail)
        go_wp2_with fail
        go_roundw
        case rel => exact ⟨k + 1, _, by omega, by go_num, rfl⟩
        case measure => simp [intOf]; omega
    · rw [show (k : Int) = (L : Int) + 80 by omega]
      go_wp2_with fail
      go_ret
      exact ⟨rfl, m, rfl⟩
end Go.Proofs.YtnjbpacnmiimlaaDoor
