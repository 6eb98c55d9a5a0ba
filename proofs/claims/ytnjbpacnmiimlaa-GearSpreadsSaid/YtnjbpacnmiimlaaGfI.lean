/- GearSpreads: what is told is compared. -/
import Derived.Test.YtnjbpacnmiimlaaGfH
import Derived.Laws.StructEq
namespace Go.Proofs.Ytnjbpacnmiimlaa
open Go.RowKit

set_option maxHeartbeats 1000000 in
theorem intsS_eq (A1 A2 : Option Addr) (c1 c2 n : Nat) (g : Nat → Int) (B1 B2 : Nat) (w : World) (hn : n ≤ 4611686018427387904) (h1 : Is w B1 A1 n g) (h2 : Is w B2 A2 n g) :
    Calls Try.prog 12 #[.slice A1 n c1, .slice A2 n c2] w fun e w' => e = .returned (.bool true) ∧ ∃ m, w' = w.drewN m := by
  have H1 := Lib.hid h1
  have H2 := Lib.hid h2
  clear h1 h2
  go_enter Try.func12, Try.ntmps12
  go_wp2_with fail
  go_loopw [5] (fun i wr => ∃ k m : Nat, k ≤ n ∧ i = .int .i64 k ∧ wr = w.drewN m) (fun i _ => n - (intOf i).toNat)
  case atStart => exact ⟨0, 0, Nat.zero_le _, rfl, rfl⟩
  case round =>
    obtain ⟨k, m, hk, rfl, rfl⟩ := hrel
    by_cases hlt : k < n
    · obtain ⟨b1, o1, rfl, _, q1⟩ := Rd.get H1.out hlt
      obtain ⟨b2, o2, rfl, _, q2⟩ := Rd.get H2.out hlt
      go_wp2_with fail
      go_quiet (fail)
      go_wp2_with fail
      go_roundw
      case rel => exact ⟨k + 1, _, by omega, by go_num, rfl⟩
      case measure => simp [intOf]; omega
    · obtain rfl : k = n := by omega
      go_wp2_with fail
      go_ret
      exact ⟨rfl, m, rfl⟩

theorem equalIn_float (d : Nat) (t : TypeId) (k' : FloatKind) (a : Nat) (ha : Fl.NN a) (h : Try.prog.underlying t = some (.float k')) (w : World) : (Op.equalIn (d + 1) t (.float .f64 a) (.float .f64 a)).run Try.prog w = .ok true w := by
  have e : Op.floatEq .f64 a a = true := by
    unfold Fl.NN at ha
    unfold Op.floatEq
    show (Ieee.double.order a a == some .eq) = true
    rw [ha]
    rfl
  simp [Op.equalIn, run_underlying h, e]
theorem equal_spread (a b c : Int) (m r : Nat) (hm : Fl.NN m) (hr : Fl.NN r) (w : World) : (Op.equalIn 10000 33 (.agg (spR a b c m r)) (.agg (spR a b c m r))).run Try.prog w = .ok true w := by
  have hS : Try.prog.underlying 33 = some (.struct (Try.prog.fieldsOf 33)) := by kernel_rfl
  have hp : Try.prog.stoodInHeld 33 = false := by kernel_rfl
  have hag : (isAgg 31).run Try.prog w = .ok false w := Try.isAgg31 w
  have p0 : (part 3 (spR a b c m r) 0).run Try.prog w = .ok (.int .i64 a) w := run_part_plain w (by kernel_rfl) rfl
  have p1 : (part 3 (spR a b c m r) 1).run Try.prog w = .ok (.int .i64 b) w := run_part_plain w (by kernel_rfl) rfl
  have p2 : (part 3 (spR a b c m r) 2).run Try.prog w = .ok (.int .i64 c) w := run_part_plain w (by kernel_rfl) rfl
  have p3 : (part 31 (spR a b c m r) 3).run Try.prog w = .ok (.float .f64 m) w := by simp [part, hag, spR]
  have p4 : (part 31 (spR a b c m r) 4).run Try.prog w = .ok (.float .f64 r) w := by simp [part, hag, spR]
  have e0 : ∀ x : Int, (Op.equalIn 9999 3 (.int .i64 x) (.int .i64 x)).run Try.prog w = .ok true w := fun x => by
    rw [show (9999 : Nat) = 9998 + 1 from rfl, run_equalIn_int w 9998 3 .i64 .i64 x x Try.underlying3]
    simp
  have e3 := fun x hx => equalIn_float 9998 31 .f64 x hx Try.underlying31 w
  rw [show (10000 : Nat) = 9999 + 1 from rfl, run_equalIn_agg w 9999 _ _ _ hS hp]
  simp only [Program.fieldsOf, Try.underlying33, Op.eqFields]
  simp [p0, p1, p2, p3, p4, e0, e3 m hm, e3 r hr]
theorem eql_spread (a b c : Int) (m r : Nat) (hm : Fl.NN m) (hr : Fl.NN r) (w : World) : (binOp .eql 33 (.agg (spR a b c m r)) (.agg (spR a b c m r))).run Try.prog w = .ok (.bool true) w := by
  rw [run_eql_struct, equal_spread a b c m r hm hr]
  rfl
theorem spV_form (g : Nat → Int) (N : Nat) (hg : ∀ i, (g i).natAbs ≤ 2 ^ 63) (hN : N < 2 ^ 45) : ∃ a b c m r, spV g N = .agg (spR a b c m r) ∧ Fl.NN m ∧ Fl.NN r := by
  unfold spV
  by_cases h : N = 0
  · rw [if_pos h]
    exact ⟨_, _, _, _, _, rfl, by unfold Fl.NN; decide +kernel, by unfold Fl.NN; decide +kernel⟩
  · rw [if_neg h]
    obtain ⟨_, _, h3, h4⟩ := Fl.last_spec (Fl.inv_all hg hN N (Nat.le_refl _)) (by omega) hN
    exact ⟨_, _, _, _, _, rfl, h4, h3⟩
def g35 (j : Nat) : Int := if j = 0 then 3 else if j = 1 then 5 else 0
theorem g35_le (i : Nat) : (g35 i).natAbs ≤ 2 ^ 63 := by
  unfold g35
  split
  · decide
  · split <;> decide
theorem sp35 : Fl.spF g35 2 = (4616189618054758400, 4611686018427387904) := by decide +kernel
theorem r35 : Fl.rF 4611686018427387904 2 = 4607182418800017408 := by decide +kernel
theorem spV35 : spV g35 2 = .agg (spR 2 3 5 4616189618054758400 4607182418800017408) := by
  unfold spV
  rw [if_neg (by decide), sp35, r35]
  rfl
theorem is35 (w : World) : Is (w.alloc (.cells #[.int .i64 3, .int .i64 5] 3)) (w.heap.size + 1) (some ⟨w.heap.size, 0, none⟩) 2 g35 := by
  intro _
  refine ⟨_, _, rfl, by omega, fun j hj => ?_⟩
  rw [cell_of_row _ w.heap.size (0 + j) _ 3 (0, 0) (heap_alloc_new w _)]
  match j, hj with
  | 0, _ => rfl
  | 1, _ => rfl
theorem el_I : ElemOk Try.prog 30 3 (.int .i64 0) 1 8 := ⟨Try.underlying30, by kernel_rfl, rfl, by decide⟩
end Go.Proofs.Ytnjbpacnmiimlaa
