/- Words turned: the document's functions on wide words, the program's on words of 32 digits. -/
import Derived.Test.YtlolnpilpdkbkaaDoorProg
import Derived.Test.YtlolnpilpdkbkaaDoorBase
import Derived.Laws.BitsAll
namespace Go.Proofs.YtlolnpilpdkbkaaDoor
open Go.RowKit

/-- A word turned right by n places. -/
def rot (x n : Nat) : Nat := x / 2 ^ n + x % 2 ^ n * 2 ^ (32 - n)
theorem rot_lt {x n : Nat} (hx : x < 4294967296) (hn : n ≤ 32) : rot x n < 4294967296 := by
  unfold rot
  have h1 : 2 ^ n * 2 ^ (32 - n) = 4294967296 := by rw [← Nat.pow_add, show n + (32 - n) = 32 by omega]
  have h2 : x / 2 ^ n < 2 ^ (32 - n) := by
    rw [Nat.div_lt_iff_lt_mul (Nat.two_pow_pos n), Nat.mul_comm, h1]
    exact hx
  have h3 : x % 2 ^ n + 1 ≤ 2 ^ n := Nat.mod_lt _ (Nat.two_pow_pos n)
  have h4 : (x % 2 ^ n + 1) * 2 ^ (32 - n) ≤ 2 ^ n * 2 ^ (32 - n) := Nat.mul_le_mul_right _ h3
  rw [Nat.add_mul, h1] at h4
  omega
theorem rot_or {x n : Nat} (hx : x < 4294967296) (hn : n ≤ 32) : (x * 2 ^ (32 - n) % 4294967296) ||| (x / 2 ^ n) = rot x n := by
  have h1 : 4294967296 = 2 ^ n * 2 ^ (32 - n) := by rw [← Nat.pow_add, show n + (32 - n) = 32 by omega]
  have h2 : x / 2 ^ n < 2 ^ (32 - n) := by
    rw [Nat.div_lt_iff_lt_mul (Nat.two_pow_pos n), Nat.mul_comm, ← h1]
    exact hx
  have h3 : x * 2 ^ (32 - n) % 4294967296 = 2 ^ (32 - n) * (x % 2 ^ n) := by
    rw [h1, Nat.mul_mod_mul_right, Nat.mul_comm]
  rw [h3, ← Nat.two_pow_add_eq_or_of_lt h2, rot, Nat.add_comm, Nat.mul_comm (2 ^ (32 - n))]

set_option maxRecDepth 20000 in
theorem part_any (n : Nat) (w : World) (hn : n ≤ 32) :
    Calls Tryd.prog 34 #[.int .i64 n] w fun e w' => e = .returned (.int .u64 (2 ^ n : Nat)) ∧ w = w' := by
  go_enter Tryd.func34, Tryd.ntmps34
  go_wp2_with fail
  go_loop [3, 4] (fun v i => ∃ k u : Nat, k ≤ n ∧ i = .int .i64 k ∧ v = .int .u64 u ∧ u = 2 ^ k) (fun _ i => n - (intOf i).toNat)
  case atStart => exact ⟨0, 1, by omega, rfl, rfl, rfl⟩
  case round =>
    obtain ⟨k, u, hk, rfl, rfl, hu⟩ := hrel
    have hu2 : u ≤ 4294967296 := by
      rw [hu]
      exact Nat.le_trans (Nat.pow_le_pow_right (by decide) (show k ≤ 32 by omega)) (by decide)
    have hu' := Lib.hid hu
    clear hu
    by_cases hlt : k < n
    · go_wp2_with fail
      go_round
      case rel => exact ⟨k + 1, u * 2, by omega, by go_num, by go_num, by rw [hu'.out, Nat.pow_succ]⟩
      case measure => simp [intOf]; omega
    · go_wp2_with fail
      go_ret
      exact ⟨ret_int (congrArg (fun t : Nat => (t : Int)) (hu'.out.trans (by rw [show k = n by omega]))), rfl⟩

set_option maxRecDepth 20000 in
theorem right_any (x n : Nat) (w : World) (hx : x < 18446744073709551616) (hn : n ≤ 32) :
    Calls Tryd.prog 48 #[.int .u64 x, .int .i64 n] w fun e w' => e = .returned (.int .u64 (x / 2 ^ n : Nat)) ∧ w = w' := by
  have hp : 2 ^ n ≤ 4294967296 := Nat.le_trans (Nat.pow_le_pow_right (by decide) hn) (by decide)
  have hp0 := Nat.two_pow_pos n
  have hpart := fun w => part_any n w hn
  generalize 2 ^ n = p at hp hp0 hpart ⊢
  have hpart' := Lib.hid hpart
  clear hpart
  have hd : x / p < 18446744073709551616 := Nat.lt_of_le_of_lt (Nat.div_le_self _ _) hx
  go_enter Tryd.func48, Tryd.ntmps48
  go_wp2_with (go_at_call 34; refine (hpart'.out _).mono ?_; rintro e w' ⟨rfl, rfl⟩)
  go_ret
  refine ⟨ret_int ?_, rfl⟩
  have e : (x : Int) / (p : Int) = ((x / p : Nat) : Int) := by simp
  rw [e]
  generalize x / p = d at hd
  rw [IntKind.wrap_u64]
  omega

def pw2 (n : Nat) : Nat := 2 ^ n
theorem part2_any (n : Nat) (w : World) (hn : n ≤ 32) :
    Calls Tryd.prog 34 #[.int .i64 n] w fun e w' => e = .returned (.int .u64 (pw2 n : Nat)) ∧ w = w' := part_any n w hn

set_option maxRecDepth 20000 in
set_option maxHeartbeats 1000000 in
theorem refTurned_core (x n n2 dd mm : Nat) (w : World) (hn : n ≤ 31) (hn2 : n2 ≤ 32) (e1 : (32 : Int) - (n : Int) = (n2 : Int)) (hp0 : (0 : Int) < (pw2 n : Int)) (hp : (pw2 n : Int) ≤ 4294967296) (hx : x < 4294967296) (hR : dd + mm < 4294967296)
    (i1 : (x : Int) / (pw2 n : Int) = (dd : Int)) (i2 : ((x : Int) % (pw2 n : Int)) * (pw2 n2 : Int) = (mm : Int)) :
    Calls Tryd.prog 47 #[.int .u64 x, .int .i64 n] w fun e w' => e = .returned (.int .u64 (dd + mm : Nat)) ∧ ∃ m, w' = w.drewN m := by
  go_enter Tryd.func47, Tryd.ntmps47
  go_wp2_with fail
  go_quiet ((go_at_call 34; exact quiet_l (fun W => part2_any _ W (by omega))))
  go_wp2_with fail
  go_ret
  exact ⟨ret_int (by simp), nq, rfl⟩
theorem refTurned_any (x n : Nat) (w : World) (hx : x < 4294967296) (hn : n ≤ 31) (h0 : 1 ≤ n) :
    Calls Tryd.prog 47 #[.int .u64 x, .int .i64 n] w fun e w' => e = .returned (.int .u64 (rot x n : Nat)) ∧ ∃ m, w' = w.drewN m := by
  have hp : pw2 n ≤ 4294967296 := Nat.le_trans (Nat.pow_le_pow_right (by decide) (show n ≤ 32 by omega)) (by decide)
  have hp0 : 0 < pw2 n := Nat.two_pow_pos n
  have := rot_lt hx (show n ≤ 32 by omega)
  exact refTurned_core x n (32 - n) (x / pw2 n) (x % pw2 n * pw2 (32 - n)) w hn (by omega) (by omega) (by omega) (by omega) hx this (by simp) (by simp)

set_option maxRecDepth 20000 in
theorem three_any (x a b c : Nat) (w : World) (hx : x < 4294967296) (ha : a ≤ 31) (ha0 : 1 ≤ a) (hb : b ≤ 31) (hb0 : 1 ≤ b) (hc : c ≤ 31) (hc0 : 1 ≤ c) :
    Calls Tryd.prog 42 #[.int .u64 x, .int .i64 a, .int .i64 b, .int .i64 c] w fun e w' => e = .returned (.int .u64 (rot x a ^^^ rot x b ^^^ rot x c : Nat)) ∧ ∃ m, w' = w.drewN m := by
  have l1 := rot_lt hx (show a ≤ 32 by omega)
  have l2 := rot_lt hx (show b ≤ 32 by omega)
  have l3 := rot_lt hx (show c ≤ 32 by omega)
  have x1 := u64_xor_nat (rot x a) (rot x b) (by omega) (by omega)
  have l4 : rot x a ^^^ rot x b < 4294967296 := Nat.xor_lt_two_pow (n := 32) l1 l2
  have x2 := u64_xor_nat (rot x a ^^^ rot x b) (rot x c) (by omega) (by omega)
  go_enter Tryd.func42, Tryd.ntmps42
  go_wp2_with (go_at_call 47; refine (refTurned_any x _ _ hx (by omega) (by omega)).mono ?_; rintro e w' ⟨rfl, m, rfl⟩)
  go_ret
  exact ⟨rfl, _, rfl⟩

theorem or_cast (x K M r : Nat) (h : x * K % 4294967296 ||| x / M = r) (hM : x / M < 4294967296) : bits .or .u32 ((x : Int) * (K : Int) % 4294967296) ((x : Int) / (M : Int)) = (r : Nat) := by
  rw [← h, ← u32_or_nat _ _ (Nat.mod_lt _ (by decide)) hM, Int.natCast_emod, Int.natCast_mul, Int.natCast_ediv]
  rfl

set_option maxRecDepth 20000 in
theorem rotate_any (x n : Nat) (w : World) (hx : x < 4294967296) (hn : n = 2 ∨ n = 6 ∨ n = 7 ∨ n = 11 ∨ n = 13 ∨ n = 17 ∨ n = 18 ∨ n = 19 ∨ n = 22 ∨ n = 25) :
    Calls Tryd.prog 51 #[.int .u32 x, .int .i64 (-(n : Int))] w fun e w' => e = .returned (.int .u32 (rot x n : Nat)) ∧ w = w' := by
  have hk : bits .and .u64 (IntKind.u64.wrap (-(n : Int))) 31 = 32 - (n : Int) := by
    rcases hn with h | h | h | h | h | h | h | h | h | h <;> subst h <;> kernel_rfl
  have ho := rot_or hx (show n ≤ 32 by omega)
  have hl := rot_lt hx (show n ≤ 32 by omega)
  rcases hn with h | h | h | h | h | h | h | h | h | h <;> subst h
  all_goals simp only [Int.cast_ofNat_Int, Int.reduceSub] at hk
  all_goals simp only [Nat.reduceSub, Nat.reducePow] at ho
  all_goals go_enter Tryd.func51, Tryd.ntmps51
  all_goals go_wp2
  all_goals go_ret
  all_goals refine ⟨ret_int ?_, rfl⟩
  all_goals exact or_cast _ _ _ _ ho (Nat.lt_of_le_of_lt (Nat.div_le_self _ _) hx)

set_option maxRecDepth 20000 in
theorem turned_any (x n : Nat) (w : World) (hx : x < 4294967296) (hn : n = 2 ∨ n = 6 ∨ n = 7 ∨ n = 11 ∨ n = 13 ∨ n = 17 ∨ n = 18 ∨ n = 19 ∨ n = 22 ∨ n = 25) :
    Calls Tryd.prog 50 #[.int .u32 x, .int .i64 n] w fun e w' => e = .returned (.int .u32 (rot x n : Nat)) ∧ w = w' := by
  have hb : n ≤ 25 := by omega
  go_enter Tryd.func50, Tryd.ntmps50
  go_wp2_with fail
  refine (rotate_any x n w hx hn).mono ?_
  rintro e w' ⟨rfl, rfl⟩
  go_wp2_with fail
  go_ret
  exact ⟨rfl, rfl⟩
end Go.Proofs.YtlolnpilpdkbkaaDoor
