/- gear.Word, the document's Word; Check on both sides. -/
import Derived.Test.YtnjbpacnmiimlaaDoorProg
import Derived.Test.YtnjbpacnmiimlaaDoorBase
import Derived.Laws.BitsAll
namespace Go.Proofs.YtnjbpacnmiimlaaDoor
open Go.RowKit

def wz0 (b : Int) : Int := IntKind.u64.wrap ((b + 1) * 11400714819323198485)
def wz1 (b : Int) : Int := IntKind.u64.wrap (bits .xor .u64 (wz0 b) (wz0 b / 1073741824) * 13787848793156543929)
def wz2 (b : Int) : Int := IntKind.u64.wrap (bits .xor .u64 (wz1 b) (wz1 b / 134217728) * 10723151780598845931)
/-- The number of a byte. -/
def wz (b : Int) : Int := bits .xor .u64 (wz2 b) (wz2 b / 2147483648)
def wordN (b : Nat) : Nat := (wz b).toNat
theorem xor64_in {a b : Int} (h1 : 0 ≤ a) (h2 : a < 18446744073709551616) (h3 : 0 ≤ b) (h4 : b < 18446744073709551616) : 0 ≤ bits .xor .u64 a b ∧ bits .xor .u64 a b < 18446744073709551616 := by
  rw [u64_xor a b h1 h2 h3 h4]
  have : a.toNat ^^^ b.toNat < 18446744073709551616 := Nat.xor_lt_two_pow (n := 64) (by omega) (by omega)
  omega
theorem wrap64_in (x : Int) : 0 ≤ IntKind.u64.wrap x ∧ IntKind.u64.wrap x < 18446744073709551616 := by rw [IntKind.wrap_u64]; omega
theorem wz_in (b : Int) : 0 ≤ wz b ∧ wz b < 18446744073709551616 := by
  have h := wrap64_in (bits .xor .u64 (wz1 b) (wz1 b / 134217728) * 10723151780598845931)
  exact xor64_in h.1 h.2 (by unfold wz2; omega) (by unfold wz2; omega)
theorem wz_nat (b : Nat) : wz b = (wordN b : Nat) := by have := wz_in b; unfold wordN; omega
theorem wordN_lt (b : Nat) : wordN b < 18446744073709551616 := by have := wz_in b; unfold wordN; omega

set_option maxRecDepth 20000 in
theorem word_any (b : Nat) (w : World) (hb : b < 256) :
    Calls Tryd.prog 41 #[.int .u8 b] w fun e w' => e = .returned (.int .u64 (wordN b : Nat)) ∧ w = w' := by
  go_enter Tryd.func41, Tryd.ntmps41
  go_wp2
  go_ret
  exact ⟨ret_int (wz_nat b), rfl⟩
set_option maxRecDepth 20000 in
theorem refWord_any (b : Nat) (w : World) (hb : b < 256) :
    Calls Tryd.prog 42 #[.int .u8 b] w fun e w' => e = .returned (.int .u64 (wordN b : Nat)) ∧ w = w' := by
  go_enter Tryd.func42, Tryd.ntmps42
  go_wp2
  go_ret
  exact ⟨ret_int (wz_nat b), rfl⟩

/-- 2^p, p from 2 to 12. -/
def pw (m : Int) : Prop := m = 4 ∨ m = 8 ∨ m = 16 ∨ m = 32 ∨ m = 64 ∨ m = 128 ∨ m = 256 ∨ m = 512 ∨ m = 1024 ∨ m = 2048 ∨ m = 4096
instance (m : Int) : Decidable (pw m) := by unfold pw; infer_instance
def okRule (a m x : Int) : Prop := 1 ≤ a ∧ a ≤ m ∧ m ≤ x ∧ x ≤ 8000 ∧ pw m
instance (a m x : Int) : Decidable (okRule a m x) := by unfold okRule; infer_instance
def chk (a m x : Int) : Int := if okRule a m x then 0 else 50
theorem chk_ok {a m x : Int} (h : okRule a m x) : chk a m x = 0 := if_pos h
theorem chk_no {a m x : Int} (h : ¬ okRule a m x) : chk a m x = 50 := if_neg h
theorem pw_range {m : Int} (h : pw m) : 4 ≤ m ∧ m ≤ 4096 := by unfold pw at h; omega

theorem pw_all2 : ∀ i : Nat, i < 65 → ∀ j : Nat, j < 64 → 4 ≤ 64 * i + j → 64 * i + j ≤ 4096 → ((64 * i + j) &&& (64 * i + j - 1) = 0 ↔ pw ((64 * i + j : Nat) : Int)) := by decide +kernel
theorem pw_all (n : Nat) (h1 : n < 4097) (h2 : 4 ≤ n) : n &&& (n - 1) = 0 ↔ pw n := by
  have := pw_all2 (n / 64) (by omega) (n % 64) (Nat.mod_lt _ (by decide))
  rw [Nat.div_add_mod] at this
  exact this h2 (by omega)
theorem i64_and_nat (a b : Nat) (ha : a < 9223372036854775808) (hb : b < 9223372036854775808) : bits .and .i64 (a : Int) (b : Int) = ((a &&& b : Nat) : Int) := by
  have hx : a &&& b < 2 ^ 63 := Nat.and_lt_two_pow _ (by omega)
  show IntKind.i64.wrap ((BitVec.ofInt 64 (a : Int) &&& BitVec.ofInt 64 (b : Int)).toNat : Int) = _
  rw [BitVec.toNat_and, ofInt_u64 a (by omega), ofInt_u64 b (by omega), IntKind.wrap_i64]
  omega
theorem pw_bits {m : Int} (h1 : 4 ≤ m) (h2 : m ≤ 4096) : bits .and .i64 m (m - 1) = 0 ↔ pw m := by
  obtain ⟨n, rfl⟩ : ∃ n : Nat, m = n := ⟨m.toNat, by omega⟩
  have h : bits .and .i64 (n : Int) ((n : Int) - 1) = ((n &&& (n - 1) : Nat) : Int) := by
    rw [show (n : Int) - 1 = ((n - 1 : Nat) : Int) by omega]
    exact i64_and_nat n (n - 1) (by omega) (by omega)
  rw [h, ← pw_all n (by omega) (by omega)]
  omega

set_option maxRecDepth 20000 in
theorem check_any (a m x : Int) (w : World) :
    Calls Tryd.prog 23 #[.agg #[.int .i64 a, .int .i64 m, .int .i64 x]] w fun e w' => e = .returned (.int .i64 (chk a m x)) ∧ Below w.heap.size w w' := by
  have hB : ∀ o, Below w.heap.size w (w.alloc o) := fun o => (Below.refl _ w).alloc (Nat.le_refl _) o
  have hB' := Lib.hid hB
  clear hB
  by_cases ok : okRule a m x
  · rw [chk_ok ok]
    obtain ⟨h1, h2, h3, h4, h5⟩ := ok
    have hm := pw_range h5
    have hb := (pw_bits hm.1 hm.2).2 h5
    obtain ⟨hm1, hm2⟩ := hm
    clear h5
    go_enter Tryd.func23, Tryd.ntmps23
    go_wp2
    go_ret
    exact ⟨rfl, hB'.out _⟩
  · rw [chk_no ok]
    have ok' := Lib.hid ok
    clear ok
    by_cases hm1 : 4 ≤ m
    · by_cases hm2 : m ≤ 4096
      · have hb := pw_bits hm1 hm2
        generalize hz : bits .and .i64 m (m - 1) = z at hb
        by_cases h0 : z = 0
        · have h5 := Lib.hid (hb.1 h0)
          subst h0
          clear hb
          go_enter Tryd.func23, Tryd.ntmps23
          go_wp2
          all_goals go_ret
          all_goals first
            | exact ⟨rfl, hB'.out _⟩
            | exact absurd (show okRule a m x from ⟨by omega, by omega, by omega, by omega, h5.out⟩) ok'.out
        · clear hb
          go_enter Tryd.func23, Tryd.ntmps23
          go_wp2
          go_ret
          exact ⟨rfl, hB'.out _⟩
      · go_enter Tryd.func23, Tryd.ntmps23
        go_wp2
        go_ret
        exact ⟨rfl, hB'.out _⟩
    · go_enter Tryd.func23, Tryd.ntmps23
      go_wp2
      go_ret
      exact ⟨rfl, hB'.out _⟩
end Go.Proofs.YtnjbpacnmiimlaaDoor
