/- FrameExact: the marks. -/
import Derived.Test.YtjofpjioaiamhaaFxRm
namespace Go.Proofs.Ytjofpjioaiamhaa
open Go.RowKit

set_option maxRecDepth 20000 in
theorem mark_any (n k : Nat) (w : World) (hn : n ≤ 1048576) (hk : k ≤ 4194304) :
    Calls Try.prog 38 #[.int .i64 n, .int .i64 k] w fun e w' => e = .returned (.int .u8 (markF n k : Nat)) ∧ w = w' := by
  obtain ⟨p, hp⟩ : ∃ p : Nat, (k + 1) * (2 * n + 3) = p := ⟨_, rfl⟩
  have hp1 : p ≤ 4194305 * 2097155 := by rw [← hp]; exact Nat.mul_le_mul (by omega) (by omega)
  have hp2 : ((k : Int) + 1) * (2 * (n : Int) + 3) = (p : Int) := by rw [← hp]; push_cast; rfl
  obtain ⟨q, hq⟩ : ∃ q : Nat, (p + n * 89 + k / 251) % 256 = q := ⟨_, rfl⟩
  have hq1 : markF n k = q := by unfold markF; rw [hp, hq]
  rw [hq1]
  have hq2 : IntKind.u8.wrap ((p : Int) + (n : Int) * 89 + (k : Int) / 251) = (q : Int) := by rw [IntKind.wrap_u8]; omega
  clear hq1 hq hp
  go_enter Try.func38, Try.ntmps38
  go_wp2_with fail
  go_ret
  exact ⟨ret_int (by first | rfl | omega), rfl⟩
end Go.Proofs.Ytjofpjioaiamhaa
