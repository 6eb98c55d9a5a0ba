/- Are two lists of bytes alike. -/
import Derived.Test.YtnjbpacnmiimlaaDoorProg
import Derived.Test.YtnjbpacnmiimlaaDoorBase
namespace Go.Proofs.YtnjbpacnmiimlaaDoor
open Go.RowKit

/-- n bytes from address A on. -/
abbrev Bs (w : World) (B : Nat) (A : Option Addr) (n : Nat) (g : Nat → Int) : Prop := Rd w B A n (fun j => .int .u8 (g j))

set_option maxHeartbeats 1000000 in
theorem same_eq (A1 A2 : Option Addr) (c1 c2 n : Nat) (g : Nat → Int) (B1 B2 : Nat) (w : World) (hn : n ≤ 4611686018427387904) (h1 : Bs w B1 A1 n g) (h2 : Bs w B2 A2 n g) :
    Calls Tryd.prog 20 #[.slice A1 n c1, .slice A2 n c2] w fun e w' => e = .returned (.bool true) ∧ ∃ m, w' = w.drewN m := by
  have H1 := Lib.hid h1
  have H2 := Lib.hid h2
  clear h1 h2
  go_enter Tryd.func20, Tryd.ntmps20
  go_wp2_with fail
  go_loopw [5] (fun i wr => ∃ k m : Nat, k ≤ n ∧ i = .int .i64 k ∧ wr = w.drewN m) (fun i _ => n - (intOf i).toNat)
  case atStart => exact ⟨0, 0, Nat.zero_le _, rfl, rfl⟩
  case round =>
    obtain ⟨k, m, hk, rfl, rfl⟩ := hrel
    by_cases hlt : k < n
    · obtain ⟨b1, o1, rfl, _, q1⟩ := Rd.get H1.out hlt
      obtain ⟨b2, o2, rfl, _, q2⟩ := Rd.get H2.out hlt
      go_wp2_with fail
      go_quiet (fail)
      go_wp2_with fail
      go_roundw
      case rel => exact ⟨k + 1, _, by omega, by go_num, rfl⟩
      case measure => simp [intOf]; omega
    · obtain rfl : k = n := by omega
      go_wp2_with fail
      go_ret
      exact ⟨rfl, m, rfl⟩

end Go.Proofs.YtnjbpacnmiimlaaDoor
