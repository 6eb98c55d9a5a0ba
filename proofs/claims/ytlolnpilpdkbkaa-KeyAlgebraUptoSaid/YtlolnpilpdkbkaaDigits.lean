/- areDigits. -/
import Derived.Test.YtlolnpilpdkbkaaKeyM
import Derived.Test.YtlolnpilpdkbkaaStrB
namespace Go.Proofs.Ytlolnpilpdkbkaa
open Go.RowKit
set_option linter.unusedSimpArgs false

theorem fd_any (c : UInt8) (w : World) :
    Calls Try.prog 30 #[.string ⟨#[48, 49, 50, 51, 52, 53, 54, 55, 56, 57, 97, 98, 99, 100, 101, 102]⟩, .int .u8 (c.toNat : Int)] w fun e w' => e = .returned (.int .i64 (val c)) ∧ w' = w := by
  have h := idx_any ⟨#[48, 49, 50, 51, 52, 53, 54, 55, 56, 57, 97, 98, 99, 100, 101, 102]⟩ (c.toNat : Int) w
  have e : ((c.toNat : Int)).toNat.toUInt8 = c := by simp
  rw [e] at h
  exact h
theorem at_get {s : ByteArray} {k : Nat} (h : k < s.size) : s.data.toList[k]? = some s[k] := by
  have h2 : k < s.data.toList.length := by rw [← Lib.size_eq]; exact h
  rw [List.getElem?_eq_getElem h2]
  rfl
theorem allDig_succ {l : List UInt8} {k : Nat} {x : UInt8} (h : l[k]? = some x) : allDig (l.take (k + 1)) = (allDig (l.take k) && decide (0 ≤ val x)) := by
  obtain ⟨h1, h2⟩ := List.getElem?_eq_some_iff.1 h
  unfold allDig
  rw [List.take_succ_eq_append_getElem h1, List.all_append, h2]
  simp
theorem allDig_not {l : List UInt8} {k : Nat} {x : UInt8} (h : l[k]? = some x) (hx : val x < 0) : allDig l = false := by
  unfold allDig
  rw [List.all_eq_false]
  exact ⟨x, List.mem_of_getElem? h, by simp; omega⟩

set_option maxRecDepth 100000 in
set_option maxHeartbeats 1000000 in
theorem areDigits_any (s : ByteArray) (w : World) (hs : s.size ≤ 9223372036854775807) :
    Calls Try.prog 29 #[.string s] w fun e w' => e = .returned (.bool (allDig s.data.toList)) ∧ w' = w := by
  go_enter Try.func29, Try.ntmps29
  go_wp2_with fail
  go_loopw [6] (fun i wr => ∃ k : Nat, k ≤ s.size ∧ i = .int .i64 k ∧ wr = w ∧ Hid (allDig (s.data.toList.take k) = true)) (fun i _ => s.size - (intOf i).toNat)
  case atStart => exact ⟨0, by omega, rfl, rfl, Lib.hid rfl⟩
  case round =>
    obtain ⟨k, hk, rfl, rfl, hD⟩ := hrel
    by_cases hlt : k < s.size
    · go_wp2_with (go_at_call 30; refine (fd_any _ _).mono ?_; rintro e w1 ⟨rfl, rfl⟩)
      · rename_i h
        go_ret
        exact ⟨ret_bool (allDig_not (at_get hlt) h).symm, rfl⟩
      · rename_i h
        go_roundw
        case rel => exact ⟨k + 1, by omega, by go_num, trivial, Lib.hid (by rw [allDig_succ (at_get hlt), hD.out]; simp; omega)⟩
        case measure => simp [intOf]; omega
    · go_wp2_with fail
      go_ret
      refine ⟨?_, rfl⟩
      have hkl : s.data.toList.length ≤ k := by rw [← Lib.size_eq]; omega
      have := hD.out
      rw [List.take_of_length_le hkl] at this
      exact ret_bool this.symm
end Go.Proofs.Ytlolnpilpdkbkaa
