/- Names of items: Named. -/
import Derived.Test.YtkjndgapejbgcaaDoorNameW
namespace Go.Proofs.YtkjndgapejbgcaaDoor
open Go.RowKit
set_option linter.unusedSimpArgs false

def dot1 (s : ByteArray) : Bool := s.toList == [46]
def dot2 (s : ByteArray) : Bool := s.toList == [46, 46]
def Fine (s : ByteArray) : Bool := decide (1 ≤ s.size) && decide (s.size ≤ 64) && !dot1 s && !dot2 s

set_option maxRecDepth 20000 in
set_option maxHeartbeats 2000000 in
theorem named_any (s : ByteArray) (w : World) : Calls Tryd.prog 11 #[.string s] w fun e w' => e = .returned (.bool (Fine s && nameD s s.size 0)) ∧ w = w' := by
  obtain ⟨b1, hb1⟩ : ∃ b, dot1 s = b := ⟨_, rfl⟩
  obtain ⟨b2, hb2⟩ : ∃ b, dot2 s = b := ⟨_, rfl⟩
  unfold Fine
  rw [hb1, hb2]
  unfold dot1 at hb1
  unfold dot2 at hb2
  by_cases h0 : 1 ≤ s.size
  · by_cases h64 : s.size ≤ 64
    · cases b1
      · cases b2
        · go_enter Tryd.func11, Tryd.ntmps11
          have hP : Hid (∃ n, n = s.size - 0 ∧ plainD s n 0 = plainD s s.size 0) := Lib.hid ⟨s.size, by omega, rfl⟩
          have hLt : ∀ w, _ := letters_any s (by omega)
          rw [name_eq s]
          obtain ⟨PL, hPL⟩ : ∃ p, plainD s s.size 0 = p := ⟨_, rfl⟩
          obtain ⟨LL, hLL⟩ : ∃ p, lettersD s s.size 0 = p := ⟨_, rfl⟩
          rw [hLL] at hLt
          rw [hPL] at hP
          rw [hPL, hLL]
          clear hPL hLL
          go_wp2_with fail
          go_loop [3] (fun i => ∃ k : Nat, k ≤ s.size ∧ i = .int .i64 k ∧ Hid (∃ n, n = s.size - k ∧ plainD s n k = PL)) (fun i => s.size - (intOf i).toNat)
          case atStart => exact ⟨0, by omega, rfl, hP⟩
          case round =>
            clear hP
            obtain ⟨k, hk, rfl, hQ⟩ := hrel
            by_cases hlt : k < s.size
            · obtain ⟨c, hc⟩ : ∃ c, s.get! k = c := ⟨_, rfl⟩
              have hix := index_str hlt hc
              have h1 : Hid (c.toNat = 47 ∨ c.toNat = 0 → PL = false) := Lib.hid fun h => by
                obtain ⟨n, h1, h2⟩ := hQ.out
                obtain ⟨m, rfl⟩ : ∃ m, n = m + 1 := ⟨n - 1, by omega⟩
                rw [← h2]
                simp [plainD, hc, h]
              have h2 : Hid (¬ (c.toNat = 47 ∨ c.toNat = 0) → ∃ n, n = s.size - (k + 1) ∧ plainD s n (k + 1) = PL) := Lib.hid fun h => by
                obtain ⟨n, h1, h2⟩ := hQ.out
                obtain ⟨m, rfl⟩ : ∃ m, n = m + 1 := ⟨n - 1, by omega⟩
                refine ⟨m, by omega, ?_⟩
                rw [← h2]
                simp [plainD, hc, h]
              clear hQ hc
              go_wp2_with fail
              all_goals (try simp only [bne_iff_ne, bne_eq_false_iff_eq, beq_iff_eq, beq_eq_false_iff_ne, Bool.not_eq_false', Bool.not_eq_true', decide_eq_true_eq, decide_eq_false_iff_not, ne_eq, gt_iff_lt] at *)
              all_goals first
                | (go_ret; exact ⟨ret_bool (by rw [h1.out (by omega)]; simp), rfl⟩)
                | (go_round
                   case rel => exact ⟨k + 1, by omega, by go_num, Lib.hid (h2.out (by omega))⟩
                   case measure => simp [intOf]; omega)
            · have hpl : PL = true := by
                obtain ⟨n, h1, h2⟩ := hQ.out
                obtain rfl : n = 0 := by omega
                rw [← h2]; rfl
              subst hpl
              go_wp2_with (refine (hLt _).mono ?_; rintro e w' ⟨rfl, rfl⟩)
              go_ret
              exact ⟨ret_bool (by simp [h0, h64]), rfl⟩
        · go_enter Tryd.func11, Tryd.ntmps11
          go_wp2_with fail
          go_ret
          exact ⟨ret_bool (by simp), rfl⟩
      · go_enter Tryd.func11, Tryd.ntmps11
        go_wp2_with fail
        go_ret
        exact ⟨ret_bool (by simp), rfl⟩
    · go_enter Tryd.func11, Tryd.ntmps11
      go_wp2_with fail
      go_ret
      exact ⟨ret_bool (by simp [h64]), rfl⟩
  · go_enter Tryd.func11, Tryd.ntmps11
    go_wp2_with fail
    go_ret
    exact ⟨ret_bool (by simp [h0]), rfl⟩
end Go.Proofs.YtkjndgapejbgcaaDoor
