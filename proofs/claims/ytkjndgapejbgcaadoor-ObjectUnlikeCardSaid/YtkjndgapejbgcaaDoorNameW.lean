/- Names of items: the document's answer. -/
import Derived.Test.YtkjndgapejbgcaaDoorProg
import Derived.Test.YtkjndgapejbgcaaDoorBase
import Derived.Test.YtkjndgapejbgcaaDoorUtf
namespace Go.Proofs.YtkjndgapejbgcaaDoor
open Go.RowKit
set_option linter.unusedSimpArgs false

theorem ch_at {s : ByteArray} {k : Nat} (h : k < s.size) : s[k] = s.get! k := (Utf8W.get!_of_lt s k h).symm
theorem index_str {s : ByteArray} {k : Nat} {c : UInt8} (h : k < s.size) (hc : s.get! k = c) (w : World) : (Instr.index 9 (.string s) (.int .i64 (k : Int))).run Tryd.prog w = .ok (.int .u8 (c.toNat : Int)) w := by
  have h1 : (0 : Int) ≤ (k : Int) := by omega
  have h2 : s[k]? = some c := by rw [getElem?_pos s k h, ch_at h, hc]
  simp [Instr.index, run_underlying Tryd.underlying9, asIntOf, h2]

set_option maxRecDepth 20000 in
set_option maxHeartbeats 1000000 in
theorem more_any (c : Nat) (w : World) : Calls Tryd.prog 60 #[.int .u8 (c : Int)] w fun e w' => e = .returned (.int .i64 (moreN c)) ∧ w = w' := by
  go_enter Tryd.func60, Tryd.ntmps60
  go_wp2_with fail
  all_goals go_ret
  all_goals refine ⟨ret_int ?_, rfl⟩
  all_goals unfold moreN
  all_goals (try simp only [bne_iff_ne, bne_eq_false_iff_eq, beq_iff_eq, beq_eq_false_iff_ne, Bool.not_eq_false', Bool.not_eq_true', decide_eq_true_eq, decide_eq_false_iff_not, ne_eq] at *)
  all_goals (repeat' split)
  all_goals omega

set_option maxRecDepth 20000 in
set_option maxHeartbeats 1000000 in
theorem lowest_any (c : Nat) (w : World) : Calls Tryd.prog 61 #[.int .u8 (c : Int)] w fun e w' => e = .returned (.int .u8 (lowN c : Nat)) ∧ w = w' := by
  go_enter Tryd.func61, Tryd.ntmps61
  go_wp2_with fail
  all_goals go_ret
  all_goals refine ⟨ret_int ?_, rfl⟩
  all_goals unfold lowN
  all_goals (try simp only [bne_iff_ne, bne_eq_false_iff_eq, beq_iff_eq, beq_eq_false_iff_ne, Bool.not_eq_false', Bool.not_eq_true', decide_eq_true_eq, decide_eq_false_iff_not, ne_eq] at *)
  all_goals (repeat' split)
  all_goals omega

set_option maxRecDepth 20000 in
set_option maxHeartbeats 1000000 in
theorem highest_any (c : Nat) (w : World) : Calls Tryd.prog 62 #[.int .u8 (c : Int)] w fun e w' => e = .returned (.int .u8 (highN c : Nat)) ∧ w = w' := by
  go_enter Tryd.func62, Tryd.ntmps62
  go_wp2_with fail
  all_goals go_ret
  all_goals refine ⟨ret_int ?_, rfl⟩
  all_goals unfold highN
  all_goals (try simp only [bne_iff_ne, bne_eq_false_iff_eq, beq_iff_eq, beq_eq_false_iff_ne, Bool.not_eq_false', Bool.not_eq_true', decide_eq_true_eq, decide_eq_false_iff_not, ne_eq] at *)
  all_goals (repeat' split)
  all_goals omega

theorem lettersD_bad {s : ByteArray} {f i : Nat} (h : i < s.size) (hb : badAt s i) : lettersD s (f + 1) i = false := by simp [lettersD, h, hb]
theorem lettersD_good {s : ByteArray} {f i n : Nat} (h : i < s.size) (hb : ¬ badAt s i ∧ (Utf8.decode s i).2 = n + 1) : lettersD s (f + 1) i = lettersD s f (i + n + 1) := by simp [lettersD, h, hb.1, hb.2, Nat.add_assoc]

set_option maxRecDepth 20000 in
set_option maxHeartbeats 2000000 in
theorem letters_any (s : ByteArray) (hs : s.size ≤ 4096) (w : World) : Calls Tryd.prog 31 #[.string s] w fun e w' => e = .returned (.bool (lettersD s s.size 0)) ∧ w = w' := by
  obtain ⟨L, hL⟩ : ∃ L, lettersD s s.size 0 = L := ⟨_, rfl⟩
  rw [hL]
  have hL' : Hid (∃ f, s.size ≤ 0 + f ∧ lettersD s f 0 = L) := Lib.hid ⟨s.size, by omega, hL⟩
  clear hL
  go_enter Tryd.func31, Tryd.ntmps31
  go_wp2_with fail
  go_loop [3] (fun i => ∃ k : Nat, k ≤ s.size ∧ i = .int .i64 k ∧ Hid (∃ f, s.size ≤ k + f ∧ lettersD s f k = L)) (fun i => s.size - (intOf i).toNat)
  case atStart => exact ⟨0, by omega, rfl, hL'⟩
  case round =>
    clear hL'
    obtain ⟨k, hk, rfl, hf⟩ := hrel
    by_cases hlt : k < s.size
    · obtain ⟨c, hc⟩ : ∃ c, s.get! k = c := ⟨_, rfl⟩
      have hc2 := c.toNat_lt
      have hix := index_str hlt hc
      obtain ⟨m, hm⟩ : ∃ m, moreN c.toNat = m := ⟨_, rfl⟩
      have hml := more_le ⟨_, hc2⟩
      simp only [hm] at hml
      have hMore := more_any c.toNat
      rw [hm] at hMore
      have hF : Hid (badAt s k → L = false) := Lib.hid fun hb => by
        obtain ⟨f, h1, h2⟩ := hf.out
        obtain ⟨g, rfl⟩ : ∃ g, f = g + 1 := ⟨f - 1, by omega⟩
        rw [← h2, lettersD_bad hlt hb]
      by_cases hm0 : m < 0 ∨ (s.size : Int) ≤ k + m
      · have hb : L = false := hF.out (bad_first s k hlt (by rw [hc, hm]; exact hm0))
        subst hb
        go_wp2_with (refine (hMore _).mono ?_; rintro e w' ⟨rfl, rfl⟩)
        all_goals first
          | (go_ret; exact ⟨rfl, rfl⟩)
          | (exfalso; simp only [decide_eq_true_eq, decide_eq_false_iff_not, ge_iff_le] at *; omega)
      · obtain ⟨n, rfl⟩ := Int.eq_ofNat_of_zero_le (show 0 ≤ m by omega)
        have hkn : k + n < s.size := by omega
        have g1 : ¬ ((n : Int) < 0) := by omega
        have g2 : ¬ ((s.size : Int) ≤ (k : Int) + (n : Int)) := by omega
        have hB : Hid (∀ j, 1 ≤ j → j ≤ n → (s.get! (k + j)).toNat < loK c.toNat j ∨ hiK c.toNat j < (s.get! (k + j)).toNat → L = false) := Lib.hid fun j h1 h2 h3 => hF.out (bad_next s k j hlt h1 (by rw [hc, hm]; omega) (by rw [hc]; exact h3))
        have hG : Hid ((∀ j, 1 ≤ j → j ≤ n → loK c.toNat j ≤ (s.get! (k + j)).toNat ∧ (s.get! (k + j)).toNat ≤ hiK c.toNat j) → ∃ f, s.size ≤ k + n + 1 + f ∧ lettersD s f (k + n + 1) = L) := Lib.hid fun h => by
          obtain ⟨f, h1, h2⟩ := hf.out
          obtain ⟨g, rfl⟩ : ∃ g, f = g + 1 := ⟨f - 1, by omega⟩
          rw [lettersD_good hlt (good_at s k n hlt (by rw [hc, hm]) hkn (by rw [hc]; exact h))] at h2
          exact ⟨g, by omega, h2⟩
        have hkn' := Lib.hid hkn
        clear hF hf hm0 hkn
        go_wp2_with (refine (hMore _).mono ?_; rintro e w' ⟨rfl, rfl⟩)
        go_loop [6] (fun i => ∃ j : Nat, 1 ≤ j ∧ j ≤ n + 1 ∧ i = .int .i64 j ∧ Hid (∀ q, 1 ≤ q → q < j → loK c.toNat q ≤ (s.get! (k + q)).toNat ∧ (s.get! (k + q)).toNat ≤ hiK c.toNat q)) (fun i => n + 1 - (intOf i).toNat)
        case atStart => exact ⟨1, by omega, by omega, rfl, Lib.hid fun q h1 h2 => by omega⟩
        case round =>
          obtain ⟨j, hj1, hj, rfl, hQ⟩ := hrel
          by_cases hjn : j ≤ n
          · obtain ⟨x, hx⟩ : ∃ x, s.get! (k + j) = x := ⟨_, rfl⟩
            have hix2 : ∀ w, (Instr.index 9 (.string s) (.int .i64 ((k : Int) + (j : Int)))).run Tryd.prog w = .ok (.int .u8 (x.toNat : Int)) w := fun w => by
              have := index_str (k := k + j) (by have := hkn'.out; omega) hx w
              rwa [Int.natCast_add] at this
            obtain ⟨lo, hlo⟩ : ∃ lo, loK c.toNat j = lo := ⟨_, rfl⟩
            obtain ⟨hi, hhi⟩ : ∃ hi, hiK c.toNat j = hi := ⟨_, rfl⟩
            have hno : Hid ((x.toNat < lo ∨ hi < x.toNat) → L = false) := Lib.hid fun h => hB.out j hj1 hjn (by rw [hx, hlo, hhi]; exact h)
            have hyes : Hid (lo ≤ x.toNat ∧ x.toNat ≤ hi → ∀ q, 1 ≤ q → q < j + 1 → loK c.toNat q ≤ (s.get! (k + q)).toNat ∧ (s.get! (k + q)).toNat ≤ hiK c.toNat q) := Lib.hid fun h q h1 h2 => by
              rcases Nat.lt_succ_iff_lt_or_eq.1 h2 with h3 | h3
              · exact hQ.out q h1 h3
              · subst h3
                rw [hx, hlo, hhi]
                exact h
            clear hQ hB hG
            by_cases hj1' : j = 1
            · subst hj1'
              simp only [loK, hiK, if_true] at hlo hhi
              have hL1 := lowest_any c.toNat
              have hL2 := highest_any c.toNat
              rw [hlo] at hL1
              rw [hhi] at hL2
              clear hlo hhi
              have hix2 : ∀ w, (Instr.index 9 (.string s) (.int .i64 ((k : Int) + 1))).run Tryd.prog w = .ok (.int .u8 (x.toNat : Int)) w := fun w => hix2 w
              go_wp2_with (first
                | (refine (hL1 _).mono ?_; rintro e w' ⟨rfl, rfl⟩)
                | (refine (hL2 _).mono ?_; rintro e w' ⟨rfl, rfl⟩))
              all_goals (try simp only [bne_iff_ne, bne_eq_false_iff_eq, beq_iff_eq, beq_eq_false_iff_ne, Bool.not_eq_false', Bool.not_eq_true', decide_eq_true_eq, decide_eq_false_iff_not, ne_eq, gt_iff_lt] at *)
              all_goals first
                | (go_ret; exact ⟨ret_bool (hno.out (by omega)).symm, rfl⟩)
                | (go_round
                   case rel => exact ⟨1 + 1, by omega, by omega, by go_num, Lib.hid (hyes.out (by omega))⟩
                   case measure => simp [intOf]; omega)
            · simp only [loK, hiK, if_neg hj1'] at hlo hhi
              subst hlo hhi
              go_wp2_with fail
              all_goals (try simp only [bne_iff_ne, bne_eq_false_iff_eq, beq_iff_eq, beq_eq_false_iff_ne, Bool.not_eq_false', Bool.not_eq_true', decide_eq_true_eq, decide_eq_false_iff_not, ne_eq, gt_iff_lt] at *)
              all_goals first
                | (go_ret; exact ⟨ret_bool (hno.out (by omega)).symm, rfl⟩)
                | (go_round
                   case rel => exact ⟨j + 1, by omega, by omega, by go_num, Lib.hid (hyes.out (by omega))⟩
                   case measure => simp [intOf]; omega)
          · obtain rfl : n + 1 = j := by omega
            have hE := Lib.hid (hG.out fun q h1 h2 => hQ.out q h1 (by omega))
            clear hG hB hQ
            go_wp2_with fail
            go_round
            case rel => exact ⟨k + n + 1, by have := hkn'.out; omega, by go_num, hE⟩
            case measure => simp [intOf]; have := hkn'.out; omega
    · have hb : L = true := by
        obtain ⟨f, h1, h2⟩ := hf.out
        rw [← h2, lettersD_end s f k hlt]
      subst hb
      go_wp2_with fail
      go_ret
      exact ⟨rfl, rfl⟩
end Go.Proofs.YtkjndgapejbgcaaDoor
