/- Best of package bloom and of its reference: the place of the least rate that is no NaN. -/
import Derived.Test.YtlghgfnkckaebaaProg
import Derived.Test.YtlghgfnkckaebaaBase
namespace Go.Proofs.Ytlghgfnkckaebaa
open Go.RowKit

/-- The place of the least of the first k numbers that are no NaN; -1: there is none. -/
def bestTo (xs : List Nat) : Nat → Int
  | 0 => -1
  | k + 1 => if (FloatKind.f64.format.order (xs[k]?.getD 0) (xs[k]?.getD 0) != some .eq) = true then bestTo xs k
    else if bestTo xs k < 0 ∨ (FloatKind.f64.format.order (xs[k]?.getD 0) (xs[(bestTo xs k).toNat]?.getD 0) == some .lt) = true then (k : Int) else bestTo xs k

theorem bestTo_bd (xs : List Nat) (k : Nat) : -1 ≤ bestTo xs k ∧ bestTo xs k < k ∨ (k = 0 ∧ bestTo xs k = -1) := by
  induction k with
  | zero => right; simp [bestTo]
  | succ k ih =>
    left
    simp only [bestTo]
    split
    · omega
    · split <;> omega

/-- n numbers in 64 bits, from address A on. -/
abbrev Fl (w : World) (B : Nat) (A : Option Addr) (xs : List Nat) : Prop := Rd w B A xs.length (fun j => .float .f64 (xs[j]?.getD 0))

set_option maxHeartbeats 1000000 in
theorem refBest_any (A : Option Addr) (c n : Nat) (xs : List Nat) (B : Nat) (w : World) (hn : xs.length = n) (hm : n ≤ 4611686018427387904) (hr : Fl w B A xs) :
    Calls Try.prog 15 #[.slice A n c] w fun e w' => e = .returned (.int .i64 (bestTo xs n)) ∧ ∃ m, w' = w.drewN m := by
  unfold Fl at hr
  rw [hn] at hr
  clear hn
  have HR := Lib.hid hr
  clear hr
  go_enter Try.func15, Try.ntmps15
  go_wp2
  go_loopw [3, 4] (fun bv i wr => ∃ k m : Nat, k ≤ n ∧ i = .int .i64 k ∧ bv = .int .i64 (bestTo xs k) ∧ wr = w.drewN m) (fun _ i _ => n - (intOf i).toNat)
  case atStart => exact ⟨0, 0, Nat.zero_le _, rfl, rfl, rfl⟩
  case round =>
    obtain ⟨k, m, hk, rfl, rfl, rfl⟩ := hrel
    have hb := bestTo_bd xs k
    have hs : Hid (bestTo xs (k + 1) = _) := bestTo.eq_2 xs k
    obtain ⟨q, hq⟩ : ∃ q, q = bestTo xs k := ⟨_, rfl⟩
    rw [← hq] at hb hs ⊢
    have HQ := Lib.hid hq
    clear hq
    by_cases hlt : k < n
    · obtain ⟨b, off, rfl, _, hc⟩ := HR.out (by omega)
      have hck := hc k hlt
      have HC := Lib.hid hc
      clear hc
      have hq1 : -1 ≤ q := by omega
      have hq2 : q ≤ k := by omega
      by_cases hx : (FloatKind.f64.format.order (xs[k]?.getD 0) (xs[k]?.getD 0) != some .eq) = true
      · clear hb
        go_wp2_with fail
        go_quiet (fail)
        go_wp2_with fail
        go_roundw
        case rel => exact ⟨k + 1, m + nq, by omega, by go_num, by rw [hs.out, if_pos hx], by simp⟩
        case measure => simp [intOf]; omega
      · have hx' : (FloatKind.f64.format.order (xs[k]?.getD 0) (xs[k]?.getD 0) != some .eq) = false := by simpa using hx
        by_cases hneg : q < 0
        · have hn1 : decide (q < 0) = true := by simpa using hneg
          clear hb
          go_wp2_with fail
          go_quiet (fail)
          go_wp2_with fail
          go_quiet (fail)
          go_wp2_with fail
          go_roundw
          case rel => exact ⟨k + 1, _, by omega, by go_num, by rw [hs.out, if_neg hx, if_pos (Or.inl hneg)], rfl⟩
          case measure => simp [intOf]; omega
        · have hn1 : decide (q < 0) = false := by simpa using hneg
          have hq3 : q < k := by omega
          have hq0 : 0 ≤ q := by omega
          obtain ⟨p, rfl⟩ := Int.eq_ofNat_of_zero_le hq0
          have hpk : p < n := by omega
          have hcp := HC.out p hpk
          clear hb
          go_wp2_with fail
          go_quiet (fail)
          go_wp2_with fail
          go_quiet (fail)
          go_wp2_with fail
          all_goals
            go_roundw
            case rel =>
              refine ⟨k + 1, _, by omega, by go_num, ?_, rfl⟩
              rw [hs.out, if_neg hx]
              first
                | (have ht : (FloatKind.f64.format.order (xs[k]?.getD 0) (xs[p]?.getD 0) == some .lt) = true := by assumption
                   rw [if_pos (Or.inr (by simpa using ht))])
                | (have ht : (FloatKind.f64.format.order (xs[k]?.getD 0) (xs[p]?.getD 0) == some .lt) = false := by assumption
                   rw [if_neg (by rintro (h | h); · omega
                                  · rw [Int.toNat_natCast, ht] at h; cases h)])
            case measure => simp [intOf]; omega
    · obtain rfl : k = n := by omega
      clear hb
      go_wp2
      go_ret
      exact ⟨ret_int HQ.out, m, rfl⟩

set_option maxHeartbeats 1000000 in
theorem best_any (A : Option Addr) (c n : Nat) (xs : List Nat) (B : Nat) (w : World) (hn : xs.length = n) (hm : n ≤ 4611686018427387904) (hr : Fl w B A xs) :
    Calls Try.prog 13 #[.slice A n c] w fun e w' => e = .returned (.int .i64 (bestTo xs n)) ∧ w = w' := by
  unfold Fl at hr
  rw [hn] at hr
  clear hn
  have HR := Lib.hid hr
  clear hr
  go_enter Try.func13, Try.ntmps13
  go_wp2
  go_loop [3, 8] (fun bv i => ∃ k : Nat, k ≤ n ∧ i = .int .i64 k ∧ bv = .int .i64 (bestTo xs k)) (fun _ i => n - (intOf i).toNat)
  case atStart => exact ⟨0, Nat.zero_le _, rfl, rfl⟩
  case round =>
    obtain ⟨k, hk, rfl, rfl⟩ := hrel
    have hb := bestTo_bd xs k
    have hs : Hid (bestTo xs (k + 1) = _) := bestTo.eq_2 xs k
    obtain ⟨q, hq⟩ : ∃ q, q = bestTo xs k := ⟨_, rfl⟩
    rw [← hq] at hb hs ⊢
    have HQ := Lib.hid hq
    clear hq
    by_cases hlt : k < n
    · obtain ⟨b, off, rfl, _, hc⟩ := HR.out (by omega)
      have hck := hc k hlt
      have HC := Lib.hid hc
      clear hc
      have hq1 : -1 ≤ q := by omega
      have hq2 : q ≤ k := by omega
      by_cases hx : (FloatKind.f64.format.order (xs[k]?.getD 0) (xs[k]?.getD 0) != some .eq) = true
      · have hx' : (FloatKind.f64.format.order (xs[k]?.getD 0) (xs[k]?.getD 0) == some .eq) = false := by simpa using hx
        clear hb
        go_wp2
        go_round
        case rel => exact ⟨k + 1, by omega, by go_num, by rw [hs.out, if_pos hx]⟩
        case measure => simp [intOf]; omega
      · have hx' : (FloatKind.f64.format.order (xs[k]?.getD 0) (xs[k]?.getD 0) == some .eq) = true := by simpa using hx
        by_cases hneg : q < 0
        · have hn1 : decide (q < 0) = true := by simpa using hneg
          clear hb
          go_wp2
          go_round
          case rel => exact ⟨k + 1, by omega, by go_num, by rw [hs.out, if_neg hx, if_pos (Or.inl hneg)]⟩
          case measure => simp [intOf]; omega
        · have hn1 : decide (q < 0) = false := by simpa using hneg
          have hq3 : q < k := by omega
          have hq0 : 0 ≤ q := by omega
          obtain ⟨p, rfl⟩ := Int.eq_ofNat_of_zero_le hq0
          have hpk : p < n := by omega
          have hcp := HC.out p hpk
          clear hb
          go_wp2
          all_goals
            go_round
            case rel =>
              refine ⟨k + 1, by omega, by go_num, ?_⟩
              rw [hs.out, if_neg hx]
              first
                | (have ht : (FloatKind.f64.format.order (xs[k]?.getD 0) (xs[p]?.getD 0) == some .lt) = true := by assumption
                   rw [if_pos (Or.inr (by simpa using ht))])
                | (have ht : (FloatKind.f64.format.order (xs[k]?.getD 0) (xs[p]?.getD 0) == some .lt) = false := by assumption
                   rw [if_neg (by rintro (h | h); · omega
                                  · rw [Int.toNat_natCast, ht] at h; cases h)])
            case measure => simp [intOf]; omega
    · obtain rfl : k = n := by omega
      clear hb
      go_wp2
      go_ret
      exact ⟨ret_int HQ.out, rfl⟩
end Go.Proofs.Ytlghgfnkckaebaa
