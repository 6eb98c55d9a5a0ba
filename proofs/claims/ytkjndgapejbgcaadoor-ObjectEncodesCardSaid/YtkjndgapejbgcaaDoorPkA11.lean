/- Names of items: the document's answer. Names of items: Named. The library's contracts on utf8's decoder at this seat's program, laid by the shelf's command. (The numbers are this seat's.) Names of items: IsName: a range over a string. -/
import Derived.Test.YtkjndgapejbgcaaDoorProg
import Derived.Test.YtkjndgapejbgcaaDoorPkA1
import Derived.Test.YtkjndgapejbgcaaDoorPkA10
import Derived.Shelf.Unicode.DecodeSlow
import Derived.Shelf.Unicode.DecodeAny
import Derived.Lib.LaidU8T
import Derived.Lib.OthersKept
import Derived.Lib.RuneCountTail
import Derived.Laws.Strings3

namespace Go.Proofs.YtkjndgapejbgcaaDoor
open Go.RowKit
set_option linter.unusedSimpArgs false

theorem ch_at {s : ByteArray} {k : Nat} (h : k < s.size) : s[k] = s.get! k := (Utf8W.get!_of_lt s k h).symm
theorem index_str {s : ByteArray} {k : Nat} {c : UInt8} (h : k < s.size) (hc : s.get! k = c) (w : World) : (Instr.index 9 (.string s) (.int .i64 (k : Int))).run Tryd.prog w = .ok (.int .u8 (c.toNat : Int)) w := by
  have h1 : (0 : Int) ≤ (k : Int) := by omega
  have h2 : s[k]? = some c := by rw [getElem?_pos s k h, ch_at h, hc]
  simp [Instr.index, run_underlying Tryd.underlying9, asIntOf, h2]

set_option maxRecDepth 20000 in
set_option maxHeartbeats 1000000 in
theorem more_any (c : Nat) (w : World) : Calls Tryd.prog 60 #[.int .u8 (c : Int)] w fun e w' => e = .returned (.int .i64 (moreN c)) ∧ w = w' := by
  go_enter Tryd.func60, Tryd.ntmps60
  go_wp2_with fail
  all_goals go_ret
  all_goals refine ⟨ret_int ?_, rfl⟩
  all_goals unfold moreN
  all_goals (try simp only [bne_iff_ne, bne_eq_false_iff_eq, beq_iff_eq, beq_eq_false_iff_ne, Bool.not_eq_false', Bool.not_eq_true', decide_eq_true_eq, decide_eq_false_iff_not, ne_eq] at *)
  all_goals (repeat' split)
  all_goals omega

set_option maxRecDepth 20000 in
set_option maxHeartbeats 1000000 in
theorem lowest_any (c : Nat) (w : World) : Calls Tryd.prog 61 #[.int .u8 (c : Int)] w fun e w' => e = .returned (.int .u8 (lowN c : Nat)) ∧ w = w' := by
  go_enter Tryd.func61, Tryd.ntmps61
  go_wp2_with fail
  all_goals go_ret
  all_goals refine ⟨ret_int ?_, rfl⟩
  all_goals unfold lowN
  all_goals (try simp only [bne_iff_ne, bne_eq_false_iff_eq, beq_iff_eq, beq_eq_false_iff_ne, Bool.not_eq_false', Bool.not_eq_true', decide_eq_true_eq, decide_eq_false_iff_not, ne_eq] at *)
  all_goals (repeat' split)
  all_goals omega

set_option maxRecDepth 20000 in
set_option maxHeartbeats 1000000 in
theorem highest_any (c : Nat) (w : World) : Calls Tryd.prog 62 #[.int .u8 (c : Int)] w fun e w' => e = .returned (.int .u8 (highN c : Nat)) ∧ w = w' := by
  go_enter Tryd.func62, Tryd.ntmps62
  go_wp2_with fail
  all_goals go_ret
  all_goals refine ⟨ret_int ?_, rfl⟩
  all_goals unfold highN
  all_goals (try simp only [bne_iff_ne, bne_eq_false_iff_eq, beq_iff_eq, beq_eq_false_iff_ne, Bool.not_eq_false', Bool.not_eq_true', decide_eq_true_eq, decide_eq_false_iff_not, ne_eq] at *)
  all_goals (repeat' split)
  all_goals omega

theorem lettersD_bad {s : ByteArray} {f i : Nat} (h : i < s.size) (hb : badAt s i) : lettersD s (f + 1) i = false := by simp [lettersD, h, hb]
theorem lettersD_good {s : ByteArray} {f i n : Nat} (h : i < s.size) (hb : ¬ badAt s i ∧ (Utf8.decode s i).2 = n + 1) : lettersD s (f + 1) i = lettersD s f (i + n + 1) := by simp [lettersD, h, hb.1, hb.2, Nat.add_assoc]

set_option maxRecDepth 20000 in
set_option maxHeartbeats 2000000 in
theorem letters_any (s : ByteArray) (hs : s.size ≤ 4096) (w : World) : Calls Tryd.prog 31 #[.string s] w fun e w' => e = .returned (.bool (lettersD s s.size 0)) ∧ w = w' := by
  obtain ⟨L, hL⟩ : ∃ L, lettersD s s.size 0 = L := ⟨_, rfl⟩
  rw [hL]
  have hL' : Hid (∃ f, s.size ≤ 0 + f ∧ lettersD s f 0 = L) := Lib.hid ⟨s.size, by omega, hL⟩
  clear hL
  go_enter Tryd.func31, Tryd.ntmps31
  go_wp2_with fail
  go_loop [3] (fun i => ∃ k : Nat, k ≤ s.size ∧ i = .int .i64 k ∧ Hid (∃ f, s.size ≤ k + f ∧ lettersD s f k = L)) (fun i => s.size - (intOf i).toNat)
  case atStart => exact ⟨0, by omega, rfl, hL'⟩
  case round =>
    clear hL'
    obtain ⟨k, hk, rfl, hf⟩ := hrel
    by_cases hlt : k < s.size
    · obtain ⟨c, hc⟩ : ∃ c, s.get! k = c := ⟨_, rfl⟩
      have hc2 := c.toNat_lt
      have hix := index_str hlt hc
      obtain ⟨m, hm⟩ : ∃ m, moreN c.toNat = m := ⟨_, rfl⟩
      have hml := more_le ⟨_, hc2⟩
      simp only [hm] at hml
      have hMore := more_any c.toNat
      rw [hm] at hMore
      have hF : Hid (badAt s k → L = false) := Lib.hid fun hb => by
        obtain ⟨f, h1, h2⟩ := hf.out
        obtain ⟨g, rfl⟩ : ∃ g, f = g + 1 := ⟨f - 1, by omega⟩
        rw [← h2, lettersD_bad hlt hb]
      by_cases hm0 : m < 0 ∨ (s.size : Int) ≤ k + m
      · have hb : L = false := hF.out (bad_first s k hlt (by rw [hc, hm]; exact hm0))
        subst hb
        go_wp2_with (refine (hMore _).mono ?_; rintro e w' ⟨rfl, rfl⟩)
        all_goals first
          | (go_ret; exact ⟨rfl, rfl⟩)
          | (exfalso; simp only [decide_eq_true_eq, decide_eq_false_iff_not, ge_iff_le] at *; omega)
      · obtain ⟨n, rfl⟩ := Int.eq_ofNat_of_zero_le (show 0 ≤ m by omega)
        have hkn : k + n < s.size := by omega
        have g1 : ¬ ((n : Int) < 0) := by omega
        have g2 : ¬ ((s.size : Int) ≤ (k : Int) + (n : Int)) := by omega
        have hB : Hid (∀ j, 1 ≤ j → j ≤ n → (s.get! (k + j)).toNat < loK c.toNat j ∨ hiK c.toNat j < (s.get! (k + j)).toNat → L = false) := Lib.hid fun j h1 h2 h3 => hF.out (bad_next s k j hlt h1 (by rw [hc, hm]; omega) (by rw [hc]; exact h3))
        have hG : Hid ((∀ j, 1 ≤ j → j ≤ n → loK c.toNat j ≤ (s.get! (k + j)).toNat ∧ (s.get! (k + j)).toNat ≤ hiK c.toNat j) → ∃ f, s.size ≤ k + n + 1 + f ∧ lettersD s f (k + n + 1) = L) := Lib.hid fun h => by
          obtain ⟨f, h1, h2⟩ := hf.out
          obtain ⟨g, rfl⟩ : ∃ g, f = g + 1 := ⟨f - 1, by omega⟩
          rw [lettersD_good hlt (good_at s k n hlt (by rw [hc, hm]) hkn (by rw [hc]; exact h))] at h2
          exact ⟨g, by omega, h2⟩
        have hkn' := Lib.hid hkn
        clear hF hf hm0 hkn
        go_wp2_with (refine (hMore _).mono ?_; rintro e w' ⟨rfl, rfl⟩)
        go_loop [6] (fun i => ∃ j : Nat, 1 ≤ j ∧ j ≤ n + 1 ∧ i = .int .i64 j ∧ Hid (∀ q, 1 ≤ q → q < j → loK c.toNat q ≤ (s.get! (k + q)).toNat ∧ (s.get! (k + q)).toNat ≤ hiK c.toNat q)) (fun i => n + 1 - (intOf i).toNat)
        case atStart => exact ⟨1, by omega, by omega, rfl, Lib.hid fun q h1 h2 => by omega⟩
        case round =>
          obtain ⟨j, hj1, hj, rfl, hQ⟩ := hrel
          by_cases hjn : j ≤ n
          · obtain ⟨x, hx⟩ : ∃ x, s.get! (k + j) = x := ⟨_, rfl⟩
            have hix2 : ∀ w, (Instr.index 9 (.string s) (.int .i64 ((k : Int) + (j : Int)))).run Tryd.prog w = .ok (.int .u8 (x.toNat : Int)) w := fun w => by
              have := index_str (k := k + j) (by have := hkn'.out; omega) hx w
              rwa [Int.natCast_add] at this
            obtain ⟨lo, hlo⟩ : ∃ lo, loK c.toNat j = lo := ⟨_, rfl⟩
            obtain ⟨hi, hhi⟩ : ∃ hi, hiK c.toNat j = hi := ⟨_, rfl⟩
            have hno : Hid ((x.toNat < lo ∨ hi < x.toNat) → L = false) := Lib.hid fun h => hB.out j hj1 hjn (by rw [hx, hlo, hhi]; exact h)
            have hyes : Hid (lo ≤ x.toNat ∧ x.toNat ≤ hi → ∀ q, 1 ≤ q → q < j + 1 → loK c.toNat q ≤ (s.get! (k + q)).toNat ∧ (s.get! (k + q)).toNat ≤ hiK c.toNat q) := Lib.hid fun h q h1 h2 => by
              rcases Nat.lt_succ_iff_lt_or_eq.1 h2 with h3 | h3
              · exact hQ.out q h1 h3
              · subst h3
                rw [hx, hlo, hhi]
                exact h
            clear hQ hB hG
            by_cases hj1' : j = 1
            · subst hj1'
              simp only [loK, hiK, if_true] at hlo hhi
              have hL1 := lowest_any c.toNat
              have hL2 := highest_any c.toNat
              rw [hlo] at hL1
              rw [hhi] at hL2
              clear hlo hhi
              have hix2 : ∀ w, (Instr.index 9 (.string s) (.int .i64 ((k : Int) + 1))).run Tryd.prog w = .ok (.int .u8 (x.toNat : Int)) w := fun w => hix2 w
              go_wp2_with (first
                | (refine (hL1 _).mono ?_; rintro e w' ⟨rfl, rfl⟩)
                | (refine (hL2 _).mono ?_; rintro e w' ⟨rfl, rfl⟩))
              all_goals (try simp only [bne_iff_ne, bne_eq_false_iff_eq, beq_iff_eq, beq_eq_false_iff_ne, Bool.not_eq_false', Bool.not_eq_true', decide_eq_true_eq, decide_eq_false_iff_not, ne_eq, gt_iff_lt] at *)
              all_goals first
                | (go_ret; exact ⟨ret_bool (hno.out (by omega)).symm, rfl⟩)
                | (go_round
                   case rel => exact ⟨1 + 1, by omega, by omega, by go_num, Lib.hid (hyes.out (by omega))⟩
                   case measure => simp [intOf]; omega)
            · simp only [loK, hiK, if_neg hj1'] at hlo hhi
              subst hlo hhi
              go_wp2_with fail
              all_goals (try simp only [bne_iff_ne, bne_eq_false_iff_eq, beq_iff_eq, beq_eq_false_iff_ne, Bool.not_eq_false', Bool.not_eq_true', decide_eq_true_eq, decide_eq_false_iff_not, ne_eq, gt_iff_lt] at *)
              all_goals first
                | (go_ret; exact ⟨ret_bool (hno.out (by omega)).symm, rfl⟩)
                | (go_round
                   case rel => exact ⟨j + 1, by omega, by omega, by go_num, Lib.hid (hyes.out (by omega))⟩
                   case measure => simp [intOf]; omega)
          · obtain rfl : n + 1 = j := by omega
            have hE := Lib.hid (hG.out fun q h1 h2 => hQ.out q h1 (by omega))
            clear hG hB hQ
            go_wp2_with fail
            go_round
            case rel => exact ⟨k + n + 1, by have := hkn'.out; omega, by go_num, hE⟩
            case measure => simp [intOf]; have := hkn'.out; omega
    · have hb : L = true := by
        obtain ⟨f, h1, h2⟩ := hf.out
        rw [← h2, lettersD_end s f k hlt]
      subst hb
      go_wp2_with fail
      go_ret
      exact ⟨rfl, rfl⟩
end Go.Proofs.YtkjndgapejbgcaaDoor

namespace Go.Proofs.YtkjndgapejbgcaaDoor
open Go.RowKit
set_option linter.unusedSimpArgs false

def dot1 (s : ByteArray) : Bool := s.toList == [46]
def dot2 (s : ByteArray) : Bool := s.toList == [46, 46]
def Fine (s : ByteArray) : Bool := decide (1 ≤ s.size) && decide (s.size ≤ 64) && !dot1 s && !dot2 s

set_option maxRecDepth 20000 in
set_option maxHeartbeats 2000000 in
theorem named_any (s : ByteArray) (w : World) : Calls Tryd.prog 11 #[.string s] w fun e w' => e = .returned (.bool (Fine s && nameD s s.size 0)) ∧ w = w' := by
  obtain ⟨b1, hb1⟩ : ∃ b, dot1 s = b := ⟨_, rfl⟩
  obtain ⟨b2, hb2⟩ : ∃ b, dot2 s = b := ⟨_, rfl⟩
  unfold Fine
  rw [hb1, hb2]
  unfold dot1 at hb1
  unfold dot2 at hb2
  by_cases h0 : 1 ≤ s.size
  · by_cases h64 : s.size ≤ 64
    · cases b1
      · cases b2
        · go_enter Tryd.func11, Tryd.ntmps11
          have hP : Hid (∃ n, n = s.size - 0 ∧ plainD s n 0 = plainD s s.size 0) := Lib.hid ⟨s.size, by omega, rfl⟩
          have hLt : ∀ w, _ := letters_any s (by omega)
          rw [name_eq s]
          obtain ⟨PL, hPL⟩ : ∃ p, plainD s s.size 0 = p := ⟨_, rfl⟩
          obtain ⟨LL, hLL⟩ : ∃ p, lettersD s s.size 0 = p := ⟨_, rfl⟩
          rw [hLL] at hLt
          rw [hPL] at hP
          rw [hPL, hLL]
          clear hPL hLL
          go_wp2_with fail
          go_loop [3] (fun i => ∃ k : Nat, k ≤ s.size ∧ i = .int .i64 k ∧ Hid (∃ n, n = s.size - k ∧ plainD s n k = PL)) (fun i => s.size - (intOf i).toNat)
          case atStart => exact ⟨0, by omega, rfl, hP⟩
          case round =>
            clear hP
            obtain ⟨k, hk, rfl, hQ⟩ := hrel
            by_cases hlt : k < s.size
            · obtain ⟨c, hc⟩ : ∃ c, s.get! k = c := ⟨_, rfl⟩
              have hix := index_str hlt hc
              have h1 : Hid (c.toNat = 47 ∨ c.toNat = 0 → PL = false) := Lib.hid fun h => by
                obtain ⟨n, h1, h2⟩ := hQ.out
                obtain ⟨m, rfl⟩ : ∃ m, n = m + 1 := ⟨n - 1, by omega⟩
                rw [← h2]
                simp [plainD, hc, h]
              have h2 : Hid (¬ (c.toNat = 47 ∨ c.toNat = 0) → ∃ n, n = s.size - (k + 1) ∧ plainD s n (k + 1) = PL) := Lib.hid fun h => by
                obtain ⟨n, h1, h2⟩ := hQ.out
                obtain ⟨m, rfl⟩ : ∃ m, n = m + 1 := ⟨n - 1, by omega⟩
                refine ⟨m, by omega, ?_⟩
                rw [← h2]
                simp [plainD, hc, h]
              clear hQ hc
              go_wp2_with fail
              all_goals (try simp only [bne_iff_ne, bne_eq_false_iff_eq, beq_iff_eq, beq_eq_false_iff_ne, Bool.not_eq_false', Bool.not_eq_true', decide_eq_true_eq, decide_eq_false_iff_not, ne_eq, gt_iff_lt] at *)
              all_goals first
                | (go_ret; exact ⟨ret_bool (by rw [h1.out (by omega)]; simp), rfl⟩)
                | (go_round
                   case rel => exact ⟨k + 1, by omega, by go_num, Lib.hid (h2.out (by omega))⟩
                   case measure => simp [intOf]; omega)
            · have hpl : PL = true := by
                obtain ⟨n, h1, h2⟩ := hQ.out
                obtain rfl : n = 0 := by omega
                rw [← h2]; rfl
              subst hpl
              go_wp2_with (refine (hLt _).mono ?_; rintro e w' ⟨rfl, rfl⟩)
              go_ret
              exact ⟨ret_bool (by simp [h0, h64]), rfl⟩
        · go_enter Tryd.func11, Tryd.ntmps11
          go_wp2_with fail
          go_ret
          exact ⟨ret_bool (by simp), rfl⟩
      · go_enter Tryd.func11, Tryd.ntmps11
        go_wp2_with fail
        go_ret
        exact ⟨ret_bool (by simp), rfl⟩
    · go_enter Tryd.func11, Tryd.ntmps11
      go_wp2_with fail
      go_ret
      exact ⟨ret_bool (by simp [h64]), rfl⟩
  · go_enter Tryd.func11, Tryd.ntmps11
    go_wp2_with fail
    go_ret
    exact ⟨ret_bool (by simp [h0]), rfl⟩
end Go.Proofs.YtkjndgapejbgcaaDoor

namespace Go.Proofs.YtkjndgapejbgcaaDoor
open Go.Shelf Go.RowKit
def lays260_ren : Go.Shelf.Ren := ⟨fun | 260 => 59 | n => n, fun | 9 => 9 | 21 => 21 | 3 => 3 | 4 => 4 | 5 => 5 | 119 => 126 | 0 => 0 | 46 => 95 | 139 => 129 | 138 => 128 | n => n, fun | 3 => 2 | 4 => 3 | n => n⟩
theorem lays260 : Go.Proofs.Lays.n260 Tryd.prog lays260_ren := {
  mixed := by kernel_rfl
  f260 := Tryd.func59.trans (congrArg some (by kernel_rfl))
  t0 := Tryd.underlying0
  a0 := Tryd.isAgg0
  z0 := Tryd.sizeOf0
  v0 := Tryd.zeroValue0
  t3 := Tryd.underlying3
  a3 := Tryd.isAgg3
  z3 := Tryd.sizeOf3
  v3 := Tryd.zeroValue3
  t4 := Tryd.underlying4
  a4 := Tryd.isAgg4
  z4 := Tryd.sizeOf4
  v4 := Tryd.zeroValue4
  t5 := Tryd.underlying5
  a5 := Tryd.isAgg5
  z5 := Tryd.sizeOf5
  v5 := Tryd.zeroValue5
  t9 := Tryd.underlying9
  a9 := Tryd.isAgg9
  z9 := Tryd.sizeOf9
  v9 := Tryd.zeroValue9
  t21 := Tryd.underlying21
  a21 := Tryd.isAgg21
  z21 := Tryd.sizeOf21
  v21 := Tryd.zeroValue21
  t46 := Tryd.underlying95
  a46 := Tryd.isAgg95
  z46 := Tryd.sizeOf95
  v46 := Tryd.zeroValue95
  t119 := Tryd.underlying126
  a119 := Tryd.isAgg126
  z119 := Tryd.sizeOf126
  t138 := Tryd.underlying128
  a138 := Tryd.isAgg128
  z138 := Tryd.sizeOf128
  v138 := Tryd.zeroValue128
  t139 := Tryd.underlying129
  a139 := Tryd.isAgg129
  z139 := Tryd.sizeOf129
  v139 := Tryd.zeroValue129
  g3 := by kernel_rfl
  g4 := by kernel_rfl }
open Go.RowKit Go.Lib in
theorem utf8_decodeRuneInStringSlow (s : ByteArray) (w : World) (hT : Lib.Utf8Tabs 2 3 w) :
    Calls Tryd.prog 59 #[.string s] w fun e w' => e = .returned (.tuple #[.int .i32 (Lib.decodeGo s).1, .int .i64 (Lib.decodeGo s).2]) ∧ Below w.heap.size w w' := Any.utf8_decodeRuneInStringSlow lays260 s w hT
def lays197_ren : Go.Shelf.Ren := ⟨fun | 197 => 30 | 260 => 59 | n => n, fun | 9 => 9 | 21 => 21 | 3 => 3 | 4 => 4 | 5 => 5 | 105 => 55 | 119 => 126 | 0 => 0 | 46 => 95 | 139 => 129 | 138 => 128 | n => n, fun | 3 => 2 | 4 => 3 | n => n⟩
theorem lays197 : Go.Proofs.Lays.n197 Tryd.prog lays197_ren := {
  mixed := by kernel_rfl
  f197 := Tryd.func30.trans (congrArg some (by kernel_rfl))
  f260 := Tryd.func59.trans (congrArg some (by kernel_rfl))
  t0 := Tryd.underlying0
  a0 := Tryd.isAgg0
  z0 := Tryd.sizeOf0
  v0 := Tryd.zeroValue0
  t3 := Tryd.underlying3
  a3 := Tryd.isAgg3
  z3 := Tryd.sizeOf3
  v3 := Tryd.zeroValue3
  t4 := Tryd.underlying4
  a4 := Tryd.isAgg4
  z4 := Tryd.sizeOf4
  v4 := Tryd.zeroValue4
  t5 := Tryd.underlying5
  a5 := Tryd.isAgg5
  z5 := Tryd.sizeOf5
  v5 := Tryd.zeroValue5
  t9 := Tryd.underlying9
  a9 := Tryd.isAgg9
  z9 := Tryd.sizeOf9
  v9 := Tryd.zeroValue9
  t21 := Tryd.underlying21
  a21 := Tryd.isAgg21
  z21 := Tryd.sizeOf21
  v21 := Tryd.zeroValue21
  t46 := Tryd.underlying95
  a46 := Tryd.isAgg95
  z46 := Tryd.sizeOf95
  v46 := Tryd.zeroValue95
  t105 := Tryd.underlying55
  a105 := Tryd.isAgg55
  z105 := Tryd.sizeOf55
  v105 := Tryd.zeroValue55
  t119 := Tryd.underlying126
  a119 := Tryd.isAgg126
  z119 := Tryd.sizeOf126
  t138 := Tryd.underlying128
  a138 := Tryd.isAgg128
  z138 := Tryd.sizeOf128
  v138 := Tryd.zeroValue128
  t139 := Tryd.underlying129
  a139 := Tryd.isAgg129
  z139 := Tryd.sizeOf129
  v139 := Tryd.zeroValue129
  g3 := by kernel_rfl
  g4 := by kernel_rfl }
open Go.RowKit Go.Lib in
/-- **unicode/utf8.DecodeRuneInString AT EVERY STRING.** (LAID: no walk: one application.) -/
theorem utf8_DecodeRuneInString (s : ByteArray) (w : World) (hT : Lib.Utf8Tabs 2 3 w) :
    Calls Tryd.prog 30 #[.string s] w fun e w' => e = .returned (.tuple #[.int .i32 (Lib.decodeGo s).1, .int .i64 (Lib.decodeGo s).2]) ∧ Below w.heap.size w w' := Any.utf8_DecodeRuneInString lays197 s w hT

def U8V (w : World) : Prop := Lib.VarReads Tryd.prog w "unicode/utf8.acceptRanges" Lib.acceptData ∧ Lib.VarReads Tryd.prog w "unicode/utf8.first" Lib.firstData
abbrev U8T (w : World) : Prop := Lib.Utf8Tabs 2 3 w
theorem u8t_of {w : World} (h : U8V w) : U8T w :=
  utf8Tabs_of_readsT (U8Types.of260 lays260) ⟨by kernel_rfl, by kernel_rfl, by kernel_rfl, by kernel_rfl, by kernel_rfl, by kernel_rfl, by kernel_rfl⟩ h.2 h.1
theorem u8t_keep {w w' : World} (h : U8T w) (hb : Below w.heap.size w w') : U8T w' :=
  ⟨fun c hc => (hb.cell (World.block_lt_of_cell? w _ (h.1 c hc))).trans (h.1 c hc), fun i hi =>
    ⟨(hb.cell (World.block_lt_of_cell? w _ (h.2 i hi).1)).trans (h.2 i hi).1, (hb.cell (World.block_lt_of_cell? w _ (h.2 i hi).2)).trans (h.2 i hi).2⟩⟩
end Go.Proofs.YtkjndgapejbgcaaDoor

namespace Go.Proofs.YtkjndgapejbgcaaDoor
open Go.RowKit
set_option linter.unusedSimpArgs false

theorem iterPos_of {w : World} {k : Nat} {s : ByteArray} {p : Nat} (h : w.heap[k]? = some (.stringIter s p)) : w.iterPos k = p := by simp [World.iterPos, h]
theorem decodeGo_at (s : ByteArray) (pos : Nat) (h : pos < s.size) : Lib.decodeGo (s.extract pos s.size) = Utf8.decode s pos := by
  unfold Lib.decodeGo
  rw [if_neg (by simp; omega), Lib.tail_decode]
  rfl
theorem width_pos (s : ByteArray) (pos : Nat) (h : pos < s.size) : 1 ≤ (Utf8.decode s pos).2 := by
  by_cases ha : (s[pos]'h).toNat < 128
  · rw [decode_ascii s pos h ha]
    exact Nat.le_refl _
  · exact (decode_high s pos h (by omega)).2

theorem nameD_bad {s : ByteArray} {f i : Nat} (h : i < s.size) (hb : (Utf8.decode s i).1 = 47 ∨ (Utf8.decode s i).1 = 0 ∨ ((Utf8.decode s i).1 = 65533 ∧ (Utf8.decode s i).2 = 1)) : nameD s (f + 1) i = false := by
  have h2 : ¬ ((Utf8.decode s i).1 = 47 ∨ (Utf8.decode s i).1 = 0) → badAt s i := fun h => by unfold badAt; omega
  unfold nameD
  split
  · split
    · rfl
    · rename_i h3
      simp [h2 h3]
  · omega
theorem nameD_good {s : ByteArray} {f i : Nat} (h : i < s.size) (hb : ¬ ((Utf8.decode s i).1 = 47 ∨ (Utf8.decode s i).1 = 0 ∨ ((Utf8.decode s i).1 = 65533 ∧ (Utf8.decode s i).2 = 1))) : nameD s (f + 1) i = nameD s f (i + (Utf8.decode s i).2) := by
  have h2 : ¬ badAt s i := fun h => by unfold badAt at h; omega
  have h3 : ¬ ((Utf8.decode s i).1 = 47 ∨ (Utf8.decode s i).1 = 0) := by omega
  simp [nameD, h, h2, h3]

set_option maxRecDepth 20000 in
set_option maxHeartbeats 2000000 in
theorem isName_any (s : ByteArray) (w : World) (hT : U8T w) : Calls Tryd.prog 10 #[.string s] w fun e w' => e = .returned (.bool (Fine s && nameD s s.size 0)) ∧ Below w.heap.size w w' := by
  obtain ⟨b1, hb1⟩ : ∃ b, dot1 s = b := ⟨_, rfl⟩
  obtain ⟨b2, hb2⟩ : ∃ b, dot2 s = b := ⟨_, rfl⟩
  unfold Fine
  rw [hb1, hb2]
  unfold dot1 at hb1
  unfold dot2 at hb2
  by_cases h0 : 1 ≤ s.size
  · have hne : s.toList.isEmpty = false := by
      rw [Lib.toList_data]
      cases h : s.data.toList with
      | nil => exact absurd h0 (by rw [Lib.size_eq, h]; simp)
      | cons _ _ => rfl
    by_cases h64 : s.size ≤ 64
    · cases b1
      · cases b2
        · have hR : Hid (∃ f, s.size ≤ 0 + f ∧ nameD s f 0 = nameD s s.size 0) := Lib.hid ⟨s.size, by omega, rfl⟩
          obtain ⟨R, hRR⟩ : ∃ p, nameD s s.size 0 = p := ⟨_, rfl⟩
          rw [hRR] at hR
          rw [hRR]
          have hT' := Lib.hid hT
          clear hRR hT
          go_enter Tryd.func10, Tryd.ntmps10
          go_wp2_with fail
          go_loopw [] (fun wr => ∃ pos : Nat, wr.heap[w.heap.size]? = some (.stringIter s pos) ∧ Hid (Below w.heap.size w wr) ∧ Hid (∃ f, s.size ≤ pos + f ∧ nameD s f pos = R)) (fun wr => s.size - wr.iterPos w.heap.size)
          case atStart => exact ⟨0, World.iter_heap w s 0, Lib.hid ((Below.refl _ _).alloc (Nat.le_refl _) _), hR⟩
          case round =>
            clear hR
            obtain ⟨pos, hit, hbw, hf⟩ := hrel
            have hpos0 := iterPos_of hit
            by_cases hp : pos < s.size
            · have hnx : ∀ ty, (Instr.next (.pointer (some ⟨w.heap.size, 0, none⟩)) true ty).run Tryd.prog wr = _ := fun ty => Lib.run_next_any_at wr w.heap.size s pos ty hit hp
              have hwd := width_pos s pos hp
              have hit2 := Lib.iterAt_heap wr w.heap.size s pos (pos + (Utf8.decode s pos).2) hit
              have hbw2 := Lib.hid (Lib.below_iterAt hbw.out (k := w.heap.size) (Nat.le_refl _) s (pos + (Utf8.decode s pos).2))
              obtain ⟨W1, hW1⟩ : ∃ W1, W1 = wr.iterAt w.heap.size s (pos + (Utf8.decode s pos).2) := ⟨_, rfl⟩
              rw [← hW1] at hnx hit2 hbw2
              have hrl := decode_le s pos
              obtain ⟨r, hr⟩ : ∃ r, (Utf8.decode s pos).1 = r := ⟨_, rfl⟩
              obtain ⟨n, hn⟩ : ∃ n, (Utf8.decode s pos).2 = n := ⟨_, rfl⟩
              have hD := fun W hW => utf8_DecodeRuneInString (s.extract pos s.size) W (u8t_keep (w' := W) hT'.out hW)
              rw [decodeGo_at s pos hp] at hD
              rw [hr] at hnx hrl hD
              rw [hn] at hwd hit2 hD
              have hs1 : Hid (r = 47 ∨ r = 0 ∨ (r = 65533 ∧ n = 1) → R = false) := Lib.hid fun h => by
                obtain ⟨f, h1, h2⟩ := hf.out
                obtain ⟨m, rfl⟩ : ∃ m, f = m + 1 := ⟨f - 1, by omega⟩
                rw [← h2, nameD_bad hp (by rw [hr, hn]; exact h)]
              have hs2 : Hid (¬ (r = 47 ∨ r = 0 ∨ (r = 65533 ∧ n = 1)) → ∃ f, s.size ≤ (pos + n) + f ∧ nameD s f (pos + n) = R) := Lib.hid fun h => by
                obtain ⟨f, h1, h2⟩ := hf.out
                obtain ⟨m, rfl⟩ : ∃ m, f = m + 1 := ⟨f - 1, by omega⟩
                rw [nameD_good hp (by rw [hr, hn]; exact h), hn] at h2
                exact ⟨m, by omega, h2⟩
              clear hf hW1 hit hr hn hbw
              have hD' := Lib.hid hD
              clear hD
              go_wp2_with (refine (hD'.out _ (by exact hbw2.out)).mono ?_; rintro e W2 ⟨rfl, hB2⟩)
              all_goals (try simp only [bne_iff_ne, bne_eq_false_iff_eq, beq_iff_eq, beq_eq_false_iff_ne, Bool.not_eq_false', Bool.not_eq_true', decide_eq_true_eq, decide_eq_false_iff_not, ne_eq, gt_iff_lt] at *)
              all_goals first
                | (go_ret; exact ⟨ret_bool (by rw [hs1.out (by omega)]; simp), hbw2.out⟩)
                | (go_ret; exact ⟨ret_bool (by rw [hs1.out (by omega)]; simp), hbw2.out.trans (hB2.mono hbw2.out.size)⟩)
                | (go_roundw
                   case rel =>
                     first
                       | exact ⟨pos + n, hit2, hbw2, Lib.hid (hs2.out (by omega))⟩
                       | exact ⟨pos + n, (hB2.block _ (lt_of_block hit2)).trans hit2, Lib.hid (hbw2.out.trans (hB2.mono hbw2.out.size)), Lib.hid (hs2.out (by omega))⟩
                   case measure =>
                     first
                       | (rw [iterPos_of hit2, hpos0]; omega)
                       | (rw [iterPos_of ((hB2.block _ (lt_of_block hit2)).trans hit2), hpos0]; omega))
            · have hR : R = true := by
                obtain ⟨f, h1, h2⟩ := hf.out
                rw [← h2, nameD_end s f pos hp]
              subst hR
              have hnx : ∀ ty, (Instr.next (.pointer (some ⟨w.heap.size, 0, none⟩)) true ty).run Tryd.prog wr = _ := fun ty => Lib.run_next_end_at wr w.heap.size s pos ty hit hp
              go_wp2_with fail
              go_ret
              exact ⟨ret_bool (by simp [h0, h64]), hbw.out⟩
        · go_enter Tryd.func10, Tryd.ntmps10
          go_wp2_with fail
          go_ret
          exact ⟨ret_bool (by simp), Below.refl _ _⟩
      · go_enter Tryd.func10, Tryd.ntmps10
        go_wp2_with fail
        go_ret
        exact ⟨ret_bool (by simp), Below.refl _ _⟩
    · go_enter Tryd.func10, Tryd.ntmps10
      go_wp2_with fail
      go_ret
      exact ⟨ret_bool (by simp [h64]), Below.refl _ _⟩
  · have he : s.toList.isEmpty = true := by
      rw [Lib.toList_data]
      have : s.data.toList = [] := List.eq_nil_of_length_eq_zero (by rw [← Lib.size_eq]; omega)
      rw [this]; rfl
    go_enter Tryd.func10, Tryd.ntmps10
    go_wp2_with fail
    go_ret
    exact ⟨ret_bool (by simp [h0]), Below.refl _ _⟩
end Go.Proofs.YtkjndgapejbgcaaDoor
