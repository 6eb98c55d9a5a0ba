/- The rate of a filter: powers by squaring, the two functions Rate, the law BloomRates. -/
import Derived.Test.YtlghgfnkckaebaaProg
import Derived.Test.YtlghgfnkckaebaaBase
import Derived.Test.YtlghgfnkckaebaaArgs
import Derived.Test.YtlghgfnkckaebaaFloat
namespace Go.Proofs.Ytlghgfnkckaebaa
open Go.RowKit

def mulF (a b : Nat) : Nat := (Ieee.double.mul a b).getD 0
def subF (a : Nat) : Nat := (Ieee.double.sub Fp.one a).getD 0
def shareF (n : Int) : Nat := (Ieee.double.div Fp.one (floatOfInt .f64 n)).getD 0
/-- The power: f rounds at most. -/
def powL : Nat → Nat → Nat → Nat → Nat
  | 0, z, _, _ => z
  | f + 1, z, b, n => if n = 0 then z else powL f (if n % 2 = 1 then mulF z b else z) (mulF b b) (n / 2)
def powF (x n : Nat) : Nat := powL 64 Fp.one x n
def rateF (bits hashes added : Int) : Nat := powF (subF (powF (subF (shareF bits)) (hashes * added).toNat)) hashes.toNat

theorem mulF_eq {a b : Nat} (ha : a ≤ Fp.one) (hb : b ≤ Fp.one) : Ieee.double.mul a b = some (mulF a b) ∧ mulF a b ≤ a ∧ mulF a b ≤ b := by
  obtain ⟨t, h, h1, h2⟩ := Fp.mul_unit ha hb
  unfold mulF
  rw [h]
  exact ⟨rfl, h1, h2⟩
theorem subF_eq {a : Nat} (ha : a ≤ Fp.one) : Ieee.double.sub Fp.one a = some (subF a) ∧ subF a ≤ Fp.one := by
  obtain ⟨t, h, h1⟩ := Fp.sub_unit ha
  unfold subF
  rw [h]
  exact ⟨rfl, h1⟩
theorem shareF_eq {n : Int} (h1 : 1 ≤ n) (h2 : n ≤ 1048576) : Ieee.double.div Fp.one (floatOfInt .f64 n) = some (shareF n) ∧ shareF n ≤ Fp.one := by
  have hf : floatOfInt .f64 n = Ieee.double.nearest false n.natAbs 0 := by
    unfold floatOfInt FloatKind.nearest FloatKind.encode FloatKind.format Ieee.Format.write
    have : decide (n < 0) = false := by simp; omega
    simp only [this]
  obtain ⟨h3, h4⟩ := Fp.of_nat (n := n.natAbs) (by omega) (by omega)
  obtain ⟨t, h, h5⟩ := Fp.div_unit h3 (by omega)
  unfold shareF
  rw [hf, h]
  exact ⟨rfl, h5⟩

theorem powL_zero (f z b : Nat) : powL f z b 0 = z := by cases f <;> simp [powL]
theorem powL_le (f : Nat) : ∀ z b n : Nat, z ≤ Fp.one → b ≤ Fp.one → powL f z b n ≤ Fp.one := by
  induction f with
  | zero => intro z b n hz _; exact hz
  | succ f ih =>
    intro z b n hz hb
    unfold powL
    split
    · exact hz
    · refine ih _ _ _ ?_ (Nat.le_trans (mulF_eq hb hb).2.1 hb)
      split
      · exact Nat.le_trans (mulF_eq hz hb).2.1 hz
      · exact hz
theorem powF_le (x n : Nat) (hx : x ≤ Fp.one) : powF x n ≤ Fp.one := powL_le 64 _ _ _ (Nat.le_refl _) hx
theorem rateF_le {bits hashes added : Int} (h1 : 1 ≤ bits) (h2 : bits ≤ 1048576) : rateF bits hashes added ≤ Fp.one :=
  powF_le _ _ (subF_eq (powF_le _ _ (subF_eq (shareF_eq h1 h2).2).2)).2

theorem run_mul (w : World) {a b : Nat} (ha : a ≤ Fp.one) (hb : b ≤ Fp.one) : (binOp .mul 25 (.float .f64 a) (.float .f64 b)).run Try.prog w = .ok (.float .f64 (mulF a b)) w :=
  run_float_arith w .mul 25 .f64 a b _ (mulF_eq ha hb).1
theorem run_sub (w : World) {a : Nat} (ha : a ≤ Fp.one) : (binOp .sub 25 (.float .f64 4607182418800017408) (.float .f64 a)).run Try.prog w = .ok (.float .f64 (subF a)) w :=
  run_float_arith w .sub 25 .f64 Fp.one a _ (subF_eq ha).1
theorem run_share (w : World) {n : Int} (h1 : 1 ≤ n) (h2 : n ≤ 1048576) : (binOp .quo 25 (.float .f64 4607182418800017408) (.float .f64 (floatOfInt .f64 n))).run Try.prog w = .ok (.float .f64 (shareF n)) w :=
  run_float_arith w .quo 25 .f64 Fp.one _ _ (shareF_eq h1 h2).1

set_option maxHeartbeats 1000000 in
theorem refPow_any (x : Nat) (n : Int) (w : World) (hx : x ≤ Fp.one) (h0 : 0 ≤ n) (h1 : n ≤ 9223372036854775807) :
    Calls Try.prog 37 #[.float .f64 x, .int .i64 n] w fun e w' => e = .returned (.float .f64 (powF x n.toNat)) ∧ w = w' := by
  obtain ⟨k, rfl⟩ := Int.eq_ofNat_of_zero_le h0
  rw [Int.toNat_natCast]
  obtain ⟨T, hT⟩ : ∃ T, T = powF x k := ⟨_, rfl⟩
  rw [← hT]
  have HT := Lib.hid hT
  clear hT
  go_enter Try.func37, Try.ntmps37
  go_wp2
  go_loop [1, 5, 6] (fun i zv bv => ∃ f z b m : Nat, m < 2 ^ f ∧ m ≤ k ∧ i = .int .i64 m ∧ zv = .float .f64 z ∧ bv = .float .f64 b ∧ z ≤ Fp.one ∧ b ≤ Fp.one ∧ Hid (powL f z b m = T)) (fun i _ _ => (intOf i).toNat)
  case atStart => exact ⟨64, Fp.one, x, k, by omega, Nat.le_refl _, rfl, rfl, rfl, Nat.le_refl _, hx, HT.out.symm⟩
  case round =>
    obtain ⟨f, z, b, m, hmf, hmk, rfl, rfl, rfl, hz, hb, hp⟩ := hrel
    by_cases hm : m = 0
    · subst hm
      have hz2 : Hid (z = T) := by have := hp.out; rw [powL_zero] at this; exact this
      clear hp
      go_wp2
      go_ret
      exact ⟨ret_float hz2.out, rfl⟩
    · obtain ⟨f, rfl⟩ : ∃ f', f = f' + 1 := by
        cases f with
        | zero => simp at hmf; omega
        | succ f => exact ⟨f, rfl⟩
      have hm2 : 1 ≤ m := by omega
      have hlt : m / 2 < 2 ^ f := by rw [Nat.pow_succ] at hmf; omega
      have hbb := (mulF_eq hb hb).2.1
      have hsq := fun w => run_mul w hb hb
      by_cases hodd : m % 2 = 1
      · have hzb := (mulF_eq hz hb).2.1
        have hmu := fun w => run_mul w hz hb
        have hp2 : Hid (powL f (mulF z b) (mulF b b) (m / 2) = T) := by
          have := hp.out
          rw [powL, if_neg hm, if_pos hodd] at this
          exact this
        have ht : ((m : Int) % 2 == 1) = true := by simp; omega
        clear hp hm hodd hmf
        go_wp2
        go_round
        case rel => exact ⟨f, _, _, m / 2, hlt, by omega, by go_num, rfl, rfl, by omega, by omega, hp2⟩
        case measure => simp [intOf]; omega
      · have hp2 : Hid (powL f z (mulF b b) (m / 2) = T) := by
          have := hp.out
          rw [powL, if_neg hm, if_neg hodd] at this
          exact this
        have ht : ((m : Int) % 2 == 1) = false := by simp; omega
        clear hp hm hodd hmf
        go_wp2
        go_round
        case rel => exact ⟨f, _, _, m / 2, hlt, by omega, by go_num, rfl, rfl, hz, by omega, hp2⟩
        case measure => simp [intOf]; omega

set_option maxHeartbeats 1000000 in
theorem pow_any (x : Nat) (n : Int) (w : World) (hx : x ≤ Fp.one) (h0 : 0 ≤ n) (h1 : n ≤ 9223372036854775807) :
    Calls Try.prog 39 #[.float .f64 x, .int .i64 n] w fun e w' => e = .returned (.float .f64 (powF x n.toNat)) ∧ w = w' := by
  obtain ⟨k, rfl⟩ := Int.eq_ofNat_of_zero_le h0
  rw [Int.toNat_natCast]
  obtain ⟨T, hT⟩ : ∃ T, T = powF x k := ⟨_, rfl⟩
  rw [← hT]
  have HT := Lib.hid hT
  clear hT
  go_enter Try.func39, Try.ntmps39
  go_wp2
  go_loop [1, 5, 6] (fun i zv bv => ∃ f z b m : Nat, m < 2 ^ f ∧ m ≤ k ∧ i = .int .i64 m ∧ zv = .float .f64 z ∧ bv = .float .f64 b ∧ z ≤ Fp.one ∧ b ≤ Fp.one ∧ Hid (powL f z b m = T)) (fun i _ _ => (intOf i).toNat)
  case atStart => exact ⟨64, Fp.one, x, k, by omega, Nat.le_refl _, rfl, rfl, rfl, Nat.le_refl _, hx, HT.out.symm⟩
  case round =>
    obtain ⟨f, z, b, m, hmf, hmk, rfl, rfl, rfl, hz, hb, hp⟩ := hrel
    by_cases hm : m = 0
    · subst hm
      have hz2 : Hid (z = T) := by have := hp.out; rw [powL_zero] at this; exact this
      clear hp
      go_wp2
      go_ret
      exact ⟨ret_float hz2.out, rfl⟩
    · obtain ⟨f, rfl⟩ : ∃ f', f = f' + 1 := by
        cases f with
        | zero => simp at hmf; omega
        | succ f => exact ⟨f, rfl⟩
      have hm2 : 1 ≤ m := by omega
      have hlt : m / 2 < 2 ^ f := by rw [Nat.pow_succ] at hmf; omega
      have hbb := (mulF_eq hb hb).2.1
      have hsq := fun w => run_mul w hb hb
      by_cases hodd : m % 2 = 1
      · have hzb := (mulF_eq hz hb).2.1
        have hmu := fun w => run_mul w hz hb
        have hp2 : Hid (powL f (mulF z b) (mulF b b) (m / 2) = T) := by
          have := hp.out
          rw [powL, if_neg hm, if_pos hodd] at this
          exact this
        have ht : ((m : Int) % 2 == 1) = true := by simp; omega
        clear hp hm hodd hmf
        go_wp2
        go_round
        case rel => exact ⟨f, _, _, m / 2, hlt, by omega, by go_num, rfl, rfl, by omega, by omega, hp2⟩
        case measure => simp [intOf]; omega
      · have hp2 : Hid (powL f z (mulF b b) (m / 2) = T) := by
          have := hp.out
          rw [powL, if_neg hm, if_neg hodd] at this
          exact this
        have ht : ((m : Int) % 2 == 1) = false := by simp; omega
        clear hp hm hodd hmf
        go_wp2
        go_round
        case rel => exact ⟨f, _, _, m / 2, hlt, by omega, by go_num, rfl, rfl, hz, by omega, hp2⟩
        case measure => simp [intOf]; omega

/-- May a rate be reckoned? -/
def okRate (bits hashes added : Int) : Prop := 1 ≤ bits ∧ bits ≤ 1048576 ∧ 1 ≤ hashes ∧ hashes ≤ 16 ∧ 0 ≤ added ∧ added ≤ 4294967296
def noRate (bits hashes added : Int) : Prop := bits < 1 ∨ (1 ≤ bits ∧ 1048576 < bits) ∨ (1 ≤ bits ∧ bits ≤ 1048576 ∧ hashes < 1) ∨ (1 ≤ bits ∧ bits ≤ 1048576 ∧ 1 ≤ hashes ∧ 16 < hashes) ∨
  (1 ≤ bits ∧ bits ≤ 1048576 ∧ 1 ≤ hashes ∧ hashes ≤ 16 ∧ added < 0) ∨ (1 ≤ bits ∧ bits ≤ 1048576 ∧ 1 ≤ hashes ∧ hashes ≤ 16 ∧ 0 ≤ added ∧ 4294967296 < added)
theorem rate_or (bits hashes added : Int) : okRate bits hashes added ∨ noRate bits hashes added := by unfold okRate noRate; omega

set_option maxHeartbeats 1000000 in
theorem refRate_no (bits hashes added : Int) (w : World) (h : noRate bits hashes added) :
    Calls Try.prog 16 #[.int .i64 bits, .int .i64 hashes, .int .i64 added] w fun e w' => e = .returned (.tuple #[.float .f64 0, .bool false]) ∧ w = w' := by
  unfold noRate at h
  rcases h with h1 | ⟨h1, h2⟩ | ⟨h1, h2, h3⟩ | ⟨h1, h2, h3, h4⟩ | ⟨h1, h2, h3, h4, h5⟩ | ⟨h1, h2, h3, h4, h5, h6⟩
  all_goals
    go_enter Try.func16, Try.ntmps16
    go_wp2
    go_ret2
    exact ⟨rfl, rfl⟩

set_option maxHeartbeats 1000000 in
theorem refRate_ok (bits hashes added : Int) (w : World) (h : okRate bits hashes added) :
    Calls Try.prog 16 #[.int .i64 bits, .int .i64 hashes, .int .i64 added] w fun e w' => e = .returned (.tuple #[.float .f64 (rateF bits hashes added), .bool true]) ∧ w = w' := by
  obtain ⟨h1, h2, h3, h4, h5, h6⟩ := h
  have s1 := (shareF_eq h1 h2).2
  have s2 := (subF_eq s1).2
  have r1 := fun w => run_share w h1 h2
  have r2 := fun w => run_sub w s1
  have m1 : 0 ≤ hashes * added := Int.mul_nonneg (by omega) h5
  have m2 : hashes * added ≤ 68719476736 := by
    have := Int.mul_le_mul h4 h6 h5 (by omega)
    omega
  have s3 := powF_le _ (hashes * added).toNat s2
  have s4 := (subF_eq s3).2
  have r3 := fun w => run_sub w s3
  go_enter Try.func16, Try.ntmps16
  go_wp2_with fail
  refine (refPow_any _ _ _ s2 m1 (by omega)).mono ?_
  rintro e w' ⟨rfl, rfl⟩
  go_wp2_with fail
  refine (refPow_any _ _ _ s4 (by omega) (by omega)).mono ?_
  rintro e w' ⟨rfl, rfl⟩
  go_wp2_with fail
  go_ret2
  exact ⟨rfl, rfl⟩

def nanBits : Nat := 9221120237041090561
theorem frombits (w : World) : (callFunc 36 #[.int .u64 9221120237041090561]).run Try.prog w = .ok (.value (.float .f64 nanBits)) w := by kernel_rfl
theorem nan_any (w : World) : Calls Try.prog 12 #[] w fun e w' => e = .returned (.float .f64 nanBits) ∧ w = w' := by
  have hf := frombits
  go_enter Try.func12, Try.ntmps12
  go_wp2
  go_ret
  exact ⟨rfl, rfl⟩

theorem may_any (n : Int) (w : World) : Calls Try.prog 38 #[.int .i64 n] w fun e w' => e = .returned (.bool (decide (0 ≤ n ∧ n ≤ 4294967296))) ∧ w = w' := by
  rcases (show n < 0 ∨ (0 ≤ n ∧ n ≤ 4294967296) ∨ (0 ≤ n ∧ 4294967296 < n) by omega) with h | ⟨h1, h2⟩ | ⟨h1, h2⟩
  · go_enter Try.func38, Try.ntmps38
    go_wp2
    go_ret
    exact ⟨ret_bool (by simp; omega), rfl⟩
  · go_enter Try.func38, Try.ntmps38
    go_wp2
    go_ret
    exact ⟨ret_bool (by simp; omega), rfl⟩
  · go_enter Try.func38, Try.ntmps38
    go_wp2
    go_ret
    exact ⟨ret_bool (by simp; omega), rfl⟩
theorem may_yes (n : Int) (w : World) (h0 : 0 ≤ n) (h1 : n ≤ 4294967296) : Calls Try.prog 38 #[.int .i64 n] w fun e w' => e = .returned (.bool true) ∧ w = w' :=
  (may_any n w).mono fun _ _ ⟨he, hw⟩ => ⟨by rw [he]; exact ret_bool (by simp; omega), hw⟩
theorem may_no (n : Int) (w : World) (h : n < 0 ∨ 4294967296 < n) : Calls Try.prog 38 #[.int .i64 n] w fun e w' => e = .returned (.bool false) ∧ w = w' :=
  (may_any n w).mono fun _ _ ⟨he, hw⟩ => ⟨by rw [he]; exact ret_bool (by simp; omega), hw⟩

set_option maxHeartbeats 1000000 in
theorem rate_no (bits hashes added : Int) (w : World) (h : noRate bits hashes added) :
    Calls Try.prog 17 #[.int .i64 bits, .int .i64 hashes, .int .i64 added] w fun e w' => e = .returned (.float .f64 nanBits) ∧ w = w' := by
  unfold noRate at h
  rcases h with h1 | ⟨h1, h2⟩ | ⟨h1, h2, h3⟩ | ⟨h1, h2, h3, h4⟩ | ⟨h1, h2, h3, h4, h5⟩ | ⟨h1, h2, h3, h4, h5, h6⟩
  all_goals
    go_enter Try.func17, Try.ntmps17
    go_wp2_with (first | (go_at_call 12; refine (nan_any _).mono ?_; rintro e w' ⟨rfl, rfl⟩) | (go_at_call 38; refine (may_no _ _ (by omega)).mono ?_; rintro e w' ⟨rfl, rfl⟩))
    go_ret
    exact ⟨rfl, rfl⟩

set_option maxHeartbeats 1000000 in
theorem rate_ok (bits hashes added : Int) (w : World) (h : okRate bits hashes added) :
    Calls Try.prog 17 #[.int .i64 bits, .int .i64 hashes, .int .i64 added] w fun e w' => e = .returned (.float .f64 (rateF bits hashes added)) ∧ w = w' := by
  obtain ⟨h1, h2, h3, h4, h5, h6⟩ := h
  have s1 := (shareF_eq h1 h2).2
  have s2 := (subF_eq s1).2
  have r1 := fun w => run_share w h1 h2
  have r2 := fun w => run_sub w s1
  have m1 : 0 ≤ hashes * added := Int.mul_nonneg (by omega) h5
  have m2 : hashes * added ≤ 68719476736 := by
    have := Int.mul_le_mul h4 h6 h5 (by omega)
    omega
  have s3 := powF_le _ (hashes * added).toNat s2
  have s4 := (subF_eq s3).2
  have r3 := fun w => run_sub w s3
  go_enter Try.func17, Try.ntmps17
  go_wp2_with fail
  refine (may_yes _ _ h5 h6).mono ?_
  rintro e w' ⟨rfl, rfl⟩
  go_wp2_with fail
  refine (pow_any _ _ _ s2 m1 (by omega)).mono ?_
  rintro e w' ⟨rfl, rfl⟩
  go_wp2_with fail
  refine (pow_any _ _ _ s4 (by omega) (by omega)).mono ?_
  rintro e w' ⟨rfl, rfl⟩
  go_wp2_with fail
  go_ret
  exact ⟨rfl, rfl⟩

theorem ord_self {r : Nat} (h : r ≤ Fp.one) : (FloatKind.f64.format.order r r == some .eq) = true := by
  have : Ieee.double.order r r = some (compare r r) := Fp.order_pos (by have : Fp.one = 4607182418800017408 := rfl; omega) (by have : Fp.one = 4607182418800017408 := rfl; omega)
  show (Ieee.double.order r r == some .eq) = true
  rw [this, Nat.compare_eq_eq.2 rfl]
  rfl
theorem ord_nought {r : Nat} (h : r ≤ Fp.one) : (FloatKind.f64.format.order r 0 == some .gt || FloatKind.f64.format.order r 0 == some .eq) = true := by
  have : Ieee.double.order r 0 = some (compare r 0) := Fp.order_pos (by have : Fp.one = 4607182418800017408 := rfl; omega) (by omega)
  show (Ieee.double.order r 0 == some .gt || Ieee.double.order r 0 == some .eq) = true
  rw [this]
  rcases Nat.eq_zero_or_pos r with h0 | h0
  · rw [Nat.compare_eq_eq.2 h0]; rfl
  · rw [Nat.compare_eq_gt.2 h0]; rfl
theorem ord_one {r : Nat} (h : r ≤ Fp.one) : (FloatKind.f64.format.order r 4607182418800017408 == some .lt || FloatKind.f64.format.order r 4607182418800017408 == some .eq) = true := by
  have h1 : Fp.one = 4607182418800017408 := rfl
  have : Ieee.double.order r 4607182418800017408 = some (compare r 4607182418800017408) := Fp.order_pos (by omega) (by omega)
  show (Ieee.double.order r 4607182418800017408 == some .lt || Ieee.double.order r 4607182418800017408 == some .eq) = true
  rw [this]
  rcases Nat.lt_or_ge r 4607182418800017408 with h0 | h0
  · rw [Nat.compare_eq_lt.2 h0]; rfl
  · rw [Nat.compare_eq_eq.2 (by omega)]; rfl

set_option maxHeartbeats 1000000 in
theorem rates_any (bits hashes added : Int) (w : World) :
    Calls Try.prog 5 #[.int .i64 bits, .int .i64 hashes, .int .i64 added] w fun e w' => e = .returned (.bool true) ∧ w = w' := by
  rcases rate_or bits hashes added with h | h
  · have hl := rateF_le (bits := bits) (hashes := hashes) (added := added) h.1 h.2.1
    have o1 := ord_self hl
    have o2 := ord_nought hl
    have o3 := ord_one hl
    have H := Lib.hid h
    clear h
    go_enter Try.func5, Try.ntmps5
    go_wp2_with fail
    refine (refRate_ok _ _ _ _ H.out).mono ?_
    rintro e w' ⟨rfl, rfl⟩
    go_wp2_with fail
    refine (rate_ok _ _ _ _ H.out).mono ?_
    rintro e w' ⟨rfl, rfl⟩
    go_wp2_with fail
    go_ret
    exact ⟨rfl, rfl⟩
  · have o1 : (FloatKind.f64.format.order nanBits nanBits != some .eq) = true := by decide +kernel
    have H := Lib.hid h
    clear h
    go_enter Try.func5, Try.ntmps5
    go_wp2_with fail
    refine (refRate_no _ _ _ _ H.out).mono ?_
    rintro e w' ⟨rfl, rfl⟩
    go_wp2_with fail
    refine (rate_no _ _ _ _ H.out).mono ?_
    rintro e w' ⟨rfl, rfl⟩
    go_wp2_with fail
    go_ret
    exact ⟨rfl, rfl⟩

set_option maxRecDepth 100000 in
open Go.ChangeShapes Go.WideShapes in
theorem bloomRates_calls {H : Type} {enc : TypeId × Value → H} (W : World) (base : Nat) (v0 v1 v2 : Value) (d0 d1 d2 : DataW H) (p0 p1 p2 : List MemPlace)
    (o0 : Value.okWide Try.prog W .any base 3 v0) (h0 : DataW.Trod enc Try.prog W 0 (fun _ => true) true 3 v0 d0 p0)
    (o1 : Value.okWide Try.prog W .any base 3 v1) (h1 : DataW.Trod enc Try.prog W 0 (fun _ => true) true 3 v1 d1 p1)
    (o2 : Value.okWide Try.prog W .any base 3 v2) (h2 : DataW.Trod enc Try.prog W 0 (fun _ => true) true 3 v2 d2 p2)
    (_hsz : (DataW.weightsEach Try.prog [3, 3, 3] [d0, d1, d2]).all (· ≤ reachBytes) = true) :
    Calls Try.prog 5 #[v0, v1, v2] W fun e W' => e = .returned (.bool true) ∧ Below W.heap.size W W' := by
  obtain ⟨x, rfl, _, _, _⟩ := open_int Try.underlying3 o0 h0
  obtain ⟨y, rfl, _, _, _⟩ := open_int Try.underlying3 o1 h1
  obtain ⟨z, rfl, _, _, _⟩ := open_int Try.underlying3 o2 h2
  exact (rates_any x y z W).mono fun _ _ ⟨he, hw⟩ => ⟨he, by rw [← hw]; exact Below.refl _ _⟩
end Go.Proofs.Ytlghgfnkckaebaa
