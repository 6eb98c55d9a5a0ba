/- Quotients and products of numbers from nought to one: bounds from below. Plain. -/
import Derived.Test.YtlghgfnkckaebaaFloat
namespace Go.Proofs.Ytlghgfnkckaebaa.Fp
open Ieee

/-- The word of 2^-a. -/
def pw2 (a : Nat) : Nat := (1023 - a) * 4503599627370496
theorem vl_pw2 {a : Nat} (h : a ≤ 1022) : vl (pw2 a) = 2 ^ (E1 - a) := by
  have hE := E0_ge
  have h1 : ¬ pw2 a < 4503599627370496 := by unfold pw2; omega
  have h2 : pw2 a / 4503599627370496 = 1023 - a := by unfold pw2; omega
  have h3 : pw2 a % 4503599627370496 = 0 := by unfold pw2; omega
  unfold vl magOf upOf
  rw [if_neg h1, if_neg h1, h2, h3, Nat.add_zero, show (4503599627370496 : Nat) = 2 ^ 52 by decide, ← Nat.pow_add]
  congr 1
  omega
theorem pw2_le {a b : Nat} (h : a ≤ b) : pw2 b ≤ pw2 a := Nat.mul_le_mul_right _ (by omega)
theorem pw2_one : pw2 0 = one := by decide
theorem pw2_fin (a : Nat) : pw2 a ≤ one := by rw [← pw2_one]; exact pw2_le (Nat.zero_le _)
/-- A product from below. -/
theorem mul_low {r s a b : Nat} (hr : r ≤ one) (hs : s ≤ one) (ha : pw2 a ≤ r) (hb : pw2 b ≤ s) (hab : a + b ≤ 1022) : ∃ t, double.mul r s = some t ∧ pw2 (a + b) ≤ t := by
  have hE := E0_ge
  have h1 : one < 9218868437227405312 := by decide
  have er := read_pos (r := r) (by omega)
  have es := read_pos (r := s) (by omega)
  have hp : -3000 ≤ placeOf r + placeOf s := by unfold placeOf; omega
  refine ⟨double.nearest false (magOf r * magOf s) (placeOf r + placeOf s), ?_, near_ge hp (Nat.lt_of_le_of_lt (pw2_fin _) h1) ?_⟩
  · unfold Format.mul
    rw [er, es]
    simp [Datum.product, Format.write]
  · rw [vl_pw2 hab]
    have v1 := vl_le ha
    have v2 := vl_le hb
    rw [vl_pw2 (by omega)] at v1 v2
    have v3 := Nat.mul_le_mul v1 v2
    rw [← Nat.pow_add] at v3
    unfold vl at v3
    unfold sc
    have e : ((-1074 : Int) + upOf r + (-1074 + upOf s) + E1).toNat + E1 = (upOf r + E0) + (upOf s + E0) := by omega
    have h2 : 2 ^ (E1 - (a + b)) * 2 ^ E1 ≤ magOf r * magOf s * 2 ^ (placeOf r + placeOf s + E1).toNat * 2 ^ E1 := by
      rw [Nat.mul_assoc (magOf r * magOf s), ← Nat.pow_add, ← Nat.pow_add]
      unfold placeOf
      rw [e, Nat.pow_add 2 (upOf r + E0)]
      have e2 : E1 - (a + b) + E1 = E1 - a + (E1 - b) := by omega
      rw [e2]
      have : magOf r * magOf s * (2 ^ (upOf r + E0) * 2 ^ (upOf s + E0)) = magOf r * 2 ^ (upOf r + E0) * (magOf s * 2 ^ (upOf s + E0)) := by
        simp only [Nat.mul_assoc, Nat.mul_left_comm]
      rw [this]
      exact v3
    exact Nat.le_of_mul_le_mul_right h2 (Nat.two_pow_pos _)
/-- The word of 2^20. -/
def mega : Nat := 4697254411347427328
theorem vl_mega : vl mega = 2 ^ (E1 + 20) := by
  have hE := E0_ge
  have h1 : magOf mega = 2 ^ 52 := by decide +kernel
  have h2 : upOf mega = 1042 := by decide +kernel
  unfold vl
  rw [h1, h2, ← Nat.pow_add]
  congr 1
  omega
theorem of_nat_mega {n : Nat} (h2 : n ≤ 1048576) : double.nearest false n 0 ≤ mega := by
  have hE := E0_ge
  refine near_le (by decide) ?_
  rw [vl_mega]
  unfold sc
  rw [show ((0 : Int) + E1).toNat = E1 by omega, Nat.pow_add, Nat.mul_comm]
  exact Nat.mul_le_mul_left _ h2
/-- Words of whole numbers: in the numbers' order. -/
theorem of_nat_mono {m n : Nat} (h : m ≤ n) (hn : n ≤ 1048576) : double.nearest false m 0 ≤ double.nearest false n 0 := by
  have hE := E0_ge
  rcases Nat.eq_zero_or_pos m with h0 | h0
  · rw [h0]
    unfold Format.nearest
    simp [Format.word]
  -- both are exact
  have key : ∀ k : Nat, 1 ≤ k → k ≤ 1048576 → ∃ s, s < 9218868437227405312 ∧ vl s = sc k 0 := fun k h1 h2 => by
    have hlog : k.log2 ≤ 20 := by
      rcases Nat.lt_or_ge k.log2 21 with h | h
      · omega
      · have : 2 ^ 21 ≤ 2 ^ k.log2 := Nat.pow_le_pow_right (by decide) h
        have := Nat.log2_self_le (n := k) (by omega)
        have : (2 : Nat) ^ 21 = 2097152 := by decide
        omega
    have hk1 := Nat.log2_self_le (n := k) (by omega)
    have hk2 : k < 2 ^ (k.log2 + 1) := Nat.lt_log2_self
    obtain ⟨L, hL⟩ : ∃ L, k.log2 = L := ⟨_, rfl⟩
    rw [hL] at hlog hk1 hk2
    -- s = (1022 + L) rungs and the digits
    have hm1 : 4503599627370496 ≤ k * 2 ^ (52 - L) := by
      rw [show (4503599627370496 : Nat) = 2 ^ L * 2 ^ (52 - L) by rw [← Nat.pow_add, show L + (52 - L) = 52 by omega]]
      exact Nat.mul_le_mul_right _ hk1
    have hm2 : k * 2 ^ (52 - L) < 9007199254740992 := by
      rw [show (9007199254740992 : Nat) = 2 ^ (L + 1) * 2 ^ (52 - L) by rw [← Nat.pow_add, show L + 1 + (52 - L) = 53 by omega]]
      exact Nat.mul_lt_mul_of_pos_right hk2 (Nat.two_pow_pos _)
    obtain ⟨M, hM⟩ : ∃ M, k * 2 ^ (52 - L) = M := ⟨_, rfl⟩
    rw [hM] at hm1 hm2
    refine ⟨(1022 + L) * 4503599627370496 + M, by omega, ?_⟩
    have d1 : ¬ ((1022 + L) * 4503599627370496 + M < 4503599627370496) := by omega
    have d2 : ((1022 + L) * 4503599627370496 + M) / 4503599627370496 = 1023 + L := by omega
    have d3 : 4503599627370496 + ((1022 + L) * 4503599627370496 + M) % 4503599627370496 = M := by omega
    unfold vl magOf upOf
    rw [if_neg d1, if_neg d1, d2, d3, ← hM, Nat.mul_assoc, ← Nat.pow_add]
    unfold sc
    congr 2
    omega
  obtain ⟨s, hs, hv⟩ := key m h0 (by omega)
  obtain ⟨t, ht, hu⟩ := key n (by omega) hn
  have hm : double.nearest false m 0 ≤ s := near_le (by decide) (by rw [hv]; exact Nat.le_refl _)
  have hn2 : t ≤ double.nearest false n 0 := near_ge (by decide) ht (by rw [hu]; exact Nat.le_refl _)
  have hst : s ≤ t := by
    rcases Nat.lt_or_ge t s with h3 | h3
    · have := vl_mono h3
      rw [hv, hu] at this
      unfold sc at this
      have := Nat.mul_le_mul_right (2 ^ ((0 : Int) + E1).toNat) h
      omega
    · exact h3
  omega
theorem log2_magOf {x : Nat} (hup : 0 < upOf x) : (magOf x).log2 = 52 := by
  have hmag := magOf_ge hup
  have hmag2 := magOf_lt x
  have hn0 : ¬ magOf x = 0 := by omega
  have h3 : 2 ^ (magOf x).log2 ≤ magOf x := Nat.log2_self_le hn0
  have h4 : magOf x < 2 ^ ((magOf x).log2 + 1) := Nat.lt_log2_self
  have h5 : (magOf x).log2 < 53 := by
    rcases Nat.lt_or_ge (magOf x).log2 53 with h | h
    · exact h
    · have : 2 ^ 53 ≤ 2 ^ (magOf x).log2 := Nat.pow_le_pow_right (by decide) h
      have : (2 : Nat) ^ 53 = 9007199254740992 := by decide
      omega
  have h6 : 52 < (magOf x).log2 + 1 := by
    rcases Nat.lt_or_ge 52 ((magOf x).log2 + 1) with h | h
    · exact h
    · have : 2 ^ ((magOf x).log2 + 1) ≤ 2 ^ 52 := Nat.pow_le_pow_right (by decide) h
      have : (2 : Nat) ^ 52 = 4503599627370496 := by decide
      omega
  omega
theorem up_of {x : Nat} (h1 : one ≤ x) (h2 : x ≤ mega) : 1022 ≤ upOf x ∧ upOf x ≤ 1042 := by
  have e1 : one = 4607182418800017408 := rfl
  have e2 : mega = 4697254411347427328 := rfl
  unfold upOf
  rw [if_neg (by omega)]
  omega
/-- A quotient of whole numbers from 1 to 2^20, not above one. -/
theorem div_low {r x : Nat} (h0 : one ≤ r) (h1 : r ≤ x) (h2 : x ≤ mega) : ∃ t, double.div r x = some t ∧ t ≤ one ∧ pw2 21 ≤ t := by
  have hE := E0_ge
  have em : mega = 4697254411347427328 := rfl
  have ex := read_pos (r := x) (by omega)
  have er := read_pos (r := r) (by omega)
  have hf : double.fractionBits = 52 := by decide +kernel
  obtain ⟨ux1, ux2⟩ := up_of (Nat.le_trans h0 h1) h2
  obtain ⟨ur1, ur2⟩ := up_of h0 (Nat.le_trans h1 h2)
  have hv := vl_le h1
  have hup : upOf r ≤ upOf x := by
    have e1 : one = 4607182418800017408 := rfl
    unfold upOf
    rw [if_neg (by omega), if_neg (by omega)]
    have : r / 4503599627370496 ≤ x / 4503599627370496 := Nat.div_le_div_right h1
    omega
  have hx0 := magOf_ge (r := x) (by omega)
  have hr0 := magOf_ge (r := r) (by omega)
  have hx1 := magOf_lt x
  unfold Format.div
  rw [ex, er, hf]
  have hn0 : ¬ magOf x = 0 := by omega
  simp only [Datum.quotient, if_neg hn0, log2_magOf (x := x) (by omega), log2_magOf (x := r) (by omega), Bool.xor_false, Option.map_some, Format.write, Nat.shiftLeft_eq]
  have hT2 : ∀ T : Nat, 1 ≤ T → 2 ^ T = 2 * 2 ^ (T - 1) := fun T hT => by
    rw [show T = (T - 1) + 1 by omega, Nat.pow_succ, Nat.mul_comm]
    rfl
  obtain ⟨T, hT⟩ : ∃ T, T = 55 + upOf x - upOf r := ⟨_, rfl⟩
  obtain ⟨D, hD⟩ : ∃ D, D = magOf r * 2 ^ (52 + 2 + 52 - 52) := ⟨_, rfl⟩
  have hq : D ≤ magOf x * 2 ^ (T - 1) := by
    unfold vl at hv
    rw [hD]
    have h4 : magOf r * 2 ^ (52 + 2 + 52 - 52) * 2 ^ (upOf r + E0) ≤ magOf x * 2 ^ (T - 1) * 2 ^ (upOf r + E0) := by
      rw [Nat.mul_assoc, ← Nat.pow_add, Nat.mul_assoc, ← Nat.pow_add, show 52 + 2 + 52 - 52 + (upOf r + E0) = (upOf r + E0) + 54 by omega, show T - 1 + (upOf r + E0) = (upOf x + E0) + 54 by omega, Nat.pow_add, Nat.pow_add 2 (upOf x + E0), ← Nat.mul_assoc, ← Nat.mul_assoc]
      exact Nat.mul_le_mul_right _ hv
    exact Nat.le_of_mul_le_mul_right h4 (Nat.two_pow_pos _)
  have hlow : 2 ^ 53 ≤ D / magOf x := by
    refine (Nat.le_div_iff_mul_le (by omega)).2 ?_
    rw [hD]
    have e1 : (2 : Nat) ^ (52 + 2 + 52 - 52) = 2 ^ 53 * 2 := by decide
    rw [e1, ← Nat.mul_assoc, Nat.mul_comm (magOf r), Nat.mul_assoc]
    exact Nat.mul_le_mul_left _ (by omega)
  rw [← hD]
  have hpos : 0 < magOf x := by omega
  have hbb : ∀ b : Bool, b.toNat ≤ 1 := fun b => by cases b <;> decide
  have ha : 2 * (D / magOf x) + (D % magOf x != 0).toNat ≤ 2 ^ T := by
    rw [hT2 T (by omega)]
    rcases Nat.eq_zero_or_pos (D % magOf x) with h0 | h0
    · rw [h0]
      have : D / magOf x ≤ 2 ^ (T - 1) := by
        rw [← Nat.mul_div_cancel_left (2 ^ (T - 1)) hpos]
        exact Nat.div_le_div_right hq
      simp
      omega
    · have hlt : D / magOf x < 2 ^ (T - 1) := by
        refine (Nat.div_lt_iff_lt_mul hpos).2 ?_
        rcases Nat.lt_or_ge D (2 ^ (T - 1) * magOf x) with h | h
        · exact h
        · exfalso
          rw [Nat.mul_comm] at h
          have : D = magOf x * 2 ^ (T - 1) := Nat.le_antisymm hq h
          rw [this, Nat.mul_mod_right] at h0
          omega
      have hb := hbb (D % magOf x != 0)
      omega
  refine ⟨_, rfl, near_le (by unfold placeOf; omega) ?_, near_ge (by unfold placeOf; omega) (by decide) ?_⟩
  · rw [vl_one]
    unfold sc
    refine Nat.le_trans (Nat.mul_le_mul_right _ ha) ?_
    rw [← Nat.pow_add]
    exact Nat.pow_le_pow_right (by decide) (by unfold placeOf; omega)
  · rw [vl_pw2 (by decide)]
    unfold sc
    have h5 : 2 ^ 54 ≤ 2 * (D / magOf x) + (D % magOf x != 0).toNat := by
      have : (2 : Nat) ^ 54 = 2 * 2 ^ 53 := by decide
      omega
    refine Nat.le_trans ?_ (Nat.mul_le_mul_right _ h5)
    rw [← Nat.pow_add]
    exact Nat.pow_le_pow_right (by decide) (by unfold placeOf; omega)
/-- Nought divided. -/
theorem div_zero {x : Nat} (h1 : one ≤ x) (h2 : x ≤ mega) : double.div 0 x = some 0 := by
  have em : mega = 4697254411347427328 := rfl
  have ex := read_pos (r := x) (by omega)
  have er : double.read 0 = .number false 0 (-1074) := by decide +kernel
  have hx0 := magOf_ge (r := x) (by have := up_of h1 h2; omega)
  unfold Format.div
  rw [ex, er]
  have hn0 : ¬ magOf x = 0 := by omega
  simp only [Datum.quotient, if_neg hn0, Bool.xor_false, Option.map_some, Format.write, Nat.shiftLeft_eq, Nat.zero_mul, Nat.zero_div, Nat.zero_mod]
  simp [Format.nearest, Format.word]
end Go.Proofs.Ytlghgfnkckaebaa.Fp
