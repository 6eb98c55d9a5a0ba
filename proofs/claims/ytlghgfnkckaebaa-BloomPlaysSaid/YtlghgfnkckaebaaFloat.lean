/- Numbers of 64 bits from nought to one: rounding keeps bounds; products, differences from one and quotients of one stay between nought and one. Plain facts on the core's words; no program is named here. -/
import Derived.Laws.FloatArith
namespace Go.Proofs.Ytlghgfnkckaebaa.Fp
open Ieee

/-- The word of one. -/
def one : Nat := 4607182418800017408

def magOf (r : Nat) : Nat := if r < 4503599627370496 then r else 4503599627370496 + r % 4503599627370496
def upOf (r : Nat) : Nat := if r < 4503599627370496 then 0 else r / 4503599627370496 - 1
def placeOf (r : Nat) : Int := -1074 + upOf r

theorem read_pos {r : Nat} (h : r < 9218868437227405312) : double.read r = .number false (magOf r) (placeOf r) := by
  have hw : double.signWeight = 9223372036854775808 := by decide +kernel
  have hb : double.binade = 4503599627370496 := by decide +kernel
  have hi : double.infRung = 9218868437227405312 := by decide +kernel
  have hl : double.leastPlace = -1074 := by decide +kernel
  unfold Format.read
  simp only [hw, hb, hi, hl]
  have h1 : r / 9223372036854775808 = 0 := Nat.div_eq_of_lt (by omega)
  have h2 : r % 9223372036854775808 = r := Nat.mod_eq_of_lt (by omega)
  rw [h1, h2]
  unfold magOf placeOf upOf
  by_cases hs : r < 4503599627370496
  · simp [hs]
  · simp [hs, h]

/-- All is scaled by a power of two that makes it whole. -/
def E0 : Nat := 1926
def E1 : Nat := 3000
theorem E0_ge : 1926 ≤ E0 ∧ E1 = E0 + 1074 := by decide
attribute [irreducible] E0 E1

/-- The number m * 2^p, scaled. -/
def sc (m : Nat) (p : Int) : Nat := m * 2 ^ (p + E1).toNat
/-- The word's number, scaled. -/
def vl (r : Nat) : Nat := magOf r * 2 ^ (upOf r + E0)

theorem sc_vl (r : Nat) : sc (magOf r) (placeOf r) = vl r := by
  have hE := E0_ge
  unfold sc vl placeOf
  congr 2
  omega

theorem magOf_lt (r : Nat) : magOf r < 9007199254740992 := by
  unfold magOf
  have := Nat.mod_lt r (show 0 < 4503599627370496 by decide)
  split <;> omega
theorem magOf_ge {r : Nat} (h : 0 < upOf r) : 4503599627370496 ≤ magOf r := by
  unfold upOf at h
  unfold magOf
  split at h <;> split <;> omega
theorem rung_eq (r : Nat) : r = upOf r * 4503599627370496 + magOf r := by
  unfold upOf magOf
  have := Nat.div_add_mod r 4503599627370496
  split
  · omega
  · have h1 : 1 ≤ r / 4503599627370496 := (Nat.le_div_iff_mul_le (by decide)).2 (by omega)
    have h2 : (r / 4503599627370496 - 1) * 4503599627370496 = r / 4503599627370496 * 4503599627370496 - 4503599627370496 := by rw [Nat.sub_mul, Nat.one_mul]
    have h3 : r / 4503599627370496 * 4503599627370496 = 4503599627370496 * (r / 4503599627370496) := Nat.mul_comm _ _
    omega

theorem two_pow_split (a b : Nat) (h : b ≤ a) : 2 ^ a = 2 ^ b * 2 ^ (a - b) := by rw [← Nat.pow_add]; congr 1; omega

/-- Rounding to a whole number: never past a whole number. -/
theorem cut_le {m d c : Nat} (h : m ≤ c * 2 ^ d) : Toward.even.cut false m d ≤ c := by
  unfold Toward.cut
  simp only [Nat.one_shiftLeft]
  by_cases hd : d ≤ m.log2 + 2
  · rw [Nat.min_eq_left hd]
    have hp : 0 < 2 ^ d := Nat.two_pow_pos d
    rcases Nat.lt_or_ge m (c * 2 ^ d) with hlt | hge
    · have : m / 2 ^ d < c := (Nat.div_lt_iff_lt_mul hp).2 hlt
      have hb : ∀ b : Bool, b.toNat ≤ 1 := fun b => by cases b <;> decide
      exact Nat.le_trans (Nat.add_le_add_left (hb _) _) this
    · have he : m = c * 2 ^ d := Nat.le_antisymm h hge
      subst he
      have h1 : c * 2 ^ d % 2 ^ d = 0 := Nat.mul_mod_left _ _
      have h2 : c * 2 ^ d / 2 ^ d = c := Nat.mul_div_cancel _ hp
      have h3 : (2 ^ d == 0) = false := by simp
      simp [h1, h2, h3]
  · rw [Nat.min_eq_right (by omega)]
    have hm : m < 2 ^ (m.log2 + 1) := Nat.lt_log2_self
    have hg : 2 ^ (m.log2 + 2) = 2 * 2 ^ (m.log2 + 1) := by rw [Nat.pow_succ 2 (m.log2 + 1), Nat.mul_comm]
    have h1 : m / 2 ^ (m.log2 + 2) = 0 := Nat.div_eq_of_lt (by omega)
    have h2 : m % 2 ^ (m.log2 + 2) = m := Nat.mod_eq_of_lt (by omega)
    rw [h1, h2]
    have h3 : decide (2 ^ (m.log2 + 2) < 2 * m) = false := by simp; omega
    have h4 : (2 ^ (m.log2 + 2) == 2 * m) = false := by simp; omega
    simp [h3, h4]

theorem cut_ge {m d c : Nat} (h : c * 2 ^ d ≤ m) : c ≤ Toward.even.cut false m d := by
  unfold Toward.cut
  simp only [Nat.one_shiftLeft]
  by_cases hd : d ≤ m.log2 + 2
  · rw [Nat.min_eq_left hd]
    have : c ≤ m / 2 ^ d := (Nat.le_div_iff_mul_le (Nat.two_pow_pos d)).2 h
    omega
  · have hm : m < 2 ^ (m.log2 + 1) := Nat.lt_log2_self
    have h1 : 2 ^ (m.log2 + 1) ≤ 2 ^ d := Nat.pow_le_pow_right (by decide) (by omega)
    have hc : c = 0 := by
      rcases Nat.eq_zero_or_pos c with h0 | h0
      · exact h0
      · have : 2 ^ d ≤ c * 2 ^ d := Nat.le_mul_of_pos_left _ h0
        omega
    rw [hc]
    exact Nat.zero_le _

/-- How far the last digit that is kept lies above the least place. -/
def lift (m : Nat) (p : Int) : Nat := (p + m.log2 - 52 + 1074).toNat

/-- The rung before infinity cuts it off: lift and digits. -/
theorem nearest_eq {m : Nat} (hm : m ≠ 0) (p : Int) : ∃ c, double.nearest false m p = min (lift m p * 4503599627370496 + c) 9218868437227405312 ∧
    (∀ z, sc m p ≤ z * 2 ^ (lift m p + E0) → -3000 ≤ p → c ≤ z) ∧ (∀ z, z * 2 ^ (lift m p + E0) ≤ sc m p → -3000 ≤ p → z ≤ c) := by
  have hE := E0_ge
  have hb : double.binade = 4503599627370496 := by decide +kernel
  have hi : double.infRung = 9218868437227405312 := by decide +kernel
  have hl : double.leastPlace = -1074 := by decide +kernel
  have hf : (double.fractionBits : Int) = 52 := by decide +kernel
  unfold Format.nearest
  simp only [if_neg hm, hb, hi, hl, hf, Format.word, Bool.false_eq_true, if_false]
  obtain ⟨last, hlast⟩ : ∃ last, last = max (p + (m.log2 : Int) - 52) (-1074) := ⟨_, rfl⟩
  rw [← hlast]
  have e1 : (last - -1074).toNat = lift m p := by unfold lift; omega
  rw [e1]
  refine ⟨_, rfl, fun z hz hp => ?_, fun z hz hp => ?_⟩
  · refine cut_le ?_
    rw [Nat.shiftLeft_eq]
    unfold sc at hz
    rcases Int.le_total last p with h | h
    · rw [show (last - p).toNat = 0 by omega, Nat.pow_zero, Nat.mul_one]
      have e2 : (p + E1).toNat = (p - last).toNat + (lift m p + E0) := by omega
      rw [e2, Nat.pow_add 2 (p - last).toNat, ← Nat.mul_assoc] at hz
      exact Nat.le_of_mul_le_mul_right hz (Nat.two_pow_pos _)
    · rw [show (p - last).toNat = 0 by omega, Nat.pow_zero, Nat.mul_one]
      have e2 : lift m p + E0 = (last - p).toNat + (p + E1).toNat := by omega
      rw [e2, Nat.pow_add, ← Nat.mul_assoc] at hz
      exact Nat.le_of_mul_le_mul_right hz (Nat.two_pow_pos _)
  · refine cut_ge ?_
    rw [Nat.shiftLeft_eq]
    unfold sc at hz
    rcases Int.le_total last p with h | h
    · rw [show (last - p).toNat = 0 by omega, Nat.pow_zero, Nat.mul_one]
      have e2 : (p + E1).toNat = (p - last).toNat + (lift m p + E0) := by omega
      rw [e2, Nat.pow_add 2 (p - last).toNat, ← Nat.mul_assoc] at hz
      exact Nat.le_of_mul_le_mul_right hz (Nat.two_pow_pos _)
    · rw [show (p - last).toNat = 0 by omega, Nat.pow_zero, Nat.mul_one]
      have e2 : lift m p + E0 = (last - p).toNat + (p + E1).toNat := by omega
      rw [e2, Nat.pow_add, ← Nat.mul_assoc] at hz
      exact Nat.le_of_mul_le_mul_right hz (Nat.two_pow_pos _)

/-- What is kept has at most 53 digits. -/
theorem sc_lt (m : Nat) {p : Int} (hp : -3000 ≤ p) : sc m p < 2 ^ 53 * 2 ^ (lift m p + E0) := by
  have hE := E0_ge
  unfold sc
  have hm : m < 2 ^ (m.log2 + 1) := Nat.lt_log2_self
  have h1 : m * 2 ^ (p + E1).toNat < 2 ^ (m.log2 + 1) * 2 ^ (p + E1).toNat := Nat.mul_lt_mul_of_pos_right hm (Nat.two_pow_pos _)
  rw [← Nat.pow_add] at h1
  rw [← Nat.pow_add]
  refine Nat.lt_of_lt_of_le h1 (Nat.pow_le_pow_right (by decide) ?_)
  unfold lift
  omega
/-- .. and 53 digits where it lies above the least place. -/
theorem sc_ge {m : Nat} (hm : m ≠ 0) {p : Int} (_hp : -3000 ≤ p) (h : 0 < lift m p) : 2 ^ 52 * 2 ^ (lift m p + E0) ≤ sc m p := by
  have hE := E0_ge
  unfold sc
  have h0 : 2 ^ m.log2 ≤ m := Nat.log2_self_le hm
  have h1 : 2 ^ m.log2 * 2 ^ (p + E1).toNat ≤ m * 2 ^ (p + E1).toNat := Nat.mul_le_mul_right _ h0
  rw [← Nat.pow_add] at h1
  rw [← Nat.pow_add]
  refine Nat.le_trans (Nat.pow_le_pow_right (by decide) ?_) h1
  unfold lift at h ⊢
  omega

theorem vl_lt (r : Nat) : vl r < 2 ^ 53 * 2 ^ (upOf r + E0) := by
  unfold vl
  exact Nat.mul_lt_mul_of_pos_right (magOf_lt r) (Nat.two_pow_pos _)
theorem vl_ge {r : Nat} (h : 0 < upOf r) : 2 ^ 52 * 2 ^ (upOf r + E0) ≤ vl r := by
  unfold vl
  exact Nat.mul_le_mul_right _ (magOf_ge h)

/-- Rounding does not pass a word from below. -/
theorem near_le {m : Nat} {p : Int} {s : Nat} (hp : -3000 ≤ p) (h : sc m p ≤ vl s) : double.nearest false m p ≤ s := by
  have hE := E0_ge
  by_cases hm : m = 0
  · subst hm
    unfold Format.nearest
    simp [Format.word]
  obtain ⟨c, he, h1, _⟩ := nearest_eq hm p
  rw [he]
  refine Nat.le_trans (Nat.min_le_left _ _) ?_
  have hsr := rung_eq s
  rcases Nat.lt_trichotomy (lift m p) (upOf s) with hk | hk | hk
  · have : c ≤ 2 ^ 53 := h1 _ (Nat.le_of_lt (sc_lt m hp)) hp
    have h3 := magOf_ge (r := s) (by omega)
    have h4 : (lift m p + 1) * 4503599627370496 ≤ upOf s * 4503599627370496 := Nat.mul_le_mul_right _ hk
    rw [Nat.add_mul, Nat.one_mul] at h4
    have : (2 : Nat) ^ 53 = 9007199254740992 := by decide
    omega
  · rw [hk] at h1 ⊢
    have : c ≤ magOf s := h1 _ h hp
    omega
  · exfalso
    have h2 := sc_ge hm hp (by omega)
    have h3 := vl_lt s
    have h4 : 2 ^ 53 * 2 ^ (upOf s + E0) ≤ 2 ^ 52 * 2 ^ (lift m p + E0) := by
      rw [← Nat.pow_add, ← Nat.pow_add]
      exact Nat.pow_le_pow_right (by decide) (by omega)
    omega

/-- .. nor from above. -/
theorem near_ge {m : Nat} {p : Int} {s : Nat} (hp : -3000 ≤ p) (hs : s < 9218868437227405312) (h : vl s ≤ sc m p) : s ≤ double.nearest false m p := by
  have hE := E0_ge
  by_cases hm : m = 0
  · subst hm
    have : vl s = 0 := by simpa [sc] using h
    have hsr := rung_eq s
    have hmag : magOf s = 0 := by
      unfold vl at this
      rcases Nat.mul_eq_zero.1 this with h0 | h0
      · exact h0
      · exact absurd h0 (Nat.ne_of_gt (Nat.two_pow_pos _))
    have hup : upOf s = 0 := by
      rcases Nat.eq_zero_or_pos (upOf s) with h0 | h0
      · exact h0
      · have := magOf_ge h0; omega
    rw [hmag, hup] at hsr
    omega
  obtain ⟨c, he, _, h1⟩ := nearest_eq hm p
  rw [he]
  refine Nat.le_min.2 ⟨?_, Nat.le_of_lt hs⟩
  have hsr := rung_eq s
  rcases Nat.lt_trichotomy (lift m p) (upOf s) with hk | hk | hk
  · exfalso
    have h2 := sc_lt m hp
    have h3 := vl_ge (r := s) (by omega)
    have h4 : 2 ^ 53 * 2 ^ (lift m p + E0) ≤ 2 ^ 52 * 2 ^ (upOf s + E0) := by
      rw [← Nat.pow_add, ← Nat.pow_add]
      exact Nat.pow_le_pow_right (by decide) (by omega)
    omega
  · rw [hk] at h1 ⊢
    have : magOf s ≤ c := h1 _ h hp
    omega
  · have : 2 ^ 52 ≤ c := h1 _ (sc_ge hm hp (by omega)) hp
    have h3 := magOf_lt s
    have h4 : (upOf s + 1) * 4503599627370496 ≤ lift m p * 4503599627370496 := Nat.mul_le_mul_right _ hk
    rw [Nat.add_mul, Nat.one_mul] at h4
    have : (2 : Nat) ^ 52 = 4503599627370496 := by decide
    omega

theorem vl_mono {r s : Nat} (h : r < s) : vl r < vl s := by
  have hE := E0_ge
  have hr := rung_eq r
  have hs := rung_eq s
  have h1 := magOf_lt r
  have h2 := magOf_lt s
  rcases Nat.lt_trichotomy (upOf r) (upOf s) with hk | hk | hk
  · have h3 := vl_lt r
    have h4 := vl_ge (r := s) (by omega)
    have h5 : 2 ^ 53 * 2 ^ (upOf r + E0) ≤ 2 ^ 52 * 2 ^ (upOf s + E0) := by
      rw [← Nat.pow_add, ← Nat.pow_add]
      exact Nat.pow_le_pow_right (by decide) (by omega)
    omega
  · unfold vl
    rw [hk] at hr ⊢
    exact Nat.mul_lt_mul_of_pos_right (by omega) (Nat.two_pow_pos _)
  · exfalso
    have h3 := magOf_ge (r := r) (by omega)
    have h4 : (upOf s + 1) * 4503599627370496 ≤ upOf r * 4503599627370496 := Nat.mul_le_mul_right _ hk
    rw [Nat.add_mul, Nat.one_mul] at h4
    omega
theorem vl_le {r s : Nat} (h : r ≤ s) : vl r ≤ vl s := by
  rcases Nat.lt_or_ge r s with h1 | h1
  · exact Nat.le_of_lt (vl_mono h1)
  · rw [Nat.le_antisymm h h1]; exact Nat.le_refl _

theorem vl_one : vl one = 2 ^ E1 := by
  have hE := E0_ge
  have h1 : magOf one = 2 ^ 52 := by decide +kernel
  have h2 : upOf one = 1022 := by decide +kernel
  unfold vl
  rw [h1, h2, ← Nat.pow_add]
  congr 1
  omega

/-- A product of two numbers from nought to one is no greater than either. -/
theorem mul_unit {r s : Nat} (hr : r ≤ one) (hs : s ≤ one) : ∃ t, double.mul r s = some t ∧ t ≤ r ∧ t ≤ s := by
  have hE := E0_ge
  have h1 : one < 9218868437227405312 := by decide
  have er := read_pos (r := r) (by omega)
  have es := read_pos (r := s) (by omega)
  have key : ∀ a b : Nat, a < 9218868437227405312 → b ≤ one → sc (magOf a * magOf b) (placeOf a + placeOf b) ≤ vl a := by
    intro a b ha hb
    have hb1 := vl_le hb
    rw [vl_one] at hb1
    unfold vl at hb1 ⊢
    unfold sc placeOf
    have e : ((-1074 : Int) + upOf a + (-1074 + upOf b) + E1).toNat + E1 = (upOf a + E0) + (upOf b + E0) := by omega
    have h2 : magOf a * magOf b * 2 ^ ((-1074 : Int) + upOf a + (-1074 + upOf b) + E1).toNat * 2 ^ E1 ≤ magOf a * 2 ^ (upOf a + E0) * 2 ^ E1 := by
      rw [Nat.mul_assoc (magOf a * magOf b), ← Nat.pow_add, e, Nat.pow_add]
      have : magOf a * magOf b * (2 ^ (upOf a + E0) * 2 ^ (upOf b + E0)) = magOf a * 2 ^ (upOf a + E0) * (magOf b * 2 ^ (upOf b + E0)) := by
        simp only [Nat.mul_assoc, Nat.mul_left_comm]
      rw [this]
      exact Nat.mul_le_mul_left _ hb1
    exact Nat.le_of_mul_le_mul_right h2 (Nat.two_pow_pos _)
  have hp : -3000 ≤ placeOf r + placeOf s := by unfold placeOf; omega
  refine ⟨double.nearest false (magOf r * magOf s) (placeOf r + placeOf s), ?_, near_le hp (key r s (by omega) hs), near_le hp ?_⟩
  · unfold Format.mul
    rw [er, es]
    simp [Datum.product, Format.write]
  · rw [Nat.mul_comm, Int.add_comm]
    exact key s r (by omega) hr

/-- One less a number from nought to one is such a number. -/
theorem sub_unit {r : Nat} (hr : r ≤ one) : ∃ t, double.sub one r = some t ∧ t ≤ one := by
  have hE := E0_ge
  have h1 : one < 9218868437227405312 := by decide
  have er := read_pos (r := r) (by omega)
  have eo : double.read one = .number false 4503599627370496 (-52) := by decide +kernel
  have hv := vl_le hr
  rw [vl_one] at hv
  unfold Format.sub
  rw [er, eo]
  simp only [Datum.opposite, Datum.sum, Bool.not_false, signed, Bool.false_eq_true, if_false, if_true, Bool.false_and, Option.map_some, Nat.shiftLeft_eq]
  obtain ⟨b, hb⟩ : ∃ b, b = min (-52 : Int) (placeOf r) := ⟨_, rfl⟩
  rw [← hb]
  have hb1 : b ≤ -52 := by omega
  have hb2 : b ≤ placeOf r := by omega
  have hb3 : -1074 ≤ b := by unfold placeOf at hb; omega
  have hle : magOf r * 2 ^ (placeOf r - b).toNat ≤ 4503599627370496 * 2 ^ (-52 - b).toNat := by
    have h2 : magOf r * 2 ^ (placeOf r - b).toNat * 2 ^ (b + E1).toNat ≤ 4503599627370496 * 2 ^ (-52 - b).toNat * 2 ^ (b + E1).toNat := by
      rw [Nat.mul_assoc, ← Nat.pow_add, Nat.mul_assoc, ← Nat.pow_add]
      have e1 : (placeOf r - b).toNat + (b + E1).toNat = upOf r + E0 := by unfold placeOf at hb2 ⊢; omega
      have e2 : (-52 - b).toNat + (b + E1).toNat = 1022 + E0 := by omega
      rw [e1, e2, show (4503599627370496 : Nat) = 2 ^ 52 by decide, ← Nat.pow_add]
      unfold vl at hv
      rwa [show E1 = 52 + (1022 + E0) by omega] at hv
    exact Nat.le_of_mul_le_mul_right h2 (Nat.two_pow_pos _)
  obtain ⟨u, hu⟩ : ∃ u, u = 4503599627370496 * 2 ^ (-52 - b).toNat := ⟨_, rfl⟩
  obtain ⟨v, hv2⟩ : ∃ v, v = magOf r * 2 ^ (placeOf r - b).toNat := ⟨_, rfl⟩
  rw [← hu, ← hv2] at hle ⊢
  have hd : decide ((u : Int) + -(v : Int) < 0) = false := by simp; omega
  have hn : ((u : Int) + -(v : Int)).natAbs = u - v := by omega
  rw [hd, hn]
  simp only [ite_self, Format.write]
  refine ⟨_, rfl, near_le (by omega) ?_⟩
  rw [vl_one]
  unfold sc
  refine Nat.le_trans (Nat.mul_le_mul_right _ (Nat.sub_le u v)) ?_
  rw [hu, Nat.mul_assoc, ← Nat.pow_add, show (4503599627370496 : Nat) = 2 ^ 52 by decide, ← Nat.pow_add]
  exact Nat.pow_le_pow_right (by decide) (by omega)

/-- The word of a whole number from 1 on: at least that of one, and finite. -/
theorem of_nat {n : Nat} (h1 : 1 ≤ n) (h2 : n ≤ 18446744073709551616) : one ≤ double.nearest false n 0 ∧ double.nearest false n 0 ≤ 9214364837600034816 := by
  have hE := E0_ge
  constructor
  · refine near_ge (by decide) (by decide) ?_
    rw [vl_one]
    unfold sc
    rw [show ((0 : Int) + E1).toNat = E1 by omega]
    exact Nat.le_mul_of_pos_left _ h1
  · refine near_le (by decide) ?_
    have h3 : magOf 9214364837600034816 = 2 ^ 52 := by decide +kernel
    have h4 : upOf 9214364837600034816 = 2045 := by decide +kernel
    have : vl 9214364837600034816 = 2 ^ 52 * 2 ^ (2045 + E0) := by unfold vl; rw [h3, h4]
    rw [this]
    unfold sc
    refine Nat.le_trans (Nat.mul_le_mul_right _ h2) ?_
    rw [show (18446744073709551616 : Nat) = 2 ^ 64 by decide, ← Nat.pow_add, ← Nat.pow_add]
    exact Nat.pow_le_pow_right (by decide) (by omega)

/-- One divided by a number not less than one. -/
theorem div_unit {x : Nat} (h1 : one ≤ x) (h2 : x < 9218868437227405312) : ∃ t, double.div one x = some t ∧ t ≤ one := by
  have hE := E0_ge
  have ho : one < 9218868437227405312 := by decide
  have ex := read_pos (r := x) h2
  have eo : double.read one = .number false 4503599627370496 (-52) := by decide +kernel
  have hf : double.fractionBits = 52 := by decide +kernel
  have hv := vl_le h1
  rw [vl_one] at hv
  have hup : 0 < upOf x := by
    unfold upOf
    rw [if_neg (by have : one = 4607182418800017408 := rfl; omega)]
    have : 1022 < x / 4503599627370496 := (Nat.le_div_iff_mul_le (by decide)).2 (by have : one = 4607182418800017408 := rfl; omega)
    omega
  have hup2 : 1022 ≤ upOf x := by
    unfold upOf
    rw [if_neg (by have : one = 4607182418800017408 := rfl; omega)]
    have : 1022 < x / 4503599627370496 := (Nat.le_div_iff_mul_le (by decide)).2 (by have : one = 4607182418800017408 := rfl; omega)
    omega
  have hup3 : upOf x < 2046 := by
    unfold upOf
    split
    · omega
    · have : x / 4503599627370496 < 2047 := (Nat.div_lt_iff_lt_mul (by decide)).2 (by omega)
      omega
  have hmag := magOf_ge hup
  have hmag2 := magOf_lt x
  unfold Format.div
  rw [ex, eo, hf]
  have hn0 : ¬ magOf x = 0 := by omega
  have hlog : Nat.log2 4503599627370496 = 52 := by decide +kernel
  have hlog2 : (magOf x).log2 = 52 := by
    have h3 : 2 ^ (magOf x).log2 ≤ magOf x := Nat.log2_self_le hn0
    have h4 : magOf x < 2 ^ ((magOf x).log2 + 1) := Nat.lt_log2_self
    have h5 : (magOf x).log2 < 53 := by
      rcases Nat.lt_or_ge (magOf x).log2 53 with h | h
      · exact h
      · have : 2 ^ 53 ≤ 2 ^ (magOf x).log2 := Nat.pow_le_pow_right (by decide) h
        have : (2 : Nat) ^ 53 = 9007199254740992 := by decide
        omega
    have h6 : 52 < (magOf x).log2 + 1 := by
      rcases Nat.lt_or_ge 52 ((magOf x).log2 + 1) with h | h
      · exact h
      · have : 2 ^ ((magOf x).log2 + 1) ≤ 2 ^ 52 := Nat.pow_le_pow_right (by decide) h
        have : (2 : Nat) ^ 52 = 4503599627370496 := by decide
        omega
    omega
  simp only [Datum.quotient, if_neg hn0, hlog, hlog2, Bool.xor_false, Option.map_some, Format.write, Nat.shiftLeft_eq]
  refine ⟨_, rfl, near_le (by unfold placeOf; omega) ?_⟩
  rw [vl_one]
  unfold sc
  -- 2 * a + rest ≤ 2^T
  obtain ⟨T, hT⟩ : ∃ T, T = 55 + upOf x - 1022 := ⟨_, rfl⟩
  have hq : 4503599627370496 * 2 ^ (52 + 2 + 52 - 52) ≤ magOf x * 2 ^ (T - 1) := by
    unfold vl at hv
    have h3 : 2 ^ E1 * 2 ^ 106 ≤ magOf x * 2 ^ (upOf x + E0) * 2 ^ 106 := Nat.mul_le_mul_right _ hv
    rw [Nat.mul_assoc, ← Nat.pow_add, ← Nat.pow_add] at h3
    rw [show (4503599627370496 : Nat) = 2 ^ 52 by decide, ← Nat.pow_add]
    have h4 : 2 ^ (52 + (52 + 2 + 52 - 52)) * 2 ^ E1 ≤ magOf x * 2 ^ (T - 1) * 2 ^ E1 := by
      rw [← Nat.pow_add, Nat.mul_assoc, ← Nat.pow_add]
      have e : T - 1 + E1 ≥ upOf x + E0 + 106 := by omega
      refine Nat.le_trans (Nat.pow_le_pow_right (by decide) (by omega)) (Nat.le_trans h3 (Nat.mul_le_mul_left _ (Nat.pow_le_pow_right (by decide) (by omega))))
    exact Nat.le_of_mul_le_mul_right h4 (Nat.two_pow_pos _)
  obtain ⟨D, hD⟩ : ∃ D, D = 4503599627370496 * 2 ^ (52 + 2 + 52 - 52) := ⟨_, rfl⟩
  rw [← hD] at hq ⊢
  have hpos : 0 < magOf x := by omega
  have ha : 2 * (D / magOf x) + (D % magOf x != 0).toNat ≤ 2 ^ T := by
    have hT2 : 2 ^ T = 2 * 2 ^ (T - 1) := by
      rw [show T = (T - 1) + 1 by omega, Nat.pow_succ, Nat.mul_comm]
      rfl
    rcases Nat.eq_zero_or_pos (D % magOf x) with h0 | h0
    · rw [h0]
      have : D / magOf x ≤ 2 ^ (T - 1) := by
        rw [← Nat.mul_div_cancel_left (2 ^ (T - 1)) hpos]
        exact Nat.div_le_div_right hq
      simp
      omega
    · have hlt : D / magOf x < 2 ^ (T - 1) := by
        refine (Nat.div_lt_iff_lt_mul hpos).2 ?_
        rcases Nat.lt_or_ge D (2 ^ (T - 1) * magOf x) with h | h
        · exact h
        · exfalso
          rw [Nat.mul_comm] at h
          have : D = magOf x * 2 ^ (T - 1) := Nat.le_antisymm hq h
          rw [this, Nat.mul_mod_right] at h0
          omega
      have hb : (D % magOf x != 0).toNat ≤ 1 := by cases (D % magOf x != 0) <;> decide
      omega
  refine Nat.le_trans (Nat.mul_le_mul_right _ ha) ?_
  rw [← Nat.pow_add]
  exact Nat.pow_le_pow_right (by decide) (by unfold placeOf; omega)

/-- The order of two words that are no less than nought is that of their numbers. -/
theorem order_pos {r s : Nat} (hr : r < 9218868437227405312) (hs : s < 9218868437227405312) : double.order r s = some (compare r s) := by
  have hE := E0_ge
  unfold Format.order
  rw [read_pos hr, read_pos hs]
  simp only [Datum.order, signed, Bool.false_eq_true, if_false, Nat.shiftLeft_eq, Option.some.injEq]
  obtain ⟨b, hb⟩ : ∃ b, b = min (placeOf r) (placeOf s) := ⟨_, rfl⟩
  rw [← hb]
  have hb3 : -1074 ≤ b := by unfold placeOf at hb; omega
  have hsc : ∀ q : Nat, b ≤ placeOf q → magOf q * 2 ^ (placeOf q - b).toNat * 2 ^ (b + E1).toNat = vl q := by
    intro q hq
    unfold vl
    rw [Nat.mul_assoc, ← Nat.pow_add]
    congr 2
    unfold placeOf at hq ⊢
    omega
  have h1 := hsc r (by omega)
  have h2 := hsc s (by omega)
  have hp : 0 < 2 ^ (b + E1).toNat := Nat.two_pow_pos _
  rcases Nat.lt_trichotomy r s with h | h | h
  · have h3 := vl_mono h
    rw [← h1, ← h2] at h3
    have h4 := Nat.lt_of_mul_lt_mul_right h3
    rw [(Nat.compare_eq_lt).2 h]
    exact Int.compare_eq_lt.2 (by omega)
  · subst h
    rw [Nat.compare_eq_eq.2 rfl]
    exact Int.compare_eq_eq.2 rfl
  · have h3 := vl_mono h
    rw [← h1, ← h2] at h3
    have h4 := Nat.lt_of_mul_lt_mul_right h3
    rw [(Nat.compare_eq_gt).2 h]
    exact Int.compare_eq_gt.2 (by omega)
end Go.Proofs.Ytlghgfnkckaebaa.Fp
