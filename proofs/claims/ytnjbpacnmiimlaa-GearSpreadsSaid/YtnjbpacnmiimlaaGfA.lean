/- Floats: what is written is the nearest. No program is named here. -/
import Derived.Laws.FloatBits
namespace Go.Proofs.Ytnjbpacnmiimlaa
namespace Fl
open Ieee

theorem cut_cases (neg : Bool) (N b : Nat) : (b ≤ N.log2 + 2 ∧ ∃ q : Nat, Toward.even.cut neg N b = N / 2 ^ b + q ∧ q ≤ 1 ∧ (q = 1 → 0 < N % 2 ^ b)) ∨ (N.log2 + 2 < b ∧ Toward.even.cut neg N b = 0) := by
  unfold Toward.cut
  simp only [Nat.one_shiftLeft]
  rcases Nat.lt_or_ge (N.log2 + 2) b with h | h
  · right
    refine ⟨h, ?_⟩
    rw [Nat.min_eq_right (by omega)]
    have h1 : N < 2 ^ (N.log2 + 1) := Nat.lt_log2_self
    have h2 : 2 ^ (N.log2 + 2) = 2 * 2 ^ (N.log2 + 1) := by rw [Nat.pow_succ]; omega
    rw [Nat.div_eq_of_lt (by omega), Nat.mod_eq_of_lt (by omega)]
    have e1 : decide (2 ^ (N.log2 + 2) < 2 * N) = false := by simp; omega
    have e2 : (2 ^ (N.log2 + 2) == 2 * N) = false := by simp; omega
    rw [e1, e2]
    rfl
  · left
    refine ⟨h, _, by rw [Nat.min_eq_left h], ?_, ?_⟩
    · exact Bool.toNat_le _
    · intro hq
      rcases Nat.eq_zero_or_pos (N % 2 ^ b) with h0 | h0
      · rw [h0] at hq
        have hp : 0 < 2 ^ b := Nat.two_pow_pos _
        have e1 : decide (2 ^ b < 2 * 0) = false := by simp
        have e2 : (2 ^ b == 2 * 0) = false := by simp
        rw [e1, e2] at hq
        simp at hq
      · exact h0
theorem cut_le {neg : Bool} {N b n : Nat} (h : N ≤ n * 2 ^ b) : Toward.even.cut neg N b ≤ n := by
  have hp : 0 < 2 ^ b := Nat.two_pow_pos _
  rcases cut_cases neg N b with ⟨_, q, hq, h1, h2⟩ | ⟨_, h0⟩
  · rw [hq]
    have hd := Nat.div_add_mod N (2 ^ b)
    have h3 : N / 2 ^ b ≤ n := Nat.div_le_of_le_mul (by rw [Nat.mul_comm]; exact h)
    rcases (show q = 0 ∨ q = 1 by omega) with rfl | rfl
    · exact h3
    · have h4 := h2 rfl
      rcases Nat.lt_or_ge (N / 2 ^ b) n with h5 | h5
      · exact h5
      · have h6 : N / 2 ^ b = n := by omega
        rw [h6, Nat.mul_comm] at hd
        omega
  · omega
theorem le_cut {neg : Bool} {N b n : Nat} (h : n * 2 ^ b ≤ N) : n ≤ Toward.even.cut neg N b := by
  have hp : 0 < 2 ^ b := Nat.two_pow_pos _
  rcases cut_cases neg N b with ⟨_, q, hq, _, _⟩ | ⟨hb, h0⟩
  · rw [hq]
    have := (Nat.le_div_iff_mul_le hp).2 h
    omega
  · rw [h0]
    rcases Nat.eq_zero_or_pos n with h1 | h1
    · omega
    · have h2 : N < 2 ^ (N.log2 + 1) := Nat.lt_log2_self
      have h3 : 2 ^ (N.log2 + 1) ≤ 2 ^ b := Nat.pow_le_pow_right (by omega) (by omega)
      have h4 : 1 * 2 ^ b ≤ n * 2 ^ b := Nat.mul_le_mul_right _ h1
      omega

/-- A magnitude, scaled. -/
def sv (p : Int) (m : Nat) : Nat := m * 2 ^ (p + 2200).toNat
theorem sv_shift {p q : Int} (h : p ≤ q) (hp : -2200 ≤ p) (m : Nat) : sv q m = sv p (m * 2 ^ (q - p).toNat) := by
  unfold sv
  rw [Nat.mul_assoc, ← Nat.pow_add]
  congr 2
  omega
theorem sv_zero (p : Int) : sv p 0 = 0 := Nat.zero_mul _
theorem sv_le {p : Int} {m n : Nat} : sv p m ≤ sv p n ↔ m ≤ n := by
  unfold sv
  exact Nat.mul_le_mul_right_iff (Nat.two_pow_pos _)
theorem sv_lt {p : Int} {m n : Nat} : sv p m < sv p n ↔ m < n := by
  unfold sv
  exact Nat.mul_lt_mul_right (Nat.two_pow_pos _)
theorem sv_pow {p : Int} {k : Nat} {q : Int} (hp : -2200 ≤ p) (h : q = p + k) : sv p (2 ^ k) = 2 ^ (q + 2200).toNat := by
  unfold sv
  rw [← Nat.pow_add]
  congr 1
  omega
theorem pow_le {p q : Int} (h : p ≤ q) : 2 ^ (p + 2200).toNat ≤ 2 ^ (q + 2200).toNat := Nat.pow_le_pow_right (by omega) (by omega)

theorem read_word (neg : Bool) (r : Nat) (h : r < 2047 * 2 ^ 52) : double.read (double.word neg r) = if r < 2 ^ 52 then .number neg r (-1074) else .number neg (2 ^ 52 + r % 2 ^ 52) (-1074 + (r / 2 ^ 52 - 1 : Nat)) := by
  have e1 : double.signWeight = 2 ^ 63 := rfl
  have e2 : double.binade = 2 ^ 52 := rfl
  have e3 : double.infRung = 2047 * 2 ^ 52 := rfl
  have e4 : double.leastPlace = -1074 := by decide
  unfold Format.read Format.word
  rw [e1, e2, e3, e4]
  simp only
  have hm : (if neg = true then 2 ^ 63 + r else r) % 2 ^ 63 = r := by
    split
    · rw [Nat.add_mod_left, Nat.mod_eq_of_lt (by omega)]
    · exact Nat.mod_eq_of_lt (by omega)
  have hn : ((if neg = true then 2 ^ 63 + r else r) / 2 ^ 63 % 2 == 1) = neg := by
    cases neg
    · simp only [Bool.false_eq_true, if_false]
      rw [Nat.div_eq_of_lt (by omega)]
      rfl
    · simp only [if_true]
      rw [Nat.add_div_left _ (by omega), Nat.div_eq_of_lt (by omega)]
      rfl
  rw [hm, hn]
  split
  · rfl
  · rfl

theorem nearest_spec (neg : Bool) (mag : Nat) (place : Int) (hm : 0 < mag) (hlo : -2200 ≤ place) (hhi : place + (mag.log2 : Int) ≤ 900) :
    ∃ (m : Nat) (p : Int), double.read (double.nearest neg mag place) = .number neg m p ∧ m < 2 ^ 53 ∧ -1074 ≤ p ∧ p ≤ 960 ∧
      (∀ (z : Nat) (e : Int), z < 2 ^ 53 → -1074 ≤ e → sv place mag ≤ sv e z → sv p m ≤ sv e z) ∧ (∀ (z : Nat) (e : Int), z < 2 ^ 53 → -1074 ≤ e → sv e z ≤ sv place mag → sv e z ≤ sv p m) := by
  have e2 : double.binade = 2 ^ 52 := rfl
  have e3 : double.infRung = 2047 * 2 ^ 52 := rfl
  have e4 : double.leastPlace = -1074 := by decide
  have e5 : double.fractionBits = 52 := rfl
  obtain ⟨l, hl⟩ : ∃ l : Nat, mag.log2 = l := ⟨_, rfl⟩
  have hml : 2 ^ l ≤ mag := by rw [← hl]; exact Nat.log2_self_le (by omega)
  have hmu : mag < 2 ^ (l + 1) := by rw [← hl]; exact Nat.lt_log2_self
  obtain ⟨L, hL⟩ : ∃ L : Int, max (place + (l : Int) - 52) (-1074) = L := ⟨_, rfl⟩
  have hL1 : -1074 ≤ L := by omega
  have hL2 : place + (l : Int) - 52 ≤ L := by omega
  have hL3 : L = -1074 ∨ L = place + (l : Int) - 52 := by omega
  have hL4 : L ≤ 848 := by rw [hl] at hhi; omega
  obtain ⟨K, hK⟩ : ∃ K, Toward.even.cut neg (mag <<< (place - L).toNat) (L - place).toNat = K := ⟨_, rfl⟩
  have hnear : double.nearest neg mag place = double.word neg (min ((L + 1074).toNat * 2 ^ 52 + K) (2047 * 2 ^ 52)) := by
    unfold Format.nearest
    rw [if_neg (by omega)]
    simp only [hl, e2, e3, e4, e5]
    rw [show ((52 : Nat) : Int) = 52 from rfl, hL, hK, show L - -1074 = L + 1074 by omega]
  -- the rounded count of units, and what it is compared with
  obtain ⟨c, hc⟩ : ∃ c : Nat, (min place L + 2200).toNat = c := ⟨_, rfl⟩
  have hN : sv place mag = mag <<< (place - L).toNat * 2 ^ c := by
    unfold sv
    rw [Nat.shiftLeft_eq, Nat.mul_assoc, ← Nat.pow_add]
    congr 2
    omega
  have hS : ∀ n, sv L n = n * 2 ^ (L - place).toNat * 2 ^ c := fun n => by
    unfold sv
    rw [Nat.mul_assoc, ← Nat.pow_add]
    congr 2
    omega
  have up : ∀ n, sv place mag ≤ sv L n → K ≤ n := fun n h => by
    rw [hN, hS] at h
    rw [← hK]
    exact cut_le ((Nat.mul_le_mul_right_iff (Nat.two_pow_pos _)).1 h)
  have dn : ∀ n, sv L n ≤ sv place mag → n ≤ K := fun n h => by
    rw [hN, hS] at h
    rw [← hK]
    exact le_cut ((Nat.mul_le_mul_right_iff (Nat.two_pow_pos _)).1 h)
  have hlow : sv place (2 ^ l) ≤ sv place mag := sv_le.2 hml
  have hupp : sv place mag < sv place (2 ^ (l + 1)) := sv_lt.2 hmu
  have hK53 : K ≤ 2 ^ 53 := up _ (by
    rw [sv_pow (q := place + ((l + 1 : Nat) : Int)) hlo rfl] at hupp
    rw [sv_pow (q := L + 53) (k := 53) (by omega) (by omega)]
    exact Nat.le_trans (Nat.le_of_lt hupp) (pow_le (by omega)))
  have hK52 : L ≠ -1074 → 2 ^ 52 ≤ K := fun h => dn _ (by
    rw [sv_pow (q := place + (l : Int)) hlo rfl] at hlow
    rw [sv_pow (q := L + 52) (k := 52) (by omega) (by omega)]
    exact Nat.le_trans (pow_le (by omega)) hlow)
  have big : ∀ (z : Nat) (e : Int), z < 2 ^ 53 → -1074 ≤ e → e < L → sv e z < sv place mag ∧ sv e z ≤ sv L K := fun z e hz he hel => by
    have h1 : sv e z < sv e (2 ^ 53) := sv_lt.2 hz
    rw [sv_pow (q := e + 53) (k := 53) (by omega) (by omega)] at h1
    have h2 : 2 ^ (e + 53 + 2200).toNat ≤ 2 ^ (L + 52 + 2200).toNat := pow_le (by omega)
    rw [sv_pow (q := place + (l : Int)) hlo rfl] at hlow
    have h3 : 2 ^ (L + 52 + 2200).toNat ≤ 2 ^ (place + (l : Int) + 2200).toNat := pow_le (by omega)
    have h4 : sv L (2 ^ 52) ≤ sv L K := sv_le.2 (hK52 (by omega))
    rw [sv_pow (q := L + 52) (k := 52) (by omega) (by omega)] at h4
    omega
  have hle : ∀ (z : Nat) (e : Int), z < 2 ^ 53 → -1074 ≤ e → sv place mag ≤ sv e z → sv L K ≤ sv e z := fun z e hz he h => by
    rcases Int.lt_or_le e L with hel | hel
    · have := (big z e hz he hel).1
      omega
    · rw [sv_shift hel (by omega)] at h ⊢
      exact sv_le.2 (up _ h)
  have hge : ∀ (z : Nat) (e : Int), z < 2 ^ 53 → -1074 ≤ e → sv e z ≤ sv place mag → sv e z ≤ sv L K := fun z e hz he h => by
    rcases Int.lt_or_le e L with hel | hel
    · exact (big z e hz he hel).2
    · rw [sv_shift hel (by omega)] at h ⊢
      exact sv_le.2 (dn _ h)
  -- and back
  obtain ⟨t, ht⟩ : ∃ t : Nat, (L + 1074).toNat = t := ⟨_, rfl⟩
  have htL : L = -1074 + (t : Int) := by omega
  have ht2 : t ≤ 1922 := by omega
  rw [hnear, ht, Nat.min_eq_left (by omega), read_word _ _ (by omega)]
  rcases Nat.lt_or_ge K (2 ^ 52) with hk | hk
  · have h0 : L = -1074 := by
      rcases Decidable.em (L = -1074) with h | h
      · exact h
      · have := hK52 h
        omega
    obtain rfl : t = 0 := by omega
    rw [if_pos (by omega), Nat.zero_mul, Nat.zero_add]
    refine ⟨K, -1074, rfl, by omega, by omega, by omega, ?_, ?_⟩
    · exact fun z e hz he h => by have := hle z e hz he h; rwa [h0] at this
    · exact fun z e hz he h => by have := hge z e hz he h; rwa [h0] at this
  · rw [if_neg (by omega)]
    rcases Nat.lt_or_ge K (2 ^ 53) with hk2 | hk2
    · have h1 : (t * 2 ^ 52 + K) % 2 ^ 52 = K - 2 ^ 52 := by omega
      have h2 : (t * 2 ^ 52 + K) / 2 ^ 52 = t + 1 := by omega
      rw [h1, h2]
      refine ⟨2 ^ 52 + (K - 2 ^ 52), -1074 + ((t + 1 - 1 : Nat) : Int), rfl, by omega, by omega, by omega, ?_, ?_⟩
      all_goals
        rw [show 2 ^ 52 + (K - 2 ^ 52) = K by omega, show -1074 + ((t + 1 - 1 : Nat) : Int) = L by omega]
        assumption
    · have h1 : (t * 2 ^ 52 + K) % 2 ^ 52 = 0 := by omega
      have h2 : (t * 2 ^ 52 + K) / 2 ^ 52 = t + 2 := by omega
      rw [h1, h2]
      have hkk : sv (L + 1) (2 ^ 52 + 0) = sv L K := by
        rw [show K = 2 ^ 53 by omega, sv_pow (q := L + 53) (k := 53) (by omega) (by omega), Nat.add_zero, sv_pow (q := L + 53) (k := 52) (by omega) (by omega)]
      refine ⟨2 ^ 52 + 0, -1074 + ((t + 2 - 1 : Nat) : Int), rfl, by omega, by omega, by omega, ?_, ?_⟩
      all_goals
        rw [show -1074 + ((t + 2 - 1 : Nat) : Int) = L + 1 by omega, hkk]
        assumption
end Fl
end Go.Proofs.Ytnjbpacnmiimlaa
