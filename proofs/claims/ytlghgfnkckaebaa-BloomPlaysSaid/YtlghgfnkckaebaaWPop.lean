/- How many bits of a word are set: by halves, quarters and so on; plain. -/
import Derived.Lib.BitFns
import Derived.Test.YtlghgfnkckaebaaBase
namespace Go.Proofs.Ytlghgfnkckaebaa
open Go.Lib

theorem and_split (a c m n : Nat) (ha : a < 256) (hm : m < 256) : (a + 256 * c) &&& (m + 256 * n) = (a &&& m) + 256 * (c &&& n) := by
  have h1 : a &&& m < 256 := Nat.lt_of_le_of_lt Nat.and_le_left ha
  have e : ∀ x y : Nat, x < 256 → x + 256 * y = 2 ^ 8 * y + x := fun x y _ => by omega
  rw [e a c ha, e m n hm, e _ _ h1]
  apply Nat.eq_of_testBit_eq
  intro i
  rw [Nat.testBit_and, Nat.testBit_two_pow_mul_add _ (by simpa using ha), Nat.testBit_two_pow_mul_add _ (by simpa using hm), Nat.testBit_two_pow_mul_add _ (by simpa using h1)]
  split
  · rw [Nat.testBit_and]
  · rw [Nat.testBit_and]
def p1 (x m : Nat) : Nat := ((x / 2) &&& m) + (x &&& m)
def p2 (x m : Nat) : Nat := ((x / 4) &&& m) + (x &&& m)
def p3 (x m : Nat) : Nat := (x / 16 + x) &&& m
theorem t1 : ∀ (a : Fin 256) (b : Fin 2), ((a.val / 2 + 128 * b.val) &&& 85) = ((a.val / 2) &&& 85) := by decide +kernel
theorem t1b : ∀ a : Fin 256, p1 a.val 85 < 256 ∧ p1 a.val 85 ≤ 170 := by decide +kernel
theorem t2 : ∀ (a : Fin 256) (b : Fin 4), ((a.val / 4 + 64 * b.val) &&& 51) = ((a.val / 4) &&& 51) := by decide +kernel
/-- Byte by byte. -/
theorem p1_step (a c m : Nat) (ha : a < 256) : p1 (a + 256 * c) (85 + 256 * m) = p1 a 85 + 256 * p1 c m := by
  unfold p1
  have e : (a + 256 * c) / 2 = (a / 2 + 128 * (c % 2)) + 256 * (c / 2) := by omega
  have := t1 ⟨a, ha⟩ ⟨c % 2, Nat.mod_lt _ (by decide)⟩
  simp only at this
  rw [e, and_split _ _ _ _ (by omega) (by decide), and_split _ _ _ _ ha (by decide), this]
  omega
theorem p2_step (a c m : Nat) (ha : a < 256) : p2 (a + 256 * c) (51 + 256 * m) = p2 a 51 + 256 * p2 c m := by
  unfold p2
  have e : (a + 256 * c) / 4 = (a / 4 + 64 * (c % 4)) + 256 * (c / 4) := by omega
  have := t2 ⟨a, ha⟩ ⟨c % 4, Nat.mod_lt _ (by decide)⟩
  simp only at this
  rw [e, and_split _ _ _ _ (by omega) (by decide), and_split _ _ _ _ ha (by decide), this]
  omega
theorem t3 : ∀ (a : Fin 256), p2 (p1 a.val 85) 51 / 16 ≤ 4 ∧ p2 (p1 a.val 85) 51 % 16 ≤ 4 := by decide +kernel
theorem t4 : ∀ (a : Fin 256), p3 (p2 (p1 a.val 85) 51) 15 = popAux 8 a.val ∧ popAux 8 a.val ≤ 8 := by decide +kernel
theorem p3_step (a c m : Nat) (ha : a / 16 ≤ 4 ∧ a % 16 ≤ 4) (hc : c % 16 ≤ 4) : p3 (a + 256 * c) (15 + 256 * m) = p3 a 15 + 256 * p3 c m := by
  unfold p3
  have e : (a + 256 * c) / 16 + (a + 256 * c) = (a / 16 + a + 16 * (c % 16)) + 256 * (c / 16 + c) := by omega
  rw [e, and_split _ _ _ _ (by omega) (by decide)]
  congr 1
  have e2 : ∀ x : Nat, x &&& 15 = x % 16 := fun x => Nat.and_two_pow_sub_one_eq_mod x 4
  rw [e2, e2]
  omega
/-- k bytes, each d. -/
def rp (d : Nat) : Nat → Nat
  | 0 => 0
  | k + 1 => d + 256 * rp d k
/-- The bytes' counts, in bytes. -/
def qs : Nat → Nat → Nat
  | 0, _ => 0
  | k + 1, x => popAux 8 (x % 256) + 256 * qs k (x / 256)
theorem p21_low (k x : Nat) : p2 (p1 x (rp 85 k)) (rp 51 k) % 16 ≤ 4 := by
  cases k with
  | zero => simp [rp, p1, p2]
  | succ k =>
    have hx : x = x % 256 + 256 * (x / 256) := by omega
    have hlt : x % 256 < 256 := Nat.mod_lt _ (by decide)
    conv => lhs; rw [hx]
    simp only [rp]
    rw [p1_step _ _ _ hlt, p2_step _ _ _ (t1b ⟨x % 256, hlt⟩).1]
    have := (t3 ⟨x % 256, hlt⟩).2
    simp only at this
    generalize p2 (p1 (x % 256) 85) 51 = u at this ⊢
    generalize p2 (p1 (x / 256) (rp 85 k)) (rp 51 k) = v
    omega
theorem p321 : ∀ k x : Nat, x < 256 ^ k → p3 (p2 (p1 x (rp 85 k)) (rp 51 k)) (rp 15 k) = qs k x
  | 0, x, h => by simp [rp, p1, p2, p3, qs]
  | k + 1, x, h => by
    have hx : x = x % 256 + 256 * (x / 256) := by omega
    have hlt : x % 256 < 256 := Nat.mod_lt _ (by decide)
    have hk : x / 256 < 256 ^ k := by
      rw [Nat.pow_succ, Nat.mul_comm] at h
      exact Nat.div_lt_of_lt_mul h
    conv => lhs; rw [hx]
    simp only [rp]
    rw [p1_step _ _ _ hlt, p2_step _ _ _ (t1b ⟨x % 256, hlt⟩).1, p3_step _ _ _ (t3 ⟨x % 256, hlt⟩) (p21_low k _), p321 k _ hk, qs]
    rw [(t4 ⟨x % 256, hlt⟩).1]
theorem popAux_zero : ∀ f, popAux f 0 = 0
  | 0 => rfl
  | f + 1 => by rw [popAux, popAux_zero f]
theorem popAux_add : ∀ (j k x : Nat), popAux (j + k) x = popAux j (x % 2 ^ j) + popAux k (x / 2 ^ j)
  | 0, k, x => by simp [popAux]
  | j + 1, k, x => by
    rw [show j + 1 + k = (j + k) + 1 by omega, popAux, popAux, popAux_add j k (x / 2), Nat.div_div_eq_div_mul, Nat.pow_succ, Nat.mul_comm (2 ^ j) 2]
    have e1 : x % (2 * 2 ^ j) % 2 = x % 2 := Nat.mod_mul_right_mod x 2 (2 ^ j)
    have e2 : x % (2 * 2 ^ j) / 2 = x / 2 % 2 ^ j := by rw [Nat.mod_mul_right_div_self]
    rw [e1, e2]
    omega
def sm : Nat → Nat → Nat
  | 0, _ => 0
  | k + 1, x => popAux 8 (x % 256) + sm k (x / 256)
theorem pop_sm : ∀ k x : Nat, popAux (8 * k) x = sm k x
  | 0, x => rfl
  | k + 1, x => by
    rw [show 8 * (k + 1) = 8 + 8 * k by omega, popAux_add, pop_sm k, sm]
def foldP (q : Nat) : Nat :=
  let a := q + q / 256
  let b := a + a / 65536
  (b + b / 4294967296) % 128
theorem foldP_eq (q0 q1 q2 q3 q4 q5 q6 q7 : Nat) (h0 : q0 ≤ 8) (h1 : q1 ≤ 8) (h2 : q2 ≤ 8) (h3 : q3 ≤ 8) (h4 : q4 ≤ 8) (h5 : q5 ≤ 8) (h6 : q6 ≤ 8) (h7 : q7 ≤ 8) :
    foldP (q0 + 256 * (q1 + 256 * (q2 + 256 * (q3 + 256 * (q4 + 256 * (q5 + 256 * (q6 + 256 * q7))))))) = q0 + q1 + q2 + q3 + q4 + q5 + q6 + q7 := by
  have e1 : ∀ r t : Nat, r < 256 → (r + 256 * t) / 256 = t := fun r t h => by omega
  have e2 : ∀ r t : Nat, r < 65536 → (r + 65536 * t) / 65536 = t := fun r t h => by omega
  have e3 : ∀ r t : Nat, r < 4294967296 → (r + 4294967296 * t) / 4294967296 = t := fun r t h => by omega
  unfold foldP
  simp only
  rw [e1 _ _ (by omega)]
  obtain ⟨a, ha⟩ : ∃ a, (q0 + q1) + 256 * (q1 + q2) + 65536 * ((q2 + q3) + 256 * (q3 + q4) + 65536 * ((q4 + q5) + 256 * (q5 + q6) + 65536 * ((q6 + q7) + 256 * q7))) = a := ⟨_, rfl⟩
  have ha1 : q0 + 256 * (q1 + 256 * (q2 + 256 * (q3 + 256 * (q4 + 256 * (q5 + 256 * (q6 + 256 * q7)))))) + (q1 + 256 * (q2 + 256 * (q3 + 256 * (q4 + 256 * (q5 + 256 * (q6 + 256 * q7)))))) = a := by
    rw [← ha]
    clear h0 h1 h2 h3 h4 h5 h6 h7 ha
    omega
  have ha2 : a / 65536 = (q2 + q3) + 256 * (q3 + q4) + 65536 * ((q4 + q5) + 256 * (q5 + q6) + 65536 * ((q6 + q7) + 256 * q7)) := by
    rw [← ha]
    exact e2 _ _ (by omega)
  rw [ha1, ha2]
  obtain ⟨b, hb⟩ : ∃ b, (q0 + q1 + q2 + q3) + 256 * ((q1 + q2 + q3 + q4) + 256 * ((q2 + q3 + q4 + q5) + 256 * (q3 + q4 + q5 + q6))) + 4294967296 * ((q4 + q5 + q6 + q7) + 256 * ((q5 + q6 + q7) + 256 * ((q6 + q7) + 256 * q7))) = b := ⟨_, rfl⟩
  have hb1 : a + ((q2 + q3) + 256 * (q3 + q4) + 65536 * ((q4 + q5) + 256 * (q5 + q6) + 65536 * ((q6 + q7) + 256 * q7))) = b := by
    rw [← hb, ← ha]
    clear h0 h1 h2 h3 h4 h5 h6 h7 ha ha1 ha2 hb
    omega
  have hb2 : b / 4294967296 = (q4 + q5 + q6 + q7) + 256 * ((q5 + q6 + q7) + 256 * ((q6 + q7) + 256 * q7)) := by
    rw [← hb]
    exact e3 _ _ (by omega)
  rw [hb1, hb2, ← hb]
  clear ha ha1 ha2 hb hb1 hb2 e1 e2 e3
  have e5 : (q0 + q1 + q2 + q3) + 256 * ((q1 + q2 + q3 + q4) + 256 * ((q2 + q3 + q4 + q5) + 256 * (q3 + q4 + q5 + q6))) + 4294967296 * ((q4 + q5 + q6 + q7) + 256 * ((q5 + q6 + q7) + 256 * ((q6 + q7) + 256 * q7))) + ((q4 + q5 + q6 + q7) + 256 * ((q5 + q6 + q7) + 256 * ((q6 + q7) + 256 * q7)))
    = (q0 + q1 + q2 + q3 + q4 + q5 + q6 + q7) + 128 * (2 * ((q1 + q2 + q3 + q4) + 256 * ((q2 + q3 + q4 + q5) + 256 * (q3 + q4 + q5 + q6))) + 33554432 * ((q4 + q5 + q6 + q7) + 256 * ((q5 + q6 + q7) + 256 * ((q6 + q7) + 256 * q7))) + 2 * ((q5 + q6 + q7) + 256 * ((q6 + q7) + 256 * q7))) := by
    clear h0 h1 h2 h3 h4 h5 h6 h7
    omega
  rw [e5, Nat.add_mul_mod_self_left, Nat.mod_eq_of_lt (by omega)]
/-- The words in between. -/
def w1 (x : Nat) : Nat := p1 x 6148914691236517205
def w2 (x : Nat) : Nat := p2 (w1 x) 3689348814741910323
def w3 (x : Nat) : Nat := p3 (w2 x) 1085102592571150095
theorem w3_eq (x : Nat) (h : x < 18446744073709551616) : w3 x = qs 8 x := p321 8 x h
theorem pop8_le (a : Nat) : popAux 8 (a % 256) ≤ 8 := (t4 ⟨a % 256, Nat.mod_lt _ (by decide)⟩).2
theorem pop_swar (x : Nat) (h : x < 18446744073709551616) : foldP (w3 x) = onesCount x := by
  rw [w3_eq x h]
  unfold onesCount
  rw [show (64 : Nat) = 8 * 8 from rfl, pop_sm]
  simp only [qs, sm, Nat.mul_zero, Nat.add_zero]
  rw [foldP_eq _ _ _ _ _ _ _ _ (pop8_le _) (pop8_le _) (pop8_le _) (pop8_le _) (pop8_le _) (pop8_le _) (pop8_le _) (pop8_le _)]
  omega
theorem w3_lt (x : Nat) (h : x < 18446744073709551616) : w3 x ≤ 578721382704613384 := by
  rw [w3_eq x h]
  simp only [qs, Nat.mul_zero, Nat.add_zero]
  have := pop8_le x
  have := pop8_le (x / 256)
  have := pop8_le (x / 256 / 256)
  have := pop8_le (x / 256 / 256 / 256)
  have := pop8_le (x / 256 / 256 / 256 / 256)
  have := pop8_le (x / 256 / 256 / 256 / 256 / 256)
  have := pop8_le (x / 256 / 256 / 256 / 256 / 256 / 256)
  have := pop8_le (x / 256 / 256 / 256 / 256 / 256 / 256 / 256)
  omega
theorem p1_le (x m : Nat) : p1 x m ≤ 2 * m := by unfold p1; have := @Nat.and_le_right (x / 2) m; have := @Nat.and_le_right x m; omega
theorem p2_le (x m : Nat) : p2 x m ≤ 2 * m := by unfold p2; have := @Nat.and_le_right (x / 4) m; have := @Nat.and_le_right x m; omega
theorem pop_le : ∀ f x : Nat, popAux f x ≤ f
  | 0, _ => Nat.le_refl _
  | f + 1, x => by rw [popAux]; have := pop_le f (x / 2); omega
theorem pop_pos : ∀ f x : Nat, x < 2 ^ f → x ≠ 0 → 0 < popAux f x
  | 0, x, h, h0 => by simp at h; omega
  | f + 1, x, h, h0 => by
    rw [popAux]
    by_cases h2 : x % 2 = 1
    · omega
    · have := pop_pos f (x / 2) (by rw [Nat.pow_succ] at h; omega) (by omega)
      omega
end Go.Proofs.Ytlghgfnkckaebaa
