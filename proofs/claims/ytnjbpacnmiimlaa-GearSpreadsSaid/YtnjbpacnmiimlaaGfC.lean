/- Floats: products, quotients by a whole number, roots. No program is named here. -/
import Derived.Test.YtnjbpacnmiimlaaGfB
namespace Go.Proofs.Ytnjbpacnmiimlaa
namespace Fl
open Ieee

def unE : Nat := 2200
theorem unE_eq : unE = 2200 := rfl
attribute [irreducible] unE
/-- One, scaled. -/
def Un : Nat := 2 ^ unE
theorem Un_pos : 0 < Un := Nat.two_pow_pos _
theorem sv_mul {i j : Int} (m n : Nat) (hi : -2200 ≤ i) (hj : -2200 ≤ j) (hij : -2200 ≤ i + j) : sv (i + j) (m * n) * Un = sv i m * sv j n := by
  have hu := unE_eq
  unfold sv Un
  rw [Nat.mul_assoc, ← Nat.pow_add, Nat.mul_mul_mul_comm, ← Nat.pow_add]
  congr 2
  omega
theorem mul_spec {x y : Nat} {U V : Int} (hx : FW x U) (hy : FW y V) (hb : (U * V).natAbs ≤ Bd * Un) : ∃ r W T, double.mul x y = some r ∧ FW r W ∧ T * (Un : Int) = U * V ∧ Rnd T W := by
  obtain ⟨s, m, i, hd, h1, h2, h3, hU⟩ := hx
  obtain ⟨t, n, j, he, g1, g2, g3, hV⟩ := hy
  have hs := sv_mul m n (i := i) (j := j) (by omega) (by omega) (by omega)
  have hs' : (sv (i + j) (m * n) : Int) * (Un : Int) = (sv i m : Int) * (sv j n : Int) := by
    rw [← Int.natCast_mul, hs, Int.natCast_mul]
  have hT : (if (s ^^ t) then -(sv (i + j) (m * n) : Int) else (sv (i + j) (m * n) : Int)) * (Un : Int) = U * V := by
    rw [hU, hV]
    cases s <;> cases t <;> simp [Int.neg_mul, Int.mul_neg, hs']
  have hbd : sv (i + j) (m * n) ≤ Bd := by
    have h4 : (U * V).natAbs = sv (i + j) (m * n) * Un := by
      rw [← hT, Int.natAbs_mul, Int.natAbs_natCast]
      congr 1
      split <;> simp
    rw [h4] at hb
    exact Nat.le_of_mul_le_mul_right hb Un_pos
  obtain ⟨W, hW, hR⟩ := write_spec (s ^^ t) (m * n) (i + j) (by omega) hbd
  refine ⟨_, W, _, ?_, hW, hT, hR⟩
  unfold Format.mul
  rw [hd, he]
  rfl
theorem qle {A n Y : Nat} (h : A ≤ n * Y) : 2 * (A / n) + (A % n != 0).toNat ≤ 2 * Y := by
  have h1 : A / n ≤ Y := Nat.div_le_of_le_mul h
  rcases Nat.eq_zero_or_pos (A % n) with h0 | h0
  · rw [h0]
    simp
    omega
  · have h2 : A / n < Y := by
      rcases Nat.lt_or_ge (A / n) Y with h3 | h3
      · exact h3
      · have h4 := Nat.div_add_mod A n
        have h5 : A / n = Y := by omega
        rw [h5] at h4
        omega
    have h3 : (A % n != 0).toNat ≤ 1 := Bool.toNat_le _
    omega
theorem div_spec {x y n k : Nat} {U : Int} {j : Int} (hx : FW x U) (hy : double.read y = .number false n j) (hj1 : -1074 ≤ j) (hj2 : j ≤ 971) (hk : sv j n = k * Un) (hk1 : 1 ≤ k) (hk2 : k < 2 ^ 45) (hb : U.natAbs ≤ Bd) :
    ∃ r W T, double.div x y = some r ∧ FW r W ∧ Rnd T W ∧ (0 ≤ U → 0 ≤ T) ∧ (U ≤ 0 → T ≤ 0) ∧ T.natAbs ≤ U.natAbs ∧ (2 ≤ k → 2 * T.natAbs ≤ U.natAbs) := by
  obtain ⟨s, m, i, hd, h1, h2, h3, hU⟩ := hx
  have hu := unE_eq
  have hn0 : 0 < n := by
    rcases Nat.eq_zero_or_pos n with h | h
    · rw [h, sv_zero] at hk
      have := Nat.mul_pos hk1 Un_pos
      omega
    · exact h
  obtain ⟨ln, hln⟩ : ∃ l, n.log2 = l := ⟨_, rfl⟩
  obtain ⟨lm, hlm⟩ : ∃ l, m.log2 = l := ⟨_, rfl⟩
  have hlm52 : lm ≤ 52 := by
    rcases Nat.eq_zero_or_pos m with h | h
    · rw [h] at hlm
      have : Nat.log2 0 = 0 := by decide
      omega
    · have := (Nat.log2_lt (n := m) (k := 53) (by omega)).2 h1
      omega
  have hn1 : 2 ^ ln ≤ n := by rw [← hln]; exact Nat.log2_self_le (by omega)
  have hn2 : n < 2 ^ (ln + 1) := by rw [← hln]; exact Nat.lt_log2_self
  have hlo : 0 ≤ j + (ln : Int) := by
    have e1 : sv j n < sv j (2 ^ (ln + 1)) := sv_lt.2 hn2
    rw [hk, sv_pow (q := j + ((ln + 1 : Nat) : Int)) (by omega) rfl] at e1
    have e2 : 1 * Un ≤ k * Un := Nat.mul_le_mul_right _ hk1
    unfold Un at e2
    rcases Int.lt_or_le (j + (ln : Int)) 0 with h | h
    · have e3 : 2 ^ (j + ((ln + 1 : Nat) : Int) + 2200).toNat ≤ 2 ^ unE := Nat.pow_le_pow_right (by decide) (by omega)
      unfold Un at e1
      omega
    · exact h
  have hup : j + (ln : Int) ≤ 44 := by
    have e1 : sv j (2 ^ ln) ≤ sv j n := sv_le.2 hn1
    rw [hk, sv_pow (q := j + (ln : Int)) (by omega) rfl] at e1
    have e2 : k * Un < 2 ^ 45 * Un := Nat.mul_lt_mul_of_pos_right hk2 Un_pos
    have e3 : 2 ^ 45 * Un = 2 ^ (45 + unE) := by unfold Un; rw [Nat.pow_add]
    rcases Int.lt_or_le 44 (j + (ln : Int)) with h | h
    · have e4 : 2 ^ (45 + unE) ≤ 2 ^ (j + (ln : Int) + 2200).toNat := Nat.pow_le_pow_right (by decide) (by omega)
      omega
    · exact h
  obtain ⟨more, hmore⟩ : ∃ q : Nat, 54 + ln - lm = q := ⟨_, rfl⟩
  obtain ⟨E, hE⟩ : ∃ E : Nat, (E : Int) = j + (more : Int) := ⟨(j + (more : Int)).toNat, by omega⟩
  have hE1 : 1 ≤ E := by omega
  have hnk : n * 2 ^ E = k * 2 ^ more := by
    have e1 : n * 2 ^ E * Un = k * 2 ^ more * Un := by
      have e2 : sv j n * 2 ^ more = k * Un * 2 ^ more := by rw [hk]
      have e3 : sv j n * 2 ^ more = n * 2 ^ E * Un := by
        unfold sv Un
        rw [Nat.mul_assoc, Nat.mul_assoc, ← Nat.pow_add, ← Nat.pow_add]
        congr 2
        omega
      rw [← e3, e2, Nat.mul_right_comm]
    exact Nat.eq_of_mul_eq_mul_right Un_pos e1
  obtain ⟨M, hM⟩ : ∃ M, 2 * (m * 2 ^ more / n) + (m * 2 ^ more % n != 0).toNat = M := ⟨_, rfl⟩
  obtain ⟨u, hue⟩ : ∃ u : Int, i - j - (more : Int) - 1 = u := ⟨_, rfl⟩
  have hM1 : M ≤ 2 * (m * 2 ^ E) := by
    rw [← hM]
    refine qle ?_
    have e1 : n * (m * 2 ^ E) = m * 2 ^ more * k := by
      rw [Nat.mul_left_comm, hnk, Nat.mul_comm k, ← Nat.mul_assoc]
    rw [e1]
    exact Nat.le_mul_of_pos_right _ hk1
  have hM2 : 2 ≤ k → M ≤ 2 * (m * 2 ^ (E - 1)) := fun hk => by
    rw [← hM]
    refine qle ?_
    have e0 : 2 ^ E = 2 ^ (E - 1) * 2 := by rw [← Nat.pow_succ]; congr 1; omega
    have e1 : n * (m * 2 ^ (E - 1)) * 2 = m * 2 ^ more * k := by
      rw [Nat.mul_assoc, Nat.mul_assoc m, ← e0, Nat.mul_left_comm, hnk, Nat.mul_comm k, ← Nat.mul_assoc]
    have e2 : m * 2 ^ more * 2 ≤ m * 2 ^ more * k := Nat.mul_le_mul_left _ hk
    omega
  have hsm : sv i m = sv u (m * 2 ^ (E + 1)) := by
    rw [sv_shift (p := u) (q := i) (by omega) (by omega)]
    congr 3
    omega
  have hle : sv u M ≤ sv i m := by
    rw [hsm]
    refine sv_le.2 ?_
    rw [Nat.pow_succ, ← Nat.mul_assoc]
    omega
  have hUa : U.natAbs = sv i m := by rw [hU]; split <;> simp
  obtain ⟨W, hW, hR⟩ := write_spec (s ^^ false) M u (by omega) (by omega)
  have hta : ∀ b : Bool, (if b then -(sv u M : Int) else (sv u M : Int)).natAbs = sv u M := fun b => by cases b <;> simp
  refine ⟨_, W, _, ?_, hW, hR, fun h0 => ?_, fun h0 => ?_, ?_, fun hk => ?_⟩
  · unfold Format.div
    rw [hd, hy]
    show ((Datum.quotient (52 + 2) (.number s m i) (.number false n j)).map double.write) = _
    unfold Datum.quotient
    simp only
    rw [if_neg (by omega)]
    simp only [hln, hlm, Nat.shiftLeft_eq, show 52 + 2 + ln - lm = more by omega, hM, hue, Option.map_some]
  · have h5 : U.natAbs = sv i m := hUa
    cases s
    · simp
    · simp only [Bool.xor_false, if_true]
      simp only [if_true] at hU
      omega
  · cases s
    · simp only [Bool.false_eq_true, if_false] at hU
      simp only [Bool.xor_false, Bool.false_eq_true, if_false]
      omega
    · simp
  · rw [hta, hUa]
    exact hle
  · rw [hta, hUa, hsm]
    have e1 := hM2 hk
    have e0 : 2 ^ (E + 1) = 2 * (2 * 2 ^ (E - 1)) := by
      rw [← Nat.pow_succ', ← Nat.pow_succ']
      congr 1
      omega
    have e2 : 2 * sv u M = sv u (2 * M) := by unfold sv; rw [Nat.mul_assoc]
    rw [e2]
    refine sv_le.2 ?_
    rw [e0]
    have e3 : m * (2 * (2 * 2 ^ (E - 1))) = 2 * (2 * (m * 2 ^ (E - 1))) := by
      rw [Nat.mul_left_comm m 2, Nat.mul_left_comm m 2]
    omega
end Fl
end Go.Proofs.Ytnjbpacnmiimlaa
