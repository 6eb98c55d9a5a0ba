/- Floats: one step of the mean. No program is named here. -/
import Derived.Test.YtnjbpacnmiimlaaGfD
import Derived.Laws.Cover2
namespace Go.Proofs.Ytnjbpacnmiimlaa
namespace Fl
open Ieee

/-- The least unit. -/
def uN : Nat := sv (-1074) 1
theorem uN_pos : 0 < uN := Nat.mul_pos (by decide) (Nat.two_pow_pos _)
theorem sv_uN (c : Nat) : sv (-1074) c = c * uN := by unfold uN sv; rw [Nat.one_mul]
theorem Rep.grid {Z : Int} (h : Rep Z) : ∃ c : Int, Z = c * (uN : Int) := by
  obtain ⟨m, p, h1, h2, h3⟩ := h
  have e : sv p m = m * 2 ^ (p - -1074).toNat * uN := by rw [sv_shift h2 (by decide), sv_uN]
  rcases h3 with h3 | h3
  · exact ⟨((m * 2 ^ (p - -1074).toNat : Nat) : Int), by rw [h3, e, Int.natCast_mul]⟩
  · exact ⟨-((m * 2 ^ (p - -1074).toNat : Nat) : Int), by rw [h3, e, Int.natCast_mul, Int.neg_mul]⟩
theorem rep_pow {a : Nat} (h : 1126 ≤ a) : Rep ((2 ^ a : Nat) : Int) := by
  refine ⟨1, (a : Int) - 2200, by decide, by omega, .inl ?_⟩
  unfold sv
  rw [Nat.one_mul]
  congr 3
  omega
theorem stepA {y D T St : Int} (hy : 0 ≤ y) (hc : ∃ c : Int, y = c * (uN : Int)) (hD : Rnd y D) (hT : Rnd T St) (h0 : 0 ≤ T) (h1 : T ≤ D) (h2 : D = y ∨ 2 * T ≤ D) : 0 ≤ D ∧ 0 ≤ St ∧ St ≤ y := by
  have hD0 : 0 ≤ D := hD.dn 0 Rep.zero hy
  have hS0 : 0 ≤ St := hT.dn 0 Rep.zero h0
  refine ⟨hD0, hS0, ?_⟩
  have h3 := hT.up D hD.rep h1
  by_cases hDy : D = y
  · omega
  · have h4 : 2 * T ≤ D := by rcases h2 with h | h; exact absurd h hDy; exact h
    obtain ⟨c, hc⟩ := hc
    have hup : (0 : Int) < (uN : Int) := Int.natCast_pos.2 uN_pos
    have hc0 : 0 ≤ c := by
      rcases Int.lt_or_le c 0 with h | h
      · have := Int.mul_neg_of_neg_of_pos h hup
        omega
      · exact h
    obtain ⟨n, rfl⟩ : ∃ n : Nat, c = n := ⟨c.toNat, by omega⟩
    have hyn : y = ((sv (-1074) n : Nat) : Int) := by rw [hc, sv_uN, Int.natCast_mul]
    have hn53 : 2 ^ 53 ≤ n := by
      rcases Nat.lt_or_ge n (2 ^ 53) with h | h
      · exact absurd (hD.exact ⟨n, -1074, h, by decide, .inl hyn⟩) hDy
      · exact h
    have hrep2 : Rep ((sv (-1074) (2 ^ 53) : Nat) : Int) := by
      rw [sv_pow (q := -1021) (k := 53) (by decide) (by decide)]
      exact rep_pow (by decide)
    have hge := hD.dn _ hrep2 (by rw [hyn]; exact Int.ofNat_le.2 (sv_le.2 hn53))
    obtain ⟨m, p, g1, g2, g3⟩ := hD.rep
    have hpos : 0 < sv (-1074) (2 ^ 53) := Nat.mul_pos (Nat.two_pow_pos _) (Nat.two_pow_pos _)
    have g4 : D = (sv p m : Int) := by
      rcases g3 with h | h
      · exact h
      · omega
    have hp : -1074 < p := by
      rcases Int.lt_or_le (-1074) p with h | h
      · exact h
      · obtain rfl : p = -1074 := by omega
        have := sv_lt (p := -1074) (m := m) (n := 2 ^ 53)
        have h5 := this.2 g1
        omega
    -- half of D stands in the format
    have hhalf : sv p m = 2 * sv (p - 1) m := by
      rw [sv_shift (p := p - 1) (q := p) (by omega) (by omega)]
      unfold sv
      rw [show (p - (p - 1)).toNat = 1 by omega, Nat.pow_one, Nat.mul_comm m 2, Nat.mul_assoc]
    have h6 := hT.up (sv (p - 1) m : Int) ⟨m, p - 1, g1, by omega, .inl rfl⟩ (by omega)
    -- D is twice y at most
    obtain ⟨Y, hY⟩ : ∃ Y : Nat, sv (-1074) n = Y := ⟨_, rfl⟩
    have hn0 : 0 < n := by omega
    obtain ⟨a, ha⟩ : ∃ a : Nat, a = 1126 := ⟨_, rfl⟩
    have hYb : 2 ^ a ≤ Y := by
      rw [← hY, sv_uN]
      have h9 : ((-1074 : Int) + 2200).toNat = a := by omega
      have e : uN = 2 ^ a := (Nat.one_mul _).trans (congrArg (fun t => 2 ^ t) h9)
      rw [← e]
      exact Nat.le_mul_of_pos_left _ hn0
    have ha1 : 1126 ≤ a := by omega
    clear ha
    have hY0 : 0 < Y := Nat.lt_of_lt_of_le (Nat.two_pow_pos _) hYb
    have hl : a ≤ Y.log2 := (Nat.le_log2 (by omega)).2 hYb
    have hz1 : Y < 2 ^ (Y.log2 + 1) := Nat.lt_log2_self
    have hz2 : 2 ^ (Y.log2 + 1) ≤ 2 * Y := by
      rw [Nat.pow_succ]
      have := Nat.log2_self_le (n := Y) (by omega)
      omega
    have h7 := hD.up _ (rep_pow (a := Y.log2 + 1) (by omega)) (by rw [hyn, hY]; omega)
    rw [hY] at hyn
    omega

/-- The greatest length, scaled. -/
def BE : Nat := 2 ^ 63 * Un
theorem pow_Un (a : Nat) : Rep ((2 ^ a * Un : Nat) : Int) := by
  have hu := unE_eq
  unfold Un
  rw [← Nat.pow_add]
  exact rep_pow (by omega)
theorem Un_Bd : 2 ^ 129 * Un ≤ Bd := by
  have hu := unE_eq
  have hb := bdE_eq
  unfold Un Bd
  rw [← Nat.pow_add]
  exact Nat.pow_le_pow_right (by decide) (by omega)
theorem sv_zero_place (n : Nat) : sv 0 n = n * Un := by
  have hu := unE_eq
  unfold sv Un
  congr 2
  omega
theorem conv_spec (n : Int) (h : n.natAbs ≤ 2 ^ 63) : ∃ X, FW (floatOfInt .f64 n) X ∧ Rnd (n * (Un : Int)) X ∧ X.natAbs ≤ BE := by
  have hB := Un_Bd
  have hU0 := Un_pos
  have hle : n.natAbs * Un ≤ BE := Nat.mul_le_mul_right _ h
  have hBE : BE ≤ Bd := Nat.le_trans (Nat.mul_le_mul_right _ (by decide)) hB
  obtain ⟨X, hX, hR⟩ := write_spec (decide (n < 0)) n.natAbs 0 (by decide) (by rw [sv_zero_place]; omega)
  have hT : (if decide (n < 0) then -(sv 0 n.natAbs : Int) else (sv 0 n.natAbs : Int)) = n * (Un : Int) := by
    rw [sv_zero_place, Int.natCast_mul]
    rcases Int.lt_or_le n 0 with hn | hn
    · rw [decide_eq_true hn, if_pos rfl, show ((n.natAbs : Nat) : Int) = -n by omega, Int.neg_mul, Int.neg_neg]
    · rw [decide_eq_false (by omega), if_neg (by simp), show ((n.natAbs : Nat) : Int) = n by omega]
  rw [hT] at hR
  have hab : (n * (Un : Int)).natAbs ≤ BE := by rw [Int.natAbs_mul, Int.natAbs_natCast]; exact hle
  have h1 := hR.up (BE : Int) (pow_Un 63) (by omega)
  have h2 := hR.dn (-(BE : Int)) (pow_Un 63).neg (by omega)
  exact ⟨X, hX, hR, by omega⟩
theorem whole_spec (k : Nat) (h1 : 1 ≤ k) (h2 : k < 2 ^ 45) : ∃ n j, double.read (floatOfInt .f64 (k : Int)) = .number false n j ∧ -1074 ≤ j ∧ j ≤ 971 ∧ sv j n = k * Un := by
  obtain ⟨X, ⟨s, m, p, hd, g1, g2, g3, hX⟩, hR, _⟩ := conv_spec (k : Int) (by omega)
  have he := hR.exact ⟨k, 0, by omega, by decide, .inl (by rw [sv_zero_place, Int.natCast_mul])⟩
  have hp : 0 < k * Un := Nat.mul_pos h1 Un_pos
  rw [← Int.natCast_mul] at he
  cases s
  · refine ⟨m, p, hd, g2, g3, ?_⟩
    simp only [Bool.false_eq_true, if_false] at hX
    omega
  · simp only [if_true] at hX
    omega
/-- What a step of the mean finds: no NaN, nothing too great, a product not below nought. -/
theorem step_spec {x m k : Nat} {X M : Int} (hx : FW x X) (hm : FW m M) (hX : X.natAbs ≤ BE) (hM : M.natAbs ≤ BE) (hk1 : 1 ≤ k) (hk2 : k < 2 ^ 45) (h0 : k = 1 → M = 0) :
    ∃ d st m' e q M' P, double.sub x m = some d ∧ double.div d (floatOfInt .f64 (k : Int)) = some st ∧ double.add m st = some m' ∧ double.sub x m' = some e ∧ double.mul d e = some q ∧ FW m' M' ∧ M'.natAbs ≤ BE ∧ FW q P ∧ 0 ≤ P ∧ P ≤ ((2 ^ 128 * Un : Nat) : Int) := by
  have hB := Un_Bd
  have hU0 := Un_pos
  have e129 : 2 ^ 129 * Un = 4 * (2 ^ 127 * Un) := by rw [← Nat.mul_assoc]
  have e64 : 2 ^ 64 * Un = 2 * BE := by unfold BE; rw [← Nat.mul_assoc]
  have hBE : 2 * BE ≤ Bd := by rw [← e64]; exact Nat.le_trans (Nat.mul_le_mul_right _ (by decide)) hB
  have r64 := pow_Un 64
  rw [e64] at r64
  obtain ⟨d, D, hd, hD, hDR⟩ := sub_spec hx hm (by omega)
  have hDu := hDR.up _ r64 (by omega)
  have hDl := hDR.dn _ r64.neg (by omega)
  obtain ⟨n, j, hr, hj1, hj2, hkn⟩ := whole_spec k hk1 hk2
  obtain ⟨st, St, T, hst, hSt, hTR, hT0, hT1, hT2, hT3⟩ := div_spec hD hr hj1 hj2 hkn hk1 hk2 (by omega)
  obtain ⟨c1, hc1⟩ := hx.rep.grid
  obtain ⟨c2, hc2⟩ := hm.rep.grid
  have hgrid : ∃ c : Int, X - M = c * (uN : Int) := ⟨c1 - c2, by rw [hc1, hc2, Int.sub_mul]⟩
  have hor : D = X - M ∨ 2 ≤ k := by
    rcases Nat.lt_or_ge 1 k with h | h
    · exact .inr h
    · have := h0 (by omega)
      subst this
      exact .inl (hDR.exact (by rw [Int.sub_zero]; exact hx.rep))
  have hbetween : (0 ≤ X - M → 0 ≤ D ∧ 0 ≤ St ∧ St ≤ X - M) ∧ (X - M ≤ 0 → D ≤ 0 ∧ St ≤ 0 ∧ X - M ≤ St) := by
    refine ⟨fun hy => ?_, fun hy => ?_⟩
    · have hD0 : 0 ≤ D := hDR.dn 0 Rep.zero hy
      have := hT0 hD0
      exact stepA hy hgrid hDR hTR this (by omega) (by rcases hor with h | h; exact .inl h; exact .inr (by have := hT3 h; omega))
    · have hD0 : D ≤ 0 := hDR.up 0 Rep.zero hy
      have h5 := hT1 hD0
      obtain ⟨c, hc⟩ := hgrid
      have h6 := stepA (y := -(X - M)) (D := -D) (T := -T) (St := -St) (by omega) ⟨-c, by rw [hc, Int.neg_mul]⟩ hDR.neg hTR.neg (by omega) (by omega) (by rcases hor with h | h; exact .inl (by omega); exact .inr (by have := hT3 h; omega))
      omega
  have hStb : (M + St).natAbs ≤ BE := by
    rcases Int.lt_or_le (X - M) 0 with h | h
    · have := hbetween.2 (by omega); omega
    · have := hbetween.1 h; omega
  obtain ⟨m', M', hm', hM', hMR⟩ := add_spec hm hSt (by omega)
  have r63 := pow_Un 63
  have hMu := hMR.up (BE : Int) r63 (by omega)
  have hMl := hMR.dn (-(BE : Int)) r63.neg (by omega)
  obtain ⟨e, E, he, hE, hER⟩ := sub_spec hx hM' (by omega)
  have hEu := hER.up _ r64 (by omega)
  have hEl := hER.dn _ r64.neg (by omega)
  have hsign : (0 ≤ D ∧ 0 ≤ E) ∨ (D ≤ 0 ∧ E ≤ 0) := by
    rcases Int.lt_or_le (X - M) 0 with h | h
    · obtain ⟨a1, a2, a3⟩ := hbetween.2 (by omega)
      have a4 := hMR.dn X hx.rep (by omega)
      exact .inr ⟨a1, hER.up 0 Rep.zero (by omega)⟩
    · obtain ⟨a1, a2, a3⟩ := hbetween.1 h
      have a4 := hMR.up X hx.rep (by omega)
      exact .inl ⟨a1, hER.dn 0 Rep.zero (by omega)⟩
  have hDE : (D * E).natAbs ≤ 2 ^ 128 * Un * Un := by
    rw [Int.natAbs_mul]
    have h1 : D.natAbs * E.natAbs ≤ 2 * BE * (2 * BE) := Nat.mul_le_mul (by omega) (by omega)
    have h2 : 2 * BE * (2 * BE) = 2 ^ 128 * Un * Un := by
      rw [← e64, Nat.mul_mul_mul_comm, ← Nat.pow_add, Nat.mul_assoc]
    omega
  have h128 : 2 ^ 128 * Un ≤ Bd := Nat.le_trans (Nat.mul_le_mul_right _ (by decide)) hB
  obtain ⟨q, P, Tq, hq, hP, hTq, hPR⟩ := mul_spec hD hE (Nat.le_trans hDE (Nat.mul_le_mul_right _ h128))
  have hUi : (0 : Int) < (Un : Int) := Int.natCast_pos.2 hU0
  have hDE0 : 0 ≤ D * E := by
    rcases hsign with ⟨a, b⟩ | ⟨a, b⟩
    · exact Int.mul_nonneg a b
    · exact Int.mul_nonneg_of_nonpos_of_nonpos a b
  have hTq0 : 0 ≤ Tq := by
    rcases Int.lt_or_le Tq 0 with h | h
    · have := Int.mul_neg_of_neg_of_pos h hUi
      omega
    · exact h
  have hTq1 : Tq ≤ ((2 ^ 128 * Un : Nat) : Int) := by
    have h1 : Tq * (Un : Int) ≤ ((2 ^ 128 * Un : Nat) : Int) * (Un : Int) := by
      rw [hTq, ← Int.natCast_mul]
      omega
    exact Int.le_of_mul_le_mul_right h1 hUi
  exact ⟨d, st, m', e, q, M', P, hd, hst, hm', he, hq, hM', by omega, hP, hPR.dn 0 Rep.zero hTq0, hPR.up _ (pow_Un 128) hTq1⟩
end Fl
end Go.Proofs.Ytnjbpacnmiimlaa
