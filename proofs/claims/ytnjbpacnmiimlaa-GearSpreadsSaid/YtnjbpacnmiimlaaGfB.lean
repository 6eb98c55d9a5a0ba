/- Floats with their signs: sums, products, quotients by whole numbers. No program is named here. -/
import Derived.Test.YtnjbpacnmiimlaaGfA
namespace Go.Proofs.Ytnjbpacnmiimlaa
namespace Fl
open Ieee

/-- The number that a datum tells, scaled. -/
def DV (d : Datum) (V : Int) : Prop := ∃ (s : Bool) (m : Nat) (p : Int), d = .number s m p ∧ m < 2 ^ 53 ∧ -1074 ≤ p ∧ p ≤ 971 ∧ V = if s then -(sv p m : Int) else (sv p m : Int)
def FW (x : Nat) (V : Int) : Prop := DV (double.read x) V
def Rep (Z : Int) : Prop := ∃ (m : Nat) (p : Int), m < 2 ^ 53 ∧ -1074 ≤ p ∧ (Z = (sv p m : Int) ∨ Z = -(sv p m : Int))
/-- W is T, rounded. -/
structure Rnd (T W : Int) : Prop where
  rep : Rep W
  up : ∀ Z, Rep Z → T ≤ Z → W ≤ Z
  dn : ∀ Z, Rep Z → Z ≤ T → Z ≤ W
theorem Rep.neg {Z : Int} (h : Rep Z) : Rep (-Z) := by
  obtain ⟨m, p, h1, h2, h3 | h3⟩ := h
  · exact ⟨m, p, h1, h2, .inr (by rw [h3])⟩
  · exact ⟨m, p, h1, h2, .inl (by rw [h3]; omega)⟩
theorem Rep.zero : Rep 0 := ⟨0, -1074, by decide, by decide, .inl (by rw [sv_zero]; rfl)⟩
theorem DV.rep {d : Datum} {V : Int} (h : DV d V) : Rep V := by
  obtain ⟨s, m, p, _, h1, h2, _, h3⟩ := h
  cases s
  · exact ⟨m, p, h1, h2, .inl (by simpa using h3)⟩
  · exact ⟨m, p, h1, h2, .inr (by simpa using h3)⟩
theorem Rnd.exact {T W : Int} (h : Rnd T W) (hT : Rep T) : W = T := by
  have h1 := h.up T hT (Int.le_refl _)
  have h2 := h.dn T hT (Int.le_refl _)
  omega
theorem Rnd.neg {T W : Int} (h : Rnd T W) : Rnd (-T) (-W) :=
  ⟨h.rep.neg, fun Z hZ hz => by have := h.dn (-Z) hZ.neg (by omega); omega, fun Z hZ hz => by have := h.up (-Z) hZ.neg (by omega); omega⟩
/-- Nothing near the greatest. -/
def bdE : Nat := 3100
theorem bdE_eq : bdE = 3100 := rfl
attribute [irreducible] bdE
def Bd : Nat := 2 ^ bdE
theorem write_spec (neg : Bool) (mag : Nat) (place : Int) (hlo : -2200 ≤ place) (hhi : sv place mag ≤ Bd) :
    ∃ W, FW (double.write (.number neg mag place)) W ∧ Rnd (if neg then -(sv place mag : Int) else (sv place mag : Int)) W := by
  rcases Nat.eq_zero_or_pos mag with rfl | hm
  · refine ⟨0, ?_, ?_⟩
    · have h : double.write (.number neg 0 place) = double.word neg 0 := by
        show double.nearest neg 0 place = _
        unfold Format.nearest
        rw [if_pos rfl]
      unfold FW
      rw [h, read_word _ _ (by decide)]
      refine ⟨neg, 0, -1074, rfl, by decide, by decide, by decide, ?_⟩
      rw [sv_zero]
      cases neg <;> rfl
    · have h : (if neg then -(sv place 0 : Int) else (sv place 0 : Int)) = 0 := by rw [sv_zero]; cases neg <;> rfl
      rw [h]
      exact ⟨Rep.zero, fun Z _ hz => hz, fun Z _ hz => hz⟩
  · have hl : place + (mag.log2 : Int) ≤ 900 := by
      rcases Int.lt_or_le 900 (place + (mag.log2 : Int)) with h | h
      · exfalso
        have h1 : sv place (2 ^ mag.log2) ≤ sv place mag := sv_le.2 (Nat.log2_self_le (by omega))
        rw [sv_pow (q := place + (mag.log2 : Int)) hlo rfl] at h1
        have h2 : Bd * 2 ≤ 2 ^ (place + (mag.log2 : Int) + 2200).toNat := by
          unfold Bd
          rw [← Nat.pow_succ]
          exact Nat.pow_le_pow_right (by decide) (by have := bdE_eq; omega)
        have h4 : 0 < Bd := Nat.two_pow_pos _
        omega
      · exact h
    obtain ⟨m, p, hr, h1, h2, h3, h4, h5⟩ := nearest_spec neg mag place hm hlo hl
    have hpos : 0 < sv place mag := Nat.mul_pos hm (Nat.two_pow_pos _)
    refine ⟨if neg then -(sv p m : Int) else (sv p m : Int), ⟨neg, m, p, hr, h1, h2, by omega, rfl⟩, ?_⟩
    have key : Rnd (sv place mag : Int) (sv p m : Int) := by
      refine ⟨⟨m, p, h1, h2, .inl rfl⟩, fun Z hZ hz => ?_, fun Z hZ hz => ?_⟩
      · obtain ⟨z, e, g1, g2, rfl | rfl⟩ := hZ
        · have := h4 z e g1 g2 (by omega)
          omega
        · omega
      · obtain ⟨z, e, g1, g2, rfl | rfl⟩ := hZ
        · have := h5 z e g1 g2 (by omega)
          omega
        · omega
    cases neg
    · exact key
    · exact key.neg
theorem DV.opposite {d : Datum} {V : Int} (h : DV d V) : DV d.opposite (-V) := by
  obtain ⟨s, m, p, rfl, h1, h2, h3, rfl⟩ := h
  refine ⟨!s, m, p, rfl, h1, h2, h3, ?_⟩
  cases s <;> simp
theorem signed_sv (s : Bool) (m : Nat) (i base : Int) (h : base ≤ i) (hb : -2200 ≤ base) : signed s m (i - base).toNat * (2 ^ (base + 2200).toNat : Nat) = if s then -(sv i m : Int) else (sv i m : Int) := by
  have e : sv i m = m * 2 ^ (i - base).toNat * 2 ^ (base + 2200).toNat := by
    unfold sv
    rw [Nat.mul_assoc, ← Nat.pow_add]
    congr 2
    omega
  unfold signed
  rw [e, Nat.shiftLeft_eq]
  cases s
  · simp
  · simp [Int.neg_mul]
theorem sum_spec {d e : Datum} {U V : Int} (hd : DV d U) (he : DV e V) (hb : (U + V).natAbs ≤ Bd) : ∃ r W, (d.sum e).map double.write = some r ∧ FW r W ∧ Rnd (U + V) W := by
  obtain ⟨s, m, i, rfl, h1, h2, h3, hU⟩ := hd
  obtain ⟨t, n, j, rfl, g1, g2, g3, hV⟩ := he
  obtain ⟨base, hbase⟩ : ∃ b, min i j = b := ⟨_, rfl⟩
  obtain ⟨tot, htot⟩ : ∃ k, signed s m (i - base).toNat + signed t n (j - base).toNat = k := ⟨_, rfl⟩
  have hT : U + V = tot * (2 ^ (base + 2200).toNat : Nat) := by
    rw [hU, hV, ← htot, Int.add_mul, signed_sv s m i base (by omega) (by omega), signed_sv t n j base (by omega) (by omega)]
  have hsum : Datum.sum (.number s m i) (.number t n j) = some (.number (if tot = 0 then s && t else decide (tot < 0)) tot.natAbs base) := by
    unfold Datum.sum
    simp only [hbase, htot]
  have hab : sv base tot.natAbs = (U + V).natAbs := by
    rw [hT, Int.natAbs_mul]
    rfl
  obtain ⟨W, hW, hR⟩ := write_spec (if tot = 0 then s && t else decide (tot < 0)) tot.natAbs base (by omega) (by rw [hab]; exact hb)
  refine ⟨_, W, by rw [hsum]; rfl, hW, ?_⟩
  have hpow : (0 : Int) < (2 ^ (base + 2200).toNat : Nat) := Int.natCast_pos.2 (Nat.two_pow_pos _)
  have hsg : (if (if tot = 0 then s && t else decide (tot < 0)) then -(sv base tot.natAbs : Int) else (sv base tot.natAbs : Int)) = U + V := by
    rw [hab]
    rcases Int.lt_trichotomy tot 0 with h | h | h
    · have : U + V < 0 := by rw [hT]; exact Int.mul_neg_of_neg_of_pos h hpow
      rw [if_neg (by omega : ¬ tot = 0), decide_eq_true h, if_pos rfl]
      omega
    · have : U + V = 0 := by rw [hT, h, Int.zero_mul]
      rw [this]
      split <;> simp
    · have : 0 < U + V := by rw [hT]; exact Int.mul_pos h hpow
      rw [if_neg (by omega : ¬ tot = 0), decide_eq_false (by omega), if_neg (by simp)]
      omega
  rwa [hsg] at hR
theorem add_spec {x y : Nat} {U V : Int} (hx : FW x U) (hy : FW y V) (hb : (U + V).natAbs ≤ Bd) : ∃ r W, double.add x y = some r ∧ FW r W ∧ Rnd (U + V) W := sum_spec hx hy hb
theorem sub_spec {x y : Nat} {U V : Int} (hx : FW x U) (hy : FW y V) (hb : (U - V).natAbs ≤ Bd) : ∃ r W, double.sub x y = some r ∧ FW r W ∧ Rnd (U - V) W := sum_spec hx (DV.opposite hy) hb
end Fl
end Go.Proofs.Ytnjbpacnmiimlaa
