/- Floats: the mean and the sum of any lengths. No program is named here. -/
import Derived.Test.YtnjbpacnmiimlaaGfE
namespace Go.Proofs.Ytnjbpacnmiimlaa
namespace Fl
open Ieee

/-- The words of one step. -/
def dF (n : Int) (m : Nat) : Nat := (double.sub (floatOfInt .f64 n) m).getD 0
def sF (n : Int) (m k : Nat) : Nat := (double.div (dF n m) (floatOfInt .f64 (k : Int))).getD 0
def mF (n : Int) (m k : Nat) : Nat := (double.add m (sF n m k)).getD 0
def eF (n : Int) (m k : Nat) : Nat := (double.sub (floatOfInt .f64 n) (mF n m k)).getD 0
def qF (n : Int) (m k : Nat) : Nat := (double.mul (dF n m) (eF n m k)).getD 0
def tF (n : Int) (m t k : Nat) : Nat := (double.add t (qF n m k)).getD 0
/-- The mean and the sum behind i steps. -/
def spF (g : Nat → Int) : Nat → Nat × Nat
  | 0 => (0, 0)
  | i + 1 => (mF (g i) (spF g i).1 (i + 1), tF (g i) (spF g i).1 (spF g i).2 (i + 1))
theorem pow_Bd {a : Nat} (h : a ≤ 900) : 2 ^ a * Un ≤ Bd := by
  have hu := unE_eq
  have hb := bdE_eq
  unfold Un Bd
  rw [← Nat.pow_add]
  exact Nat.pow_le_pow_right (by decide) (by omega)
theorem fw_zero : FW 0 0 := by
  refine ⟨false, 0, -1074, by decide +kernel, by decide, by decide, by decide, ?_⟩
  rw [sv_zero]
  rfl
def Inv (g : Nat → Int) (i : Nat) : Prop := ∃ M T, FW (spF g i).1 M ∧ M.natAbs ≤ BE ∧ (i = 0 → M = 0) ∧ FW (spF g i).2 T ∧ 0 ≤ T ∧ T ≤ ((i * (2 ^ 128 * Un) : Nat) : Int)
theorem rep_cnt {i : Nat} (h : i < 2 ^ 53) : Rep ((i * (2 ^ 128 * Un) : Nat) : Int) := by
  have hu := unE_eq
  refine ⟨i, 128, h, by decide, .inl ?_⟩
  unfold sv Un
  rw [← Nat.pow_add]
  congr 3
  omega
/-- One step's words. -/
structure StepW (n : Int) (m t k : Nat) : Prop where
  d : double.sub (floatOfInt .f64 n) m = some (dF n m)
  s : double.div (dF n m) (floatOfInt .f64 (k : Int)) = some (sF n m k)
  m' : double.add m (sF n m k) = some (mF n m k)
  e : double.sub (floatOfInt .f64 n) (mF n m k) = some (eF n m k)
  q : double.mul (dF n m) (eF n m k) = some (qF n m k)
  t' : double.add t (qF n m k) = some (tF n m t k)
theorem inv_step {g : Nat → Int} {i : Nat} (h : Inv g i) (hg : (g i).natAbs ≤ 2 ^ 63) (hi : i + 1 < 2 ^ 45) : StepW (g i) (spF g i).1 (spF g i).2 (i + 1) ∧ Inv g (i + 1) := by
  obtain ⟨M, T, hm, hM, h0, ht, hT0, hT1⟩ := h
  obtain ⟨X, hX, _, hXB⟩ := conv_spec (g i) hg
  obtain ⟨d, st, m', e, q, M', P, e1, e2, e3, e4, e5, hm', hM', hq, hP0, hP1⟩ := step_spec (k := i + 1) hX hm hXB hM (by omega) hi (fun h => h0 (by omega))
  have hsum : T + P ≤ (((i + 1) * (2 ^ 128 * Un) : Nat) : Int) := by
    rw [Nat.add_mul, Nat.one_mul]
    omega
  have hbd : (i + 1) * (2 ^ 128 * Un) ≤ Bd := by
    have h1 : (i + 1) * (2 ^ 128 * Un) ≤ 2 ^ 45 * (2 ^ 128 * Un) := Nat.mul_le_mul_right _ (by omega)
    have h2 : 2 ^ 45 * (2 ^ 128 * Un) = 2 ^ 173 * Un := by rw [← Nat.mul_assoc]
    have h3 := pow_Bd (a := 173) (by decide)
    omega
  obtain ⟨t', T', e6, ht', hTR⟩ := add_spec ht hq (by omega)
  have dd : dF (g i) (spF g i).1 = d := by unfold dF; rw [e1]; rfl
  have ds : sF (g i) (spF g i).1 (i + 1) = st := by unfold sF; rw [dd, e2]; rfl
  have dm : mF (g i) (spF g i).1 (i + 1) = m' := by unfold mF; rw [ds, e3]; rfl
  have de : eF (g i) (spF g i).1 (i + 1) = e := by unfold eF; rw [dm, e4]; rfl
  have dq : qF (g i) (spF g i).1 (i + 1) = q := by unfold qF; rw [dd, de, e5]; rfl
  have dt : tF (g i) (spF g i).1 (spF g i).2 (i + 1) = t' := by unfold tF; rw [dq, e6]; rfl
  refine ⟨⟨by rw [dd]; exact e1, by rw [dd, ds]; exact e2, by rw [ds, dm]; exact e3, by rw [dm, de]; exact e4, by rw [dd, de, dq]; exact e5, by rw [dq, dt]; exact e6⟩, M', T', ?_, hM', fun h => by omega, ?_, hTR.dn 0 Rep.zero (by omega), hTR.up _ (rep_cnt (by omega)) hsum⟩
  · show FW (mF (g i) (spF g i).1 (i + 1)) M'
    rw [dm]
    exact hm'
  · show FW (tF (g i) (spF g i).1 (spF g i).2 (i + 1)) T'
    rw [dt]
    exact ht'
theorem inv_all {g : Nat → Int} {N : Nat} (hg : ∀ i, (g i).natAbs ≤ 2 ^ 63) (hN : N < 2 ^ 45) : ∀ i, i ≤ N → Inv g i
  | 0, _ => ⟨0, 0, fw_zero, by simp, fun _ => rfl, fw_zero, by omega, by simp⟩
  | i + 1, h => (inv_step (inv_all hg hN i (by omega)) (hg i) (by omega)).2
/-- The words behind the last step. -/
def vF (t k : Nat) : Nat := (double.div t (floatOfInt .f64 (k : Int))).getD 0
def rF (t k : Nat) : Nat := (double.sqrt (vF t k)).getD 0
theorem last_spec {g : Nat → Int} {N : Nat} (h : Inv g N) (h1 : 1 ≤ N) (h2 : N < 2 ^ 45) : double.div (spF g N).2 (floatOfInt .f64 (N : Int)) = some (vF (spF g N).2 N) ∧ double.sqrt (vF (spF g N).2 N) = some (rF (spF g N).2 N) ∧ NN (rF (spF g N).2 N) ∧ NN (spF g N).1 := by
  obtain ⟨M, T, hm, _, _, ht, hT0, hT1⟩ := h
  obtain ⟨n, j, hr, hj1, hj2, hkn⟩ := whole_spec N h1 h2
  have hbd : N * (2 ^ 128 * Un) ≤ Bd := by
    have h1 : N * (2 ^ 128 * Un) ≤ 2 ^ 45 * (2 ^ 128 * Un) := Nat.mul_le_mul_right _ (by omega)
    have h2 : 2 ^ 45 * (2 ^ 128 * Un) = 2 ^ 173 * Un := by rw [← Nat.mul_assoc]
    have h3 := pow_Bd (a := 173) (by decide)
    omega
  obtain ⟨v, V, T', hv, hV, hR, hp, _, _, _⟩ := div_spec ht hr hj1 hj2 hkn h1 h2 (by omega)
  obtain ⟨r, hr2, hn⟩ := sqrt_spec hV (hR.dn 0 Rep.zero (hp hT0))
  have dv : vF (spF g N).2 N = v := by unfold vF; rw [hv]; rfl
  have dr : rF (spF g N).2 N = r := by unfold rF; rw [dv, hr2]; rfl
  exact ⟨by rw [dv]; exact hv, by rw [dv, dr]; exact hr2, by rw [dr]; exact hn, hm.nn⟩
end Fl
end Go.Proofs.Ytnjbpacnmiimlaa
