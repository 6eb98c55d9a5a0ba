/- Floats: roots, no NaN, whole numbers. No program is named here. -/
import Derived.Test.YtnjbpacnmiimlaaGfC
namespace Go.Proofs.Ytnjbpacnmiimlaa
namespace Fl
open Ieee

/-- No NaN: it is equal to itself. -/
def NN (r : Nat) : Prop := double.order r r = some .eq
theorem order_self (d : Datum) (h : ∀ s f, d ≠ .nan s f) : d.order d = some .eq := by
  cases d with
  | number s m p =>
    unfold Datum.order
    simp only [Option.some.injEq]
    exact Std.ReflCmp.compare_self
  | infinity s =>
    unfold Datum.order
    simp only [Option.some.injEq]
    exact Std.ReflCmp.compare_self
  | nan s f => exact absurd rfl (h s f)
theorem FW.nn {x : Nat} {V : Int} (h : FW x V) : NN x := by
  obtain ⟨s, m, p, hd, _⟩ := h
  exact order_self _ (by rw [hd]; intro s f e; cases e)
theorem read_inf (neg : Bool) : double.read (double.word neg (2047 * 2 ^ 52)) = .infinity neg := by cases neg <;> decide +kernel
theorem nearest_nn (neg : Bool) (mag : Nat) (place : Int) : NN (double.nearest neg mag place) := by
  have e2 : double.binade = 2 ^ 52 := rfl
  have e3 : double.infRung = 2047 * 2 ^ 52 := rfl
  have key : ∀ a, a ≤ 2047 * 2 ^ 52 → NN (double.word neg a) := fun a ha => by
    refine order_self _ ?_
    rcases Nat.lt_or_ge a (2047 * 2 ^ 52) with h | h
    · rw [read_word _ _ h]
      intro s f e
      split at e <;> cases e
    · rw [show a = 2047 * 2 ^ 52 by omega, read_inf]
      intro s f e
      cases e
  unfold Format.nearest
  split
  · exact key 0 (Nat.zero_le _)
  · simp only [e2, e3]
    exact key _ (Nat.min_le_right _ _)
theorem sqrt_spec {x : Nat} {V : Int} (hx : FW x V) (h0 : 0 ≤ V) : ∃ r, double.sqrt x = some r ∧ NN r := by
  obtain ⟨s, m, i, hd, h1, h2, h3, hV⟩ := hx
  unfold Format.sqrt
  rw [hd]
  unfold Datum.root
  rcases Nat.eq_zero_or_pos m with h | h
  · subst h
    exact ⟨_, rfl, nearest_nn _ _ _⟩
  · have hs : s = false := by
      cases s
      · rfl
      · have hp : 0 < sv i m := Nat.mul_pos h (Nat.two_pow_pos _)
        simp only [if_true] at hV
        omega
    subst hs
    simp only [if_neg (show ¬ m = 0 by omega), Bool.false_eq_true, if_false, Option.map_some]
    exact ⟨_, rfl, nearest_nn _ _ _⟩
end Fl
end Go.Proofs.Ytnjbpacnmiimlaa
