/- Cutting by contents, in plain Lean: the number that rolls, where a piece ends, the first piece, all lengths. No program is named here. -/
import Derived.Test.YtnjbpacnmiimlaaDoorWord
namespace Go.Proofs.YtnjbpacnmiimlaaDoor
open Go.RowKit

/-- Which power of two, 0: none of these. -/
def pwr (m : Int) : Nat := if m = 4 then 2 else if m = 8 then 3 else if m = 16 then 4 else if m = 32 then 5 else if m = 64 then 6 else if m = 128 then 7 else if m = 256 then 8 else if m = 512 then 9 else if m = 1024 then 10 else if m = 2048 then 11 else if m = 4096 then 12 else 0
theorem pwr_pos {m : Int} (h : pw m) : 2 ≤ pwr m ∧ pwr m ≤ 12 ∧ m = 2 ^ pwr m := by
  unfold pw at h
  rcases h with h | h | h | h | h | h | h | h | h | h | h <;> subst h <;> decide
theorem pwr_none {m : Int} (h : ¬ pw m) : pwr m = 0 := by
  unfold pw at h
  unfold pwr
  repeat (rw [if_neg (by omega)])
theorem pwr_at (k : Nat) (hk : k < 11) : pwr (4 * 2 ^ k) = k + 2 := by
  rcases (show k = 0 ∨ k = 1 ∨ k = 2 ∨ k = 3 ∨ k = 4 ∨ k = 5 ∨ k = 6 ∨ k = 7 ∨ k = 8 ∨ k = 9 ∨ k = 10 by omega) with h | h | h | h | h | h | h | h | h | h | h <;> subst h <;> decide
theorem pw_ne {m : Int} (h : ∀ j : Nat, j < 11 → m ≠ 4 * 2 ^ j) : ¬ pw m := by
  intro hp
  have := pwr_pos hp
  refine h (pwr m - 2) (by omega) ?_
  have h2 : pwr m = pwr m - 2 + 2 := by omega
  rw [h2, Int.pow_add] at this
  omega

namespace Gear
def roll (h b : Nat) : Nat := (h * 2 + wordN b) % 18446744073709551616
/-- The number behind further bytes. -/
def rollF : Nat → List Nat → Nat
  | h, [] => h
  | h, b :: t => rollF (roll h b) t
def rolls (l : List Nat) : Nat := rollF 0 l
theorem roll_lt (h b : Nat) : roll h b < 18446744073709551616 := by
  unfold roll
  omega
theorem rollF_app (l t : List Nat) (h : Nat) : rollF h (l ++ t) = rollF (rollF h l) t := by
  induction l generalizing h with
  | nil => rfl
  | cons b s ih => exact ih (roll h b)
theorem rolls_snoc (l : List Nat) (b : Nat) : rolls (l ++ [b]) = roll (rolls l) b := rollF_app l [b] 0
theorem rolls_lt (l : List Nat) : rolls l < 18446744073709551616 := by
  rcases List.eq_nil_or_concat l with h | ⟨t, b, h⟩
  · rw [h]
    show 0 < 18446744073709551616
    omega
  · rw [h, List.concat_eq_append, rolls_snoc]
    exact roll_lt _ _

/-- How many places the number has below its bound. -/
def places (m : Int) (n : Nat) : Nat := if (n : Int) < m then 63 - pwr m else 65 - pwr m
/-- Does a piece of n bytes, whose number is h, end? -/
def ends (a m x : Int) (n h : Nat) : Bool :=
  if x ≤ (n : Int) then true else if (n : Int) < a then false else decide (h < 2 ^ places m n)
/-- Bytes on, behind n that have the number h: the piece's length; whether its end was found. -/
def scan (a m x : Int) : Nat → Nat → List Nat → Nat × Bool
  | n, _, [] => (n, false)
  | n, h, b :: t => if ends a m x (n + 1) (roll h b) then (n + 1, true) else scan a m x (n + 1) (roll h b) t
def first (a m x : Int) (l : List Nat) : Nat × Bool := if okRule a m x then scan a m x 0 0 l else (0, false)
def cutF (a m x : Int) : Nat → List Nat → List Nat
  | 0, _ => []
  | f + 1, l => if l = [] then [] else (scan a m x 0 0 l).1 :: cutF a m x f (l.drop (scan a m x 0 0 l).1)
/-- The lengths of all pieces. -/
def cut (a m x : Int) (l : List Nat) : List Nat := if okRule a m x then cutF a m x l.length l else []

theorem scan_hit {a m x : Int} {n h b : Nat} {t : List Nat} (he : ends a m x (n + 1) (roll h b) = true) : scan a m x n h (b :: t) = (n + 1, true) := by rw [scan, if_pos he]
theorem scan_miss {a m x : Int} {n h b : Nat} {t : List Nat} (he : ¬ ends a m x (n + 1) (roll h b) = true) : scan a m x n h (b :: t) = scan a m x (n + 1) (roll h b) t := by rw [scan, if_neg he]
theorem scan_le (a m x : Int) : ∀ (l : List Nat) (n h : Nat), n ≤ (scan a m x n h l).1 ∧ (scan a m x n h l).1 ≤ n + l.length ∧ (l ≠ [] → n < (scan a m x n h l).1)
  | [], n, h => by simp [scan]
  | b :: t, n, h => by
    unfold scan
    split
    · simp
    · have := scan_le a m x t (n + 1) (roll h b)
      simp only [List.length_cons]
      refine ⟨by omega, by omega, fun _ => by omega⟩
theorem scan_false (a m x : Int) : ∀ (l : List Nat) (n h : Nat), (scan a m x n h l).2 = false → (scan a m x n h l).1 = n + l.length
  | [], n, h => by simp [scan]
  | b :: t, n, h => by
    unfold scan
    split
    · simp
    · intro hh
      rw [scan_false a m x t (n + 1) (roll h b) hh, List.length_cons]
      omega
/-- What is found stays where the rest is another. -/
theorem scan_app (a m x : Int) : ∀ (l t : List Nat) (n h : Nat), (scan a m x n h l).2 = true → scan a m x n h (l ++ t) = scan a m x n h l
  | [], t, n, h => by simp [scan]
  | b :: s, t, n, h => by
    simp only [List.cons_append]
    unfold scan
    split
    · simp
    · exact scan_app a m x s t (n + 1) (roll h b)
/-- Not found: on from where they end. -/
theorem scan_on (a m x : Int) : ∀ (l t : List Nat) (n h : Nat), (scan a m x n h l).2 = false → scan a m x n h (l ++ t) = scan a m x (n + l.length) (rollF h l) t
  | [], t, n, h => by simp [rollF]
  | b :: s, t, n, h => by
    intro hs
    have h1 : ¬ ends a m x (n + 1) (roll h b) = true := by
      intro he
      rw [scan, if_pos he] at hs
      cases hs
    rw [scan, if_neg h1] at hs
    rw [List.cons_append, rollF, List.length_cons, scan, if_neg h1, scan_on a m x s t (n + 1) (roll h b) hs, Nat.add_comm s.length 1, ← Nat.add_assoc]
theorem scan_snoc (a m x : Int) (l : List Nat) (b : Nat) (h : (scan a m x 0 0 l).2 = false) :
    scan a m x 0 0 (l ++ [b]) = (l.length + 1, ends a m x (l.length + 1) (rolls (l ++ [b]))) := by
  rw [scan_on _ _ _ _ _ _ _ h, rolls_snoc, Nat.zero_add]
  simp only [scan]
  change (if ends a m x (l.length + 1) (roll (rolls l) b) = true then (l.length + 1, true) else (l.length + 1, false)) = _
  split
  · rename_i h2; rw [h2]
  · rename_i h2; simp only [Bool.not_eq_true] at h2; rw [h2]

theorem cutF_mono (a m x : Int) : ∀ (f g : Nat) (l : List Nat), l.length ≤ f → l.length ≤ g → cutF a m x f l = cutF a m x g l
  | 0, 0, l, _, _ => rfl
  | 0, g + 1, l, h, _ => by
    have : l = [] := List.length_eq_zero_iff.1 (by omega)
    subst this
    simp [cutF]
  | f + 1, 0, l, _, h => by
    have : l = [] := List.length_eq_zero_iff.1 (by omega)
    subst this
    simp [cutF]
  | f + 1, g + 1, l, h1, h2 => by
    unfold cutF
    split
    · rfl
    · rename_i hne
      have := (scan_le a m x l 0 0).2.2 hne
      rw [cutF_mono a m x f g _ (by simp; omega) (by simp; omega)]
theorem cut_nil (a m x : Int) : cut a m x [] = [] := by simp [cut, cutF]
theorem cut_step {a m x : Int} (ok : okRule a m x) {l : List Nat} (h : l ≠ []) : cut a m x l = (scan a m x 0 0 l).1 :: cut a m x (l.drop (scan a m x 0 0 l).1) := by
  unfold cut
  rw [if_pos ok, if_pos ok]
  have h1 := (scan_le a m x l 0 0).2.2 h
  obtain ⟨f, hf⟩ : ∃ f, l.length = f + 1 := ⟨l.length - 1, by have := List.length_pos_iff.2 h; omega⟩
  rw [hf]
  simp only [cutF, if_neg h]
  congr 1
  exact cutF_mono a m x _ _ _ (by simp; omega) (Nat.le_refl _)
theorem cut_no {a m x : Int} (h : ¬ okRule a m x) (l : List Nat) : cut a m x l = [] := if_neg h
theorem cutF_length (a m x : Int) : ∀ (f : Nat) (l : List Nat), (cutF a m x f l).length ≤ l.length
  | 0, _ => by simp [cutF]
  | f + 1, l => by
    unfold cutF
    split
    · simp
    · rename_i hne
      have h1 := (scan_le a m x l 0 0).2.2 hne
      have h2 := (scan_le a m x l 0 0).2.1
      have := cutF_length a m x f (l.drop (scan a m x 0 0 l).1)
      simp only [List.length_cons, List.length_drop] at this ⊢
      omega
theorem cut_length (a m x : Int) (l : List Nat) : (cut a m x l).length ≤ l.length := by
  unfold cut
  split
  · exact cutF_length a m x _ _
  · simp
theorem first_ok {a m x : Int} (h : okRule a m x) (l : List Nat) : first a m x l = scan a m x 0 0 l := if_pos h
theorem first_no {a m x : Int} (h : ¬ okRule a m x) (l : List Nat) : first a m x l = (0, false) := if_neg h

/-- The number, added up from the end. -/
def sumG (f : Nat → Nat) : List Nat → Nat
  | [] => 0
  | b :: t => f b + 2 * sumG f t
theorem sumG_app (f : Nat → Nat) (l t : List Nat) : sumG f (l ++ t) = sumG f l + 2 ^ l.length * sumG f t := by
  induction l with
  | nil => simp [sumG]
  | cons b s ih =>
    simp only [List.cons_append, sumG, ih, List.length_cons, Nat.pow_succ]
    rw [Nat.mul_add, Nat.add_assoc, ← Nat.mul_assoc, Nat.mul_comm (2 ^ s.length) 2]
theorem sumG_snoc (f : Nat → Nat) (l : List Nat) (j : Nat) (y : Nat) (h : l[j]? = some y) : sumG f (l.take (j + 1)) = sumG f (l.take j) + 2 ^ j * f y := by
  have hl := (List.getElem?_eq_some_iff.1 h).1
  rw [List.take_add_one, h, Option.toList_some, sumG_app, List.length_take, Nat.min_eq_left (by omega)]
  simp [sumG]
theorem sumG_rev (f : Nat → Nat) (t : List Nat) (b : Nat) : sumG f (t ++ [b]).reverse = f b + 2 * sumG f t.reverse := by
  rw [List.reverse_append]
  rfl
theorem sumG_take (f : Nat → Nat) (l : List Nat) : sumG f (l.take 64) % 18446744073709551616 = sumG f l % 18446744073709551616 := by
  by_cases h : 64 ≤ l.length
  · conv => rhs; rw [← List.take_append_drop 64 l]
    rw [sumG_app, List.length_take, Nat.min_eq_left h]
    omega
  · rw [List.take_of_length_le (by omega)]
def sumR (l : List Nat) : Nat := sumG wordN l
theorem sumR_snoc (l : List Nat) (j : Nat) (y : Nat) (h : l[j]? = some y) : sumR (l.take (j + 1)) = sumR (l.take j) + 2 ^ j * wordN y := sumG_snoc wordN l j y h
theorem sumR_take (l : List Nat) : sumR (l.take 64) % 18446744073709551616 = sumR l % 18446744073709551616 := sumG_take wordN l
theorem sumR_rev (t : List Nat) (b : Nat) : sumR (t ++ [b]).reverse = wordN b + 2 * sumR t.reverse := sumG_rev wordN t b
theorem sumR_nil : sumR [] = 0 := rfl
theorem rolls_sum (l : List Nat) : rolls l = sumR l.reverse % 18446744073709551616 := by
  have key : ∀ (k : Nat) (l : List Nat), l.length = k → rolls l = sumR l.reverse % 18446744073709551616 := by
    intro k
    induction k with
    | zero => intro l hl; rw [List.length_eq_zero_iff.1 hl]; rfl
    | succ k ih =>
      intro l hl
      rcases List.eq_nil_or_concat l with h | ⟨t, b, h⟩
      · rw [h] at hl
        simp at hl
      · rw [h, List.concat_eq_append] at hl ⊢
        rw [rolls_snoc, ih t (by simpa using hl), sumR_rev]
        unfold roll
        omega
  exact key _ l rfl
end Gear
end Go.Proofs.YtnjbpacnmiimlaaDoor
