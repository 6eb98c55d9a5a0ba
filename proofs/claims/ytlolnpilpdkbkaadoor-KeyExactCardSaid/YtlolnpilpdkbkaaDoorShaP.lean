/- SHA-256's block as plain functions on numbers. No program is named here. -/
import Derived.Test.YtlolnpilpdkbkaaDoorShaW
namespace Go.Proofs.YtlolnpilpdkbkaaDoor.Sha

/-- The next word: of the block's bytes b, of the words that stand. -/
def sig0 (a : Nat) : Nat := rot a 7 ^^^ rot a 18 ^^^ a / 8
def sig1 (a : Nat) : Nat := rot a 17 ^^^ rot a 19 ^^^ a / 1024
def first (b : List Nat) (t : Nat) : Nat := ((b[4 * t]?.getD 0 * 256 + b[4 * t + 1]?.getD 0) * 256 + b[4 * t + 2]?.getD 0) * 256 + b[4 * t + 3]?.getD 0
def nextW (b ws : List Nat) (t : Nat) : Nat :=
  if t < 16 then first b t else (sig1 (ws[t - 2]?.getD 0) + ws[t - 7]?.getD 0 + sig0 (ws[t - 15]?.getD 0) + ws[t - 16]?.getD 0) % 4294967296
def wordsTo (b : List Nat) : Nat → List Nat
  | 0 => []
  | t + 1 => wordsTo b t ++ [nextW b (wordsTo b t) t]
theorem wordsTo_length (b : List Nat) (t : Nat) : (wordsTo b t).length = t := by
  induction t with
  | zero => rfl
  | succ t ih => simp [wordsTo, ih]
theorem wordsTo_take (b : List Nat) {s t : Nat} (h : s ≤ t) : (wordsTo b t).take s = wordsTo b s := by
  induction t with
  | zero =>
    obtain rfl : s = 0 := by omega
    rfl
  | succ t ih =>
    by_cases e : s = t + 1
    · subst e
      exact List.take_of_length_le (by rw [wordsTo_length]; omega)
    · rw [wordsTo, List.take_append_of_le_length (by rw [wordsTo_length]; omega)]
      exact ih (by omega)

theorem xor3_lt {a b c : Nat} (ha : a < 4294967296) (hb : b < 4294967296) (hc : c < 4294967296) : a ^^^ b ^^^ c < 4294967296 :=
  Nat.xor_lt_two_pow (n := 32) (Nat.xor_lt_two_pow (n := 32) ha hb) hc
theorem sig0_lt {a : Nat} (h : a < 4294967296) : sig0 a < 4294967296 := xor3_lt (rot_lt h (by omega)) (rot_lt h (by omega)) (Nat.lt_of_le_of_lt (Nat.div_le_self _ _) h)
theorem sig1_lt {a : Nat} (h : a < 4294967296) : sig1 a < 4294967296 := xor3_lt (rot_lt h (by omega)) (rot_lt h (by omega)) (Nat.lt_of_le_of_lt (Nat.div_le_self _ _) h)

def big0 (a : Nat) : Nat := rot a 2 ^^^ rot a 13 ^^^ rot a 22
def big1 (a : Nat) : Nat := rot a 6 ^^^ rot a 11 ^^^ rot a 25
def choose (e f g : Nat) : Nat := (e &&& f) ||| ((4294967295 - e) &&& g)
def most (a b c : Nat) : Nat := (a &&& b) ||| (a &&& c) ||| (b &&& c)
theorem most_xor (a b c : Nat) : (a &&& b) ^^^ (a &&& c) ^^^ (b &&& c) = most a b c := by
  apply Nat.eq_of_testBit_eq
  intro i
  simp only [most, Nat.testBit_xor, Nat.testBit_or, Nat.testBit_and]
  cases a.testBit i <;> cases b.testBit i <;> cases c.testBit i <;> rfl
theorem not_bit {e : Nat} (h : e < 4294967296) (i : Nat) : (4294967295 - e).testBit i = (decide (i < 32) && !e.testBit i) := by
  rw [show 4294967295 - e = 2 ^ 32 - (e + 1) by omega, Nat.testBit_two_pow_sub_succ (by omega)]
theorem choose_xor {e : Nat} (f g : Nat) (h : e < 4294967296) : (e &&& f) ^^^ ((4294967295 - e) &&& g) = choose e f g := by
  apply Nat.eq_of_testBit_eq
  intro i
  simp only [choose, Nat.testBit_xor, Nat.testBit_or, Nat.testBit_and, not_bit h]
  cases e.testBit i <;> cases f.testBit i <;> cases g.testBit i <;> cases decide (i < 32) <;> rfl

/-- A round: the numbers of the state, the word, what is added. -/
def xOf (s : List Nat) (w k : Nat) : Nat := s[7]?.getD 0 + big1 (s[4]?.getD 0) + choose (s[4]?.getD 0) (s[5]?.getD 0) (s[6]?.getD 0) + k + w
def yOf (s : List Nat) : Nat := big0 (s[0]?.getD 0) + most (s[0]?.getD 0) (s[1]?.getD 0) (s[2]?.getD 0)
def round (s : List Nat) (w k : Nat) : List Nat :=
  [(xOf s w k + yOf s) % 4294967296, s[0]?.getD 0, s[1]?.getD 0, s[2]?.getD 0, (s[3]?.getD 0 + xOf s w k) % 4294967296, s[4]?.getD 0, s[5]?.getD 0, s[6]?.getD 0]
def rounds (ws ks s : List Nat) : Nat → List Nat
  | 0 => s
  | t + 1 => round (rounds ws ks s t) (ws[t]?.getD 0) (ks[t]?.getD 0)
def blockL (ks s b : List Nat) : List Nat := (List.range 8).map fun i => (s[i]?.getD 0 + (rounds (wordsTo b 64) ks s 64)[i]?.getD 0) % 4294967296
end Go.Proofs.YtlolnpilpdkbkaaDoor.Sha
