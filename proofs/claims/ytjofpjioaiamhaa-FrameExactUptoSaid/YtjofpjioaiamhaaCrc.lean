/- CRC-32C as a plain function on numbers: eight turns of the register, the table, that different bytes give different sums. No program is named here. -/
import Derived.WalkKit
namespace Go.Proofs.Ytjofpjioaiamhaa.Crc

/-- One turn of the register. -/
def lf (x : Nat) : Nat := if x % 2 = 1 then (x / 2) ^^^ 2197175160 else x / 2
def lfn : Nat → Nat → Nat
  | 0, x => x
  | n + 1, x => lfn n (lf x)
/-- The register behind a byte. -/
def step (r b : Nat) : Nat := lfn 8 (r ^^^ b)
def run (r : Nat) (l : List Nat) : Nat := l.foldl step r
def flip (x : Nat) : Nat := 4294967295 - x
/-- The sum of what gave s with l behind it. -/
def more (s : Nat) (l : List Nat) : Nat := flip (run (flip s) l)

theorem xor_half (x y : Nat) : (x ^^^ y) / 2 = x / 2 ^^^ y / 2 := by
  have h := @Nat.shiftRight_xor_distrib 1 x y
  simpa [Nat.shiftRight_succ] using h
theorem xor_odd (x y : Nat) : (x ^^^ y) % 2 = (x % 2 + y % 2) % 2 := by
  have h := @Nat.xor_mod_two_pow x y 1
  simp only [Nat.pow_one] at h
  rw [h]
  rcases Nat.mod_two_eq_zero_or_one x with h1 | h1 <;> rcases Nat.mod_two_eq_zero_or_one y with h2 | h2 <;> rw [h1, h2] <;> rfl

theorem lf_xor (x y : Nat) : lf (x ^^^ y) = lf x ^^^ lf y := by
  unfold lf
  rw [xor_odd, xor_half]
  rcases Nat.mod_two_eq_zero_or_one x with h1 | h1 <;> rcases Nat.mod_two_eq_zero_or_one y with h2 | h2 <;> rw [h1, h2]
  · simp
  · simp [Nat.xor_assoc]
  · simp only [Nat.add_zero, if_true, Nat.zero_ne_one, if_false, Nat.one_mod]
    rw [Nat.xor_assoc, Nat.xor_assoc, Nat.xor_comm (y / 2)]
  · simp only [if_true]
    rw [if_neg (by decide)]
    rw [Nat.xor_assoc, ← Nat.xor_assoc 2197175160, Nat.xor_comm 2197175160 (y / 2), Nat.xor_assoc, Nat.xor_self, Nat.xor_zero]
theorem lfn_xor (n : Nat) : ∀ x y, lfn n (x ^^^ y) = lfn n x ^^^ lfn n y := by
  induction n with
  | zero => intro x y; rfl
  | succ n ih => intro x y; simp only [lfn]; rw [lf_xor, ih]

theorem lf_lt {x : Nat} (h : x < 4294967296) : lf x < 4294967296 := by
  unfold lf
  split
  · exact Nat.xor_lt_two_pow (n := 32) (by omega) (by decide)
  · omega
theorem lfn_lt (n : Nat) : ∀ {x : Nat}, x < 4294967296 → lfn n x < 4294967296 := by
  induction n with
  | zero => intro x h; exact h
  | succ n ih => intro x h; exact ih (lf_lt h)
theorem lfn_step (n : Nat) : ∀ x, lfn (n + 1) x = lf (lfn n x) := by
  induction n with
  | zero => intro x; rfl
  | succ n ih => intro x; exact ih (lf x)
theorem lf_even (q : Nat) : lf (2 * q) = q := by
  unfold lf
  rw [if_neg (by omega)]
  omega
theorem lfn_shift (n : Nat) : ∀ q, lfn n (2 ^ n * q) = q := by
  induction n with
  | zero => intro q; simp [lfn]
  | succ n ih =>
    intro q
    simp only [lfn]
    rw [Nat.pow_succ, Nat.mul_comm (2 ^ n) 2, Nat.mul_assoc, lf_even]
    exact ih q

theorem split_low (x : Nat) : x = (256 * (x / 256)) ^^^ (x % 256) := by
  apply Nat.eq_of_testBit_eq
  intro i
  rw [Nat.testBit_xor]
  have h1 := Nat.testBit_two_pow_mul_add (x / 256) (i := 8) (b := x % 256) (Nat.mod_lt _ (by decide)) i
  have h2 : 2 ^ 8 * (x / 256) + x % 256 = x := Nat.div_add_mod x 256
  rw [h2] at h1
  have h3 := Nat.testBit_two_pow_mul_add (x / 256) (i := 8) (b := 0) (by decide) i
  rw [Nat.add_zero] at h3
  rw [h1, show (256 : Nat) = 2 ^ 8 by decide, h3]
  by_cases hi : i < 8
  · simp [hi]
  · rw [if_neg hi, if_neg hi]
    have : (x % 2 ^ 8).testBit i = false := by
      rw [Nat.testBit_mod_two_pow]
      simp [hi]
    rw [this]
    simp

/-- By a table. -/
theorem step_table (r b : Nat) : step r b = r / 256 ^^^ lfn 8 ((r % 256) ^^^ b) := by
  unfold step
  have h : r ^^^ b = 2 ^ 8 * (r / 256) ^^^ ((r % 256) ^^^ b) := by
    rw [← Nat.xor_assoc]
    congr 1
    exact split_low r
  rw [h, lfn_xor, lfn_shift]

theorem xor_cancel {a b c : Nat} (h : a ^^^ c = b ^^^ c) : a = b := by
  have : (a ^^^ c) ^^^ c = (b ^^^ c) ^^^ c := by rw [h]
  rwa [Nat.xor_assoc, Nat.xor_assoc, Nat.xor_self, Nat.xor_zero, Nat.xor_zero] at this
theorem xor_cancel_left {a b c : Nat} (h : c ^^^ a = c ^^^ b) : a = b := by
  rw [Nat.xor_comm c, Nat.xor_comm c] at h
  exact xor_cancel h

/-- The highest digit tells what went out. -/
theorem lf_top {x : Nat} (h : x < 4294967296) : lf x / 2147483648 = x % 2 := by
  unfold lf
  rcases Nat.mod_two_eq_zero_or_one x with h1 | h1
  · rw [h1, if_neg (by decide)]
    omega
  · rw [h1, if_pos rfl]
    have h2 := @Nat.shiftRight_xor_distrib 31 (x / 2) 2197175160
    rw [Nat.shiftRight_eq_div_pow, Nat.shiftRight_eq_div_pow, Nat.shiftRight_eq_div_pow] at h2
    have h3 : x / 2 / 2 ^ 31 = 0 := Nat.div_eq_of_lt (by omega)
    have h4 : 2197175160 / 2 ^ 31 = 1 := by decide
    rw [h3, h4] at h2
    exact h2
theorem lf_inj {x y : Nat} (hx : x < 4294967296) (hy : y < 4294967296) (h : lf x = lf y) : x = y := by
  have h1 := lf_top hx
  rw [h, lf_top hy] at h1
  have h2 : x / 2 = y / 2 := by
    unfold lf at h
    rw [h1] at h
    rcases Nat.mod_two_eq_zero_or_one x with h3 | h3
    · rw [h3, if_neg (by decide), if_neg (by decide)] at h
      exact h
    · rw [h3, if_pos rfl, if_pos rfl] at h
      exact xor_cancel h
  omega
theorem lfn_inj (n : Nat) : ∀ {x y : Nat}, x < 4294967296 → y < 4294967296 → lfn n x = lfn n y → x = y := by
  induction n with
  | zero => intro x y _ _ h; exact h
  | succ n ih => intro x y hx hy h; exact lf_inj hx hy (ih (lf_lt hx) (lf_lt hy) h)

theorem step_lt {r b : Nat} (hr : r < 4294967296) (hb : b < 256) : step r b < 4294967296 :=
  lfn_lt 8 (Nat.xor_lt_two_pow (n := 32) hr (by omega))
theorem run_lt {l : List Nat} : ∀ {r : Nat}, r < 4294967296 → (∀ b ∈ l, b < 256) → run r l < 4294967296 := by
  induction l with
  | nil => intro r hr _; exact hr
  | cons b l ih =>
    intro r hr hl
    exact ih (step_lt hr (hl b (by simp))) fun c hc => hl c (by simp [hc])
theorem step_inj {r s b : Nat} (hr : r < 4294967296) (hs : s < 4294967296) (hb : b < 256) (h : step r b = step s b) : r = s :=
  xor_cancel (lfn_inj 8 (Nat.xor_lt_two_pow (n := 32) hr (by omega)) (Nat.xor_lt_two_pow (n := 32) hs (by omega)) h)
theorem run_inj {l : List Nat} : ∀ {r s : Nat}, r < 4294967296 → s < 4294967296 → (∀ b ∈ l, b < 256) → run r l = run s l → r = s := by
  induction l with
  | nil => intro r s _ _ _ h; exact h
  | cons b l ih =>
    intro r s hr hs hl h
    have hb := hl b (by simp)
    exact step_inj hr hs hb (ih (step_lt hr hb) (step_lt hs hb) (fun c hc => hl c (by simp [hc])) h)
theorem run_append (r : Nat) (l m : List Nat) : run r (l ++ m) = run (run r l) m := by simp [run]
theorem run_snoc (r : Nat) (l : List Nat) (b : Nat) : run r (l ++ [b]) = step (run r l) b := by simp [run]

theorem flip_flip {x : Nat} (h : x < 4294967296) : flip (flip x) = x := by unfold flip; omega
theorem flip_lt (x : Nat) : flip x < 4294967296 := by unfold flip; omega
theorem flip_inj {x y : Nat} (hx : x < 4294967296) (hy : y < 4294967296) (h : flip x = flip y) : x = y := by unfold flip at h; omega
theorem more_lt (s : Nat) (l : List Nat) : more s l < 4294967296 := flip_lt _

theorem more_append {s : Nat} {l m : List Nat} (hl : ∀ b ∈ l, b < 256) : more (more s l) m = more s (l ++ m) := by
  unfold more
  rw [flip_flip (run_lt (flip_lt _) hl), run_append]

/-- One byte that is another: another sum. -/
theorem more_byte {s : Nat} {l m : List Nat} {b c : Nat} (hl : ∀ b ∈ l, b < 256) (hm : ∀ b ∈ m, b < 256) (hb : b < 256) (hc : c < 256) (h : more s (l ++ b :: m) = more s (l ++ c :: m)) : b = c := by
  unfold more at h
  have hr : run (flip s) l < 4294967296 := run_lt (flip_lt _) hl
  have e : ∀ d, run (flip s) (l ++ d :: m) = run (step (run (flip s) l) d) m := fun d => by rw [run_append]; rfl
  rw [e, e] at h
  have h1 := flip_inj (run_lt (step_lt hr hb) hm) (run_lt (step_lt hr hc) hm) h
  have h2 := run_inj (step_lt hr hb) (step_lt hr hc) hm h1
  unfold step at h2
  exact xor_cancel_left (lfn_inj 8 (Nat.xor_lt_two_pow (n := 32) hr (by omega)) (Nat.xor_lt_two_pow (n := 32) hr (by omega)) h2)
end Go.Proofs.Ytjofpjioaiamhaa.Crc
