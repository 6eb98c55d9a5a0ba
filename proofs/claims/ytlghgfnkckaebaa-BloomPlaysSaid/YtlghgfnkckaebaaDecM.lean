/- What a decoder reckons: plain words. No program is named here. -/
import Derived.Test.YtlghgfnkckaebaaOwn
namespace Go.Proofs.Ytlghgfnkckaebaa

/-- A number off the front: so many further bytes at most, the place of this byte, what has been gathered. The number and how many bytes it had; none: it is wrong. -/
def varG (most : Nat) : Nat → Nat → Nat → List Nat → Option (Nat × Nat)
  | 0, _, _, _ => none
  | _ + 1, _, _, [] => none
  | f + 1, i, v, c :: r =>
    if i = 9 ∧ 1 < c then none
    else if c < 128 then (if (c = 0 ∧ 0 < i) ∨ most < v + c * 128 ^ i then none else some (v + c * 128 ^ i, i + 1))
    else varG most f (i + 1) (v + (c - 128) * 128 ^ i) r
/-- Where a decoder stands; none: it was stopped. -/
abbrev DSt := Option Nat
def varM (l : List Nat) (most : Nat) : DSt → Nat × DSt
  | none => (0, none)
  | some k => match varG most 10 0 0 (l.drop k) with
    | none => (0, none)
    | some (v, n) => (v, some (k + n))
/-- So many bytes. -/
def rawM (l : List Nat) (n : Nat) : DSt → List Nat × DSt
  | none => ([], none)
  | some k => if n ≤ l.length - k then ((l.drop k).take n, some (k + n)) else ([], none)
/-- Bytes as a number, the lowest first. -/
def leN : List Nat → Nat
  | [] => 0
  | c :: r => c + 256 * leN r
def fixM (l : List Nat) (n : Nat) (s : DSt) : Nat × DSt := (leN (rawM l n s).1, (rawM l n s).2)
/-- A text's bytes. -/
def textM (l : List Nat) (most : Nat) (s : DSt) : List Nat × DSt := rawM l (varM l most s).1 (varM l most s).2
theorem rawM_none (l : List Nat) (n : Nat) : rawM l n none = ([], none) := rfl
theorem varM_none (l : List Nat) (most : Nat) : varM l most none = (0, none) := rfl
theorem varG_count (most : Nat) : ∀ (f i v : Nat) (r : List Nat) (x n : Nat), varG most f i v r = some (x, n) → i < n ∧ n ≤ i + r.length ∧ n ≤ i + f
  | 0, _, _, _, _, _, h => by simp [varG] at h
  | _ + 1, _, _, [], _, _, h => by simp [varG] at h
  | f + 1, i, v, c :: r, x, n, h => by
    unfold varG at h
    split at h
    · cases h
    · split at h
      · split at h
        · cases h
        · simp only [Option.some.injEq, Prod.mk.injEq] at h
          simp only [List.length_cons]
          omega
      · have := varG_count most f (i + 1) _ r x n h
        simp only [List.length_cons]
        omega
theorem varG_most (most : Nat) : ∀ (f i v : Nat) (r : List Nat) (x n : Nat), varG most f i v r = some (x, n) → x ≤ most
  | 0, _, _, _, _, _, h => by simp [varG] at h
  | _ + 1, _, _, [], _, _, h => by simp [varG] at h
  | f + 1, i, v, c :: r, x, n, h => by
    unfold varG at h
    split at h
    · cases h
    · split at h
      · split at h
        · cases h
        · simp only [Option.some.injEq, Prod.mk.injEq] at h
          omega
      · exact varG_most most f (i + 1) _ r x n h
theorem varM_most (l : List Nat) (most : Nat) (s : DSt) : (varM l most s).1 ≤ most := by
  unfold varM
  split
  · exact Nat.zero_le _
  · split
    · exact Nat.zero_le _
    · rename_i h
      exact varG_most _ _ _ _ _ _ _ h
def DSt.le (s : DSt) (n : Nat) : Prop := ∀ k, s = some k → k ≤ n
theorem varM_le (l : List Nat) (most : Nat) (s : DSt) (h : s.le l.length) : (varM l most s).2.le l.length := by
  intro j hj
  unfold varM at hj
  split at hj
  · cases hj
  · rename_i k
    have hk := h k rfl
    split at hj
    · cases hj
    · rename_i x n hx
      have := varG_count _ _ _ _ _ _ _ hx
      rw [List.length_drop] at this
      simp only [Option.some.injEq] at hj
      omega
theorem rawM_le (l : List Nat) (n : Nat) (s : DSt) (h : s.le l.length) : (rawM l n s).2.le l.length := by
  intro j hj
  unfold rawM at hj
  split at hj
  · cases hj
  · rename_i k
    have hk := h k rfl
    split at hj
    · simp only [Option.some.injEq] at hj
      omega
    · cases hj
theorem textM_le (l : List Nat) (most : Nat) (s : DSt) (h : s.le l.length) : (textM l most s).2.le l.length := rawM_le _ _ _ (varM_le _ _ _ h)
theorem rawM_length (l : List Nat) (n : Nat) (s : DSt) : (rawM l n s).1.length ≤ n := by
  unfold rawM
  split
  · simp
  · split
    · rw [List.length_take]; omega
    · simp
theorem rawM_full (l : List Nat) (n k j : Nat) (h : (rawM l n (some k)).2 = some j) : (rawM l n (some k)).1 = (l.drop k).take n ∧ j = k + n ∧ n ≤ l.length - k := by
  unfold rawM at h ⊢
  simp only at h ⊢
  by_cases hn : n ≤ l.length - k
  · rw [if_pos hn] at h ⊢
    exact ⟨rfl, by simpa using h.symm, hn⟩
  · rw [if_neg hn] at h
    cases h
theorem leN_lt : ∀ r : List Nat, (∀ x ∈ r, x < 256) → leN r < 256 ^ r.length
  | [], _ => by simp [leN]
  | c :: r, h => by
    have h1 := leN_lt r fun x hx => h x (by simp [hx])
    have h2 := h c (by simp)
    unfold leN
    rw [List.length_cons, Nat.pow_succ]
    omega
theorem leN_append : ∀ (r s : List Nat), leN (r ++ s) = leN r + 256 ^ r.length * leN s
  | [], s => by simp [leN]
  | c :: r, s => by
    simp only [List.cons_append, leN, leN_append r s, List.length_cons, Nat.pow_succ]
    rw [Nat.mul_add, ← Nat.mul_assoc, Nat.mul_comm 256 (256 ^ r.length)]
    omega
end Go.Proofs.Ytlghgfnkckaebaa
