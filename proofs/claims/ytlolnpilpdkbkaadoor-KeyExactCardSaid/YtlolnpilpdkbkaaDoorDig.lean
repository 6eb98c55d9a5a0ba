/- The digest of a list of bytes: the plain law. -/
import Derived.Test.YtlolnpilpdkbkaaDoorStart
import Derived.Test.YtlolnpilpdkbkaaDoorTail
namespace Go.Proofs.YtlolnpilpdkbkaaDoor
open Go.RowKit

/-- Block number k of a list. -/
def blk (M : List Nat) (k : Nat) : List Nat := (M.drop (64 * k)).take 64
/-- The state behind k blocks. -/
def foldB (ks M : List Nat) : Nat → List Nat
  | 0 => startL
  | k + 1 => Sha.blockL ks (foldB ks M k) (blk M k)
theorem blockL_length (ks s b : List Nat) : (Sha.blockL ks s b).length = 8 := by simp [Sha.blockL]
theorem blockL_lt (ks s b : List Nat) : ∀ x ∈ Sha.blockL ks s b, x < 4294967296 := by
  intro x hx
  simp only [Sha.blockL, List.mem_map] at hx
  obtain ⟨j, _, rfl⟩ := hx
  exact Nat.mod_lt _ (by decide)
theorem foldB_length (ks M : List Nat) (k : Nat) : (foldB ks M k).length = 8 := by
  cases k with
  | zero => rfl
  | succ k => exact blockL_length _ _ _
theorem startL_lt : ∀ x ∈ startL, x < 4294967296 := by decide
theorem foldB_lt (ks M : List Nat) (k : Nat) : ∀ x ∈ foldB ks M k, x < 4294967296 := by
  cases k with
  | zero => exact startL_lt
  | succ k => exact blockL_lt _ _ _
theorem blk_length {M : List Nat} {k : Nat} (h : 64 * k + 64 ≤ M.length) : (blk M k).length = 64 := by simp [blk]; omega
theorem blk_append {m b : List Nat} {k : Nat} (h : 64 * k + 64 ≤ m.length) : blk (m ++ b) k = blk m k := by
  unfold blk
  rw [List.drop_append_of_le_length (by omega), List.take_append_of_le_length (by simp; omega)]
theorem blk_lt {M : List Nat} (h : ∀ x ∈ M, x < 256) (k : Nat) : ∀ x ∈ blk M k, x < 256 := fun x hx => h x (List.mem_of_mem_drop (List.mem_of_mem_take hx))
theorem foldB_append (ks : List Nat) {m b : List Nat} {k : Nat} (h : 64 * k ≤ m.length) : foldB ks (m ++ b) k = foldB ks m k := by
  induction k with
  | zero => rfl
  | succ k ih => rw [foldB, foldB, ih (by omega), blk_append (by omega)]
/-- All that is hashed: the bytes and the tail behind them. -/
def padded (m : List Nat) : List Nat := m ++ tailOf m.length
theorem padded_length (m : List Nat) : (padded m).length % 64 = 0 := by
  simp only [padded, List.length_append, tailOf_length, noughts]
  omega
/-- The bytes of eight words. -/
def wordBytes (st : List Nat) : List Nat := (List.range 32).map fun i => st[i / 4]?.getD 0 / 256 ^ (3 - i % 4) % 256
theorem wordBytes_length (st : List Nat) : (wordBytes st).length = 32 := by simp [wordBytes]
theorem wordBytes_lt (st : List Nat) : ∀ x ∈ wordBytes st, x < 256 := by
  intro x hx
  simp only [wordBytes, List.mem_map] at hx
  obtain ⟨j, _, rfl⟩ := hx
  exact Nat.mod_lt _ (by decide)
/-- The digest. -/
def digest (ks m : List Nat) : List Nat := wordBytes (foldB ks (padded m) ((padded m).length / 64))
theorem digest_length (ks m : List Nat) : (digest ks m).length = 32 := wordBytes_length _
theorem digest_lt (ks m : List Nat) : ∀ x ∈ digest ks m, x < 256 := wordBytes_lt _
theorem bitByte_lt (n i : Nat) : bitByte n i < 256 := Nat.mod_lt _ (by decide)
theorem tailOf_lt (n : Nat) : ∀ x ∈ tailOf n, x < 256 := by
  intro x hx
  simp only [tailOf, tailL, tailTo, List.mem_append, List.mem_cons, List.mem_map] at hx
  rcases hx with (rfl | h) | ⟨j, _, rfl⟩
  · decide
  · have := (List.mem_replicate.1 h).2
    omega
  · exact bitByte_lt _ _
theorem padded_lt {m : List Nat} (h : ∀ x ∈ m, x < 256) : ∀ x ∈ padded m, x < 256 := by
  intro x hx
  rcases List.mem_append.1 hx with h' | h'
  · exact h x h'
  · exact tailOf_lt _ x h'
/-- The bytes, i of them laid. -/
def bytesTo (st : List Nat) (i : Nat) : List Nat := (wordBytes st).take i ++ zerW (32 - i)
theorem bytesTo_length (st : List Nat) {i : Nat} (h : i ≤ 32) : (bytesTo st i).length = 32 := by simp [bytesTo, wordBytes_length, zerW]; omega
theorem bytesTo_all (st : List Nat) : bytesTo st 32 = wordBytes st := by
  have h : (wordBytes st).take 32 = wordBytes st := List.take_of_length_le (Nat.le_of_eq (wordBytes_length st))
  simp [bytesTo, zerW, h]
theorem bytesTo_set (st : List Nat) {i : Nat} (h : i < 32) : (bytesTo st i).set i (st[i / 4]?.getD 0 / 256 ^ (3 - i % 4) % 256) = bytesTo st (i + 1) := by
  unfold bytesTo zerW
  have hl := wordBytes_length st
  rw [List.set_append_right _ _ (by simp [hl]; omega), List.length_take, hl, Nat.min_eq_left (by omega), Nat.sub_self]
  obtain ⟨m, hm⟩ : ∃ m, 32 - i = m + 1 := ⟨31 - i, by omega⟩
  rw [hm, List.replicate_succ, show 32 - (i + 1) = m by omega, List.take_succ_eq_append_getElem (by omega), List.set_cons_zero, List.append_assoc]
  congr 2
  simp [wordBytes]
end Go.Proofs.YtlolnpilpdkbkaaDoor
