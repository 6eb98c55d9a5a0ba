/- FrameExact: the document's reading of a record and the program's tell the same: plain. -/
import Derived.Test.YtjofpjioaiamhaaScan
namespace Go.Proofs.Ytjofpjioaiamhaa

/-- What the document refuses of a head. -/
def badHead (m : List Nat) : Prop := m[0]?.getD 0 ≠ 199 ∨ m[3]?.getD 0 + 256 * m[4]?.getD 0 ≠ 65535 - getN m ∨ 65526 < getN m ∨ m[5]?.getD 0 ≠ 1
theorem badHead_iff {m : List Nat} (hb : ∀ b ∈ m, b < 256) (h : 10 ≤ m.length) : (65526 < getN m ∨ m.take 6 ≠ headL (getN m)) ↔ badHead m := by
  match m, h with
  | a :: b :: c :: d :: e :: f :: r, _ =>
    have hbb : b < 256 := hb b (by simp)
    have hcc : c < 256 := hb c (by simp)
    have hdd : d < 256 := hb d (by simp)
    have hee : e < 256 := hb e (by simp)
    have hN : getN (a :: b :: c :: d :: e :: f :: r) = b + 256 * c := rfl
    unfold badHead
    rw [hN]
    simp only [List.take_succ_cons, List.take_zero, headL, ne_eq, List.cons.injEq, and_true, List.getElem?_cons_zero, List.getElem?_cons_succ, Option.getD_some]
    omega
theorem getN_lt {m : List Nat} (hb : ∀ b ∈ m, b < 256) : getN m ≤ 65535 := by
  have h1 := bytes_getD hb 1
  have h2 := bytes_getD hb 2
  unfold getN
  omega
/-- What the document answers. -/
theorem unpF_doc {m : List Nat} (hb : ∀ b ∈ m, b < 256) (h : 10 ≤ m.length) : (badHead m → unpF m = (63, 0, [])) ∧
    (¬ badHead m → (getN m ≤ 65526 ∧ (m.length < 10 + getN m → unpF m = (62, 0, [])) ∧
      (10 + getN m ≤ m.length → (Crc.more 0 (headL (getN m) ++ (m.drop 10).take (getN m)) ≠ getS m → unpF m = (64, 0, [])) ∧
        (Crc.more 0 (headL (getN m) ++ (m.drop 10).take (getN m)) = getS m → unpF m = (0, 10 + getN m, (m.drop 10).take (getN m)))))) := by
  have hi := badHead_iff hb h
  constructor
  · intro hh
    unfold unpF
    rw [if_neg (by omega), if_pos (hi.2 hh)]
  · intro hh
    have h1 : ¬ (65526 < getN m ∨ m.take 6 ≠ headL (getN m)) := fun e => hh (hi.1 e)
    have h2 : getN m ≤ 65526 := by
      rcases Nat.lt_or_ge 65526 (getN m) with h3 | h3
      · exact absurd (.inl h3) h1
      · exact h3
    have h3 : m.take 6 = headL (getN m) := by
      rcases Decidable.em (m.take 6 = headL (getN m)) with h3 | h3
      · exact h3
      · exact absurd (.inr h3) h1
    refine ⟨h2, fun h4 => ?_, fun h4 => ⟨fun h5 => ?_, fun h5 => ?_⟩⟩
    · unfold unpF
      rw [if_neg (by omega), if_neg h1, if_pos h4]
    · unfold unpF
      rw [if_neg (by omega), if_neg h1, if_neg (by omega), h3, if_pos h5]
    · unfold unpF
      rw [if_neg (by omega), if_neg h1, if_neg (by omega), h3, if_neg (by rw [h5]; exact fun e => e rfl)]
/-- The document's End: it stops at the end, or where none stands. -/
theorem endDoc {l : List Nat} {pre : List (Nat × List Nat)} {p : Nat} (h : Recs l pre p) : (p = l.length → endAns l = (p, 0)) ∧ (p < l.length → (unpF (l.drop p)).1 ≠ 0 → endAns l = (p, (unpF (l.drop p)).1)) := by
  constructor
  · intro hp
    have h1 : (unpF (l.drop p)).1 ≠ 0 := by rw [hp, List.drop_length]; decide
    have h2 := (h.all h1).2
    unfold endAns
    rw [← h2, if_pos hp]
  · intro hp he
    have h2 := (h.all he).2
    unfold endAns
    rw [← h2, if_neg (by omega)]
/-- The mark of the k-th byte of the n-th list. -/
def markF (n k : Nat) : Nat := ((k + 1) * (2 * n + 3) + n * 89 + k / 251) % 256
def markL (n m : Nat) : List Nat := (List.range m).map (markF n)
theorem markL_length (n m : Nat) : (markL n m).length = m := by simp [markL]
theorem markL_at (n m k : Nat) (h : k < m) : (markL n m)[k]? = some (markF n k) := by simp [markL, h]
theorem markL_lt (n m : Nat) : ∀ x ∈ markL n m, x < 256 := fun x hx => by
  obtain ⟨k, _, rfl⟩ := List.mem_map.1 hx
  exact Nat.mod_lt _ (by decide)
theorem markL_succ (n m : Nat) : markL n m ++ [markF n m] = markL n (m + 1) := by simp [markL, List.range_succ]
theorem markL_take (n : Nat) {m k : Nat} (h : k ≤ m) : (markL n m).take k = markL n k := by
  unfold markL
  rw [← List.map_take, List.take_range, Nat.min_eq_left h]
end Go.Proofs.Ytjofpjioaiamhaa
