/- Records one behind the other, put so: plain facts. -/
import Derived.Test.YtjofpjioaiamhaaScan
namespace Go.Proofs.Ytjofpjioaiamhaa

def cat (ls : List (List Nat)) : List Nat := ls.flatMap recL
def pos (ls : List (List Nat)) (k : Nat) : Nat := (cat (ls.take k)).length
def recE (ls : List (List Nat)) (k : Nat) : List (Nat × List Nat) := (List.range k).map fun i => (pos ls i, ls[i]?.getD [])

theorem take_one {α : Type} {d : α} {ls : List α} {k : Nat} (h : k < ls.length) : ls.take (k + 1) = ls.take k ++ [ls[k]?.getD d] := by
  rw [List.take_add_one, List.getElem?_eq_getElem h]
  rfl
theorem cat_append (a b : List (List Nat)) : cat (a ++ b) = cat a ++ cat b := by simp [cat]
theorem cat_succ {ls : List (List Nat)} {k : Nat} (h : k < ls.length) : cat (ls.take (k + 1)) = cat (ls.take k) ++ recL (ls[k]?.getD []) := by
  rw [take_one (d := []) h, cat_append]
  simp [cat]
theorem pos_zero (ls : List (List Nat)) : pos ls 0 = 0 := by simp [pos, cat]
theorem pos_succ {ls : List (List Nat)} {k : Nat} (h : k < ls.length) : pos ls (k + 1) = pos ls k + ((ls[k]?.getD []).length + 10) := by
  unfold pos
  rw [cat_succ h, List.length_append, recL_length]
theorem pos_step {ls : List (List Nat)} (k : Nat) : pos ls k ≤ pos ls (k + 1) := by
  rcases Nat.lt_or_ge k ls.length with h | h
  · rw [pos_succ h]; omega
  · unfold pos
    rw [List.take_of_length_le h, List.take_of_length_le (by omega)]
    exact Nat.le_refl _
theorem pos_mono {ls : List (List Nat)} {k m : Nat} (h : k ≤ m) : pos ls k ≤ pos ls m := by
  induction m with
  | zero => have : k = 0 := by omega
            subst this; exact Nat.le_refl _
  | succ m ih =>
    rcases Nat.lt_or_ge k (m + 1) with h1 | h1
    · exact Nat.le_trans (ih (by omega)) (pos_step m)
    · have : k = m + 1 := by omega
      subst this; exact Nat.le_refl _
theorem pos_ten {ls : List (List Nat)} {k : Nat} (h : k ≤ ls.length) : 10 * k ≤ pos ls k := by
  induction k with
  | zero => simp
  | succ k ih =>
    have := ih (by omega)
    rw [pos_succ (by omega)]
    omega
theorem cat_drop {ls : List (List Nat)} {k : Nat} (h : k < ls.length) : (cat ls).drop (pos ls k) = recL (ls[k]?.getD []) ++ cat (ls.drop (k + 1)) := by
  have e : ls = ls.take k ++ (ls[k]?.getD [] :: ls.drop (k + 1)) := by
    rw [List.getElem?_eq_getElem h, Option.getD_some, ← List.drop_eq_getElem_cons h, List.take_append_drop]
  have e2 : cat ls = cat (ls.take k) ++ (recL (ls[k]?.getD []) ++ cat (ls.drop (k + 1))) := by
    have h3 : cat (ls[k]?.getD [] :: ls.drop (k + 1)) = recL (ls[k]?.getD []) ++ cat (ls.drop (k + 1)) := by simp [cat]
    rw [← h3, ← cat_append, ← e]
  rw [e2, pos, List.drop_left]
theorem cat_all (ls : List (List Nat)) : pos ls ls.length = (cat ls).length := by simp [pos]
theorem unp_cat {ls : List (List Nat)} {k : Nat} (h : k < ls.length) (h2 : (ls[k]?.getD []).length ≤ 65526) : unpF ((cat ls).drop (pos ls k)) = (0, (ls[k]?.getD []).length + 10, ls[k]?.getD []) := by
  rw [cat_drop h]
  exact unpF_rec _ _ h2
theorem unp_nil : (unpF []).1 ≠ 0 := by decide
theorem unp_end (ls : List (List Nat)) : (unpF ((cat ls).drop (pos ls ls.length))).1 ≠ 0 := by
  rw [cat_all, List.drop_length]
  exact unp_nil
theorem recs_cat {ls : List (List Nat)} (hs : ∀ i : Nat, i < ls.length → (ls[i]?.getD []).length ≤ 65526) {k : Nat} (h : k ≤ ls.length) : Recs (cat ls) (recE ls k) (pos ls k) := by
  induction k with
  | zero => rw [pos_zero]; exact .nil
  | succ k ih =>
    have h1 := ih (by omega)
    have h2 := unp_cat (ls := ls) (k := k) (by omega) (hs k (by omega))
    have h3 := h1.snoc (by rw [h2])
    rw [h2] at h3
    rw [pos_succ (by omega), show (ls[k]?.getD []).length + 10 = (ls[k]?.getD []).length + 10 from rfl]
    have e : recE ls (k + 1) = recE ls k ++ [(pos ls k, ls[k]?.getD [])] := by simp [recE, List.range_succ]
    rw [e]
    exact h3
theorem all_cat {ls : List (List Nat)} (hs : ∀ i : Nat, i < ls.length → (ls[i]?.getD []).length ≤ 65526) : allL (cat ls) = recE ls ls.length ∧ endL (cat ls) = (cat ls).length := by
  obtain ⟨h1, h2⟩ := (recs_cat hs (Nat.le_refl _)).all (unp_end ls)
  exact ⟨h1.symm, by rw [← h2, cat_all]⟩
theorem end_cat {ls : List (List Nat)} (hs : ∀ i : Nat, i < ls.length → (ls[i]?.getD []).length ≤ 65526) : endAns (cat ls) = ((cat ls).length, 0) := by
  unfold endAns
  rw [(all_cat hs).2]
  simp
theorem Recs.uniq {l : List Nat} {pre : List (Nat × List Nat)} {p q : Nat} (h : Recs l pre p) (h2 : Recs l pre q) : p = q := h.last.trans h2.last.symm
/-- What a round meets: the next record. -/
theorem recs_next {ls : List (List Nat)} (hs : ∀ i : Nat, i < ls.length → (ls[i]?.getD []).length ≤ 65526) {k p : Nat} (hk : k ≤ ls.length) (h : Recs (cat ls) (recE ls k) p) (ho : (unpF ((cat ls).drop p)).1 = 0) :
    k < ls.length ∧ p = pos ls k ∧ (unpF ((cat ls).drop p)).2.2 = ls[k]?.getD [] := by
  have e := h.uniq (recs_cat hs hk)
  subst e
  have hlt : k < ls.length := by
    rcases Nat.lt_or_ge k ls.length with h1 | h1
    · exact h1
    · exfalso
      have : k = ls.length := by omega
      subst this
      exact unp_end ls ho
  exact ⟨hlt, rfl, by rw [unp_cat hlt (hs k hlt)]⟩
theorem recE_succ (ls : List (List Nat)) (k : Nat) : recE ls (k + 1) = recE ls k ++ [(pos ls k, ls[k]?.getD [])] := by simp [recE, List.range_succ]
theorem recE_len (ls : List (List Nat)) (k : Nat) : (recE ls k).length = k := by simp [recE]
theorem cat_bytes {ls : List (List Nat)} (hb : ∀ i : Nat, ∀ b ∈ ls[i]?.getD [], b < 256) (hs : ∀ i : Nat, i < ls.length → (ls[i]?.getD []).length ≤ 65526) : ∀ b ∈ cat ls, b < 256 := by
  intro b hm
  obtain ⟨r, hr, hm⟩ := List.mem_flatMap.1 hm
  obtain ⟨i, hi, rfl⟩ := List.mem_iff_getElem.1 hr
  have h1 := hs i hi
  have h2 := hb i
  rw [List.getElem?_eq_getElem hi, Option.getD_some] at h1 h2
  exact recL_bytes h2 h1 b hm
/-- A record behind other bytes. -/
theorem unp_long {ls : List (List Nat)} (z : List Nat) {k : Nat} (h : k < ls.length) (h2 : (ls[k]?.getD []).length ≤ 65526) : unpL (z ++ cat ls) ((z.length : Int) + (pos ls k : Nat)) = (0, (ls[k]?.getD []).length + 10, ls[k]?.getD []) := by
  have hle : pos ls k ≤ (cat ls).length := by rw [← cat_all]; exact pos_mono (by omega)
  unfold unpL
  rw [if_neg (by rw [List.length_append]; omega)]
  have e : ((z.length : Int) + (pos ls k : Nat)).toNat = z.length + pos ls k := by omega
  rw [e, ← List.drop_drop, List.drop_left, unp_cat h h2]
end Go.Proofs.Ytjofpjioaiamhaa
