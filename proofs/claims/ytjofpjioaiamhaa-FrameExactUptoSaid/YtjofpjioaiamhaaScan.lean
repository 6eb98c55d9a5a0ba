/- Records one behind the other: plain facts. -/
import Derived.Test.YtjofpjioaiamhaaTurn
namespace Go.Proofs.Ytjofpjioaiamhaa

/-- The records from the beginning up to a place. -/
inductive Recs (l : List Nat) : List (Nat × List Nat) → Nat → Prop
  | nil : Recs l [] 0
  | snoc {pre : List (Nat × List Nat)} {p : Nat} : Recs l pre p → (unpF (l.drop p)).1 = 0 → Recs l (pre ++ [(p, (unpF (l.drop p)).2.2)]) (p + (unpF (l.drop p)).2.1)

theorem unpF_size {m : List Nat} (h : (unpF m).1 = 0) : (unpF m).2.1 = 10 + (unpF m).2.2.length ∧ 10 + (unpF m).2.2.length ≤ m.length ∧ (unpF m).2.2.length ≤ 65526 := by
  obtain ⟨h1, h2, h3, h4, h5⟩ := unpF_ok h
  have hl : ((m.drop 10).take (getN m)).length = getN m := by rw [List.length_take, List.length_drop]; omega
  rw [unpF_of h1 h2 h3 h4 h5]
  show 10 + getN m = 10 + ((m.drop 10).take (getN m)).length ∧ 10 + ((m.drop 10).take (getN m)).length ≤ m.length ∧ ((m.drop 10).take (getN m)).length ≤ 65526
  omega
theorem Recs.le {l : List Nat} {pre : List (Nat × List Nat)} {p : Nat} (h : Recs l pre p) : p ≤ l.length ∧ 10 * pre.length ≤ p := by
  induction h with
  | nil => simp
  | snoc h he ih =>
    obtain ⟨h1, h2, _⟩ := unpF_size he
    rw [List.length_drop] at h2
    simp only [List.length_append, List.length_cons, List.length_nil]
    omega

def goF (l : List Nat) : Nat → Nat → List (Nat × List Nat) × Nat
  | 0, p => ([], p)
  | f + 1, p => if (unpF (l.drop p)).1 = 0 then ((p, (unpF (l.drop p)).2.2) :: (goF l f (p + (unpF (l.drop p)).2.1)).1, (goF l f (p + (unpF (l.drop p)).2.1)).2) else ([], p)
def allL (l : List Nat) : List (Nat × List Nat) := (goF l (l.length + 1) 0).1
def endL (l : List Nat) : Nat := (goF l (l.length + 1) 0).2

theorem Recs.go {l : List Nat} {pre : List (Nat × List Nat)} {p : Nat} (h : Recs l pre p) : ∀ f, goF l (pre.length + f) 0 = (pre ++ (goF l f p).1, (goF l f p).2) := by
  induction h with
  | nil => intro f; simp
  | @snoc pre p h he ih =>
    intro f
    have h1 := ih (f + 1)
    rw [show (pre ++ [(p, (unpF (l.drop p)).2.2)]).length + f = pre.length + (f + 1) by simp; omega, h1]
    simp [goF, he]
theorem Recs.all {l : List Nat} {pre : List (Nat × List Nat)} {p : Nat} (h : Recs l pre p) (he : (unpF (l.drop p)).1 ≠ 0) : pre = allL l ∧ p = endL l := by
  have h1 := h.le
  have h2 := h.go (l.length + 1 - pre.length)
  rw [show pre.length + (l.length + 1 - pre.length) = l.length + 1 by omega] at h2
  obtain ⟨f, hf⟩ : ∃ f, l.length + 1 - pre.length = f + 1 := ⟨l.length - pre.length, by omega⟩
  have h3 : goF l (l.length + 1 - pre.length) p = ([], p) := by rw [hf]; simp [goF, he]
  rw [h3] at h2
  simp at h2
  exact ⟨by rw [allL, h2], by rw [endL, h2]⟩
theorem goF_end (l : List Nat) : ∀ f p, p ≤ l.length → l.length < p + f → (unpF (l.drop (goF l f p).2)).1 ≠ 0 ∧ (goF l f p).2 ≤ l.length := by
  intro f
  induction f with
  | zero => intro p h1 h2; omega
  | succ f ih =>
    intro p h1 h2
    unfold goF
    split
    · rename_i he
      obtain ⟨h3, h4, _⟩ := unpF_size he
      rw [List.length_drop] at h4
      exact ih _ (by omega) (by omega)
    · exact ⟨by assumption, h1⟩
theorem endL_bad (l : List Nat) : (unpF (l.drop (endL l))).1 ≠ 0 ∧ endL l ≤ l.length := goF_end l _ 0 (by omega) (by omega)
theorem goF_recs (l : List Nat) : ∀ f p pre, Recs l pre p → Recs l (pre ++ (goF l f p).1) (goF l f p).2 := by
  intro f
  induction f with
  | zero => intro p pre h; simpa [goF] using h
  | succ f ih =>
    intro p pre h
    unfold goF
    split
    · rename_i he
      have := ih _ _ (h.snoc he)
      simpa using this
    · simpa using h
theorem allL_recs (l : List Nat) : Recs l (allL l) (endL l) := by
  have := goF_recs l (l.length + 1) 0 [] .nil
  simpa [allL, endL] using this
/-- What End says. -/
def endAns (l : List Nat) : Nat × Nat := (endL l, if endL l = l.length then 0 else (unpF (l.drop (endL l))).1)
theorem Recs.last {l : List Nat} {pre : List (Nat × List Nat)} {p : Nat} (h : Recs l pre p) : p = match pre.getLast? with | none => 0 | some x => x.1 + 10 + x.2.length := by
  cases h with
  | nil => rfl
  | snoc h he =>
    have := (unpF_size he).1
    simp
    omega

/-- A record that is cut short. -/
theorem unpF_cut (l : List Nat) (n : Nat) (hl : l.length ≤ 65526) (hn : n < l.length + 10) : (unpF ((recL l).take n)).1 ≠ 0 := by
  intro h
  obtain ⟨h1, h2, h3, h4, h5⟩ := unpF_ok h
  have hlen : ((recL l).take n).length = n := by rw [List.length_take, recL_length]; omega
  rw [hlen] at h1 h4
  have hN : getN ((recL l).take n) = getN (recL l ++ []) := by
    rw [List.append_nil]
    unfold getN
    rw [List.getElem?_take_of_lt (by omega), List.getElem?_take_of_lt (by omega)]
  have hrec := unpF_rec l [] hl
  obtain ⟨g1, g2, g3, g4, g5⟩ := unpF_ok (by rw [hrec])
  have h6 := unpF_of g1 g2 g3 g4 g5
  rw [hrec] at h6
  simp only [Prod.mk.injEq, true_and] at h6
  omega
theorem endAns_bad {l : List Nat} (h : (unpF l).1 ≠ 0) : endAns l = (0, if l.length = 0 then 0 else (unpF l).1) := by
  have h1 : endL l = 0 := by unfold endL goF; simp [h]
  unfold endAns
  rw [h1]
  simp [eq_comm]
end Go.Proofs.Ytjofpjioaiamhaa
