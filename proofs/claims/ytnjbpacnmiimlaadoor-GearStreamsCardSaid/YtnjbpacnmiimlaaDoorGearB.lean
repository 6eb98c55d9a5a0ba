/- Lists that are cut alike: behind a cut that both have, and as long as they begin alike. Plain Lean. No program is named here. -/
import Derived.Test.YtnjbpacnmiimlaaDoorGearP
namespace Go.Proofs.YtnjbpacnmiimlaaDoor
namespace Gear

theorem cut_pos {a m x : Int} : ∀ (k : Nat) (l : List Nat), l.length ≤ k → ∀ y ∈ cut a m x l, 0 < y
  | 0, l, h, y, hy => by
    rw [List.length_eq_zero_iff.1 (Nat.le_zero.1 h), cut_nil] at hy
    cases hy
  | k + 1, l, h, y, hy => by
    by_cases ok : okRule a m x
    · by_cases hl : l = []
      · rw [hl, cut_nil] at hy; cases hy
      · have h1 := (scan_le a m x l 0 0).2.2 hl
        rw [cut_step ok hl, List.mem_cons] at hy
        rcases hy with rfl | hy
        · exact h1
        · exact cut_pos k _ (by simp; omega) y hy
    · rw [cut_no ok] at hy; cases hy
theorem cut_sum {a m x : Int} (ok : okRule a m x) : ∀ (k : Nat) (l : List Nat), l.length ≤ k → (cut a m x l).sum = l.length
  | 0, l, h => by rw [List.length_eq_zero_iff.1 (Nat.le_zero.1 h), cut_nil]; rfl
  | k + 1, l, h => by
    by_cases hl : l = []
    · rw [hl, cut_nil]; rfl
    · have h1 := (scan_le a m x l 0 0)
      have h2 := h1.2.2 hl
      rw [cut_step ok hl, List.sum_cons, cut_sum ok k _ (by simp; omega), List.length_drop]
      omega
/-- Behind the first i pieces they are the pieces of what is left. -/
theorem cut_drop {a m x : Int} (ok : okRule a m x) : ∀ (i : Nat) (l : List Nat), (cut a m x l).drop i = cut a m x (l.drop ((cut a m x l).take i).sum)
  | 0, l => by simp
  | i + 1, l => by
    by_cases hl : l = []
    · rw [hl, cut_nil]; simp [cut_nil]
    · rw [cut_step ok hl]
      simp only [List.drop_succ_cons, List.take_succ_cons, List.sum_cons]
      rw [cut_drop ok i, List.drop_drop]
theorem sum_le_of_take (l : List Nat) (i : Nat) : (l.take i).sum + (l.drop i).sum = l.sum := by
  conv => rhs; rw [← List.take_append_drop i l]
  rw [List.sum_append]

/-- A piece that is not the last one ended. -/
theorem cut_get {a m x : Int} (ok : okRule a m x) (l : List Nat) (i : Nat) (hi : i < (cut a m x l).length) :
    (cut a m x l)[i]? = some (scan a m x 0 0 (l.drop ((cut a m x l).take i).sum)).1 ∧ (i + 1 < (cut a m x l).length → (scan a m x 0 0 (l.drop ((cut a m x l).take i).sum)).2 = true) := by
  have h := cut_drop ok i l
  have hne : l.drop ((cut a m x l).take i).sum ≠ [] := by
    intro e
    rw [e, cut_nil] at h
    have := congrArg List.length h
    simp at this
    omega
  rw [cut_step ok hne] at h
  constructor
  · have := congrArg (fun t => t[0]?) h
    simpa using this
  · intro h2
    rcases hs : (scan a m x 0 0 (l.drop ((cut a m x l).take i).sum)).2 with _ | _
    · have h3 := scan_false _ _ _ _ _ _ hs
      rw [Nat.zero_add] at h3
      rw [h3, List.drop_length, cut_nil] at h
      have := congrArg List.length h
      simp at this
      omega
    · rfl
theorem sum_take_snoc {l : List Nat} {i y : Nat} (h : l[i]? = some y) : (l.take (i + 1)).sum = (l.take i).sum + y := by
  rw [List.take_add_one, h]
  simp
theorem take_drop_take {l : List Nat} {p q n : Nat} (h : p + n ≤ q) : (l.drop p).take n = ((l.take q).drop p).take n := by
  apply List.ext_getElem?
  intro i
  simp only [List.getElem?_take, List.getElem?_drop]
  by_cases h1 : i < n
  · rw [if_pos h1, if_pos h1, if_pos (by omega)]
  · rw [if_neg h1, if_neg h1]
theorem scan_pre {a m x : Int} {l : List Nat} {n h : Nat} (hs : (scan a m x n h l).2 = true) : scan a m x n h (l.take ((scan a m x n h l).1 - n)) = scan a m x n h l := by
  induction l generalizing n h with
  | nil => simp [scan] at hs
  | cons b t ih =>
    by_cases he : ends a m x (n + 1) (roll h b) = true
    · rw [scan_hit he]
      simp only [show n + 1 - n = 0 + 1 by omega, List.take_succ_cons]
      exact scan_hit he
    · rw [scan_miss he] at hs ⊢
      have h1 := (scan_le a m x t (n + 1) (roll h b)).1
      have h2 := ih hs
      obtain ⟨k, hk⟩ : ∃ k, (scan a m x (n + 1) (roll h b) t).1 = n + 1 + k := ⟨(scan a m x (n + 1) (roll h b) t).1 - (n + 1), by omega⟩
      rw [hk] at h2 ⊢
      rw [show n + 1 + k - (n + 1) = k by omega] at h2
      rw [show n + 1 + k - n = k + 1 by omega, List.take_succ_cons, scan_miss he]
      exact h2
/-- Two lists that begin alike: what is found within is found of both. -/
theorem scan_alike {a m x : Int} {l t : List Nat} (hs : (scan a m x 0 0 l).2 = true) (he : l.take (scan a m x 0 0 l).1 = t.take (scan a m x 0 0 l).1) : scan a m x 0 0 t = scan a m x 0 0 l := by
  have h := scan_pre hs
  rw [Nat.sub_zero, he] at h
  have h2 := scan_app a m x (t.take (scan a m x 0 0 l).1) (t.drop (scan a m x 0 0 l).1) 0 0 (by rw [h]; exact hs)
  rw [List.take_append_drop, h] at h2
  exact h2

/-- As long as they begin alike. -/
theorem ahead_ok {a m x : Int} (ok : okRule a m x) (A B : List Nat) (p i : Nat) (hp : A.take p = B.take p) (hi : i + 1 < (cut a m x A).length) (hj : i + 1 < (cut a m x B).length)
    (he : (cut a m x A).take i = (cut a m x B).take i) {u v : Nat} (hu : (cut a m x A)[i]? = some u) (hv : (cut a m x B)[i]? = some v) (h : ((cut a m x A).take i).sum + u ≤ p ∨ ((cut a m x A).take i).sum + v ≤ p) : u = v := by
  obtain ⟨g1, f1⟩ := cut_get ok A i (by omega)
  obtain ⟨g2, f2⟩ := cut_get ok B i (by omega)
  have f1 := f1 hi
  have f2 := f2 hj
  rw [← he] at g2 f2
  rw [hu] at g1
  rw [hv] at g2
  have g1 := Option.some.inj g1
  have g2 := Option.some.inj g2
  rcases h with h | h
  · have := scan_alike (t := B.drop ((cut a m x A).take i).sum) f1 (by rw [← g1, take_drop_take h, hp, ← take_drop_take h])
    rw [g1, g2, this]
  · have := scan_alike (t := A.drop ((cut a m x A).take i).sum) f2 (by rw [← g2, take_drop_take h, ← hp, ← take_drop_take h])
    rw [g1, g2, this]

/-- A place that is a cut of both within their common end: they are cut alike from there on. -/
theorem behind_ok {a m x : Int} (ok : okRule a m x) (A B T : List Nat) (i k : Nat)
    (hs : ((cut a m x (A ++ T)).drop i).sum = ((cut a m x (B ++ T)).drop k).sum) (hT : ((cut a m x (A ++ T)).drop i).sum ≤ T.length) : (cut a m x (A ++ T)).drop i = (cut a m x (B ++ T)).drop k := by
  have e1 := cut_drop ok i (A ++ T)
  have e2 := cut_drop ok k (B ++ T)
  have s1 := sum_le_of_take (cut a m x (A ++ T)) i
  have s2 := sum_le_of_take (cut a m x (B ++ T)) k
  rw [cut_sum ok _ _ (Nat.le_refl _), List.length_append] at s1 s2
  rw [e1, e2]
  rw [hs] at s1 hT
  have d1 : A.length ≤ ((cut a m x (A ++ T)).take i).sum := by omega
  have d2 : B.length ≤ ((cut a m x (B ++ T)).take k).sum := by omega
  rw [List.drop_append, List.drop_append, List.drop_eq_nil_of_le d1, List.drop_eq_nil_of_le d2]
  have e3 : ((cut a m x (A ++ T)).take i).sum - A.length = ((cut a m x (B ++ T)).take k).sum - B.length := by omega
  rw [e3]
end Gear
end Go.Proofs.YtnjbpacnmiimlaaDoor
