/- Pieces one byte after the other: what is whole, what is held. Plain Lean. No program is named here. -/
import Derived.Test.YtnjbpacnmiimlaaDoorGearB
namespace Go.Proofs.YtnjbpacnmiimlaaDoor
namespace Gear

/-- One byte more: the pieces that are whole, what is held. -/
def put1 (a m x : Int) (s : List (List Nat) × List Nat) (b : Nat) : List (List Nat) × List Nat :=
  if ends a m x (s.2.length + 1) (roll (rolls s.2) b) = true then (s.1 ++ [s.2 ++ [b]], []) else (s.1, s.2 ++ [b])
def puts (a m x : Int) : List (List Nat) × List Nat → List Nat → List (List Nat) × List Nat
  | s, [] => s
  | s, b :: t => puts a m x (put1 a m x s b) t
section
variable {a m x : Int}
theorem puts_app (l t : List Nat) (s : List (List Nat) × List Nat) : puts a m x s (l ++ t) = puts a m x (puts a m x s l) t := by
  induction l generalizing s with
  | nil => rfl
  | cons b r ih => exact ih (put1 a m x s b)
theorem puts_snoc (l : List Nat) (b : Nat) (s : List (List Nat) × List Nat) : puts a m x s (l ++ [b]) = put1 a m x (puts a m x s l) b := puts_app l [b] s
theorem put1_hit {s : List (List Nat) × List Nat} {b : Nat} (h : ends a m x (s.2.length + 1) (roll (rolls s.2) b) = true) : put1 a m x s b = (s.1 ++ [s.2 ++ [b]], []) := if_pos h
theorem put1_miss {s : List (List Nat) × List Nat} {b : Nat} (h : ¬ ends a m x (s.2.length + 1) (roll (rolls s.2) b) = true) : put1 a m x s b = (s.1, s.2 ++ [b]) := if_neg h
theorem puts_front (P : List (List Nat)) (l h : List Nat) : puts a m x (P, h) l = (P ++ (puts a m x ([], h) l).1, (puts a m x ([], h) l).2) := by
  induction l generalizing P h with
  | nil => simp [puts]
  | cons b t ih =>
    rw [puts, puts]
    by_cases he : ends a m x (h.length + 1) (roll (rolls h) b) = true
    · rw [put1_hit (s := (P, h)) he, put1_hit (s := ([], h)) he, ih, ih ([] ++ [h ++ [b]])]
      simp
    · rw [put1_miss (s := (P, h)) he, put1_miss (s := ([], h)) he, ih]
theorem scan_false_snoc {h : List Nat} {b : Nat} (hs : (scan a m x 0 0 h).2 = false) (he : ¬ ends a m x (h.length + 1) (roll (rolls h) b) = true) : (scan a m x 0 0 (h ++ [b])).2 = false := by
  rw [scan_snoc _ _ _ _ _ hs, rolls_snoc]
  simpa using he
theorem puts_scan (l : List Nat) (s : List (List Nat) × List Nat) (hs : (scan a m x 0 0 s.2).2 = false) : (scan a m x 0 0 (puts a m x s l).2).2 = false := by
  induction l generalizing s with
  | nil => exact hs
  | cons b t ih =>
    rw [puts]
    apply ih
    by_cases he : ends a m x (s.2.length + 1) (roll (rolls s.2) b) = true
    · rw [put1_hit he]
      rfl
    · rw [put1_miss he]
      exact scan_false_snoc hs he
theorem puts_flat (l : List Nat) (s : List (List Nat) × List Nat) : (puts a m x s l).1.flatten ++ (puts a m x s l).2 = s.1.flatten ++ s.2 ++ l := by
  induction l generalizing s with
  | nil => simp [puts]
  | cons b t ih =>
    rw [puts, ih]
    by_cases he : ends a m x (s.2.length + 1) (roll (rolls s.2) b) = true
    · rw [put1_hit he]
      simp
    · rw [put1_miss he]
      simp
/-- What is left is a piece too, where it is not empty. -/
def last (h : List Nat) : List (List Nat) := if h = [] then [] else [h]
theorem cut_held (ok : okRule a m x) {h : List Nat} (hs : (scan a m x 0 0 h).2 = false) : cut a m x h = (last h).map List.length := by
  by_cases h0 : h = []
  · rw [h0, cut_nil]
    rfl
  · have h1 := scan_false _ _ _ _ _ _ hs
    rw [Nat.zero_add] at h1
    rw [cut_step ok h0, h1, List.drop_length, cut_nil]
    simp [last, h0]
theorem cut_puts (ok : okRule a m x) (l : List Nat) : ∀ h : List Nat, (scan a m x 0 0 h).2 = false → cut a m x (h ++ l) = ((puts a m x ([], h) l).1 ++ last (puts a m x ([], h) l).2).map List.length := by
  induction l with
  | nil =>
    intro h hs
    rw [List.append_nil, cut_held ok hs]
    rfl
  | cons b t ih =>
    intro h hs
    rw [puts]
    have hsn := scan_snoc a m x h b hs
    rw [rolls_snoc] at hsn
    by_cases he : ends a m x (h.length + 1) (roll (rolls h) b) = true
    · rw [put1_hit (s := ([], h)) he, puts_front]
      rw [he] at hsn
      have hne : h ++ b :: t ≠ [] := by simp
      have hall : h ++ b :: t = (h ++ [b]) ++ t := by simp
      have hsc := scan_app a m x (h ++ [b]) t 0 0 (by rw [hsn])
      rw [hsn] at hsc
      rw [cut_step ok hne, hall, hsc]
      have hd : ((h ++ [b]) ++ t).drop (h.length + 1) = t := by
        rw [List.drop_append]
        simp
      rw [hd, show t = [] ++ t from rfl, ih [] rfl]
      simp
    · rw [put1_miss (s := ([], h)) he, show h ++ b :: t = (h ++ [b]) ++ t by simp]
      exact ih (h ++ [b]) (scan_false_snoc hs he)
theorem scan_bound (ok : okRule a m x) : ∀ (l : List Nat) (n h : Nat), (n : Int) < x → ((scan a m x n h l).1 : Int) ≤ x ∧ ((scan a m x n h l).2 = true → a ≤ ((scan a m x n h l).1 : Int))
  | [], n, h, hn => by
    simp only [scan]
    exact ⟨by omega, fun e => by cases e⟩
  | b :: t, n, h, hn => by
    by_cases he : ends a m x (n + 1) (roll h b) = true
    · rw [scan_hit he]
      refine ⟨by simp only; omega, fun _ => ?_⟩
      have h2 := he
      unfold ends at h2
      simp only
      by_cases h3 : x ≤ ((n + 1 : Nat) : Int)
      · have := ok.2.1
        have := ok.2.2.1
        omega
      · rw [if_neg h3] at h2
        by_cases h4 : ((n + 1 : Nat) : Int) < a
        · rw [if_pos h4] at h2
          cases h2
        · omega
    · rw [scan_miss he]
      have h3 : ¬ x ≤ ((n + 1 : Nat) : Int) := fun h3 => he (by unfold ends; rw [if_pos h3])
      exact scan_bound ok t (n + 1) (roll h b) (by omega)
theorem cut_bound (ok : okRule a m x) (l : List Nat) (i y : Nat) (h : (cut a m x l)[i]? = some y) : 1 ≤ y ∧ (y : Int) ≤ x ∧ (i + 1 < (cut a m x l).length → a ≤ (y : Int)) := by
  have hi := (List.getElem?_eq_some_iff.1 h).1
  obtain ⟨g, f⟩ := cut_get ok l i hi
  rw [h] at g
  have g := Option.some.inj g
  have hx : (0 : Int) < x := by
    have := ok.1
    have := ok.2.1
    have := ok.2.2.1
    omega
  have hb := scan_bound ok (l.drop ((cut a m x l).take i).sum) 0 0 hx
  rw [← g] at hb
  refine ⟨cut_pos _ l (Nat.le_refl _) y (List.mem_of_getElem? h), hb.1, fun h2 => hb.2 (f h2)⟩
end
/-- Behind the first pieces, as many bytes as the next has: that piece. -/
theorem flat_get (G : List (List Nat)) (i : Nat) (p : List Nat) (h : G[i]? = some p) : (G.flatten.drop ((G.map List.length).take i).sum).take p.length = p := by
  induction G generalizing i with
  | nil => simp at h
  | cons q r ih =>
    cases i with
    | zero =>
      simp at h
      subst h
      simp
    | succ i =>
      simp only [List.getElem?_cons_succ] at h
      simp only [List.map_cons, List.take_succ_cons, List.sum_cons, List.flatten_cons]
      rw [← List.drop_drop, List.drop_left]
      exact ih i h
theorem last_flat (h : List Nat) : (last h).flatten = h := by
  unfold last
  split <;> simp_all
end Gear
end Go.Proofs.YtnjbpacnmiimlaaDoor
