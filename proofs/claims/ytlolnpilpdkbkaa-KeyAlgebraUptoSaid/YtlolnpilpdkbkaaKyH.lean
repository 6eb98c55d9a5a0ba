/- How many of a key's digits tell it from the others: plain. -/
import Derived.Test.YtlolnpilpdkbkaaKyF
namespace Go.Proofs.Ytlolnpilpdkbkaa
set_option linter.unusedSimpArgs false
set_option linter.unusedVariables false

/-- How far two texts are alike. -/
def cpl : List UInt8 → List UInt8 → Nat
  | x :: a, y :: b => if x = y then cpl a b + 1 else 0
  | _, _ => 0
theorem cpl_get : ∀ {a b : List UInt8} {i : Nat}, i < cpl a b → ∃ c, a[i]? = some c ∧ b[i]? = some c
  | [], _, i, h => by simp [cpl] at h
  | _ :: _, [], i, h => by simp [cpl] at h
  | x :: a, y :: b, i, h => by
    unfold cpl at h
    split at h
    · rename_i e
      subst e
      cases i with
      | zero => exact ⟨x, rfl, rfl⟩
      | succ i => simpa using cpl_get (a := a) (b := b) (i := i) (by omega)
    · omega
theorem cpl_ne : ∀ {a b : List UInt8}, a.length = b.length → a ≠ b → ∃ c d, a[cpl a b]? = some c ∧ b[cpl a b]? = some d ∧ c ≠ d
  | [], [], _, h => absurd rfl h
  | [], _ :: _, h, _ => by simp at h
  | _ :: _, [], h, _ => by simp at h
  | x :: a, y :: b, hl, h => by
    unfold cpl
    by_cases e : x = y
    · subst e
      rw [if_pos rfl]
      simpa using cpl_ne (a := a) (b := b) (by simpa using hl) (fun e => h (by rw [e]))
    · rw [if_neg e]
      exact ⟨x, y, rfl, rfl, e⟩
theorem cpl_le : ∀ (a b : List UInt8), cpl a b ≤ a.length
  | [], _ => by simp [cpl]
  | _ :: _, [] => by simp [cpl]
  | x :: a, y :: b => by
    have := cpl_le a b
    unfold cpl
    split <;> simp <;> omega
theorem cpl_lt {a b : List UInt8} (hl : a.length = b.length) (h : a ≠ b) : cpl a b < a.length := by
  obtain ⟨c, d, h1, _, _⟩ := cpl_ne hl h
  exact (List.getElem?_eq_some_iff.1 h1).1
/-- A text that begins as another does: as far as both are alike. -/
theorem cpl_pre : ∀ {a b : List UInt8} {n : Nat}, n ≤ b.length → ((b.take n).isPrefixOf a = true ↔ n ≤ cpl a b)
  | a, b, 0, _ => by simp
  | a, [], n + 1, h => by simp at h
  | [], y :: b, n + 1, h => by simp [cpl]
  | x :: a, y :: b, n + 1, h => by
    have ih := cpl_pre (a := a) (b := b) (n := n) (by simpa using h)
    unfold cpl
    simp only [List.take_succ_cons, List.isPrefixOf_cons_cons, Bool.and_eq_true, beq_iff_eq]
    by_cases e : x = y
    · subst e
      simp [ih]
    · rw [if_neg e]
      simp
      intro e2
      exact absurd e2.symm e
theorem cpl_self : ∀ a : List UInt8, cpl a a = a.length
  | [] => rfl
  | x :: a => by simp [cpl, cpl_self a]
theorem hexL_inj {a b : List Nat} (ha : ∀ x ∈ a, x < 256) (hb : ∀ x ∈ b, x < 256) (h : hexL a = hexL b) : a = b := by
  rw [← parsed_hex a ha, h, parsed_hex b hb]
/-- How many digits of x, of those that have been seen, are wanted. -/
def shortN (x : List Nat) (ys : List (List Nat)) : Nat := ys.foldl (fun n y => if y = x then n else max n (cpl (hexL y) (hexL x) + 1)) 4
theorem shortN_nil (x : List Nat) : shortN x [] = 4 := rfl
theorem shortN_snoc (x : List Nat) (ys : List (List Nat)) (y : List Nat) : shortN x (ys ++ [y]) = if y = x then shortN x ys else max (shortN x ys) (cpl (hexL y) (hexL x) + 1) := by
  simp [shortN, List.foldl_append]
theorem shortN_ge (x : List Nat) (ys : List (List Nat)) : 4 ≤ shortN x ys := by
  unfold shortN
  suffices ∀ n, 4 ≤ n → 4 ≤ ys.foldl (fun n y => if y = x then n else max n (cpl (hexL y) (hexL x) + 1)) n from this 4 (Nat.le_refl _)
  induction ys with
  | nil => intro n h; exact h
  | cons y ys ih =>
    intro n h
    simp only [List.foldl_cons]
    split
    · exact ih n h
    · exact ih _ (by omega)
theorem shortN_le {x : List Nat} (hx : IsK x) {ys : List (List Nat)} (hy : ∀ y ∈ ys, IsK y) : shortN x ys ≤ 64 := by
  unfold shortN
  suffices ∀ n, n ≤ 64 → ys.foldl (fun n y => if y = x then n else max n (cpl (hexL y) (hexL x) + 1)) n ≤ 64 from this 4 (by omega)
  induction ys with
  | nil => intro n h; exact h
  | cons y ys ih =>
    intro n h
    simp only [List.foldl_cons]
    have hyk := hy y (by simp)
    split
    · exact ih (fun z hz => hy z (by simp [hz])) n h
    · rename_i e
      refine ih (fun z hz => hy z (by simp [hz])) _ ?_
      have := cpl_lt (a := hexL y) (b := hexL x) (by rw [hexL_length, hexL_length, hx.1, hyk.1]) (fun h => e (hexL_inj hyk.2 hx.2 h))
      rw [hexL_length, hyk.1] at this
      omega
/-- Every other key is told apart. -/
theorem shortN_lt {x : List Nat} {ys : List (List Nat)} {y : List Nat} (hy : y ∈ ys) (hne : y ≠ x) : cpl (hexL y) (hexL x) < shortN x ys := by
  have mono : ∀ (zs : List (List Nat)) n, n ≤ zs.foldl (fun n y => if y = x then n else max n (cpl (hexL y) (hexL x) + 1)) n := by
    intro zs
    induction zs with
    | nil => intro n; exact Nat.le_refl _
    | cons z zs ih =>
      intro n
      simp only [List.foldl_cons]
      split
      · exact ih n
      · exact Nat.le_trans (by omega) (ih _)
  unfold shortN
  generalize 4 = n0
  induction ys generalizing n0 with
  | nil => simp at hy
  | cons z zs ih =>
    simp only [List.foldl_cons]
    rcases List.mem_cons.1 hy with rfl | hy
    · rw [if_neg hne]
      have := mono zs (max n0 (cpl (hexL y) (hexL x) + 1))
      omega
    · exact ih hy _
/-- With one digit less one is not. -/
theorem shortN_has {x : List Nat} {ys : List (List Nat)} (h : 4 < shortN x ys) : ∃ y ∈ ys, y ≠ x ∧ cpl (hexL y) (hexL x) + 1 = shortN x ys := by
  unfold shortN at h ⊢
  suffices ∀ n, n < ys.foldl (fun n y => if y = x then n else max n (cpl (hexL y) (hexL x) + 1)) n → ∃ y ∈ ys, y ≠ x ∧ cpl (hexL y) (hexL x) + 1 = ys.foldl (fun n y => if y = x then n else max n (cpl (hexL y) (hexL x) + 1)) n from this 4 h
  clear h
  induction ys with
  | nil => intro n h; simp at h
  | cons z zs ih =>
    intro n h
    simp only [List.foldl_cons] at h ⊢
    by_cases e : z = x
    · rw [if_pos e] at h ⊢
      obtain ⟨y, h1, h2, h3⟩ := ih n h
      exact ⟨y, by simp [h1], h2, h3⟩
    · rw [if_neg e] at h ⊢
      by_cases h2 : max n (cpl (hexL z) (hexL x) + 1) < zs.foldl (fun n y => if y = x then n else max n (cpl (hexL y) (hexL x) + 1)) (max n (cpl (hexL z) (hexL x) + 1))
      · obtain ⟨y, h3, h4, h5⟩ := ih _ h2
        exact ⟨y, by simp [h3], h4, h5⟩
      · refine ⟨z, by simp, e, ?_⟩
        have mono : ∀ (zs : List (List Nat)) n, n ≤ zs.foldl (fun n y => if y = x then n else max n (cpl (hexL y) (hexL x) + 1)) n := by
          intro zs
          induction zs with
          | nil => intro n; exact Nat.le_refl _
          | cons z zs ih =>
            intro n
            simp only [List.foldl_cons]
            split
            · exact ih n
            · exact Nat.le_trans (by omega) (ih _)
        have := mono zs (max n (cpl (hexL z) (hexL x) + 1))
        omega
theorem rise_nodup : ∀ {ks : List (List Nat)}, Rise32 ks → ks.Nodup
  | [], _ => List.nodup_nil
  | _ :: _, h => List.nodup_cons.2 ⟨h.not_mem, rise_nodup h.tail⟩
/-- What Short tells, Find finds. -/
theorem find_short {ks : List (List Nat)} (hr : Rise32 ks) {x : List Nat} (hx : x ∈ ks) : findQ ks ((hexL x).take (shortN x ks)) = (x, 0) := by
  have hxk := hr.ok x hx
  have hle := shortN_le hxk hr.ok
  have h64 : (hexL x).length = 64 := by rw [hexL_length, hxk.1]
  unfold findQ
  rw [if_neg (by
    rintro (h | h)
    · simp at h; omega
    · rw [allDig] at h
      have h2 := hexL_dig x hxk.2
      unfold allDig at h2
      rw [List.all_eq_false] at h
      obtain ⟨c, h3, h4⟩ := h
      exact h4 (List.all_eq_true.1 h2 c (List.mem_of_mem_take h3)))]
  have : ks.filter (begK ((hexL x).take (shortN x ks))) = [x] := by
    have hmem : ∀ y, y ∈ ks.filter (begK ((hexL x).take (shortN x ks))) ↔ y = x := by
      intro y
      rw [List.mem_filter]
      unfold begK Lib.hasPrefix
      rw [cpl_pre (by omega)]
      constructor
      · rintro ⟨h1, h2⟩
        apply Classical.byContradiction
        intro h3
        have := shortN_lt h1 h3
        omega
      · rintro rfl
        rw [cpl_self]
        exact ⟨hx, by omega⟩
    have hnd := (rise_nodup hr).filter (begK ((hexL x).take (shortN x ks)))
    revert hmem hnd
    generalize ks.filter (begK ((hexL x).take (shortN x ks))) = L
    intro hmem hnd
    match L, hmem, hnd with
    | [], hmem, _ => have := (hmem x).2 rfl; simp at this
    | [y], hmem, _ => rw [(hmem y).1 (by simp)]
    | y :: z :: L, hmem, hnd =>
      have h1 := (hmem y).1 (by simp)
      have h2 := (hmem z).1 (by simp)
      exact absurd (by simp [h1, h2]) (List.nodup_cons.1 hnd).1
  rw [this]
  rfl
/-- With one digit less it does not. -/
theorem find_less {ks : List (List Nat)} (hr : Rise32 ks) {x : List Nat} (hx : x ∈ ks) (h4 : 4 < shortN x ks) : findQ ks ((hexL x).take (shortN x ks - 1)) = (zeros 32, 32) := by
  have hxk := hr.ok x hx
  have hle := shortN_le hxk hr.ok
  have h64 : (hexL x).length = 64 := by rw [hexL_length, hxk.1]
  obtain ⟨y, h1, h2, h3⟩ := shortN_has h4
  unfold findQ
  rw [if_neg (by
    rintro (h | h)
    · simp at h; omega
    · rw [allDig] at h
      have h2 := hexL_dig x hxk.2
      unfold allDig at h2
      rw [List.all_eq_false] at h
      obtain ⟨c, h3, h4⟩ := h
      exact h4 (List.all_eq_true.1 h2 c (List.mem_of_mem_take h3)))]
  have hmy : y ∈ ks.filter (begK ((hexL x).take (shortN x ks - 1))) := by
    rw [List.mem_filter]
    unfold begK Lib.hasPrefix
    rw [cpl_pre (by omega)]
    exact ⟨h1, by omega⟩
  have hmx : x ∈ ks.filter (begK ((hexL x).take (shortN x ks - 1))) := by
    rw [List.mem_filter]
    unfold begK Lib.hasPrefix
    rw [cpl_pre (by omega), cpl_self]
    exact ⟨hx, by omega⟩
  revert hmy hmx
  generalize ks.filter (begK ((hexL x).take (shortN x ks - 1))) = L
  intro hmy hmx
  match L, hmy, hmx with
  | [], h, _ => simp at h
  | [z], h, h' =>
    simp at h h'
    exact absurd (h.trans h'.symm) h2
  | _ :: _ :: _, _, _ => rfl
end Go.Proofs.Ytlolnpilpdkbkaa
