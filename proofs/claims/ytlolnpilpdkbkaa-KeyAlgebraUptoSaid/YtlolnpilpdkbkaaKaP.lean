/- What KeyAlgebra asks: plain. -/
import Derived.Test.YtlolnpilpdkbkaaKyM
import Derived.Test.YtlolnpilpdkbkaaKxE
import Derived.Test.YtlolnpilpdkbkaaKyV
namespace Go.Proofs.Ytlolnpilpdkbkaa
open Go.RowKit Go.Maps
set_option linter.unusedSimpArgs false
set_option linter.unusedVariables false

theorem lenK_any (w : World) (s m n : Nat) (ks : List (List Nat)) (h : SetK w s m n ks) :
    Calls Try.prog 14 #[.pointer (some ⟨s, 0, none⟩)] w fun e w' => e = .returned (.int .i64 (ks.length : Int)) ∧ w' = w := by
  obtain ⟨D, h1, h2⟩ := h
  have := setLen_any w s m n D h1
  rw [h2.size] at this
  exact this
theorem cmpN_any (w : World) (a b : List Nat) (ha : IsK a) (hb : IsK b) :
    Calls Try.prog 9 #[.agg (u8s a).toArray, .agg (u8s b).toArray] w fun e w' => e = .returned (.int .i64 (cmpK a b)) ∧ Below w.heap.size w w' := by
  refine (compareX_any w a b ha.1 hb.1 ha.2 hb.2).mono ?_
  rintro e w' ⟨rfl, q, rfl⟩
  exact ⟨rfl, below_drewN (((Below.refl _ _).alloc (Nat.le_refl _) _).alloc (by simp) _) q⟩
theorem cmp_pm : ∀ (a b : List UInt8), Lib.compareBytes a b = -1 ∨ Lib.compareBytes a b = 0 ∨ Lib.compareBytes a b = 1
  | [], [] => by simp [Lib.compareBytes]
  | [], _ :: _ => by simp [Lib.compareBytes]
  | _ :: _, [] => by simp [Lib.compareBytes]
  | x :: a, y :: b => by
    have := cmp_pm a b
    unfold Lib.compareBytes
    split
    · simp
    · split
      · simp
      · exact this
theorem cmpK_neg {a b : List Nat} (h : cmpK a b < 0) : cmpK a b = -1 := by
  have := cmp_pm (b8 a) (b8 b)
  unfold cmpK at h ⊢
  omega
theorem mem_takeK {t : List Nat → Bool} {pre ks : List (List Nat)} {z : List Nat} : z ∈ takeK t pre ks ↔ (z ∈ pre ∧ t z = true) ∨ z ∈ ks := by
  unfold takeK
  rw [mem_insAll, List.mem_filter]
theorem takeK_rise {t : List Nat → Bool} {pre ks : List (List Nat)} (h : ∀ x ∈ pre, IsK x) (hk : Rise32 ks) : Rise32 (takeK t pre ks) := Rise32.insAll (fun x hx => h x (List.mem_filter.1 hx).1) hk
theorem len_of_perm {a b c d : List (List Nat)} (ha : Rise32 a) (hb : Rise32 b) (hc : Rise32 c) (hd : Rise32 d) (h : ∀ z, (if z ∈ a then 1 else 0) + (if z ∈ b then 1 else 0) = ((if z ∈ c then 1 else 0) + (if z ∈ d then 1 else 0) : Nat)) :
    a.length + b.length = c.length + d.length := by
  have : (a ++ b).Perm (c ++ d) := List.perm_iff_count.2 fun z => by
    rw [List.count_append, List.count_append, (rise_nodup ha).count, (rise_nodup hb).count, (rise_nodup hc).count, (rise_nodup hd).count]
    exact h z
  have := this.length_eq
  simpa using this
/-- The sets of KeyAlgebra. -/
structure AlgP (xs ys KA KB U V M : List (List Nat)) : Prop where
  ra : Rise32 KA
  rb : Rise32 KB
  ru : Rise32 U
  rv : Rise32 V
  rm : Rise32 M
  ma : ∀ z, z ∈ KA ↔ z ∈ xs
  mb : ∀ z, z ∈ KB ↔ z ∈ ys
  mu : ∀ z, z ∈ U ↔ z ∈ KA ∨ z ∈ KB
  mv : ∀ z, z ∈ V ↔ z ∈ KA ∧ z ∈ KB
  mm : ∀ z, z ∈ M ↔ z ∈ KA ∧ z ∉ KB
theorem algP (xs ys : List (List Nat)) (hx : ∀ x ∈ xs, IsK x) (hy : ∀ y ∈ ys, IsK y) : AlgP xs ys (insAll xs []) (insAll ys [])
    (takeK (unionT (insAll xs []) (insAll ys [])) (insAll ys []) (takeK (unionT (insAll xs []) (insAll ys [])) (insAll xs []) []))
    (takeK (bothT (insAll xs []) (insAll ys [])) (insAll ys []) (takeK (bothT (insAll xs []) (insAll ys [])) (insAll xs []) []))
    (takeK (minusT (insAll xs []) (insAll ys [])) (insAll ys []) (takeK (minusT (insAll xs []) (insAll ys [])) (insAll xs []) [])) := by
  have ra : Rise32 (insAll xs []) := Rise32.insAll hx Rise32.nil
  have rb : Rise32 (insAll ys []) := Rise32.insAll hy Rise32.nil
  have ma : ∀ z, z ∈ insAll xs [] ↔ z ∈ xs := fun z => by rw [mem_insAll]; simp
  have mb : ∀ z, z ∈ insAll ys [] ↔ z ∈ ys := fun z => by rw [mem_insAll]; simp
  generalize insAll xs [] = KA at *
  generalize insAll ys [] = KB at *
  refine ⟨ra, rb, takeK_rise rb.ok (takeK_rise ra.ok Rise32.nil), takeK_rise rb.ok (takeK_rise ra.ok Rise32.nil), takeK_rise rb.ok (takeK_rise ra.ok Rise32.nil), ma, mb, fun z => ?_, fun z => ?_, fun z => ?_⟩
  · rw [mem_takeK, mem_takeK]
    simp [unionT]
    exact Or.comm
  · rw [mem_takeK, mem_takeK]
    simp [bothT]
  · rw [mem_takeK, mem_takeK]
    simp [minusT]
section
variable {xs ys KA KB U V M : List (List Nat)}
theorem AlgP.uv (h : AlgP xs ys KA KB U V M) : U.length + V.length = KA.length + KB.length := len_of_perm h.ru h.rv h.ra h.rb fun z => by
  by_cases h1 : z ∈ KA <;> by_cases h2 : z ∈ KB <;> simp [h.mu, h.mv, h1, h2]
theorem AlgP.mv' (h : AlgP xs ys KA KB U V M) : M.length + V.length = KA.length := by
  have := len_of_perm h.rm h.rv h.ra Rise32.nil fun z => by
    by_cases h1 : z ∈ KA <;> by_cases h2 : z ∈ KB <;> simp [h.mm, h.mv, h1, h2]
  simpa using this
theorem len_insAll : ∀ (xs ks : List (List Nat)), (insAll xs ks).length ≤ xs.length + ks.length
  | [], ks => by simp [insAll]
  | x :: xs, ks => by
    have h1 := len_insAll xs (insK x ks)
    have h2 : (insK x ks).length ≤ ks.length + 1 := by
      have : ∀ l : List (List Nat), (insK x l).length ≤ l.length + 1 := by
        intro l
        induction l with
        | nil => simp [insK]
        | cons y l ih =>
          unfold insK
          split
          · simp
          · split <;> simp <;> omega
      exact this ks
    simp only [insAll, List.foldl_cons, List.length_cons] at h1 ⊢
    omega
end
/-- What Next tells behind the i-th key of a rising list. -/
theorem next_at {ks : List (List Nat)} (hr : Rise32 ks) {i : Nat} {x : List Nat} (hi : ks[i]? = some x) : ks.find? (passK false x) = ks[i + 1]? := by
  induction ks generalizing i with
  | nil => simp at hi
  | cons y ks ih =>
    obtain ⟨h1, h2⟩ := List.pairwise_cons.1 hr.up
    cases i with
    | zero =>
      simp only [List.getElem?_cons_zero, Option.some.injEq] at hi
      subst hi
      have hp : passK false y y = false := by simp [passK, cmpK_self]
      rw [List.find?_cons_of_neg (by rw [hp]; simp)]
      cases ks with
      | nil => rfl
      | cons z ks =>
        have := h1 z (by simp)
        rw [List.find?_cons_of_pos (by
          have h3 := cmpK_swap y z
          simp [passK]
          omega)]
        rfl
    | succ i =>
      have hx : x ∈ ks := List.mem_of_getElem? (by simpa using hi)
      have := h1 x hx
      rw [List.find?_cons_of_neg (by simp [passK]; omega), ih hr.tail (by simpa using hi)]
      rfl
theorem next_any0 {ks : List (List Nat)} (af : List Nat) : ks.find? (passK true af) = ks[0]? := by
  cases ks with
  | nil => rfl
  | cons y ks => rw [List.find?_cons_of_pos (by simp [passK])]; rfl
theorem rise_lt {ks : List (List Nat)} (hr : Rise32 ks) {i : Nat} {x y : List Nat} (h1 : ks[i]? = some x) (h2 : ks[i + 1]? = some y) : cmpK x y = -1 := by
  obtain ⟨l1, e1⟩ := List.getElem?_eq_some_iff.1 h1
  obtain ⟨l2, e2⟩ := List.getElem?_eq_some_iff.1 h2
  have := List.pairwise_iff_getElem.1 hr.up i (i + 1) l1 l2 (by omega)
  rw [e1, e2] at this
  exact cmpK_neg this
end Go.Proofs.Ytlolnpilpdkbkaa
