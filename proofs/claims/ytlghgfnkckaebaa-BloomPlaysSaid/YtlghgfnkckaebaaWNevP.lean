/- Which bits are set: of keys added, of two joined, of what two have. Plain. -/
import Derived.Test.YtlghgfnkckaebaaWJoin
import Derived.Test.YtlghgfnkckaebaaWFill
namespace Go.Proofs.Ytlghgfnkckaebaa
open Go.RowKit
set_option linter.unusedVariables false
set_option linter.unusedSimpArgs false

theorem bitAt_eq (l : List Nat) (p : Nat) : bitAt l p = (l[p / 64]?.getD 0).testBit (p % 64) := by
  unfold bitAt
  generalize l[p / 64]?.getD 0 = x
  generalize p % 64 = k
  cases h : x.testBit k with
  | true =>
    have : x &&& 2 ^ k ≠ 0 := fun e => by
      have := congrArg (Nat.testBit · k) e
      simp [Nat.testBit_and, Nat.testBit_two_pow_self, h] at this
    simp [this]
  | false =>
    have : x &&& 2 ^ k = 0 := by
      apply Nat.eq_of_testBit_eq
      intro i
      rw [Nat.testBit_and, Nat.testBit_two_pow, Nat.zero_testBit]
      by_cases hi : k = i
      · subst hi; rw [h]; rfl
      · simp [hi]
    simp [this]
theorem bitAt_setAt (l : List Nat) (n p q : Nat) (hl : l.length = n) (hp : p < 64 * n) (hq : q < 64 * n) : bitAt (setAt l q) p = (bitAt l p || decide (q = p)) := by
  rw [bitAt_eq, bitAt_eq]
  unfold setAt
  by_cases h : q / 64 = p / 64
  · have hlt : p / 64 < l.length := by omega
    rw [h, List.getElem?_set_self hlt, Option.getD_some, Nat.testBit_or, Nat.testBit_two_pow]
    congr 1
    rw [Bool.eq_iff_iff, decide_eq_true_iff, decide_eq_true_iff]
    omega
  · rw [List.getElem?_set_ne h]
    have : ¬ q = p := fun e => h (by rw [e])
    simp [this]
/-- A key's place. -/
def Pl (h N : Nat) (k : List Nat) (p : Nat) : Prop := ∃ i, i < h ∧ atQ (k1Q k) (k2Q k) N i = p
theorem atQ_lt (a b N i : Nat) (hN : 0 < N) : atQ a b N i < N := Nat.mod_lt _ hN
theorem addQ_bit (a b : Nat) (l : List Nat) (n p : Nat) (hl : l.length = n) (hp : p < 64 * n) : ∀ h, bitAt (addQ a b (64 * n) l h).1 p = true ↔ bitAt l p = true ∨ ∃ i, i < h ∧ atQ a b (64 * n) i = p
  | 0 => by simp [addQ]
  | h + 1 => by
    rw [addQ]
    simp only
    rw [bitAt_setAt _ n p _ ((addQ_length _ _ _ _ _).trans hl) hp (atQ_lt _ _ _ _ (by omega)), Bool.or_eq_true, addQ_bit a b l n p hl hp h, decide_eq_true_iff, or_assoc]
    refine or_congr Iff.rfl ⟨fun q => ?_, fun q => ?_⟩
    · rcases q with ⟨i, h1, h2⟩ | q
      · exact ⟨i, by omega, h2⟩
      · exact ⟨h, by omega, q⟩
    · obtain ⟨i, h1, h2⟩ := q
      rcases Nat.lt_or_ge i h with h3 | h3
      · exact .inl ⟨i, h3, h2⟩
      · exact .inr (by rw [← h2, show i = h by omega])
theorem hasQ_iff (a b N : Nat) (l : List Nat) : ∀ h, hasQ a b N l h = true ↔ ∀ i, i < h → bitAt l (atQ a b N i) = true
  | 0 => by simp [hasQ]
  | h + 1 => by
    rw [hasQ, Bool.and_eq_true, hasQ_iff a b N l h]
    refine ⟨fun q i hi => ?_, fun q => ⟨fun i hi => q i (by omega), q h (by omega)⟩⟩
    rcases Nat.lt_or_ge i h with h3 | h3
    · exact q.1 i h3
    · rw [show i = h by omega]
      exact q.2
/-- Just the places of some keys are set. -/
def Bits (h n : Nat) (l : List Nat) (K : List Nat → Prop) : Prop := l.length = n ∧ ∀ p, p < 64 * n → (bitAt l p = true ↔ ∃ k, K k ∧ Pl h (64 * n) k p)
theorem Bits.congr {h n : Nat} {l : List Nat} {K K' : List Nat → Prop} (b : Bits h n l K) (e : ∀ k, K k ↔ K' k) : Bits h n l K' :=
  ⟨b.1, fun p hp => (b.2 p hp).trans ⟨fun ⟨k, h1, h2⟩ => ⟨k, (e k).1 h1, h2⟩, fun ⟨k, h1, h2⟩ => ⟨k, (e k).2 h1, h2⟩⟩⟩
theorem Bits.zero (h n : Nat) : Bits h n (List.replicate n 0) (fun _ => False) :=
  ⟨by simp, fun p hp => by
    rw [bitAt_eq, List.getElem?_replicate, if_pos (by omega), Option.getD_some, Nat.zero_testBit]
    simp⟩
theorem Bits.add {h n : Nat} {l : List Nat} {K : List Nat → Prop} (b : Bits h n l K) (k : List Nat) : Bits h n (addQ (k1Q k) (k2Q k) (64 * l.length) l h).1 (fun x => K x ∨ x = k) := by
  refine ⟨(addQ_length _ _ _ _ _).trans b.1, fun p hp => ?_⟩
  rw [b.1, addQ_bit _ _ _ n p b.1 hp, b.2 p hp]
  constructor
  · rintro (⟨x, h1, h2⟩ | q)
    · exact ⟨x, .inl h1, h2⟩
    · exact ⟨k, .inr rfl, q⟩
  · rintro ⟨x, h1 | rfl, h2⟩
    · exact .inl ⟨x, h1, h2⟩
    · exact .inr h2
theorem word_ext {l m : List Nat} {n : Nat} (h1 : l.length = n) (h2 : m.length = n) (b1 : ∀ x ∈ l, x < 18446744073709551616) (b2 : ∀ x ∈ m, x < 18446744073709551616) (h : ∀ p, p < 64 * n → bitAt l p = bitAt m p) : l = m := by
  apply List.ext_getElem?
  intro i
  rcases Nat.lt_or_ge i n with hi | hi
  · rw [List.getElem?_eq_getElem (by omega), List.getElem?_eq_getElem (by omega)]
    congr 1
    apply Nat.eq_of_testBit_eq
    intro j
    have e64 : (2 : Nat) ^ 64 = 18446744073709551616 := by decide
    rcases Nat.lt_or_ge j 64 with hj | hj
    · have := h (64 * i + j) (by omega)
      rw [bitAt_eq, bitAt_eq, show (64 * i + j) / 64 = i by omega, show (64 * i + j) % 64 = j by omega, List.getElem?_eq_getElem (by omega), List.getElem?_eq_getElem (by omega)] at this
      exact this
    · have hp : 2 ^ 64 ≤ 2 ^ j := Nat.pow_le_pow_right (by decide) hj
      have q1 := b1 _ (List.getElem_mem (show i < l.length by omega))
      have q2 := b2 _ (List.getElem_mem (show i < m.length by omega))
      rw [Nat.testBit_lt_two_pow (by omega), Nat.testBit_lt_two_pow (by omega)]
  · rw [List.getElem?_eq_none (by omega), List.getElem?_eq_none (by omega)]
theorem Bits.same {h n : Nat} {l m : List Nat} {K : List Nat → Prop} (a : Bits h n l K) (b : Bits h n m K) (b1 : ∀ x ∈ l, x < 18446744073709551616) (b2 : ∀ x ∈ m, x < 18446744073709551616) : l = m :=
  word_ext a.1 b.1 b1 b2 fun p hp => by rw [Bool.eq_iff_iff, a.2 p hp, b.2 p hp]
theorem bit_join {l m : List Nat} {n p : Nat} (h1 : l.length = n) (h2 : m.length = n) (hp : p < 64 * n) : bitAt (joinQ l m) p = (bitAt l p || bitAt m p) := by
  rw [bitAt_eq, bitAt_eq, bitAt_eq]
  unfold joinQ
  rw [List.getElem?_zipWith, List.getElem?_eq_getElem (show p / 64 < l.length by omega), List.getElem?_eq_getElem (show p / 64 < m.length by omega)]
  simp [Nat.testBit_or]
theorem bit_meet {l m : List Nat} {n p : Nat} (h1 : l.length = n) (h2 : m.length = n) (hp : p < 64 * n) : bitAt (meetQ l m) p = (bitAt l p && bitAt m p) := by
  rw [bitAt_eq, bitAt_eq, bitAt_eq]
  unfold meetQ
  rw [List.getElem?_zipWith, List.getElem?_eq_getElem (show p / 64 < l.length by omega), List.getElem?_eq_getElem (show p / 64 < m.length by omega)]
  simp [Nat.testBit_and]
theorem Bits.join {h n : Nat} {l m : List Nat} {K K' : List Nat → Prop} (a : Bits h n l K) (b : Bits h n m K') : Bits h n (joinQ l m) (fun x => K x ∨ K' x) :=
  ⟨by rw [joinQ_length _ _ (by rw [a.1, b.1]), a.1], fun p hp => by
    rw [bit_join a.1 b.1 hp, Bool.or_eq_true, a.2 p hp, b.2 p hp]
    constructor
    · rintro (⟨x, h1, h2⟩ | ⟨x, h1, h2⟩)
      · exact ⟨x, .inl h1, h2⟩
      · exact ⟨x, .inr h1, h2⟩
    · rintro ⟨x, h1 | h1, h2⟩
      · exact .inl ⟨x, h1, h2⟩
      · exact .inr ⟨x, h1, h2⟩⟩
theorem Bits.has {h n : Nat} {l : List Nat} {K : List Nat → Prop} (b : Bits h n l K) (hn : 1 ≤ n) {k : List Nat} (hk : K k) : hasQ (k1Q k) (k2Q k) (64 * l.length) l h = true := by
  rw [hasQ_iff, b.1]
  intro i hi
  exact (b.2 _ (atQ_lt _ _ _ _ (by omega))).2 ⟨k, hk, i, hi, rfl⟩
theorem Bits.has_meet {h n : Nat} {l m : List Nat} {K K' : List Nat → Prop} (a : Bits h n l K) (b : Bits h n m K') (hn : 1 ≤ n) {k : List Nat} (hk : K k) (hk' : K' k) : hasQ (k1Q k) (k2Q k) (64 * (meetQ l m).length) (meetQ l m) h = true := by
  rw [hasQ_iff, meetQ_length _ _ (by rw [a.1, b.1]), a.1]
  intro i hi
  have hp := atQ_lt (k1Q k) (k2Q k) (64 * n) i (by omega)
  rw [bit_meet a.1 b.1 hp, (a.2 _ hp).2 ⟨k, hk, i, hi, rfl⟩, (b.2 _ hp).2 ⟨k, hk', i, hi, rfl⟩]
  rfl
theorem popL_pos {l : List Nat} (b : ∀ x ∈ l, x < 18446744073709551616) : (∃ p, bitAt l p = true) → 0 < popL l := by
  rintro ⟨p, hp⟩
  rw [bitAt_eq] at hp
  have hlt : p / 64 < l.length := by
    rcases Nat.lt_or_ge (p / 64) l.length with h | h
    · exact h
    · rw [List.getElem?_eq_none h, Option.getD_none, Nat.zero_testBit] at hp
      cases hp
  rw [List.getElem?_eq_getElem hlt, Option.getD_some] at hp
  have hx : l[p / 64] ≠ 0 := fun e => by rw [e, Nat.zero_testBit] at hp; cases hp
  have hm := List.getElem_mem hlt
  have h1 := pop_pos 64 l[p / 64] (b _ hm) hx
  have h2 : ∀ (r : List Nat) (y : Nat), y ∈ r → Lib.onesCount y ≤ popL r := by
    intro r y hy
    induction r with
    | nil => cases hy
    | cons z r ih =>
      show _ ≤ Lib.onesCount z + popL r
      rcases List.mem_cons.1 hy with e | e
      · rw [e]; omega
      · have := ih e; omega
  exact Nat.lt_of_lt_of_le h1 (h2 _ _ hm)
theorem Bits.pos {h n : Nat} {l : List Nat} {K : List Nat → Prop} (b : Bits h n l K) (hn : 1 ≤ n) (hh : 1 ≤ h) (b1 : ∀ x ∈ l, x < 18446744073709551616) {k : List Nat} (hk : K k) : 0 < popL l :=
  popL_pos b1 ⟨atQ (k1Q k) (k2Q k) (64 * n) 0, (b.2 _ (atQ_lt _ _ _ _ (by omega))).2 ⟨k, hk, 0, by omega, rfl⟩⟩
end Go.Proofs.Ytlghgfnkckaebaa
