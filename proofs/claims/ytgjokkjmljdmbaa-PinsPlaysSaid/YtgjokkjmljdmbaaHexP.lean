/- Digits of a key, both ways, and their order: in plain words. No program is named here. -/
import Derived.Lib.Bytealg
import Derived.Lib.IndexLaws
import Derived.Laws.Strings
namespace Go.Proofs.Ytgjokkjmljdmbaa

def digitsL : List UInt8 := [48, 49, 50, 51, 52, 53, 54, 55, 56, 57, 97, 98, 99, 100, 101, 102]
def dg (n : Nat) : UInt8 := digitsL[n]?.getD 0
def val (c : UInt8) : Int := Lib.indexByte digitsL c
def hexL : List Nat → List UInt8
  | [] => []
  | b :: l => dg (b / 16) :: dg (b % 16) :: hexL l
def unhex (a b : UInt8) : Nat := (val a).toNat * 16 + (val b).toNat
def parsedL : List UInt8 → List Nat
  | a :: b :: s => unhex a b :: parsedL s
  | _ => []
def allDig (s : List UInt8) : Bool := s.all fun c => decide (0 ≤ val c)

theorem val_dg : ∀ n : Nat, n < 16 → val (dg n) = n := by decide
theorem dg_lt : ∀ m : Nat, m < 16 → ∀ n : Nat, n < 16 → (dg m < dg n ↔ m < n) := by decide
theorem val_lt (c : UInt8) (h : 0 ≤ val c) : val c < 16 ∧ dg (val c).toNat = c := by
  obtain ⟨o, ho⟩ := Int.eq_ofNat_of_zero_le h
  have h1 := (Lib.indexByte_some (l := digitsL) (c := c) (o := o) ho).1
  have h2 := (List.getElem?_eq_some_iff.1 h1).1
  have h3 : digitsL.length = 16 := rfl
  refine ⟨by omega, ?_⟩
  unfold dg
  rw [ho, Int.toNat_natCast, h1, Option.getD_some]
theorem val_ge (c : UInt8) : -1 ≤ val c := Lib.indexByte_ge _ _
theorem hexL_length : ∀ l : List Nat, (hexL l).length = 2 * l.length
  | [] => rfl
  | b :: l => by
    have := hexL_length l
    simp only [hexL, List.length_cons]
    omega
theorem hexL_append : ∀ l m : List Nat, hexL (l ++ m) = hexL l ++ hexL m
  | [], _ => rfl
  | b :: l, m => by simp [hexL, hexL_append l m]
theorem hexL_dig : ∀ l : List Nat, (∀ x ∈ l, x < 256) → allDig (hexL l) = true
  | [], _ => rfl
  | b :: l, h => by
    have h1 := hexL_dig l fun x hx => h x (by simp [hx])
    have h2 := h b (by simp)
    unfold allDig at h1 ⊢
    simp only [hexL, List.all_cons, h1, val_dg (b / 16) (by omega), val_dg (b % 16) (by omega), Bool.and_true, Bool.and_eq_true, decide_eq_true_iff]
    omega
theorem parsed_hex : ∀ l : List Nat, (∀ x ∈ l, x < 256) → parsedL (hexL l) = l
  | [], _ => rfl
  | b :: l, h => by
    have h1 := parsed_hex l fun x hx => h x (by simp [hx])
    have h2 := h b (by simp)
    simp only [hexL, parsedL, h1, unhex, val_dg (b / 16) (by omega), val_dg (b % 16) (by omega), Int.toNat_natCast]
    congr 1
    omega
theorem unhex_lt {a b : UInt8} (ha : 0 ≤ val a) (hb : 0 ≤ val b) : unhex a b < 256 := by
  have := val_lt a ha
  have := val_lt b hb
  unfold unhex
  omega
theorem hex_parsed : ∀ (n : Nat) (s : List UInt8), s.length = 2 * n → allDig s = true → hexL (parsedL s) = s
  | 0, [], _, _ => rfl
  | n + 1, a :: b :: s, h, hd => by
    unfold allDig at hd
    simp only [List.all_cons, Bool.and_eq_true, decide_eq_true_iff] at hd
    obtain ⟨ha, hb, hs⟩ := hd
    have h1 := hex_parsed n s (by simp at h; omega) hs
    have h2 := val_lt a ha
    have h3 := val_lt b hb
    simp only [parsedL, hexL, h1]
    have e1 : unhex a b / 16 = (val a).toNat := by unfold unhex; omega
    have e2 : unhex a b % 16 = (val b).toNat := by unfold unhex; omega
    rw [e1, e2, h2.2, h3.2]
  | 0, _ :: _, h, _ => by simp at h
  | n + 1, [], h, _ => by simp at h
  | n + 1, [_], h, _ => by simp at h; omega
theorem parsedL_length : ∀ (n : Nat) (s : List UInt8), s.length = 2 * n → (parsedL s).length = n
  | 0, [], _ => rfl
  | n + 1, a :: b :: s, h => by simp [parsedL, parsedL_length n s (by simp at h; omega)]
  | 0, _ :: _, h => by simp at h
  | n + 1, [], h => by simp at h
  | n + 1, [_], h => by simp at h; omega
theorem parsedL_lt : ∀ (n : Nat) (s : List UInt8), s.length = 2 * n → allDig s = true → ∀ x ∈ parsedL s, x < 256
  | 0, [], _, _ => by simp [parsedL]
  | n + 1, a :: b :: s, h, hd => by
    unfold allDig at hd
    simp only [List.all_cons, Bool.and_eq_true, decide_eq_true_iff] at hd
    obtain ⟨ha, hb, hs⟩ := hd
    intro x hx
    simp only [parsedL, List.mem_cons] at hx
    rcases hx with rfl | hx
    · exact unhex_lt ha hb
    · exact parsedL_lt n s (by simp at h; omega) hs x hx
  | 0, _ :: _, h, _ => by simp at h
  | n + 1, [], h, _ => by simp at h
  | n + 1, [_], h, _ => by simp at h; omega
theorem parsedL_get : ∀ (n : Nat) (s : List UInt8), s.length = 2 * n → ∀ i, i < n → (parsedL s)[i]?.getD 0 = unhex (s[2 * i]?.getD 0) (s[2 * i + 1]?.getD 0)
  | 0, _, _, i, hi => by omega
  | n + 1, a :: b :: s, h, i, hi => by
    cases i with
    | zero => simp [parsedL]
    | succ i =>
      have := parsedL_get n s (by simp at h; omega) i (by omega)
      simp only [parsedL, List.getElem?_cons_succ, this, show 2 * (i + 1) = 2 * i + 1 + 1 by omega]
  | n + 1, [], h, _, _ => by simp at h
  | n + 1, [_], h, _, _ => by simp at h; omega

/-! Order. -/
def b8 (l : List Nat) : List UInt8 := l.map fun x : Nat => x.toUInt8
theorem b8_lt {x y : Nat} (hx : x < 256) (hy : y < 256) : (x.toUInt8 < y.toUInt8) ↔ x < y := by
  rw [UInt8.lt_iff_toNat_lt]
  simp [Nat.mod_eq_of_lt hx, Nat.mod_eq_of_lt hy]
theorem hex_cmp : ∀ (a b : List Nat), a.length = b.length → (∀ x ∈ a, x < 256) → (∀ x ∈ b, x < 256) → Lib.compareBytes (hexL a) (hexL b) = Lib.compareBytes (b8 a) (b8 b)
  | [], [], _, _, _ => rfl
  | x :: a, y :: b, h, ha, hb => by
    have ih := hex_cmp a b (by simpa using h) (fun z hz => ha z (by simp [hz])) (fun z hz => hb z (by simp [hz]))
    have hx := ha x (by simp)
    have hy := hb y (by simp)
    have e := ih
    unfold b8 at e ⊢
    simp only [hexL, Lib.compareBytes, List.map_cons, b8_lt hx hy, b8_lt hy hx, dg_lt (x / 16) (by omega) (y / 16) (by omega), dg_lt (y / 16) (by omega) (x / 16) (by omega),
      dg_lt (x % 16) (by omega) (y % 16) (by omega), dg_lt (y % 16) (by omega) (x % 16) (by omega), e]
    split
    · rw [if_pos (by omega)]
    · split
      · rw [if_neg (by omega), if_pos (by omega)]
      · split
        · rw [if_pos (by omega)]
        · split
          · rw [if_neg (by omega), if_pos (by omega)]
          · rw [if_neg (by omega), if_neg (by omega)]
  | [], _ :: _, h, _, _ => by simp at h
  | _ :: _, [], h, _, _ => by simp at h
theorem cmp_neg : ∀ (a b : List UInt8), Lib.compareBytes b a = -Lib.compareBytes a b
  | [], [] => rfl
  | [], _ :: _ => rfl
  | _ :: _, [] => rfl
  | x :: a, y :: b => by
    have ih := cmp_neg a b
    simp only [Lib.compareBytes]
    by_cases h1 : x < y
    · have h2 : ¬ y < x := fun h => UInt8.lt_irrefl _ (UInt8.lt_trans h1 h)
      rw [if_neg h2, if_pos h1, if_pos h1]; rfl
    · by_cases h2 : y < x
      · rw [if_pos h2, if_neg h1, if_pos h2]
      · rw [if_neg h2, if_neg h1, if_neg h1, if_neg h2, ih]
theorem cmp_less : ∀ (a b : List UInt8), Op.bytesLess a b = decide (Lib.compareBytes a b = -1)
  | [], [] => rfl
  | [], _ :: _ => rfl
  | _ :: _, [] => rfl
  | x :: a, y :: b => by
    have ih := cmp_less a b
    simp only [Lib.compareBytes, Op.bytesLess, ih]
    by_cases h1 : x < y
    · simp [h1]
    · by_cases h2 : y < x
      · have h3 : x ≠ y := fun e => UInt8.lt_irrefl _ (e ▸ h2)
        simp [h1, h2, h3]
      · have h3 : x = y := UInt8.le_antisymm (UInt8.not_lt.1 h2) (UInt8.not_lt.1 h1)
        simp [h3]
theorem cmp_zero : ∀ (a b : List UInt8), (a == b) = decide (Lib.compareBytes a b = 0)
  | [], [] => rfl
  | [], _ :: _ => rfl
  | _ :: _, [] => rfl
  | x :: a, y :: b => by
    have ih := cmp_zero a b
    simp only [Lib.compareBytes, List.cons_beq_cons, ih]
    by_cases h1 : x < y
    · have h3 : x ≠ y := fun e => UInt8.lt_irrefl _ (e ▸ h1)
      simp [h1, h3]
    · by_cases h2 : y < x
      · have h3 : x ≠ y := fun e => UInt8.lt_irrefl _ (e ▸ h2)
        simp [h1, h2, h3]
      · have h3 : x = y := UInt8.le_antisymm (UInt8.not_lt.1 h2) (UInt8.not_lt.1 h1)
        simp [h3]
theorem cmp_three : ∀ (a b : List UInt8), Lib.compareBytes a b = -1 ∨ Lib.compareBytes a b = 0 ∨ Lib.compareBytes a b = 1
  | [], [] => .inr (.inl rfl)
  | [], _ :: _ => .inl rfl
  | _ :: _, [] => .inr (.inr rfl)
  | x :: a, y :: b => by
    have ih := cmp_three a b
    simp only [Lib.compareBytes]
    split
    · exact .inl rfl
    · split
      · exact .inr (.inr rfl)
      · exact ih
end Go.Proofs.Ytgjokkjmljdmbaa
