/- Letters and names, in plain words: how the document's bounds of a letter's bytes and the decoder agree. No program is named here. Names of items: the document's answer. Names of items: Named. The library's contracts on utf8's decoder at this seat's program, laid by the shelf's command. (The numbers are this seat's.) -/
import Derived.Lib.ValidLaws
import Derived.Laws.RangeAny
import Derived.Shelf.Unicode.DecodeAny
import Derived.Test.YtkjndgapejbgcaaDoorProg
import Derived.Test.YtkjndgapejbgcaaDoorPkD1
import Derived.Shelf.Unicode.DecodeSlow
import Derived.Lib.LaidU8T

namespace Go.Proofs.YtkjndgapejbgcaaDoor

def moreN (c : Nat) : Int := if c < 128 then 0 else if 194 ≤ c ∧ c ≤ 223 then 1 else if 224 ≤ c ∧ c ≤ 239 then 2 else if 240 ≤ c ∧ c ≤ 244 then 3 else -1
def lowN (c : Nat) : Nat := if c = 224 then 160 else if c = 240 then 144 else 128
def highN (c : Nat) : Nat := if c = 237 then 159 else if c = 244 then 143 else 191
def loK (c k : Nat) : Nat := if k = 1 then lowN c else 128
def hiK (c k : Nat) : Nat := if k = 1 then highN c else 191

def badAt (s : ByteArray) (i : Nat) : Prop := (Utf8.decode s i).1 = 65533 ∧ (Utf8.decode s i).2 = 1
instance (s : ByteArray) (i : Nat) : Decidable (badAt s i) := inferInstanceAs (Decidable (_ ∧ _))

set_option maxRecDepth 100000 in
theorem tab_of : ∀ c : Fin 256, 128 ≤ c.val → Lib.accLo (Lib.firstT c.val / 16) = lowN c.val ∧ Lib.accHi (Lib.firstT c.val / 16) = highN c.val ∨ moreN c.val = -1 := by decide
set_option maxRecDepth 100000 in
theorem first_of : ∀ c : Fin 256, 128 ≤ c.val → ((Lib.firstT c.val % 8 : Nat) : Int) = moreN c.val + 1 ∨ (moreN c.val = -1 ∧ Lib.firstT c.val % 8 = 1) := by decide
set_option maxRecDepth 100000 in
theorem more_of : ∀ c : Fin 256, 128 ≤ c.val → moreN c.val ≠ 0 := by decide
set_option maxRecDepth 100000 in
theorem more_le : ∀ c : Fin 256, -1 ≤ moreN c.val ∧ moreN c.val ≤ 3 := by decide

theorem low_ge (c : Nat) : 128 ≤ lowN c := by
  unfold lowN
  split
  · decide
  · split <;> decide

/-- What the decoder says at a byte from 128 on. -/
theorem dec_high (s : ByteArray) (i : Nat) (hi : i < s.size) (hc : 128 ≤ (s.get! i).toNat) :
    (Lib.checkN (s.size - i) (s.get! (i + 1)).toNat (s.get! (i + 2)).toNat (s.get! (i + 3)).toNat (Lib.firstT (s.get! i).toNat % 8) (Lib.accLo (Lib.firstT (s.get! i).toNat / 16)) (Lib.accHi (Lib.firstT (s.get! i).toNat / 16)) = none ∧ badAt s i) ∨
    ∃ k, 2 ≤ k ∧ Lib.checkN (s.size - i) (s.get! (i + 1)).toNat (s.get! (i + 2)).toNat (s.get! (i + 3)).toNat (Lib.firstT (s.get! i).toNat % 8) (Lib.accLo (Lib.firstT (s.get! i).toNat / 16)) (Lib.accHi (Lib.firstT (s.get! i).toNat / 16)) = some k ∧ (Utf8.decode s i).2 = k := by
  unfold badAt
  rw [Lib.decode_at]
  rcases Lib.check_decode (s.size - i) (s.get! i).toNat (s.get! (i + 1)).toNat (s.get! (i + 2)).toNat (s.get! (i + 3)).toNat (by omega) hc (s.get! i).toNat_lt (s.get! (i + 1)).toNat_lt (s.get! (i + 2)).toNat_lt (s.get! (i + 3)).toNat_lt with ⟨h1, h2⟩ | h
  · exact .inl ⟨h1, by rw [h2]; exact ⟨rfl, rfl⟩⟩
  · exact .inr h
theorem dec_low (s : ByteArray) (i : Nat) (_hi : i < s.size) (hc : (s.get! i).toNat < 128) : Utf8.decode s i = ((s.get! i).toNat, 1) := by
  rw [Lib.decode_at]
  simp [Lib.decodeN, hc]

/-- No letter: by its first byte, or for want of bytes. -/
theorem bad_first (s : ByteArray) (i : Nat) (hi : i < s.size) (h : moreN (s.get! i).toNat < 0 ∨ (s.size : Int) ≤ i + moreN (s.get! i).toNat) : badAt s i := by
  have hlt := (s.get! i).toNat_lt
  by_cases hc : (s.get! i).toNat < 128
  · simp [moreN, hc] at h
    omega
  · have hm := more_le ⟨_, hlt⟩
    have hf := first_of ⟨_, hlt⟩ (by simp; omega)
    simp only at hm hf
    rcases dec_high s i hi (by omega) with h1 | ⟨k, hk, h1, h2⟩
    · exact h1.2
    · exfalso
      unfold Lib.checkN at h1
      repeat' split at h1
      all_goals first | (simp at h1; done) | (rcases hf with hf | hf <;> omega)
/-- No letter: a byte out of its bounds. -/
theorem bad_next (s : ByteArray) (i k : Nat) (hi : i < s.size) (hk : 1 ≤ k) (hkn : (k : Int) ≤ moreN (s.get! i).toNat) (h : (s.get! (i + k)).toNat < loK (s.get! i).toNat k ∨ hiK (s.get! i).toNat k < (s.get! (i + k)).toNat) : badAt s i := by
  have hlt := (s.get! i).toNat_lt
  by_cases hc : (s.get! i).toNat < 128
  · simp [moreN, hc] at hkn
    omega
  · have hm := more_le ⟨_, hlt⟩
    have hf := first_of ⟨_, hlt⟩ (by simp; omega)
    have ht := tab_of ⟨_, hlt⟩ (by simp; omega)
    simp only at hm hf ht
    have ht : Lib.accLo (Lib.firstT (s.get! i).toNat / 16) = lowN (s.get! i).toNat ∧ Lib.accHi (Lib.firstT (s.get! i).toNat / 16) = highN (s.get! i).toNat := ht.resolve_right (by omega)
    have hf : ((Lib.firstT (s.get! i).toNat % 8 : Nat) : Int) = moreN (s.get! i).toNat + 1 := hf.resolve_right (by omega)
    rcases dec_high s i hi (by omega) with h1 | ⟨kk, hkk, h1, h2⟩
    · exact h1.2
    · exfalso
      rw [ht.1, ht.2] at h1
      have hk3 : k = 1 ∨ k = 2 ∨ k = 3 := by omega
      unfold Lib.checkN at h1
      rcases hk3 with rfl | rfl | rfl <;> simp only [loK, hiK] at h <;> simp at h <;> repeat' split at h1
      all_goals first | (simp at h1; done) | omega
/-- A letter. -/
theorem good_at (s : ByteArray) (i n : Nat) (hi : i < s.size) (hn : moreN (s.get! i).toNat = n) (hin : i + n < s.size)
    (h : ∀ k, 1 ≤ k → k ≤ n → loK (s.get! i).toNat k ≤ (s.get! (i + k)).toNat ∧ (s.get! (i + k)).toNat ≤ hiK (s.get! i).toNat k) : ¬ badAt s i ∧ (Utf8.decode s i).2 = n + 1 := by
  have hlt := (s.get! i).toNat_lt
  by_cases hc : (s.get! i).toNat < 128
  · simp [moreN, hc] at hn
    unfold badAt
    rw [dec_low s i hi hc]
    simp
    omega
  · have hm := more_le ⟨_, hlt⟩
    have hz := more_of ⟨_, hlt⟩ (by simp; omega)
    have hf := first_of ⟨_, hlt⟩ (by simp; omega)
    have ht := tab_of ⟨_, hlt⟩ (by simp; omega)
    simp only at hm hf ht hz
    have ht : Lib.accLo (Lib.firstT (s.get! i).toNat / 16) = lowN (s.get! i).toNat ∧ Lib.accHi (Lib.firstT (s.get! i).toNat / 16) = highN (s.get! i).toNat := ht.resolve_right (by omega)
    have hf : ((Lib.firstT (s.get! i).toNat % 8 : Nat) : Int) = moreN (s.get! i).toNat + 1 := hf.resolve_right (by omega)
    have f1 := h 1
    have f2 := h 2
    have f3 := h 3
    simp only [loK, hiK] at f1 f2 f3
    simp at f1 f2 f3
    rcases dec_high s i hi (by omega) with ⟨h1, _⟩ | ⟨kk, hkk, h1, h2⟩
    · exfalso
      rw [ht.1, ht.2] at h1
      unfold Lib.checkN at h1
      repeat' split at h1
      all_goals first | (simp at h1; done) | omega
    · have : kk = n + 1 := by
        rw [ht.1, ht.2] at h1
        unfold Lib.checkN at h1
        repeat' split at h1
        all_goals first | (simp at h1; done) | (simp at h1; omega)
      subst this
      refine ⟨fun hb => ?_, h2⟩
      have := hb.2
      omega
/-- The bytes of a letter of several bytes are no slash and no nought. -/
theorem inner_high (s : ByteArray) (i : Nat) (hi : i < s.size) (h : ¬ badAt s i) :
    1 ≤ (Utf8.decode s i).2 ∧ i + (Utf8.decode s i).2 ≤ s.size ∧ ((Utf8.decode s i).1 = 47 ∨ (Utf8.decode s i).1 = 0 ↔ ((s.get! i).toNat = 47 ∨ (s.get! i).toNat = 0)) ∧
      ∀ j, 1 ≤ j → j < (Utf8.decode s i).2 → 128 ≤ (s.get! (i + j)).toNat := by
  by_cases hc : (s.get! i).toNat < 128
  · rw [dec_low s i hi hc]
    exact ⟨Nat.le_refl _, by simp; omega, Iff.rfl, fun j h1 h2 => by simp at h2; omega⟩
  · have hlt := (s.get! i).toNat_lt
    have ht := tab_of ⟨_, hlt⟩ (by simp; omega)
    have hf := first_of ⟨_, hlt⟩ (by simp; omega)
    simp only at ht hf
    have hgi : s[i] = s.get! i := (Utf8W.get!_of_lt s i hi).symm
    have hd := decode_high s i hi (by rw [hgi]; omega)
    rcases dec_high s i hi (by omega) with ⟨_, h1⟩ | ⟨kk, hkk, h1, h2⟩
    · exact absurd h1 h
    · have hlow : 128 ≤ lowN (s.get! i).toNat := low_ge _
      have hmm : moreN (s.get! i).toNat ≠ -1 := by
        intro hh
        rcases hf with hf | hf
        · unfold Lib.checkN at h1
          rw [hh] at hf
          repeat' split at h1
          all_goals first | (simp at h1; done) | omega
        · unfold Lib.checkN at h1
          repeat' split at h1
          all_goals first | (simp at h1; done) | omega
      have ht := ht.resolve_right hmm
      rw [ht.1, ht.2] at h1
      rw [h2]
      refine ⟨by omega, ?_, ⟨fun _ => by omega, fun _ => by omega⟩, fun j hj1 hj2 => ?_⟩
      · unfold Lib.checkN at h1
        repeat' split at h1
        all_goals first | (simp at h1; done) | (simp at h1; omega)
      · have hj : j = 1 ∨ j = 2 ∨ j = 3 ∨ 4 ≤ j := by omega
        unfold Lib.checkN at h1
        rcases hj with rfl | rfl | rfl | hj <;> repeat' split at h1
        all_goals first | (simp at h1; done) | (simp at h1; omega)

def lettersD (s : ByteArray) : Nat → Nat → Bool
  | 0, _ => true
  | f + 1, i => if i < s.size then (if badAt s i then false else lettersD s f (i + (Utf8.decode s i).2)) else true
def nameD (s : ByteArray) : Nat → Nat → Bool
  | 0, _ => true
  | f + 1, i => if i < s.size then (if (Utf8.decode s i).1 = 47 ∨ (Utf8.decode s i).1 = 0 then false else if badAt s i then false else nameD s f (i + (Utf8.decode s i).2)) else true
/-- No slash and no nought, from place i on, of n bytes. -/
def plainD (s : ByteArray) : Nat → Nat → Bool
  | 0, _ => true
  | n + 1, i => if (s.get! i).toNat = 47 ∨ (s.get! i).toNat = 0 then false else plainD s n (i + 1)

theorem lettersD_end (s : ByteArray) (f i : Nat) (h : ¬ i < s.size) : lettersD s f i = true := by cases f <;> simp [lettersD, h]
theorem nameD_end (s : ByteArray) (f i : Nat) (h : ¬ i < s.size) : nameD s f i = true := by cases f <;> simp [nameD, h]
theorem plainD_iff (s : ByteArray) : ∀ n i, plainD s n i = true ↔ ∀ j, i ≤ j → j < i + n → ¬ ((s.get! j).toNat = 47 ∨ (s.get! j).toNat = 0)
  | 0, i => by simp [plainD]; intros; omega
  | n + 1, i => by
    unfold plainD
    have := plainD_iff s n (i + 1)
    split
    · rename_i h
      simp only [Bool.false_eq_true, false_iff]
      intro hh
      exact hh i (Nat.le_refl _) (by omega) h
    · rename_i h
      rw [this]
      constructor
      · intro hh j h1 h2
        by_cases hj : j = i
        · subst hj; exact h
        · exact hh j (by omega) (by omega)
      · intro hh j h1 h2
        exact hh j (by omega) (by omega)

/-- A text is a name just if it is right letters without a slash and a nought. -/
theorem name_iff (s : ByteArray) : ∀ f i, s.size ≤ i + f → (nameD s f i = true ↔ lettersD s f i = true ∧ ∀ j, i ≤ j → j < s.size → ¬ ((s.get! j).toNat = 47 ∨ (s.get! j).toNat = 0))
  | 0, i, h => by simp [nameD, lettersD]; intros; omega
  | f + 1, i, h => by
    unfold nameD lettersD
    by_cases hi : i < s.size
    · simp only [hi, if_true]
      by_cases hb : badAt s i
      · simp [hb]
      · obtain ⟨w1, w2, w3, w4⟩ := inner_high s i hi hb
        have ih := name_iff s f (i + (Utf8.decode s i).2) (by omega)
        simp only [hb, if_false]
        by_cases h47 : (Utf8.decode s i).1 = 47 ∨ (Utf8.decode s i).1 = 0
        · simp only [h47, if_true, Bool.false_eq_true, false_iff, not_and]
          intro _ hh
          exact hh i (Nat.le_refl _) hi (w3.1 h47)
        · simp only [h47, if_false]
          rw [ih]
          constructor
          · rintro ⟨h1, h2⟩
            refine ⟨h1, fun j j1 j2 => ?_⟩
            by_cases hj : j < i + (Utf8.decode s i).2
            · by_cases hji : j = i
              · subst hji; exact fun hh => h47 (w3.2 hh)
              · have := w4 (j - i) (by omega) (by omega)
                rw [show i + (j - i) = j by omega] at this
                omega
            · exact h2 j (by omega) j2
          · rintro ⟨h1, h2⟩
            exact ⟨h1, fun j j1 j2 => h2 j (by omega) j2⟩
    · simp only [hi, if_false, true_and, true_iff]
      intros; omega
theorem name_eq (s : ByteArray) : nameD s s.size 0 = (plainD s s.size 0 && lettersD s s.size 0) := by
  rw [Bool.eq_iff_iff, Bool.and_eq_true, plainD_iff, name_iff s s.size 0 (by omega), and_comm]
  simp
end Go.Proofs.YtkjndgapejbgcaaDoor

namespace Go.Proofs.YtkjndgapejbgcaaDoor
open Go.RowKit
set_option linter.unusedSimpArgs false

theorem ch_at {s : ByteArray} {k : Nat} (h : k < s.size) : s[k] = s.get! k := (Utf8W.get!_of_lt s k h).symm
theorem index_str {s : ByteArray} {k : Nat} {c : UInt8} (h : k < s.size) (hc : s.get! k = c) (w : World) : (Instr.index 9 (.string s) (.int .i64 (k : Int))).run Tryd.prog w = .ok (.int .u8 (c.toNat : Int)) w := by
  have h1 : (0 : Int) ≤ (k : Int) := by omega
  have h2 : s[k]? = some c := by rw [getElem?_pos s k h, ch_at h, hc]
  simp [Instr.index, run_underlying Tryd.underlying9, asIntOf, h2]

set_option maxRecDepth 20000 in
set_option maxHeartbeats 1000000 in
theorem more_any (c : Nat) (w : World) : Calls Tryd.prog 60 #[.int .u8 (c : Int)] w fun e w' => e = .returned (.int .i64 (moreN c)) ∧ w = w' := by
  go_enter Tryd.func60, Tryd.ntmps60
  go_wp2_with fail
  all_goals go_ret
  all_goals refine ⟨ret_int ?_, rfl⟩
  all_goals unfold moreN
  all_goals (try simp only [bne_iff_ne, bne_eq_false_iff_eq, beq_iff_eq, beq_eq_false_iff_ne, Bool.not_eq_false', Bool.not_eq_true', decide_eq_true_eq, decide_eq_false_iff_not, ne_eq] at *)
  all_goals (repeat' split)
  all_goals omega

set_option maxRecDepth 20000 in
set_option maxHeartbeats 1000000 in
theorem lowest_any (c : Nat) (w : World) : Calls Tryd.prog 61 #[.int .u8 (c : Int)] w fun e w' => e = .returned (.int .u8 (lowN c : Nat)) ∧ w = w' := by
  go_enter Tryd.func61, Tryd.ntmps61
  go_wp2_with fail
  all_goals go_ret
  all_goals refine ⟨ret_int ?_, rfl⟩
  all_goals unfold lowN
  all_goals (try simp only [bne_iff_ne, bne_eq_false_iff_eq, beq_iff_eq, beq_eq_false_iff_ne, Bool.not_eq_false', Bool.not_eq_true', decide_eq_true_eq, decide_eq_false_iff_not, ne_eq] at *)
  all_goals (repeat' split)
  all_goals omega

set_option maxRecDepth 20000 in
set_option maxHeartbeats 1000000 in
theorem highest_any (c : Nat) (w : World) : Calls Tryd.prog 62 #[.int .u8 (c : Int)] w fun e w' => e = .returned (.int .u8 (highN c : Nat)) ∧ w = w' := by
  go_enter Tryd.func62, Tryd.ntmps62
  go_wp2_with fail
  all_goals go_ret
  all_goals refine ⟨ret_int ?_, rfl⟩
  all_goals unfold highN
  all_goals (try simp only [bne_iff_ne, bne_eq_false_iff_eq, beq_iff_eq, beq_eq_false_iff_ne, Bool.not_eq_false', Bool.not_eq_true', decide_eq_true_eq, decide_eq_false_iff_not, ne_eq] at *)
  all_goals (repeat' split)
  all_goals omega

theorem lettersD_bad {s : ByteArray} {f i : Nat} (h : i < s.size) (hb : badAt s i) : lettersD s (f + 1) i = false := by simp [lettersD, h, hb]
theorem lettersD_good {s : ByteArray} {f i n : Nat} (h : i < s.size) (hb : ¬ badAt s i ∧ (Utf8.decode s i).2 = n + 1) : lettersD s (f + 1) i = lettersD s f (i + n + 1) := by simp [lettersD, h, hb.1, hb.2, Nat.add_assoc]

set_option maxRecDepth 20000 in
set_option maxHeartbeats 2000000 in
theorem letters_any (s : ByteArray) (hs : s.size ≤ 4096) (w : World) : Calls Tryd.prog 31 #[.string s] w fun e w' => e = .returned (.bool (lettersD s s.size 0)) ∧ w = w' := by
  obtain ⟨L, hL⟩ : ∃ L, lettersD s s.size 0 = L := ⟨_, rfl⟩
  rw [hL]
  have hL' : Hid (∃ f, s.size ≤ 0 + f ∧ lettersD s f 0 = L) := Lib.hid ⟨s.size, by omega, hL⟩
  clear hL
  go_enter Tryd.func31, Tryd.ntmps31
  go_wp2_with fail
  go_loop [3] (fun i => ∃ k : Nat, k ≤ s.size ∧ i = .int .i64 k ∧ Hid (∃ f, s.size ≤ k + f ∧ lettersD s f k = L)) (fun i => s.size - (intOf i).toNat)
  case atStart => exact ⟨0, by omega, rfl, hL'⟩
  case round =>
    clear hL'
    obtain ⟨k, hk, rfl, hf⟩ := hrel
    by_cases hlt : k < s.size
    · obtain ⟨c, hc⟩ : ∃ c, s.get! k = c := ⟨_, rfl⟩
      have hc2 := c.toNat_lt
      have hix := index_str hlt hc
      obtain ⟨m, hm⟩ : ∃ m, moreN c.toNat = m := ⟨_, rfl⟩
      have hml := more_le ⟨_, hc2⟩
      simp only [hm] at hml
      have hMore := more_any c.toNat
      rw [hm] at hMore
      have hF : Hid (badAt s k → L = false) := Lib.hid fun hb => by
        obtain ⟨f, h1, h2⟩ := hf.out
        obtain ⟨g, rfl⟩ : ∃ g, f = g + 1 := ⟨f - 1, by omega⟩
        rw [← h2, lettersD_bad hlt hb]
      by_cases hm0 : m < 0 ∨ (s.size : Int) ≤ k + m
      · have hb : L = false := hF.out (bad_first s k hlt (by rw [hc, hm]; exact hm0))
        subst hb
        go_wp2_with (refine (hMore _).mono ?_; rintro e w' ⟨rfl, rfl⟩)
        all_goals first
          | (go_ret; exact ⟨rfl, rfl⟩)
          | (exfalso; simp only [decide_eq_true_eq, decide_eq_false_iff_not, ge_iff_le] at *; omega)
      · obtain ⟨n, rfl⟩ := Int.eq_ofNat_of_zero_le (show 0 ≤ m by omega)
        have hkn : k + n < s.size := by omega
        have g1 : ¬ ((n : Int) < 0) := by omega
        have g2 : ¬ ((s.size : Int) ≤ (k : Int) + (n : Int)) := by omega
        have hB : Hid (∀ j, 1 ≤ j → j ≤ n → (s.get! (k + j)).toNat < loK c.toNat j ∨ hiK c.toNat j < (s.get! (k + j)).toNat → L = false) := Lib.hid fun j h1 h2 h3 => hF.out (bad_next s k j hlt h1 (by rw [hc, hm]; omega) (by rw [hc]; exact h3))
        have hG : Hid ((∀ j, 1 ≤ j → j ≤ n → loK c.toNat j ≤ (s.get! (k + j)).toNat ∧ (s.get! (k + j)).toNat ≤ hiK c.toNat j) → ∃ f, s.size ≤ k + n + 1 + f ∧ lettersD s f (k + n + 1) = L) := Lib.hid fun h => by
          obtain ⟨f, h1, h2⟩ := hf.out
          obtain ⟨g, rfl⟩ : ∃ g, f = g + 1 := ⟨f - 1, by omega⟩
          rw [lettersD_good hlt (good_at s k n hlt (by rw [hc, hm]) hkn (by rw [hc]; exact h))] at h2
          exact ⟨g, by omega, h2⟩
        have hkn' := Lib.hid hkn
        clear hF hf hm0 hkn
        go_wp2_with (refine (hMore _).mono ?_; rintro e w' ⟨rfl, rfl⟩)
        go_loop [6] (fun i => ∃ j : Nat, 1 ≤ j ∧ j ≤ n + 1 ∧ i = .int .i64 j ∧ Hid (∀ q, 1 ≤ q → q < j → loK c.toNat q ≤ (s.get! (k + q)).toNat ∧ (s.get! (k + q)).toNat ≤ hiK c.toNat q)) (fun i => n + 1 - (intOf i).toNat)
        case atStart => exact ⟨1, by omega, by omega, rfl, Lib.hid fun q h1 h2 => by omega⟩
        case round =>
          obtain ⟨j, hj1, hj, rfl, hQ⟩ := hrel
          by_cases hjn : j ≤ n
          · obtain ⟨x, hx⟩ : ∃ x, s.get! (k + j) = x := ⟨_, rfl⟩
            have hix2 : ∀ w, (Instr.index 9 (.string s) (.int .i64 ((k : Int) + (j : Int)))).run Tryd.prog w = .ok (.int .u8 (x.toNat : Int)) w := fun w => by
              have := index_str (k := k + j) (by have := hkn'.out; omega) hx w
              rwa [Int.natCast_add] at this
            obtain ⟨lo, hlo⟩ : ∃ lo, loK c.toNat j = lo := ⟨_, rfl⟩
            obtain ⟨hi, hhi⟩ : ∃ hi, hiK c.toNat j = hi := ⟨_, rfl⟩
            have hno : Hid ((x.toNat < lo ∨ hi < x.toNat) → L = false) := Lib.hid fun h => hB.out j hj1 hjn (by rw [hx, hlo, hhi]; exact h)
            have hyes : Hid (lo ≤ x.toNat ∧ x.toNat ≤ hi → ∀ q, 1 ≤ q → q < j + 1 → loK c.toNat q ≤ (s.get! (k + q)).toNat ∧ (s.get! (k + q)).toNat ≤ hiK c.toNat q) := Lib.hid fun h q h1 h2 => by
              rcases Nat.lt_succ_iff_lt_or_eq.1 h2 with h3 | h3
              · exact hQ.out q h1 h3
              · subst h3
                rw [hx, hlo, hhi]
                exact h
            clear hQ hB hG
            by_cases hj1' : j = 1
            · subst hj1'
              simp only [loK, hiK, if_true] at hlo hhi
              have hL1 := lowest_any c.toNat
              have hL2 := highest_any c.toNat
              rw [hlo] at hL1
              rw [hhi] at hL2
              clear hlo hhi
              have hix2 : ∀ w, (Instr.index 9 (.string s) (.int .i64 ((k : Int) + 1))).run Tryd.prog w = .ok (.int .u8 (x.toNat : Int)) w := fun w => hix2 w
              go_wp2_with (first
                | (refine (hL1 _).mono ?_; rintro e w' ⟨rfl, rfl⟩)
                | (refine (hL2 _).mono ?_; rintro e w' ⟨rfl, rfl⟩))
              all_goals (try simp only [bne_iff_ne, bne_eq_false_iff_eq, beq_iff_eq, beq_eq_false_iff_ne, Bool.not_eq_false', Bool.not_eq_true', decide_eq_true_eq, decide_eq_false_iff_not, ne_eq, gt_iff_lt] at *)
              all_goals first
                | (go_ret; exact ⟨ret_bool (hno.out (by omega)).symm, rfl⟩)
                | (go_round
                   case rel => exact ⟨1 + 1, by omega, by omega, by go_num, Lib.hid (hyes.out (by omega))⟩
                   case measure => simp [intOf]; omega)
            · simp only [loK, hiK, if_neg hj1'] at hlo hhi
              subst hlo hhi
              go_wp2_with fail
              all_goals (try simp only [bne_iff_ne, bne_eq_false_iff_eq, beq_iff_eq, beq_eq_false_iff_ne, Bool.not_eq_false', Bool.not_eq_true', decide_eq_true_eq, decide_eq_false_iff_not, ne_eq, gt_iff_lt] at *)
              all_goals first
                | (go_ret; exact ⟨ret_bool (hno.out (by omega)).symm, rfl⟩)
                | (go_round
                   case rel => exact ⟨j + 1, by omega, by omega, by go_num, Lib.hid (hyes.out (by omega))⟩
                   case measure => simp [intOf]; omega)
          · obtain rfl : n + 1 = j := by omega
            have hE := Lib.hid (hG.out fun q h1 h2 => hQ.out q h1 (by omega))
            clear hG hB hQ
            go_wp2_with fail
            go_round
            case rel => exact ⟨k + n + 1, by have := hkn'.out; omega, by go_num, hE⟩
            case measure => simp [intOf]; have := hkn'.out; omega
    · have hb : L = true := by
        obtain ⟨f, h1, h2⟩ := hf.out
        rw [← h2, lettersD_end s f k hlt]
      subst hb
      go_wp2_with fail
      go_ret
      exact ⟨rfl, rfl⟩
end Go.Proofs.YtkjndgapejbgcaaDoor

namespace Go.Proofs.YtkjndgapejbgcaaDoor
open Go.RowKit
set_option linter.unusedSimpArgs false

def dot1 (s : ByteArray) : Bool := s.toList == [46]
def dot2 (s : ByteArray) : Bool := s.toList == [46, 46]
def Fine (s : ByteArray) : Bool := decide (1 ≤ s.size) && decide (s.size ≤ 64) && !dot1 s && !dot2 s

set_option maxRecDepth 20000 in
set_option maxHeartbeats 2000000 in
theorem named_any (s : ByteArray) (w : World) : Calls Tryd.prog 11 #[.string s] w fun e w' => e = .returned (.bool (Fine s && nameD s s.size 0)) ∧ w = w' := by
  obtain ⟨b1, hb1⟩ : ∃ b, dot1 s = b := ⟨_, rfl⟩
  obtain ⟨b2, hb2⟩ : ∃ b, dot2 s = b := ⟨_, rfl⟩
  unfold Fine
  rw [hb1, hb2]
  unfold dot1 at hb1
  unfold dot2 at hb2
  by_cases h0 : 1 ≤ s.size
  · by_cases h64 : s.size ≤ 64
    · cases b1
      · cases b2
        · go_enter Tryd.func11, Tryd.ntmps11
          have hP : Hid (∃ n, n = s.size - 0 ∧ plainD s n 0 = plainD s s.size 0) := Lib.hid ⟨s.size, by omega, rfl⟩
          have hLt : ∀ w, _ := letters_any s (by omega)
          rw [name_eq s]
          obtain ⟨PL, hPL⟩ : ∃ p, plainD s s.size 0 = p := ⟨_, rfl⟩
          obtain ⟨LL, hLL⟩ : ∃ p, lettersD s s.size 0 = p := ⟨_, rfl⟩
          rw [hLL] at hLt
          rw [hPL] at hP
          rw [hPL, hLL]
          clear hPL hLL
          go_wp2_with fail
          go_loop [3] (fun i => ∃ k : Nat, k ≤ s.size ∧ i = .int .i64 k ∧ Hid (∃ n, n = s.size - k ∧ plainD s n k = PL)) (fun i => s.size - (intOf i).toNat)
          case atStart => exact ⟨0, by omega, rfl, hP⟩
          case round =>
            clear hP
            obtain ⟨k, hk, rfl, hQ⟩ := hrel
            by_cases hlt : k < s.size
            · obtain ⟨c, hc⟩ : ∃ c, s.get! k = c := ⟨_, rfl⟩
              have hix := index_str hlt hc
              have h1 : Hid (c.toNat = 47 ∨ c.toNat = 0 → PL = false) := Lib.hid fun h => by
                obtain ⟨n, h1, h2⟩ := hQ.out
                obtain ⟨m, rfl⟩ : ∃ m, n = m + 1 := ⟨n - 1, by omega⟩
                rw [← h2]
                simp [plainD, hc, h]
              have h2 : Hid (¬ (c.toNat = 47 ∨ c.toNat = 0) → ∃ n, n = s.size - (k + 1) ∧ plainD s n (k + 1) = PL) := Lib.hid fun h => by
                obtain ⟨n, h1, h2⟩ := hQ.out
                obtain ⟨m, rfl⟩ : ∃ m, n = m + 1 := ⟨n - 1, by omega⟩
                refine ⟨m, by omega, ?_⟩
                rw [← h2]
                simp [plainD, hc, h]
              clear hQ hc
              go_wp2_with fail
              all_goals (try simp only [bne_iff_ne, bne_eq_false_iff_eq, beq_iff_eq, beq_eq_false_iff_ne, Bool.not_eq_false', Bool.not_eq_true', decide_eq_true_eq, decide_eq_false_iff_not, ne_eq, gt_iff_lt] at *)
              all_goals first
                | (go_ret; exact ⟨ret_bool (by rw [h1.out (by omega)]; simp), rfl⟩)
                | (go_round
                   case rel => exact ⟨k + 1, by omega, by go_num, Lib.hid (h2.out (by omega))⟩
                   case measure => simp [intOf]; omega)
            · have hpl : PL = true := by
                obtain ⟨n, h1, h2⟩ := hQ.out
                obtain rfl : n = 0 := by omega
                rw [← h2]; rfl
              subst hpl
              go_wp2_with (refine (hLt _).mono ?_; rintro e w' ⟨rfl, rfl⟩)
              go_ret
              exact ⟨ret_bool (by simp [h0, h64]), rfl⟩
        · go_enter Tryd.func11, Tryd.ntmps11
          go_wp2_with fail
          go_ret
          exact ⟨ret_bool (by simp), rfl⟩
      · go_enter Tryd.func11, Tryd.ntmps11
        go_wp2_with fail
        go_ret
        exact ⟨ret_bool (by simp), rfl⟩
    · go_enter Tryd.func11, Tryd.ntmps11
      go_wp2_with fail
      go_ret
      exact ⟨ret_bool (by simp [h64]), rfl⟩
  · go_enter Tryd.func11, Tryd.ntmps11
    go_wp2_with fail
    go_ret
    exact ⟨ret_bool (by simp [h0]), rfl⟩
end Go.Proofs.YtkjndgapejbgcaaDoor

namespace Go.Proofs.YtkjndgapejbgcaaDoor
open Go.Shelf Go.RowKit
def lays260_ren : Go.Shelf.Ren := ⟨fun | 260 => 59 | n => n, fun | 9 => 9 | 21 => 21 | 3 => 3 | 4 => 4 | 5 => 5 | 119 => 126 | 0 => 0 | 46 => 95 | 139 => 129 | 138 => 128 | n => n, fun | 3 => 2 | 4 => 3 | n => n⟩
theorem lays260 : Go.Proofs.Lays.n260 Tryd.prog lays260_ren := {
  mixed := by kernel_rfl
  f260 := Tryd.func59.trans (congrArg some (by kernel_rfl))
  t0 := Tryd.underlying0
  a0 := Tryd.isAgg0
  z0 := Tryd.sizeOf0
  v0 := Tryd.zeroValue0
  t3 := Tryd.underlying3
  a3 := Tryd.isAgg3
  z3 := Tryd.sizeOf3
  v3 := Tryd.zeroValue3
  t4 := Tryd.underlying4
  a4 := Tryd.isAgg4
  z4 := Tryd.sizeOf4
  v4 := Tryd.zeroValue4
  t5 := Tryd.underlying5
  a5 := Tryd.isAgg5
  z5 := Tryd.sizeOf5
  v5 := Tryd.zeroValue5
  t9 := Tryd.underlying9
  a9 := Tryd.isAgg9
  z9 := Tryd.sizeOf9
  v9 := Tryd.zeroValue9
  t21 := Tryd.underlying21
  a21 := Tryd.isAgg21
  z21 := Tryd.sizeOf21
  v21 := Tryd.zeroValue21
  t46 := Tryd.underlying95
  a46 := Tryd.isAgg95
  z46 := Tryd.sizeOf95
  v46 := Tryd.zeroValue95
  t119 := Tryd.underlying126
  a119 := Tryd.isAgg126
  z119 := Tryd.sizeOf126
  t138 := Tryd.underlying128
  a138 := Tryd.isAgg128
  z138 := Tryd.sizeOf128
  v138 := Tryd.zeroValue128
  t139 := Tryd.underlying129
  a139 := Tryd.isAgg129
  z139 := Tryd.sizeOf129
  v139 := Tryd.zeroValue129
  g3 := by kernel_rfl
  g4 := by kernel_rfl }
open Go.RowKit Go.Lib in
theorem utf8_decodeRuneInStringSlow (s : ByteArray) (w : World) (hT : Lib.Utf8Tabs 2 3 w) :
    Calls Tryd.prog 59 #[.string s] w fun e w' => e = .returned (.tuple #[.int .i32 (Lib.decodeGo s).1, .int .i64 (Lib.decodeGo s).2]) ∧ Below w.heap.size w w' := Any.utf8_decodeRuneInStringSlow lays260 s w hT
def lays197_ren : Go.Shelf.Ren := ⟨fun | 197 => 30 | 260 => 59 | n => n, fun | 9 => 9 | 21 => 21 | 3 => 3 | 4 => 4 | 5 => 5 | 105 => 55 | 119 => 126 | 0 => 0 | 46 => 95 | 139 => 129 | 138 => 128 | n => n, fun | 3 => 2 | 4 => 3 | n => n⟩
theorem lays197 : Go.Proofs.Lays.n197 Tryd.prog lays197_ren := {
  mixed := by kernel_rfl
  f197 := Tryd.func30.trans (congrArg some (by kernel_rfl))
  f260 := Tryd.func59.trans (congrArg some (by kernel_rfl))
  t0 := Tryd.underlying0
  a0 := Tryd.isAgg0
  z0 := Tryd.sizeOf0
  v0 := Tryd.zeroValue0
  t3 := Tryd.underlying3
  a3 := Tryd.isAgg3
  z3 := Tryd.sizeOf3
  v3 := Tryd.zeroValue3
  t4 := Tryd.underlying4
  a4 := Tryd.isAgg4
  z4 := Tryd.sizeOf4
  v4 := Tryd.zeroValue4
  t5 := Tryd.underlying5
  a5 := Tryd.isAgg5
  z5 := Tryd.sizeOf5
  v5 := Tryd.zeroValue5
  t9 := Tryd.underlying9
  a9 := Tryd.isAgg9
  z9 := Tryd.sizeOf9
  v9 := Tryd.zeroValue9
  t21 := Tryd.underlying21
  a21 := Tryd.isAgg21
  z21 := Tryd.sizeOf21
  v21 := Tryd.zeroValue21
  t46 := Tryd.underlying95
  a46 := Tryd.isAgg95
  z46 := Tryd.sizeOf95
  v46 := Tryd.zeroValue95
  t105 := Tryd.underlying55
  a105 := Tryd.isAgg55
  z105 := Tryd.sizeOf55
  v105 := Tryd.zeroValue55
  t119 := Tryd.underlying126
  a119 := Tryd.isAgg126
  z119 := Tryd.sizeOf126
  t138 := Tryd.underlying128
  a138 := Tryd.isAgg128
  z138 := Tryd.sizeOf128
  v138 := Tryd.zeroValue128
  t139 := Tryd.underlying129
  a139 := Tryd.isAgg129
  z139 := Tryd.sizeOf129
  v139 := Tryd.zeroValue129
  g3 := by kernel_rfl
  g4 := by kernel_rfl }
open Go.RowKit Go.Lib in
/-- **unicode/utf8.DecodeRuneInString AT EVERY STRING.** (LAID: no walk: one application.) -/
theorem utf8_DecodeRuneInString (s : ByteArray) (w : World) (hT : Lib.Utf8Tabs 2 3 w) :
    Calls Tryd.prog 30 #[.string s] w fun e w' => e = .returned (.tuple #[.int .i32 (Lib.decodeGo s).1, .int .i64 (Lib.decodeGo s).2]) ∧ Below w.heap.size w w' := Any.utf8_DecodeRuneInString lays197 s w hT

def U8V (w : World) : Prop := Lib.VarReads Tryd.prog w "unicode/utf8.acceptRanges" Lib.acceptData ∧ Lib.VarReads Tryd.prog w "unicode/utf8.first" Lib.firstData
abbrev U8T (w : World) : Prop := Lib.Utf8Tabs 2 3 w
theorem u8t_of {w : World} (h : U8V w) : U8T w :=
  utf8Tabs_of_readsT (U8Types.of260 lays260) ⟨by kernel_rfl, by kernel_rfl, by kernel_rfl, by kernel_rfl, by kernel_rfl, by kernel_rfl, by kernel_rfl⟩ h.2 h.1
theorem u8t_keep {w w' : World} (h : U8T w) (hb : Below w.heap.size w w') : U8T w' :=
  ⟨fun c hc => (hb.cell (World.block_lt_of_cell? w _ (h.1 c hc))).trans (h.1 c hc), fun i hi =>
    ⟨(hb.cell (World.block_lt_of_cell? w _ (h.2 i hi).1)).trans (h.2 i hi).1, (hb.cell (World.block_lt_of_cell? w _ (h.2 i hi).2)).trans (h.2 i hi).2⟩⟩
end Go.Proofs.YtkjndgapejbgcaaDoor
