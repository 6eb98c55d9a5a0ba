/- Why a list's parts may not be. Letters and names, in plain words: how the document's bounds of a letter's bytes and the decoder agree. No program is named here. -/
import Derived.Test.YtkjndgapejbgcaaDoorPkA6
import Derived.Lib.ValidLaws
import Derived.Laws.RangeAny
import Derived.Shelf.Unicode.DecodeAny

namespace Go.Proofs.YtkjndgapejbgcaaDoor
open Go.RowKit
set_option linter.unusedSimpArgs false

/-- Do the sizes' sums stay in bounds? -/
def partsB : Nat → List PartT → Bool
  | _, [] => true
  | s, x :: l => decide (s + x.2 ≤ 9223372036854775807) && partsB (s + x.2) l
theorem partsB_at {s : Nat} {l : List PartT} {k : Nat} (hk : k < l.length) : partsB s (l.drop k) = (decide (s + l[k].2 ≤ 9223372036854775807) && partsB (s + l[k].2) (l.drop (k + 1))) := by
  rw [List.drop_eq_getElem_cons hk]
  rfl

set_option maxRecDepth 100000 in
set_option maxHeartbeats 2000000 in
theorem parts_any (w : World) (l : List PartT) (A : Option Addr) (n c : Nat) (hn0 : l.length = n) (hr : Row encP 33 w w.heap.size A l) (hok : ∀ x ∈ l, x.2 < 18446744073709551616) (hl : n ≤ 140737488355328) :
    Calls Tryd.prog 64 #[.slice A n c] w fun e w' => e = .returned (.int .i64 (if partsB 0 l then 0 else 47)) ∧ Below w.heap.size w w' := by
  have hi33 : (Tryd.prog.info? 47).map (·.size) = some 33 := by kernel_rfl
  have hi33' := Lib.hid hi33
  have zP := zeroP
  have hr' := Lib.hid hr
  have hok' := Lib.hid hok
  have hn := Lib.hid (fun _ : Unit => hn0)
  obtain ⟨R, hR⟩ : ∃ R, partsB 0 l = R := ⟨_, rfl⟩
  have hR' : Hid (partsB 0 (l.drop 0) = R) := Lib.hid hR
  rw [hR]
  clear hi33 hr hok hn0 hR
  go_enter Tryd.func64, Tryd.ntmps64
  go_wp2_with fail
  go_loopw [3, 8] (fun sv iv wr => ∃ (k s : Nat), k ≤ n ∧ iv = .int .i64 (k : Int) ∧ sv = .int .u64 (s : Int) ∧ s ≤ 9223372036854775807 ∧ Hid (partsB s (l.drop k) = R) ∧ Hid (Below w.heap.size w wr)) (fun _ iv _ => n - (intOf iv).toNat)
  case atStart => exact ⟨0, 0, by omega, rfl, rfl, by omega, hR', Lib.hid (Below.refl _ _)⟩
  case round =>
    clear hR'
    obtain ⟨k, s, hk, rfl, rfl, hs, hR, hB⟩ := hrel
    by_cases hlt : k < n
    · have hkx : k < l.length := by rw [hn.out ()]; exact hlt
      obtain ⟨b, off, rfl, _, hc⟩ := Row.elem (Rd.below hr'.out hB.out) encP_length (by decide) hkx
      have hRk := hR.out
      rw [partsB_at hkx] at hRk
      have hzl := hok'.out _ (List.getElem_mem hkx)
      obtain ⟨x, hx⟩ : ∃ x, l[k] = x := ⟨_, rfl⟩
      rw [hx] at hc hRk hzl
      obtain ⟨z, hz⟩ : ∃ z, x.2 = z := ⟨_, rfl⟩
      rw [hz] at hRk hzl
      have hrg := Lib.hid (show wr.rangeAt b (off + k * 33) (encP x) from fun j v hv => hc j v hv)
      have hnw := row_new wr 47 (encP (zK, 0)).toArray (encP x).toArray
      have hN := Lib.hid hnw.1
      have hNb := Lib.hid (hnw.2 _ (show w.heap.size ≤ wr.heap.size from hB.out.size))
      have hxs' := Lib.hid (show (encP x).toArray.size = 33 by simp [encP_length])
      have hzs' := Lib.hid (show (encP (zK, 0)).toArray.size = 33 by simp [encP_length])
      have hone' := Lib.hid (show (encP x).toArray.all (·.oneCell') = true from all_oneCell_toArray (encP_one x))
      have h32' := Lib.hid (show (encP x)[32]? = some (.int .u64 (z : Int)) by simp [encP, u8s, x.1.2, hz])
      clear hc hnw hx hkx hR hz
      have hm : (∀ _ : Unit, 9223372036854775807 < (z : Int)) ∨ (z : Int) ≤ 9223372036854775807 := by
        by_cases h : z ≤ 9223372036854775807
        · right; omega
        · left; intro _; omega
      by_cases hz1 : (z : Int) ≤ 9223372036854775807
      · by_cases hz2 : (s : Int) + (z : Int) ≤ 9223372036854775807
        · have hRn : Hid (partsB (s + z) (l.drop (k + 1)) = R) := Lib.hid (by rw [decide_eq_true (show s + z ≤ 9223372036854775807 by omega), Bool.true_and] at hRk; exact hRk)
          clear hRk hm
          go_wp2_with (first
            | (refine wpList_load_mid rfl 47 _ rfl b (off + k * 33) rfl (encP x) _ hrg.out Tryd.underlying47 rfl (by rw [encP_length]; exact hi33'.out) ?_)
            | (refine wpList_store_row rfl 47 _ _ rfl wr.heap.size (encP x).toArray rfl rfl 47 _ (heap_alloc_new wr _) (by rw [hxs'.out]; exact hi33'.out) (by rw [hxs'.out, hzs'.out]) hone'.out ?_
               generalize ((wr.alloc (.cells (encP (zK, 0)).toArray 47)).setRow wr.heap.size (encP x).toArray) = w2 at hN hNb ⊢
               have c32 : w2.cell? ⟨wr.heap.size, 32, none⟩ = some (.int .u64 (z : Int)) := (cell_of_row _ _ _ _ _ _ hN.out).trans (by simpa using h32'.out)))
          go_roundw
          case rel => exact ⟨k + 1, s + z, by omega, by go_num, by go_num, by omega, hRn, Lib.hid (hB.out.trans hNb.out)⟩
          case measure => simp [intOf]; omega
        · have hRn : R = false := by rw [decide_eq_false (show ¬ s + z ≤ 9223372036854775807 by omega), Bool.false_and] at hRk; exact hRk.symm
          subst hRn
          have hz2 : 9223372036854775807 < (s : Int) + (z : Int) := by omega
          clear hRk hm
          go_wp2_with (first
            | (refine wpList_load_mid rfl 47 _ rfl b (off + k * 33) rfl (encP x) _ hrg.out Tryd.underlying47 rfl (by rw [encP_length]; exact hi33'.out) ?_)
            | (refine wpList_store_row rfl 47 _ _ rfl wr.heap.size (encP x).toArray rfl rfl 47 _ (heap_alloc_new wr _) (by rw [hxs'.out]; exact hi33'.out) (by rw [hxs'.out, hzs'.out]) hone'.out ?_
               generalize ((wr.alloc (.cells (encP (zK, 0)).toArray 47)).setRow wr.heap.size (encP x).toArray) = w2 at hN hNb ⊢
               have c32 : w2.cell? ⟨wr.heap.size, 32, none⟩ = some (.int .u64 (z : Int)) := (cell_of_row _ _ _ _ _ _ hN.out).trans (by simpa using h32'.out)))
          go_ret
          exact ⟨rfl, hB.out.trans hNb.out⟩
      · have hRn : R = false := by rw [decide_eq_false (show ¬ s + z ≤ 9223372036854775807 by omega), Bool.false_and] at hRk; exact hRk.symm
        subst hRn
        have hz1 : 9223372036854775807 < (z : Int) := by omega
        clear hRk hm
        go_wp2_with (first
          | (refine wpList_load_mid rfl 47 _ rfl b (off + k * 33) rfl (encP x) _ hrg.out Tryd.underlying47 rfl (by rw [encP_length]; exact hi33'.out) ?_)
          | (refine wpList_store_row rfl 47 _ _ rfl wr.heap.size (encP x).toArray rfl rfl 47 _ (heap_alloc_new wr _) (by rw [hxs'.out]; exact hi33'.out) (by rw [hxs'.out, hzs'.out]) hone'.out ?_
             generalize ((wr.alloc (.cells (encP (zK, 0)).toArray 47)).setRow wr.heap.size (encP x).toArray) = w2 at hN hNb ⊢
             have c32 : w2.cell? ⟨wr.heap.size, 32, none⟩ = some (.int .u64 (z : Int)) := (cell_of_row _ _ _ _ _ _ hN.out).trans (by simpa using h32'.out)))
        go_ret
        exact ⟨rfl, hB.out.trans hNb.out⟩
    · obtain rfl : k = n := by omega
      have hRn : R = true := by
        have := hR.out
        rw [List.drop_eq_nil_of_le (by rw [hn.out ()]; exact Nat.le_refl _)] at this
        exact this.symm
      subst hRn
      go_wp2_with fail
      go_ret
      exact ⟨rfl, hB.out⟩

set_option maxRecDepth 100000 in
set_option maxHeartbeats 2000000 in
theorem refParts_any (w : World) (l : List PartT) (A : Option Addr) (n c : Nat) (hn0 : l.length = n) (hr : Row encP 33 w w.heap.size A l) (hok : ∀ x ∈ l, x.2 < 18446744073709551616) (hl : n ≤ 140737488355328) :
    Calls Tryd.prog 43 #[.slice A n c] w fun e w' => e = .returned (.int .i64 (if partsB 0 l then 0 else 47)) ∧ w = w' := by
  have hr' := Lib.hid hr
  have hok' := Lib.hid hok
  have hn := Lib.hid (fun _ : Unit => hn0)
  obtain ⟨R, hR⟩ : ∃ R, partsB 0 l = R := ⟨_, rfl⟩
  have hR' : Hid (partsB 0 (l.drop 0) = R) := Lib.hid hR
  rw [hR]
  clear hr hok hn0 hR
  go_enter Tryd.func43, Tryd.ntmps43
  go_wp2_with fail
  go_loop [3, 4] (fun sv iv => ∃ (k s : Nat), k ≤ n ∧ iv = .int .i64 (k : Int) ∧ sv = .int .u64 (s : Int) ∧ s ≤ 9223372036854775807 ∧ Hid (partsB s (l.drop k) = R)) (fun _ iv => n - (intOf iv).toNat)
  case atStart => exact ⟨0, 0, by omega, rfl, rfl, by omega, hR'⟩
  case round =>
    clear hR'
    obtain ⟨k, s, hk, rfl, rfl, hs, hR⟩ := hrel
    by_cases hlt : k < n
    · have hkx : k < l.length := by rw [hn.out ()]; exact hlt
      obtain ⟨b, off, rfl, _, hc⟩ := Row.elem hr'.out encP_length (by decide) hkx
      have hRk := hR.out
      rw [partsB_at hkx] at hRk
      have hzl := hok'.out _ (List.getElem_mem hkx)
      obtain ⟨x, hx⟩ : ∃ x, l[k] = x := ⟨_, rfl⟩
      rw [hx] at hc hRk hzl
      obtain ⟨z, hz⟩ : ∃ z, x.2 = z := ⟨_, rfl⟩
      rw [hz] at hRk hzl
      have c32 : w.cell? ⟨b, off + k * 33 + 32, none⟩ = some (.int .u64 (z : Int)) := hc 32 _ (by simp [encP, u8s, x.1.2, hz])
      have hws : IntKind.u64.wrap (9223372036854775807 - (s : Int)) = ((9223372036854775807 - s : Nat) : Int) := by rw [IntKind.wrap_u64]; omega
      clear hc hx hkx hR hz
      by_cases hz2 : s + z ≤ 9223372036854775807
      · have hRn : Hid (partsB (s + z) (l.drop (k + 1)) = R) := Lib.hid (by rw [decide_eq_true hz2, Bool.true_and] at hRk; exact hRk)
        have hle : (z : Int) ≤ ((9223372036854775807 - s : Nat) : Int) := by omega
        clear hRk
        go_wp2_with fail
        go_round
        case rel => exact ⟨k + 1, s + z, by omega, by go_num, by go_num, by omega, hRn⟩
        case measure => simp [intOf]; omega
      · have hRn : R = false := by rw [decide_eq_false hz2, Bool.false_and] at hRk; exact hRk.symm
        subst hRn
        have hle : ((9223372036854775807 - s : Nat) : Int) < (z : Int) := by omega
        clear hRk
        go_wp2_with fail
        go_ret
        exact ⟨rfl, rfl⟩
    · obtain rfl : k = n := by omega
      have hRn : R = true := by
        have := hR.out
        rw [List.drop_eq_nil_of_le (by rw [hn.out ()]; exact Nat.le_refl _)] at this
        exact this.symm
      subst hRn
      go_wp2_with fail
      go_ret
      exact ⟨rfl, rfl⟩
end Go.Proofs.YtkjndgapejbgcaaDoor

namespace Go.Proofs.YtkjndgapejbgcaaDoor

def moreN (c : Nat) : Int := if c < 128 then 0 else if 194 ≤ c ∧ c ≤ 223 then 1 else if 224 ≤ c ∧ c ≤ 239 then 2 else if 240 ≤ c ∧ c ≤ 244 then 3 else -1
def lowN (c : Nat) : Nat := if c = 224 then 160 else if c = 240 then 144 else 128
def highN (c : Nat) : Nat := if c = 237 then 159 else if c = 244 then 143 else 191
def loK (c k : Nat) : Nat := if k = 1 then lowN c else 128
def hiK (c k : Nat) : Nat := if k = 1 then highN c else 191

def badAt (s : ByteArray) (i : Nat) : Prop := (Utf8.decode s i).1 = 65533 ∧ (Utf8.decode s i).2 = 1
instance (s : ByteArray) (i : Nat) : Decidable (badAt s i) := inferInstanceAs (Decidable (_ ∧ _))

set_option maxRecDepth 100000 in
theorem tab_of : ∀ c : Fin 256, 128 ≤ c.val → Lib.accLo (Lib.firstT c.val / 16) = lowN c.val ∧ Lib.accHi (Lib.firstT c.val / 16) = highN c.val ∨ moreN c.val = -1 := by decide
set_option maxRecDepth 100000 in
theorem first_of : ∀ c : Fin 256, 128 ≤ c.val → ((Lib.firstT c.val % 8 : Nat) : Int) = moreN c.val + 1 ∨ (moreN c.val = -1 ∧ Lib.firstT c.val % 8 = 1) := by decide
set_option maxRecDepth 100000 in
theorem more_of : ∀ c : Fin 256, 128 ≤ c.val → moreN c.val ≠ 0 := by decide
set_option maxRecDepth 100000 in
theorem more_le : ∀ c : Fin 256, -1 ≤ moreN c.val ∧ moreN c.val ≤ 3 := by decide

theorem low_ge (c : Nat) : 128 ≤ lowN c := by
  unfold lowN
  split
  · decide
  · split <;> decide

/-- What the decoder says at a byte from 128 on. -/
theorem dec_high (s : ByteArray) (i : Nat) (hi : i < s.size) (hc : 128 ≤ (s.get! i).toNat) :
    (Lib.checkN (s.size - i) (s.get! (i + 1)).toNat (s.get! (i + 2)).toNat (s.get! (i + 3)).toNat (Lib.firstT (s.get! i).toNat % 8) (Lib.accLo (Lib.firstT (s.get! i).toNat / 16)) (Lib.accHi (Lib.firstT (s.get! i).toNat / 16)) = none ∧ badAt s i) ∨
    ∃ k, 2 ≤ k ∧ Lib.checkN (s.size - i) (s.get! (i + 1)).toNat (s.get! (i + 2)).toNat (s.get! (i + 3)).toNat (Lib.firstT (s.get! i).toNat % 8) (Lib.accLo (Lib.firstT (s.get! i).toNat / 16)) (Lib.accHi (Lib.firstT (s.get! i).toNat / 16)) = some k ∧ (Utf8.decode s i).2 = k := by
  unfold badAt
  rw [Lib.decode_at]
  rcases Lib.check_decode (s.size - i) (s.get! i).toNat (s.get! (i + 1)).toNat (s.get! (i + 2)).toNat (s.get! (i + 3)).toNat (by omega) hc (s.get! i).toNat_lt (s.get! (i + 1)).toNat_lt (s.get! (i + 2)).toNat_lt (s.get! (i + 3)).toNat_lt with ⟨h1, h2⟩ | h
  · exact .inl ⟨h1, by rw [h2]; exact ⟨rfl, rfl⟩⟩
  · exact .inr h
theorem dec_low (s : ByteArray) (i : Nat) (_hi : i < s.size) (hc : (s.get! i).toNat < 128) : Utf8.decode s i = ((s.get! i).toNat, 1) := by
  rw [Lib.decode_at]
  simp [Lib.decodeN, hc]

/-- No letter: by its first byte, or for want of bytes. -/
theorem bad_first (s : ByteArray) (i : Nat) (hi : i < s.size) (h : moreN (s.get! i).toNat < 0 ∨ (s.size : Int) ≤ i + moreN (s.get! i).toNat) : badAt s i := by
  have hlt := (s.get! i).toNat_lt
  by_cases hc : (s.get! i).toNat < 128
  · simp [moreN, hc] at h
    omega
  · have hm := more_le ⟨_, hlt⟩
    have hf := first_of ⟨_, hlt⟩ (by simp; omega)
    simp only at hm hf
    rcases dec_high s i hi (by omega) with h1 | ⟨k, hk, h1, h2⟩
    · exact h1.2
    · exfalso
      unfold Lib.checkN at h1
      repeat' split at h1
      all_goals first | (simp at h1; done) | (rcases hf with hf | hf <;> omega)
/-- No letter: a byte out of its bounds. -/
theorem bad_next (s : ByteArray) (i k : Nat) (hi : i < s.size) (hk : 1 ≤ k) (hkn : (k : Int) ≤ moreN (s.get! i).toNat) (h : (s.get! (i + k)).toNat < loK (s.get! i).toNat k ∨ hiK (s.get! i).toNat k < (s.get! (i + k)).toNat) : badAt s i := by
  have hlt := (s.get! i).toNat_lt
  by_cases hc : (s.get! i).toNat < 128
  · simp [moreN, hc] at hkn
    omega
  · have hm := more_le ⟨_, hlt⟩
    have hf := first_of ⟨_, hlt⟩ (by simp; omega)
    have ht := tab_of ⟨_, hlt⟩ (by simp; omega)
    simp only at hm hf ht
    have ht : Lib.accLo (Lib.firstT (s.get! i).toNat / 16) = lowN (s.get! i).toNat ∧ Lib.accHi (Lib.firstT (s.get! i).toNat / 16) = highN (s.get! i).toNat := ht.resolve_right (by omega)
    have hf : ((Lib.firstT (s.get! i).toNat % 8 : Nat) : Int) = moreN (s.get! i).toNat + 1 := hf.resolve_right (by omega)
    rcases dec_high s i hi (by omega) with h1 | ⟨kk, hkk, h1, h2⟩
    · exact h1.2
    · exfalso
      rw [ht.1, ht.2] at h1
      have hk3 : k = 1 ∨ k = 2 ∨ k = 3 := by omega
      unfold Lib.checkN at h1
      rcases hk3 with rfl | rfl | rfl <;> simp only [loK, hiK] at h <;> simp at h <;> repeat' split at h1
      all_goals first | (simp at h1; done) | omega
/-- A letter. -/
theorem good_at (s : ByteArray) (i n : Nat) (hi : i < s.size) (hn : moreN (s.get! i).toNat = n) (hin : i + n < s.size)
    (h : ∀ k, 1 ≤ k → k ≤ n → loK (s.get! i).toNat k ≤ (s.get! (i + k)).toNat ∧ (s.get! (i + k)).toNat ≤ hiK (s.get! i).toNat k) : ¬ badAt s i ∧ (Utf8.decode s i).2 = n + 1 := by
  have hlt := (s.get! i).toNat_lt
  by_cases hc : (s.get! i).toNat < 128
  · simp [moreN, hc] at hn
    unfold badAt
    rw [dec_low s i hi hc]
    simp
    omega
  · have hm := more_le ⟨_, hlt⟩
    have hz := more_of ⟨_, hlt⟩ (by simp; omega)
    have hf := first_of ⟨_, hlt⟩ (by simp; omega)
    have ht := tab_of ⟨_, hlt⟩ (by simp; omega)
    simp only at hm hf ht hz
    have ht : Lib.accLo (Lib.firstT (s.get! i).toNat / 16) = lowN (s.get! i).toNat ∧ Lib.accHi (Lib.firstT (s.get! i).toNat / 16) = highN (s.get! i).toNat := ht.resolve_right (by omega)
    have hf : ((Lib.firstT (s.get! i).toNat % 8 : Nat) : Int) = moreN (s.get! i).toNat + 1 := hf.resolve_right (by omega)
    have f1 := h 1
    have f2 := h 2
    have f3 := h 3
    simp only [loK, hiK] at f1 f2 f3
    simp at f1 f2 f3
    rcases dec_high s i hi (by omega) with ⟨h1, _⟩ | ⟨kk, hkk, h1, h2⟩
    · exfalso
      rw [ht.1, ht.2] at h1
      unfold Lib.checkN at h1
      repeat' split at h1
      all_goals first | (simp at h1; done) | omega
    · have : kk = n + 1 := by
        rw [ht.1, ht.2] at h1
        unfold Lib.checkN at h1
        repeat' split at h1
        all_goals first | (simp at h1; done) | (simp at h1; omega)
      subst this
      refine ⟨fun hb => ?_, h2⟩
      have := hb.2
      omega
/-- The bytes of a letter of several bytes are no slash and no nought. -/
theorem inner_high (s : ByteArray) (i : Nat) (hi : i < s.size) (h : ¬ badAt s i) :
    1 ≤ (Utf8.decode s i).2 ∧ i + (Utf8.decode s i).2 ≤ s.size ∧ ((Utf8.decode s i).1 = 47 ∨ (Utf8.decode s i).1 = 0 ↔ ((s.get! i).toNat = 47 ∨ (s.get! i).toNat = 0)) ∧
      ∀ j, 1 ≤ j → j < (Utf8.decode s i).2 → 128 ≤ (s.get! (i + j)).toNat := by
  by_cases hc : (s.get! i).toNat < 128
  · rw [dec_low s i hi hc]
    exact ⟨Nat.le_refl _, by simp; omega, Iff.rfl, fun j h1 h2 => by simp at h2; omega⟩
  · have hlt := (s.get! i).toNat_lt
    have ht := tab_of ⟨_, hlt⟩ (by simp; omega)
    have hf := first_of ⟨_, hlt⟩ (by simp; omega)
    simp only at ht hf
    have hgi : s[i] = s.get! i := (Utf8W.get!_of_lt s i hi).symm
    have hd := decode_high s i hi (by rw [hgi]; omega)
    rcases dec_high s i hi (by omega) with ⟨_, h1⟩ | ⟨kk, hkk, h1, h2⟩
    · exact absurd h1 h
    · have hlow : 128 ≤ lowN (s.get! i).toNat := low_ge _
      have hmm : moreN (s.get! i).toNat ≠ -1 := by
        intro hh
        rcases hf with hf | hf
        · unfold Lib.checkN at h1
          rw [hh] at hf
          repeat' split at h1
          all_goals first | (simp at h1; done) | omega
        · unfold Lib.checkN at h1
          repeat' split at h1
          all_goals first | (simp at h1; done) | omega
      have ht := ht.resolve_right hmm
      rw [ht.1, ht.2] at h1
      rw [h2]
      refine ⟨by omega, ?_, ⟨fun _ => by omega, fun _ => by omega⟩, fun j hj1 hj2 => ?_⟩
      · unfold Lib.checkN at h1
        repeat' split at h1
        all_goals first | (simp at h1; done) | (simp at h1; omega)
      · have hj : j = 1 ∨ j = 2 ∨ j = 3 ∨ 4 ≤ j := by omega
        unfold Lib.checkN at h1
        rcases hj with rfl | rfl | rfl | hj <;> repeat' split at h1
        all_goals first | (simp at h1; done) | (simp at h1; omega)

def lettersD (s : ByteArray) : Nat → Nat → Bool
  | 0, _ => true
  | f + 1, i => if i < s.size then (if badAt s i then false else lettersD s f (i + (Utf8.decode s i).2)) else true
def nameD (s : ByteArray) : Nat → Nat → Bool
  | 0, _ => true
  | f + 1, i => if i < s.size then (if (Utf8.decode s i).1 = 47 ∨ (Utf8.decode s i).1 = 0 then false else if badAt s i then false else nameD s f (i + (Utf8.decode s i).2)) else true
/-- No slash and no nought, from place i on, of n bytes. -/
def plainD (s : ByteArray) : Nat → Nat → Bool
  | 0, _ => true
  | n + 1, i => if (s.get! i).toNat = 47 ∨ (s.get! i).toNat = 0 then false else plainD s n (i + 1)

theorem lettersD_end (s : ByteArray) (f i : Nat) (h : ¬ i < s.size) : lettersD s f i = true := by cases f <;> simp [lettersD, h]
theorem nameD_end (s : ByteArray) (f i : Nat) (h : ¬ i < s.size) : nameD s f i = true := by cases f <;> simp [nameD, h]
theorem plainD_iff (s : ByteArray) : ∀ n i, plainD s n i = true ↔ ∀ j, i ≤ j → j < i + n → ¬ ((s.get! j).toNat = 47 ∨ (s.get! j).toNat = 0)
  | 0, i => by simp [plainD]; intros; omega
  | n + 1, i => by
    unfold plainD
    have := plainD_iff s n (i + 1)
    split
    · rename_i h
      simp only [Bool.false_eq_true, false_iff]
      intro hh
      exact hh i (Nat.le_refl _) (by omega) h
    · rename_i h
      rw [this]
      constructor
      · intro hh j h1 h2
        by_cases hj : j = i
        · subst hj; exact h
        · exact hh j (by omega) (by omega)
      · intro hh j h1 h2
        exact hh j (by omega) (by omega)

/-- A text is a name just if it is right letters without a slash and a nought. -/
theorem name_iff (s : ByteArray) : ∀ f i, s.size ≤ i + f → (nameD s f i = true ↔ lettersD s f i = true ∧ ∀ j, i ≤ j → j < s.size → ¬ ((s.get! j).toNat = 47 ∨ (s.get! j).toNat = 0))
  | 0, i, h => by simp [nameD, lettersD]; intros; omega
  | f + 1, i, h => by
    unfold nameD lettersD
    by_cases hi : i < s.size
    · simp only [hi, if_true]
      by_cases hb : badAt s i
      · simp [hb]
      · obtain ⟨w1, w2, w3, w4⟩ := inner_high s i hi hb
        have ih := name_iff s f (i + (Utf8.decode s i).2) (by omega)
        simp only [hb, if_false]
        by_cases h47 : (Utf8.decode s i).1 = 47 ∨ (Utf8.decode s i).1 = 0
        · simp only [h47, if_true, Bool.false_eq_true, false_iff, not_and]
          intro _ hh
          exact hh i (Nat.le_refl _) hi (w3.1 h47)
        · simp only [h47, if_false]
          rw [ih]
          constructor
          · rintro ⟨h1, h2⟩
            refine ⟨h1, fun j j1 j2 => ?_⟩
            by_cases hj : j < i + (Utf8.decode s i).2
            · by_cases hji : j = i
              · subst hji; exact fun hh => h47 (w3.2 hh)
              · have := w4 (j - i) (by omega) (by omega)
                rw [show i + (j - i) = j by omega] at this
                omega
            · exact h2 j (by omega) j2
          · rintro ⟨h1, h2⟩
            exact ⟨h1, fun j j1 j2 => h2 j (by omega) j2⟩
    · simp only [hi, if_false, true_and, true_iff]
      intros; omega
theorem name_eq (s : ByteArray) : nameD s s.size 0 = (plainD s s.size 0 && lettersD s s.size 0) := by
  rw [Bool.eq_iff_iff, Bool.and_eq_true, plainD_iff, name_iff s s.size 0 (by omega), and_comm]
  simp
end Go.Proofs.YtkjndgapejbgcaaDoor
