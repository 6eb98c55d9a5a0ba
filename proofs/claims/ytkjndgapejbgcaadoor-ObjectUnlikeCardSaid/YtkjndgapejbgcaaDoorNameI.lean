/- Names of items: IsName: a range over a string. -/
import Derived.Test.YtkjndgapejbgcaaDoorNameR
import Derived.Test.YtkjndgapejbgcaaDoorUtf8L
import Derived.Lib.OthersKept
import Derived.Lib.RuneCountTail
import Derived.Laws.Strings3
namespace Go.Proofs.YtkjndgapejbgcaaDoor
open Go.RowKit
set_option linter.unusedSimpArgs false

theorem iterPos_of {w : World} {k : Nat} {s : ByteArray} {p : Nat} (h : w.heap[k]? = some (.stringIter s p)) : w.iterPos k = p := by simp [World.iterPos, h]
theorem decodeGo_at (s : ByteArray) (pos : Nat) (h : pos < s.size) : Lib.decodeGo (s.extract pos s.size) = Utf8.decode s pos := by
  unfold Lib.decodeGo
  rw [if_neg (by simp; omega), Lib.tail_decode]
  rfl
theorem width_pos (s : ByteArray) (pos : Nat) (h : pos < s.size) : 1 ≤ (Utf8.decode s pos).2 := by
  by_cases ha : (s[pos]'h).toNat < 128
  · rw [decode_ascii s pos h ha]
    exact Nat.le_refl _
  · exact (decode_high s pos h (by omega)).2

theorem nameD_bad {s : ByteArray} {f i : Nat} (h : i < s.size) (hb : (Utf8.decode s i).1 = 47 ∨ (Utf8.decode s i).1 = 0 ∨ ((Utf8.decode s i).1 = 65533 ∧ (Utf8.decode s i).2 = 1)) : nameD s (f + 1) i = false := by
  have h2 : ¬ ((Utf8.decode s i).1 = 47 ∨ (Utf8.decode s i).1 = 0) → badAt s i := fun h => by unfold badAt; omega
  unfold nameD
  split
  · split
    · rfl
    · rename_i h3
      simp [h2 h3]
  · omega
theorem nameD_good {s : ByteArray} {f i : Nat} (h : i < s.size) (hb : ¬ ((Utf8.decode s i).1 = 47 ∨ (Utf8.decode s i).1 = 0 ∨ ((Utf8.decode s i).1 = 65533 ∧ (Utf8.decode s i).2 = 1))) : nameD s (f + 1) i = nameD s f (i + (Utf8.decode s i).2) := by
  have h2 : ¬ badAt s i := fun h => by unfold badAt at h; omega
  have h3 : ¬ ((Utf8.decode s i).1 = 47 ∨ (Utf8.decode s i).1 = 0) := by omega
  simp [nameD, h, h2, h3]

set_option maxRecDepth 20000 in
set_option maxHeartbeats 2000000 in
theorem isName_any (s : ByteArray) (w : World) (hT : U8T w) : Calls Tryd.prog 10 #[.string s] w fun e w' => e = .returned (.bool (Fine s && nameD s s.size 0)) ∧ Below w.heap.size w w' := by
  obtain ⟨b1, hb1⟩ : ∃ b, dot1 s = b := ⟨_, rfl⟩
  obtain ⟨b2, hb2⟩ : ∃ b, dot2 s = b := ⟨_, rfl⟩
  unfold Fine
  rw [hb1, hb2]
  unfold dot1 at hb1
  unfold dot2 at hb2
  by_cases h0 : 1 ≤ s.size
  · have hne : s.toList.isEmpty = false := by
      rw [Lib.toList_data]
      cases h : s.data.toList with
      | nil => exact absurd h0 (by rw [Lib.size_eq, h]; simp)
      | cons _ _ => rfl
    by_cases h64 : s.size ≤ 64
    · cases b1
      · cases b2
        · have hR : Hid (∃ f, s.size ≤ 0 + f ∧ nameD s f 0 = nameD s s.size 0) := Lib.hid ⟨s.size, by omega, rfl⟩
          obtain ⟨R, hRR⟩ : ∃ p, nameD s s.size 0 = p := ⟨_, rfl⟩
          rw [hRR] at hR
          rw [hRR]
          have hT' := Lib.hid hT
          clear hRR hT
          go_enter Tryd.func10, Tryd.ntmps10
          go_wp2_with fail
          go_loopw [] (fun wr => ∃ pos : Nat, wr.heap[w.heap.size]? = some (.stringIter s pos) ∧ Hid (Below w.heap.size w wr) ∧ Hid (∃ f, s.size ≤ pos + f ∧ nameD s f pos = R)) (fun wr => s.size - wr.iterPos w.heap.size)
          case atStart => exact ⟨0, World.iter_heap w s 0, Lib.hid ((Below.refl _ _).alloc (Nat.le_refl _) _), hR⟩
          case round =>
            clear hR
            obtain ⟨pos, hit, hbw, hf⟩ := hrel
            have hpos0 := iterPos_of hit
            by_cases hp : pos < s.size
            · have hnx : ∀ ty, (Instr.next (.pointer (some ⟨w.heap.size, 0, none⟩)) true ty).run Tryd.prog wr = _ := fun ty => Lib.run_next_any_at wr w.heap.size s pos ty hit hp
              have hwd := width_pos s pos hp
              have hit2 := Lib.iterAt_heap wr w.heap.size s pos (pos + (Utf8.decode s pos).2) hit
              have hbw2 := Lib.hid (Lib.below_iterAt hbw.out (k := w.heap.size) (Nat.le_refl _) s (pos + (Utf8.decode s pos).2))
              obtain ⟨W1, hW1⟩ : ∃ W1, W1 = wr.iterAt w.heap.size s (pos + (Utf8.decode s pos).2) := ⟨_, rfl⟩
              rw [← hW1] at hnx hit2 hbw2
              have hrl := decode_le s pos
              obtain ⟨r, hr⟩ : ∃ r, (Utf8.decode s pos).1 = r := ⟨_, rfl⟩
              obtain ⟨n, hn⟩ : ∃ n, (Utf8.decode s pos).2 = n := ⟨_, rfl⟩
              have hD := fun W hW => utf8_DecodeRuneInString (s.extract pos s.size) W (u8t_keep (w' := W) hT'.out hW)
              rw [decodeGo_at s pos hp] at hD
              rw [hr] at hnx hrl hD
              rw [hn] at hwd hit2 hD
              have hs1 : Hid (r = 47 ∨ r = 0 ∨ (r = 65533 ∧ n = 1) → R = false) := Lib.hid fun h => by
                obtain ⟨f, h1, h2⟩ := hf.out
                obtain ⟨m, rfl⟩ : ∃ m, f = m + 1 := ⟨f - 1, by omega⟩
                rw [← h2, nameD_bad hp (by rw [hr, hn]; exact h)]
              have hs2 : Hid (¬ (r = 47 ∨ r = 0 ∨ (r = 65533 ∧ n = 1)) → ∃ f, s.size ≤ (pos + n) + f ∧ nameD s f (pos + n) = R) := Lib.hid fun h => by
                obtain ⟨f, h1, h2⟩ := hf.out
                obtain ⟨m, rfl⟩ : ∃ m, f = m + 1 := ⟨f - 1, by omega⟩
                rw [nameD_good hp (by rw [hr, hn]; exact h), hn] at h2
                exact ⟨m, by omega, h2⟩
              clear hf hW1 hit hr hn hbw
              have hD' := Lib.hid hD
              clear hD
              go_wp2_with (refine (hD'.out _ (by exact hbw2.out)).mono ?_; rintro e W2 ⟨rfl, hB2⟩)
              all_goals (try simp only [bne_iff_ne, bne_eq_false_iff_eq, beq_iff_eq, beq_eq_false_iff_ne, Bool.not_eq_false', Bool.not_eq_true', decide_eq_true_eq, decide_eq_false_iff_not, ne_eq, gt_iff_lt] at *)
              all_goals first
                | (go_ret; exact ⟨ret_bool (by rw [hs1.out (by omega)]; simp), hbw2.out⟩)
                | (go_ret; exact ⟨ret_bool (by rw [hs1.out (by omega)]; simp), hbw2.out.trans (hB2.mono hbw2.out.size)⟩)
                | (go_roundw
                   case rel =>
                     first
                       | exact ⟨pos + n, hit2, hbw2, Lib.hid (hs2.out (by omega))⟩
                       | exact ⟨pos + n, (hB2.block _ (lt_of_block hit2)).trans hit2, Lib.hid (hbw2.out.trans (hB2.mono hbw2.out.size)), Lib.hid (hs2.out (by omega))⟩
                   case measure =>
                     first
                       | (rw [iterPos_of hit2, hpos0]; omega)
                       | (rw [iterPos_of ((hB2.block _ (lt_of_block hit2)).trans hit2), hpos0]; omega))
            · have hR : R = true := by
                obtain ⟨f, h1, h2⟩ := hf.out
                rw [← h2, nameD_end s f pos hp]
              subst hR
              have hnx : ∀ ty, (Instr.next (.pointer (some ⟨w.heap.size, 0, none⟩)) true ty).run Tryd.prog wr = _ := fun ty => Lib.run_next_end_at wr w.heap.size s pos ty hit hp
              go_wp2_with fail
              go_ret
              exact ⟨ret_bool (by simp [h0, h64]), hbw.out⟩
        · go_enter Tryd.func10, Tryd.ntmps10
          go_wp2_with fail
          go_ret
          exact ⟨ret_bool (by simp), Below.refl _ _⟩
      · go_enter Tryd.func10, Tryd.ntmps10
        go_wp2_with fail
        go_ret
        exact ⟨ret_bool (by simp), Below.refl _ _⟩
    · go_enter Tryd.func10, Tryd.ntmps10
      go_wp2_with fail
      go_ret
      exact ⟨ret_bool (by simp [h64]), Below.refl _ _⟩
  · have he : s.toList.isEmpty = true := by
      rw [Lib.toList_data]
      have : s.data.toList = [] := List.eq_nil_of_length_eq_zero (by rw [← Lib.size_eq]; omega)
      rw [this]; rfl
    go_enter Tryd.func10, Tryd.ntmps10
    go_wp2_with fail
    go_ret
    exact ⟨ret_bool (by simp [h0]), Below.refl _ _⟩
end Go.Proofs.YtkjndgapejbgcaaDoor
