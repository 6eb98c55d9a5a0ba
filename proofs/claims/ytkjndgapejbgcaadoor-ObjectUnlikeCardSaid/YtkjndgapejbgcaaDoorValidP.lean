/- utf8.ValidString's answer is the document's Letters. No program is named here. -/
import Derived.Test.YtkjndgapejbgcaaDoorUtf
namespace Go.Proofs.YtkjndgapejbgcaaDoor

theorem dec_drop (s : ByteArray) (i : Nat) : Lib.decodeL (s.data.toList.drop i) = Utf8.decode s i := by
  rw [Lib.decodeL_N, Lib.decode_at]
  have hg : ∀ j, (s.data.toList.drop i).getD j 0 = s.get! (i + j) := fun j => by
    rw [← Lib.getD_get!', List.getD_eq_getElem?_getD, List.getElem?_drop, ← List.getD_eq_getElem?_getD]
  rw [hg, hg, hg, hg, List.length_drop]
  rfl
theorem valid_letters (s : ByteArray) : ∀ f i, s.size ≤ i + f → Lib.validD (s.data.toList.drop i) = lettersD s f i
  | 0, i, h => by
    rw [List.drop_eq_nil_of_le (by rw [Array.length_toList]; exact h)]
    rfl
  | f + 1, i, h => by
    unfold lettersD
    by_cases hi : i < s.size
    · have hne : s.data.toList.drop i ≠ [] := by
        intro e
        have := congrArg List.length e
        rw [List.length_drop, Array.length_toList] at this
        have hs : s.data.size = s.size := rfl
        simp at this
        omega
      rw [Lib.validD_step _ hne, dec_drop, if_pos hi]
      have hb : badAt s i ↔ (Utf8.decode s i).1 = 65533 ∧ (Utf8.decode s i).2 = 1 := Iff.rfl
      by_cases hbad : badAt s i
      · rw [if_pos hbad, if_pos (hb.1 hbad)]
      · rw [if_neg hbad, if_neg (fun h => hbad (hb.2 h)), List.drop_drop]
        have := (inner_high s i hi hbad).1
        exact valid_letters s f _ (by omega)
    · rw [if_neg hi, List.drop_eq_nil_of_le (by rw [Array.length_toList]; have hs : s.data.size = s.size := rfl; omega)]
      rfl
theorem valid_all (s : ByteArray) : Lib.validD s.data.toList = lettersD s s.size 0 := by
  have := valid_letters s s.size 0 (by omega)
  rwa [List.drop_zero] at this
end Go.Proofs.YtkjndgapejbgcaaDoor
