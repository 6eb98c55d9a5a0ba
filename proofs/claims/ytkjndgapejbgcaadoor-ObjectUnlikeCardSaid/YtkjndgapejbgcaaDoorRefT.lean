/- The document's bytes of a text. -/
import Derived.Test.YtkjndgapejbgcaaDoorRefE
import Derived.Test.YtkjndgapejbgcaaDoorAppS
import Derived.Test.YtkjndgapejbgcaaDoorNameW
namespace Go.Proofs.YtkjndgapejbgcaaDoor
open Go.RowKit
set_option linter.unusedSimpArgs false

theorem strL_get {s : ByteArray} {k : Nat} (h : k < s.size) : (strL s).take (k + 1) = (strL s).take k ++ [(s.get! k).toNat] := by
  have hl : k < (strL s).length := by rw [strL_length]; exact h
  rw [List.take_succ_eq_append_getElem hl]
  congr 2
  have h2 : k < s.data.size := h
  rw [← ch_at h]
  simp only [strL, List.getElem_map, Array.getElem_toList]
  rfl
theorem strL_all (s : ByteArray) : (strL s).take s.size = strL s := List.take_of_length_le (by rw [strL_length]; exact Nat.le_refl _)

set_option maxRecDepth 20000 in
set_option maxHeartbeats 1000000 in
theorem refText_any (w : World) (s : ByteArray) (hs : s.size ≤ 70368644000000) :
    Calls Tryd.prog 72 #[.string s] w fun e w' => (∃ A c, e = .returned (.slice A (varL s.size ++ strL s).length c) ∧ Own w' w.heap.size 5 1 A (varL s.size ++ strL s).length c (u8s (varL s.size ++ strL s))) ∧ Below w.heap.size w w' := by
  have hv' := Lib.hid (refVar_any w s.size (by omega))
  obtain ⟨V, hV⟩ : ∃ V, varL s.size = V := ⟨_, rfl⟩
  have hml : V.length ≤ 10 := by rw [← hV]; exact varF_length 10 s.size
  rw [hV] at hv' ⊢
  obtain ⟨m, hm⟩ : ∃ m, Hid (∀ _ : Unit, V.length = m) := ⟨_, Lib.hid fun _ => rfl⟩
  have hM : (V ++ strL s).length = m + s.size := by rw [List.length_append, hm.out (), strL_length]
  rw [hM]
  have hw : IntKind.u64.wrap ((s.size : Nat) : Int) = ((s.size : Nat) : Int) := by rw [IntKind.wrap_u64]; omega
  rw [hm.out ()] at hml hv'
  clear hV hM
  go_enter Tryd.func72, Tryd.ntmps72
  go_wp2_with fail
  refine hv'.out.mono ?_
  rintro e w1 ⟨⟨A0, c0, rfl, o0⟩, b0⟩
  have o0' := Lib.hid o0
  have b0' := Lib.hid b0
  clear o0 b0 hv'
  go_wp2_with fail
  go_loopw [3, 4] (fun sv iv wr => ∃ (k : Nat) (A : Option Addr) (c : Nat), k ≤ s.size ∧ iv = .int .i64 (k : Int) ∧ sv = .slice A (m + k) c ∧ Hid (Own wr w.heap.size 5 1 A (m + k) c (u8s (V ++ (strL s).take k))) ∧ Hid (Below w.heap.size w wr)) (fun _ iv _ => s.size - (intOf iv).toNat)
  case atStart => exact ⟨0, A0, c0, by omega, rfl, rfl, Lib.hid (by rw [List.take_zero, List.append_nil]; exact o0'.out), b0'⟩
  case round =>
    clear o0' b0'
    obtain ⟨k, A1, c1, hk, rfl, rfl, ho, hb⟩ := hrel
    have hbs := Lib.hid hb.out.size
    by_cases hlt : k < s.size
    · obtain ⟨y, hy⟩ : ∃ y, s.get! k = y := ⟨_, rfl⟩
      have hix := index_str hlt hy
      have hnx : Hid ((strL s).take (k + 1) = (strL s).take k ++ [y.toNat]) := Lib.hid (by rw [strL_get hlt, hy])
      go_wp2_with (first | (at_builtin; refine wpList_app1 elB _ #[_] rfl rfl _ _ rfl rfl ho.out rfl (by intro u hu; simp at hu; subst hu; rfl) (by unfold maxLen; omega) (by omega) hbs.out (m + (k + 1)) (by omega) _ rfl ?_; intro A2 c2 w2 o2 _ b2; have o2' := Lib.hid o2; have b2' := Lib.hid (hb.out.trans b2); clear o2 b2))
      go_roundw
      case rel => exact ⟨k + 1, A2, c2, by omega, by go_num, rfl, Lib.hid (by rw [hnx.out, ← List.append_assoc, u8s_append]; exact o2'.out), b2'⟩
      case measure => simp [intOf]; omega
    · obtain rfl : k = s.size := by omega
      have ho' := ho.out
      rw [strL_all] at ho'
      have ho2 := Lib.hid ho'
      clear ho'
      go_wp2_with fail
      go_ret
      exact ⟨⟨A1, c1, rfl, ho2.out⟩, hb.out⟩
end Go.Proofs.YtkjndgapejbgcaaDoor
