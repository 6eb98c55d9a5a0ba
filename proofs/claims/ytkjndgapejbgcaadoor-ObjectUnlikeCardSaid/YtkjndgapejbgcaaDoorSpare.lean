/- spare: a copy of some bytes with marks behind it. -/
import Derived.Test.YtkjndgapejbgcaaDoorObjM
import Derived.WalkLawsBesides
namespace Go.Proofs.YtkjndgapejbgcaaDoor
open Go.RowKit
set_option linter.unusedSimpArgs false

theorem elB : ElemOk Tryd.prog 24 5 (.int .u8 0) 1 1 := ⟨Tryd.underlying24, by kernel_rfl, rfl, by decide⟩
theorem elP : ElemOk Tryd.prog 25 47 (.agg (encP (⟨zeros 32, by simp [zeros]⟩, 0)).toArray) 33 40 := ⟨Tryd.underlying25, by kernel_rfl, rfl, by decide⟩
theorem elI : ElemOk Tryd.prog 26 50 (.agg (encI (⟨#[]⟩, 0, 0, ⟨zeros 32, by simp [zeros]⟩)).toArray) 35 64 := ⟨Tryd.underlying26, by kernel_rfl, rfl, by decide⟩
theorem elK : ElemOk Tryd.prog 29 28 (.agg (encK ⟨zeros 32, by simp [zeros]⟩).toArray) 32 32 := ⟨Tryd.underlying29, by kernel_rfl, rfl, by decide⟩

/-- A list and i marks. -/
def marked (b : List Nat) (i : Nat) : List Nat := b ++ List.replicate i 165
theorem marked_length (b : List Nat) (i : Nat) : (marked b i).length = b.length + i := by simp [marked]
theorem u8s_set (l : List Nat) (k x : Nat) : (u8s l).set k (.int .u8 (x : Int)) = u8s (l.set k x) := by simp [u8s, List.map_set]
/-- The first k of some bytes, and noughts. -/
def filled (b : List Nat) (n k : Nat) : List Nat := b.take k ++ List.replicate (n - k) 0
theorem set_mid {p : List Nat} {k m x : Nat} (h : p.length = k) (hm : 0 < m) : (p ++ List.replicate m 0).set k x = (p ++ [x]) ++ List.replicate (m - 1) 0 := by
  obtain ⟨m, rfl⟩ : ∃ j, m = j + 1 := ⟨m - 1, by omega⟩
  subst h
  rw [List.set_append_right _ _ (Nat.le_refl _), Nat.sub_self, List.replicate_succ, List.set_cons_zero]
  simp
theorem filled_set {b : List Nat} {n k x : Nat} (hk : k < b.length) (hn : k < n) (hx : b[k]?.getD 0 = x) : (u8s (filled b n k)).set k (.int .u8 (x : Int)) = u8s (filled b n (k + 1)) := by
  rw [u8s_set]
  unfold filled
  rw [set_mid (by simp; omega) (by omega)]
  rw [List.take_succ_eq_append_getElem hk]
  rw [List.getElem?_eq_getElem hk, Option.getD_some] at hx
  rw [hx, show n - k - 1 = n - (k + 1) by omega]
theorem filled_zero (b : List Nat) (n : Nat) : u8s (filled b n 0) = List.replicate n (.int .u8 0) := by simp [filled, u8s]
def filled2 (b : List Nat) (n k : Nat) : List Nat := marked b (k - b.length) ++ List.replicate (n - k) 0
theorem filled_full (b : List Nat) (n : Nat) : filled b n b.length = filled2 b n b.length := by simp [filled, filled2, marked]
theorem filled2_set {b : List Nat} {n k : Nat} (hk : b.length ≤ k) (hn : k < n) : (u8s (filled2 b n k)).set k (.int .u8 165) = u8s (filled2 b n (k + 1)) := by
  rw [show (Value.int .u8 165) = Value.int .u8 ((165 : Nat) : Int) from rfl, u8s_set]
  unfold filled2
  rw [set_mid (by rw [marked_length]; omega) (by omega), show n - k - 1 = n - (k + 1) by omega, show k + 1 - b.length = (k - b.length) + 1 by omega]
  congr 2
  simp [marked, List.replicate_succ']
theorem filled2_full (b : List Nat) (n : Nat) : filled2 b (b.length + n) (b.length + n) = marked b n := by simp [filled2]
theorem filled_length (b : List Nat) (n k : Nat) (h : k ≤ b.length) (hn : k ≤ n) : (filled b n k).length = n := by simp [filled]; omega
theorem filled2_length (b : List Nat) (n k : Nat) (h : b.length ≤ k) (hn : k ≤ n) : (filled2 b n k).length = n := by simp [filled2, marked]; omega

set_option maxRecDepth 100000 in
set_option maxHeartbeats 1000000 in
theorem spare_any (w : World) (b : List Nat) (A : Option Addr) (c : Nat) (hA : Byt w w.heap.size A b) (hL : b.length ≤ 140737488355328) :
    Calls Tryd.prog 18 #[.slice A b.length c] w fun e w' => (∃ ga cc, e = .returned (.slice (some ⟨ga, 0, none⟩) b.length cc) ∧ Own w' w.heap.size 5 1 (some ⟨ga, 0, none⟩) (b.length + 70) cc (u8s (marked b 70))) ∧ Below w.heap.size w w' := by
  obtain ⟨L, hLL⟩ : ∃ L, Hid (∀ _ : Unit, b.length = L) := ⟨_, Lib.hid fun _ => rfl⟩
  rw [hLL.out ()] at hL ⊢
  have hA' := Lib.hid hA
  clear hA
  go_enter Tryd.func18, Tryd.ntmps18
  go_wp2_with (at_make; refine wpList_mk elB w rfl _ _ rfl rfl rfl (L + 70) (L + 70) (by omega) (by omega) (by omega) (by omega) (by unfold maxLen; omega) (Nat.le_refl _) ?_; intro w1 hown1 _ hb1 _; rw [made_one _ rfl, ← filled_zero b] at hown1)
  generalize hGe : w.heap.size = G at hown1 hb1 hA' ⊢
  have hGe' := Lib.hid (fun _ : Unit => hGe)
  clear hGe
  go_loopw [4] (fun i wr => ∃ k : Nat, k ≤ L ∧ i = .int .i64 k ∧ Hid (Own wr G 5 1 (some ⟨G, 0, none⟩) (L + 70) (L + 70) (u8s (filled b (L + 70) k))) ∧ Hid (Below G w wr)) (fun i _ => L - (intOf i).toNat)
  case atStart => exact ⟨0, by omega, rfl, Lib.hid hown1, Lib.hid hb1⟩
  case round =>
    clear hown1 hb1
    obtain ⟨k, hk, rfl, hown, hbel⟩ := hrel
    by_cases hlt : k < L
    · obtain ⟨b0, off, rfl, _, hc⟩ := (hA'.out.below hbel.out).get (show k < b.length by rw [hLL.out ()]; exact hlt)
      obtain ⟨x, hx⟩ : ∃ x, b[k]?.getD 0 = x := ⟨_, rfl⟩
      simp only [hx] at hc
      have hkb : k < b.length := by rw [hLL.out ()]; exact hlt
      have hst := hown.out.set k (.int .u8 (x : Int))
      rw [filled_set hkb (by omega) hx] at hst
      have hst' := Lib.hid hst
      have hcl := hown.out.cell k (by omega)
      rw [u8s_get _ _ (by rw [filled_length _ _ _ (by omega) (by omega)]; omega)] at hcl
      have hfz := hown.out.frozen k
      have hbel2 := Lib.hid (hbel.out.setCell (p := ⟨G, k, none⟩) (Nat.le_refl _) (.int .u8 (x : Int)))
      clear hst hx hkb hown hbel
      go_wp2_with fail
      go_roundw
      case rel => exact ⟨k + 1, by omega, by go_num, hst', hbel2⟩
      case measure => simp [intOf]; omega
    · obtain rfl : k = L := by omega
      rw [← hLL.out (), filled_full, hLL.out ()] at hown
      go_wp2_with fail
      go_loopw [5] (fun i wr => ∃ j : Nat, k ≤ j ∧ j ≤ k + 70 ∧ i = .int .i64 j ∧ Hid (Own wr G 5 1 (some ⟨G, 0, none⟩) (k + 70) (k + 70) (u8s (filled2 b (k + 70) j))) ∧ Hid (Below G w wr)) (fun i _ => k + 70 - (intOf i).toNat)
      case atStart => exact ⟨k, by omega, by omega, rfl, hown, hbel⟩
      case round =>
        clear hown hbel
        obtain ⟨j, hj, hj2, rfl, hown, hbel⟩ := hrel
        by_cases hjl : j < k + 70
        · have hst := hown.out.set j (.int .u8 165)
          rw [filled2_set (by rw [hLL.out ()]; exact hj) hjl] at hst
          have hst' := Lib.hid hst
          have hcl := hown.out.cell j (by omega)
          rw [u8s_get _ _ (by rw [filled2_length _ _ _ (by rw [hLL.out ()]; exact hj) hj2]; omega)] at hcl
          have hfz := hown.out.frozen j
          have hbel2 := Lib.hid (hbel.out.setCell (p := ⟨G, j, none⟩) (Nat.le_refl _) (.int .u8 165))
          clear hst hown hbel
          go_wp2_with fail
          go_roundw
          case rel => exact ⟨j + 1, by omega, by omega, by go_num, hst', hbel2⟩
          case measure => simp [intOf]; omega
        · obtain rfl : k + 70 = j := by omega
          have hown2 := hown.out
          rw [show filled2 b (k + 70) (k + 70) = marked b 70 by rw [← hLL.out ()]; exact filled2_full b 70] at hown2
          have hown3 := Lib.hid hown2
          have hsl : ∀ W : World, (Instr.slice 24 (.slice (some ⟨G, 0, none⟩) (k + 70) (k + 70)) none (some (.int .i64 (k : Int))) none).run Tryd.prog W = .ok (.slice (some ⟨G, 0, none⟩) k (k + 70)) W := fun W => by
            have hs : (sizeOf (Tryd.prog.elem 24)).run Tryd.prog W = .ok 1 W := by kernel_rfl
            rw [run_slice_h W 24 _ (k + 70) (k + 70) (by rw [Tryd.underlying24]; kernel_rfl) .i64 (k : Int) (by omega) (by omega), hs]
            simp only [Result.andThen, sliced, Int.toNat_natCast, Nat.zero_mul, Nat.sub_zero]
            rw [if_neg (by omega)]
            simp [Addr.add_lit]
          clear hown2 hown
          go_wp2_with fail
          go_ret
          rw [hGe'.out ()]
          exact ⟨⟨G, k + 70, rfl, hown3.out⟩, hbel.out⟩
end Go.Proofs.YtkjndgapejbgcaaDoor
