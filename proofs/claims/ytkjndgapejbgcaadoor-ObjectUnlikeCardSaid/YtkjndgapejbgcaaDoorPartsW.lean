/- Why a list's parts may not be. -/
import Derived.Test.YtkjndgapejbgcaaDoorKidsA
namespace Go.Proofs.YtkjndgapejbgcaaDoor
open Go.RowKit
set_option linter.unusedSimpArgs false

/-- Do the sizes' sums stay in bounds? -/
def partsB : Nat → List PartT → Bool
  | _, [] => true
  | s, x :: l => decide (s + x.2 ≤ 9223372036854775807) && partsB (s + x.2) l
theorem partsB_at {s : Nat} {l : List PartT} {k : Nat} (hk : k < l.length) : partsB s (l.drop k) = (decide (s + l[k].2 ≤ 9223372036854775807) && partsB (s + l[k].2) (l.drop (k + 1))) := by
  rw [List.drop_eq_getElem_cons hk]
  rfl

set_option maxRecDepth 100000 in
set_option maxHeartbeats 2000000 in
theorem parts_any (w : World) (l : List PartT) (A : Option Addr) (n c : Nat) (hn0 : l.length = n) (hr : Row encP 33 w w.heap.size A l) (hok : ∀ x ∈ l, x.2 < 18446744073709551616) (hl : n ≤ 140737488355328) :
    Calls Tryd.prog 64 #[.slice A n c] w fun e w' => e = .returned (.int .i64 (if partsB 0 l then 0 else 47)) ∧ Below w.heap.size w w' := by
  have hi33 : (Tryd.prog.info? 47).map (·.size) = some 33 := by kernel_rfl
  have hi33' := Lib.hid hi33
  have zP := zeroP
  have hr' := Lib.hid hr
  have hok' := Lib.hid hok
  have hn := Lib.hid (fun _ : Unit => hn0)
  obtain ⟨R, hR⟩ : ∃ R, partsB 0 l = R := ⟨_, rfl⟩
  have hR' : Hid (partsB 0 (l.drop 0) = R) := Lib.hid hR
  rw [hR]
  clear hi33 hr hok hn0 hR
  go_enter Tryd.func64, Tryd.ntmps64
  go_wp2_with fail
  go_loopw [3, 8] (fun sv iv wr => ∃ (k s : Nat), k ≤ n ∧ iv = .int .i64 (k : Int) ∧ sv = .int .u64 (s : Int) ∧ s ≤ 9223372036854775807 ∧ Hid (partsB s (l.drop k) = R) ∧ Hid (Below w.heap.size w wr)) (fun _ iv _ => n - (intOf iv).toNat)
  case atStart => exact ⟨0, 0, by omega, rfl, rfl, by omega, hR', Lib.hid (Below.refl _ _)⟩
  case round =>
    clear hR'
    obtain ⟨k, s, hk, rfl, rfl, hs, hR, hB⟩ := hrel
    by_cases hlt : k < n
    · have hkx : k < l.length := by rw [hn.out ()]; exact hlt
      obtain ⟨b, off, rfl, _, hc⟩ := Row.elem (Rd.below hr'.out hB.out) encP_length (by decide) hkx
      have hRk := hR.out
      rw [partsB_at hkx] at hRk
      have hzl := hok'.out _ (List.getElem_mem hkx)
      obtain ⟨x, hx⟩ : ∃ x, l[k] = x := ⟨_, rfl⟩
      rw [hx] at hc hRk hzl
      obtain ⟨z, hz⟩ : ∃ z, x.2 = z := ⟨_, rfl⟩
      rw [hz] at hRk hzl
      have hrg := Lib.hid (show wr.rangeAt b (off + k * 33) (encP x) from fun j v hv => hc j v hv)
      have hnw := row_new wr 47 (encP (zK, 0)).toArray (encP x).toArray
      have hN := Lib.hid hnw.1
      have hNb := Lib.hid (hnw.2 _ (show w.heap.size ≤ wr.heap.size from hB.out.size))
      have hxs' := Lib.hid (show (encP x).toArray.size = 33 by simp [encP_length])
      have hzs' := Lib.hid (show (encP (zK, 0)).toArray.size = 33 by simp [encP_length])
      have hone' := Lib.hid (show (encP x).toArray.all (·.oneCell') = true from all_oneCell_toArray (encP_one x))
      have h32' := Lib.hid (show (encP x)[32]? = some (.int .u64 (z : Int)) by simp [encP, u8s, x.1.2, hz])
      clear hc hnw hx hkx hR hz
      have hm : (∀ _ : Unit, 9223372036854775807 < (z : Int)) ∨ (z : Int) ≤ 9223372036854775807 := by
        by_cases h : z ≤ 9223372036854775807
        · right; omega
        · left; intro _; omega
      by_cases hz1 : (z : Int) ≤ 9223372036854775807
      · by_cases hz2 : (s : Int) + (z : Int) ≤ 9223372036854775807
        · have hRn : Hid (partsB (s + z) (l.drop (k + 1)) = R) := Lib.hid (by rw [decide_eq_true (show s + z ≤ 9223372036854775807 by omega), Bool.true_and] at hRk; exact hRk)
          clear hRk hm
          go_wp2_with (first
            | (refine wpList_load_mid rfl 47 _ rfl b (off + k * 33) rfl (encP x) _ hrg.out Tryd.underlying47 rfl (by rw [encP_length]; exact hi33'.out) ?_)
            | (refine wpList_store_row rfl 47 _ _ rfl wr.heap.size (encP x).toArray rfl rfl 47 _ (heap_alloc_new wr _) (by rw [hxs'.out]; exact hi33'.out) (by rw [hxs'.out, hzs'.out]) hone'.out ?_
               generalize ((wr.alloc (.cells (encP (zK, 0)).toArray 47)).setRow wr.heap.size (encP x).toArray) = w2 at hN hNb ⊢
               have c32 : w2.cell? ⟨wr.heap.size, 32, none⟩ = some (.int .u64 (z : Int)) := (cell_of_row _ _ _ _ _ _ hN.out).trans (by simpa using h32'.out)))
          go_roundw
          case rel => exact ⟨k + 1, s + z, by omega, by go_num, by go_num, by omega, hRn, Lib.hid (hB.out.trans hNb.out)⟩
          case measure => simp [intOf]; omega
        · have hRn : R = false := by rw [decide_eq_false (show ¬ s + z ≤ 9223372036854775807 by omega), Bool.false_and] at hRk; exact hRk.symm
          subst hRn
          have hz2 : 9223372036854775807 < (s : Int) + (z : Int) := by omega
          clear hRk hm
          go_wp2_with (first
            | (refine wpList_load_mid rfl 47 _ rfl b (off + k * 33) rfl (encP x) _ hrg.out Tryd.underlying47 rfl (by rw [encP_length]; exact hi33'.out) ?_)
            | (refine wpList_store_row rfl 47 _ _ rfl wr.heap.size (encP x).toArray rfl rfl 47 _ (heap_alloc_new wr _) (by rw [hxs'.out]; exact hi33'.out) (by rw [hxs'.out, hzs'.out]) hone'.out ?_
               generalize ((wr.alloc (.cells (encP (zK, 0)).toArray 47)).setRow wr.heap.size (encP x).toArray) = w2 at hN hNb ⊢
               have c32 : w2.cell? ⟨wr.heap.size, 32, none⟩ = some (.int .u64 (z : Int)) := (cell_of_row _ _ _ _ _ _ hN.out).trans (by simpa using h32'.out)))
          go_ret
          exact ⟨rfl, hB.out.trans hNb.out⟩
      · have hRn : R = false := by rw [decide_eq_false (show ¬ s + z ≤ 9223372036854775807 by omega), Bool.false_and] at hRk; exact hRk.symm
        subst hRn
        have hz1 : 9223372036854775807 < (z : Int) := by omega
        clear hRk hm
        go_wp2_with (first
          | (refine wpList_load_mid rfl 47 _ rfl b (off + k * 33) rfl (encP x) _ hrg.out Tryd.underlying47 rfl (by rw [encP_length]; exact hi33'.out) ?_)
          | (refine wpList_store_row rfl 47 _ _ rfl wr.heap.size (encP x).toArray rfl rfl 47 _ (heap_alloc_new wr _) (by rw [hxs'.out]; exact hi33'.out) (by rw [hxs'.out, hzs'.out]) hone'.out ?_
             generalize ((wr.alloc (.cells (encP (zK, 0)).toArray 47)).setRow wr.heap.size (encP x).toArray) = w2 at hN hNb ⊢
             have c32 : w2.cell? ⟨wr.heap.size, 32, none⟩ = some (.int .u64 (z : Int)) := (cell_of_row _ _ _ _ _ _ hN.out).trans (by simpa using h32'.out)))
        go_ret
        exact ⟨rfl, hB.out.trans hNb.out⟩
    · obtain rfl : k = n := by omega
      have hRn : R = true := by
        have := hR.out
        rw [List.drop_eq_nil_of_le (by rw [hn.out ()]; exact Nat.le_refl _)] at this
        exact this.symm
      subst hRn
      go_wp2_with fail
      go_ret
      exact ⟨rfl, hB.out⟩

set_option maxRecDepth 100000 in
set_option maxHeartbeats 2000000 in
theorem refParts_any (w : World) (l : List PartT) (A : Option Addr) (n c : Nat) (hn0 : l.length = n) (hr : Row encP 33 w w.heap.size A l) (hok : ∀ x ∈ l, x.2 < 18446744073709551616) (hl : n ≤ 140737488355328) :
    Calls Tryd.prog 43 #[.slice A n c] w fun e w' => e = .returned (.int .i64 (if partsB 0 l then 0 else 47)) ∧ w = w' := by
  have hr' := Lib.hid hr
  have hok' := Lib.hid hok
  have hn := Lib.hid (fun _ : Unit => hn0)
  obtain ⟨R, hR⟩ : ∃ R, partsB 0 l = R := ⟨_, rfl⟩
  have hR' : Hid (partsB 0 (l.drop 0) = R) := Lib.hid hR
  rw [hR]
  clear hr hok hn0 hR
  go_enter Tryd.func43, Tryd.ntmps43
  go_wp2_with fail
  go_loop [3, 4] (fun sv iv => ∃ (k s : Nat), k ≤ n ∧ iv = .int .i64 (k : Int) ∧ sv = .int .u64 (s : Int) ∧ s ≤ 9223372036854775807 ∧ Hid (partsB s (l.drop k) = R)) (fun _ iv => n - (intOf iv).toNat)
  case atStart => exact ⟨0, 0, by omega, rfl, rfl, by omega, hR'⟩
  case round =>
    clear hR'
    obtain ⟨k, s, hk, rfl, rfl, hs, hR⟩ := hrel
    by_cases hlt : k < n
    · have hkx : k < l.length := by rw [hn.out ()]; exact hlt
      obtain ⟨b, off, rfl, _, hc⟩ := Row.elem hr'.out encP_length (by decide) hkx
      have hRk := hR.out
      rw [partsB_at hkx] at hRk
      have hzl := hok'.out _ (List.getElem_mem hkx)
      obtain ⟨x, hx⟩ : ∃ x, l[k] = x := ⟨_, rfl⟩
      rw [hx] at hc hRk hzl
      obtain ⟨z, hz⟩ : ∃ z, x.2 = z := ⟨_, rfl⟩
      rw [hz] at hRk hzl
      have c32 : w.cell? ⟨b, off + k * 33 + 32, none⟩ = some (.int .u64 (z : Int)) := hc 32 _ (by simp [encP, u8s, x.1.2, hz])
      have hws : IntKind.u64.wrap (9223372036854775807 - (s : Int)) = ((9223372036854775807 - s : Nat) : Int) := by rw [IntKind.wrap_u64]; omega
      clear hc hx hkx hR hz
      by_cases hz2 : s + z ≤ 9223372036854775807
      · have hRn : Hid (partsB (s + z) (l.drop (k + 1)) = R) := Lib.hid (by rw [decide_eq_true hz2, Bool.true_and] at hRk; exact hRk)
        have hle : (z : Int) ≤ ((9223372036854775807 - s : Nat) : Int) := by omega
        clear hRk
        go_wp2_with fail
        go_round
        case rel => exact ⟨k + 1, s + z, by omega, by go_num, by go_num, by omega, hRn⟩
        case measure => simp [intOf]; omega
      · have hRn : R = false := by rw [decide_eq_false hz2, Bool.false_and] at hRk; exact hRk.symm
        subst hRn
        have hle : ((9223372036854775807 - s : Nat) : Int) < (z : Int) := by omega
        clear hRk
        go_wp2_with fail
        go_ret
        exact ⟨rfl, rfl⟩
    · obtain rfl : k = n := by omega
      have hRn : R = true := by
        have := hR.out
        rw [List.drop_eq_nil_of_le (by rw [hn.out ()]; exact Nat.le_refl _)] at this
        exact this.symm
      subst hRn
      go_wp2_with fail
      go_ret
      exact ⟨rfl, rfl⟩
end Go.Proofs.YtkjndgapejbgcaaDoor
