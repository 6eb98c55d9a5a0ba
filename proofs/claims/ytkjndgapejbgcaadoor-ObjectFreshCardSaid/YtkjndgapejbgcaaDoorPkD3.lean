/- slices.Equal at parts, items, keys; lists of keys compared one by one. -/
import Derived.Test.YtkjndgapejbgcaaDoorPkD2

namespace Go.Proofs.YtkjndgapejbgcaaDoor
open Go.RowKit
set_option linter.unusedSimpArgs false

theorem take_step {α : Type} {xs ys : List α} {k : Nat} (hx : k < xs.length) (hy : k < ys.length) (h : xs.take k = ys.take k) (he : xs[k] = ys[k]) : xs.take (k + 1) = ys.take (k + 1) := by
  rw [List.take_succ_eq_append_getElem hx, List.take_succ_eq_append_getElem hy, h, he]
theorem take_full {α : Type} {xs ys : List α} {n : Nat} (hx : xs.length = n) (hy : ys.length = n) (h : xs.take n = ys.take n) : xs = ys := by
  rw [List.take_of_length_le (by omega), List.take_of_length_le (by omega)] at h
  exact h
theorem ne_at {α : Type} {xs ys : List α} {k : Nat} (hx : k < xs.length) (hy : k < ys.length) (he : ¬ xs[k] = ys[k]) : ¬ xs = ys := by
  rintro rfl
  exact he rfl


set_option maxRecDepth 20000 in
set_option maxHeartbeats 2000000 in
theorem equalP_any (w : World) (xs ys : List PartT) (A1 A2 : Option Addr) (c1 c2 B1 B2 : Nat) (h1 : Row encP 33 w B1 A1 xs) (h2 : Row encP 33 w B2 A2 ys) (hs : xs.length ≤ 9223372036854775807) :
    Calls Tryd.prog 112 #[.slice A1 xs.length c1, .slice A2 ys.length c2] w fun e w' => e = .returned (.bool (decide (xs = ys))) ∧ ∃ q, w' = w.drewN q := by
  obtain ⟨n, hn⟩ : ∃ n, Hid (∀ _ : Unit, xs.length = n) := ⟨_, Lib.hid fun _ => rfl⟩
  obtain ⟨m, hm⟩ : ∃ m, Hid (∀ _ : Unit, ys.length = m) := ⟨_, Lib.hid fun _ => rfl⟩
  rw [hn.out ()] at hs
  rw [hn.out (), hm.out ()]
  have h1' := Lib.hid h1
  have h2' := Lib.hid h2
  clear h1 h2
  by_cases hnm : n = m
  · obtain ⟨R, hR⟩ : ∃ R, Hid (∀ _ : Unit, decide (xs = ys) = R) := ⟨_, Lib.hid fun _ => rfl⟩
    rw [hR.out ()]
    subst hnm
    go_enter Tryd.func112, Tryd.ntmps112
    go_wp2_with fail
    go_loopw [13] (fun i wr => ∃ k q : Nat, k ≤ n ∧ i = .int .i64 k ∧ wr = w.drewN q ∧ Hid (∀ _ : Unit, xs.take k = ys.take k)) (fun i _ => n - (intOf i).toNat)
    case atStart => exact ⟨0, 0, by omega, rfl, rfl, Lib.hid fun _ => rfl⟩
    case round =>
      obtain ⟨k, q, hk, rfl, rfl, he⟩ := hrel
      by_cases hlt : k < n
      · have hkx : k < xs.length := by rw [hn.out ()]; exact hlt
        have hky : k < ys.length := by rw [hm.out ()]; exact hlt
        obtain ⟨b1, o1, rfl, _, g1⟩ := h1'.out.load (P := Tryd.prog) encP_length (by decide) Tryd.underlying47 rfl (by kernel_rfl) hkx
        obtain ⟨b2, o2, rfl, _, g2⟩ := h2'.out.load (P := Tryd.prog) encP_length (by decide) Tryd.underlying47 rfl (by kernel_rfl) hky
        obtain ⟨x, hx⟩ : ∃ x, xs[k] = x := ⟨_, rfl⟩
        obtain ⟨y, hy⟩ : ∃ y, ys[k] = y := ⟨_, rfl⟩
        rw [hx] at g1
        rw [hy] at g2
        have q1 : ∀ m, Sem.run Tryd.prog (loadVar 47 ⟨b1, o1 + k * 33, none⟩) ((w.drewN q).drewN m) = .ok (.agg (encP x).toArray) ((w.drewN q).drewN m) := fun m => by rw [World.drewN_drewN]; exact g1 _
        have q2 : ∀ m, Sem.run Tryd.prog (loadVar 47 ⟨b2, o2 + k * 33, none⟩) ((w.drewN q).drewN m) = .ok (.agg (encP y).toArray) ((w.drewN q).drewN m) := fun m => by rw [World.drewN_drewN]; exact g2 _
        clear g1 g2
        have hne := neP x y
        have hgu := fun op a b => guP op a b (encP x).toArray (encP y).toArray
        have hyes : Hid (x = y → ∀ _ : Unit, xs.take (k + 1) = ys.take (k + 1)) := Lib.hid fun h _ => take_step hkx hky (he.out ()) (by rw [hx, hy, h])
        have hno : Hid (¬ x = y → R = false) := Lib.hid fun h => by rw [← hR.out ()]; exact decide_eq_false (ne_at hkx hky (by rw [hx, hy]; exact h))
        clear hkx hky hx hy he
        generalize hwq : w.drewN q = wq at q1 q2 ⊢
        have hwq' := Lib.hid (fun _ : Unit => hwq)
        clear hwq
        have q1' := Lib.hid q1
        have q2' := Lib.hid q2
        clear q1 q2
        by_cases hxy : x = y
        · rw [decide_eq_true hxy] at hne
          have hye := Lib.hid (hyes.out hxy)
          clear hyes hno hxy
          go_wp2_with fail
          refine wp_region_quiet_lit (by kernel_rfl) (by kernel_rfl) ?_
          iterate 3 (quiet_step (fail))
          refine wpQuiet_load_mid rfl 47 _ rfl b1 (o1 + k * 33) rfl _ (by rintro _ ⟨m, rfl⟩; exact q1'.out m) ?_
          iterate 3 (quiet_step (fail))
          refine wpQuiet_load_mid rfl 47 _ rfl b2 (o2 + k * 33) rfl _ (by rintro _ ⟨m, rfl⟩; exact q2'.out m) ?_
          quiet_step (fail)
          refine wpQuiet_nil ?_
          rintro _ ⟨nq, rfl⟩
          go_wp2_with fail
          go_roundw
          case rel => exact ⟨k + 1, q + nq, by omega, by go_num, by rw [← hwq'.out (), World.drewN_drewN], hye⟩
          case measure => simp [intOf]; omega
        · rw [decide_eq_false hxy] at hne
          obtain rfl : R = false := hno.out hxy
          clear hyes hno hxy
          go_wp2_with fail
          refine wp_region_quiet_lit (by kernel_rfl) (by kernel_rfl) ?_
          iterate 3 (quiet_step (fail))
          refine wpQuiet_load_mid rfl 47 _ rfl b1 (o1 + k * 33) rfl _ (by rintro _ ⟨m, rfl⟩; exact q1'.out m) ?_
          iterate 3 (quiet_step (fail))
          refine wpQuiet_load_mid rfl 47 _ rfl b2 (o2 + k * 33) rfl _ (by rintro _ ⟨m, rfl⟩; exact q2'.out m) ?_
          quiet_step (fail)
          refine wpQuiet_nil ?_
          rintro _ ⟨nq, rfl⟩
          go_wp2_with fail
          go_ret
          exact ⟨rfl, q + nq, by rw [← hwq'.out (), World.drewN_drewN]⟩
      · have hR1 : R = true := by rw [← hR.out ()]; exact decide_eq_true (take_full (n := n) (hn.out ()) (hm.out ()) (by rw [← show k = n by omega]; exact he.out ()))
        subst hR1
        go_wp2_with fail
        go_ret
        exact ⟨rfl, q, rfl⟩
  · have hne : decide (xs = ys) = false := decide_eq_false fun h => hnm (by rw [← hn.out (), ← hm.out (), h])
    rw [hne]
    have hnm' : ¬ (n : Int) = (m : Int) := by omega
    go_enter Tryd.func112, Tryd.ntmps112
    go_wp2_with fail
    go_ret
    exact ⟨rfl, 0, rfl⟩


set_option maxRecDepth 20000 in
set_option maxHeartbeats 2000000 in
theorem equalI_any (w : World) (xs ys : List ItemT) (A1 A2 : Option Addr) (c1 c2 B1 B2 : Nat) (h1 : Row encI 35 w B1 A1 xs) (h2 : Row encI 35 w B2 A2 ys) (hs : xs.length ≤ 9223372036854775807) :
    Calls Tryd.prog 113 #[.slice A1 xs.length c1, .slice A2 ys.length c2] w fun e w' => e = .returned (.bool (decide (xs = ys))) ∧ ∃ q, w' = w.drewN q := by
  obtain ⟨n, hn⟩ : ∃ n, Hid (∀ _ : Unit, xs.length = n) := ⟨_, Lib.hid fun _ => rfl⟩
  obtain ⟨m, hm⟩ : ∃ m, Hid (∀ _ : Unit, ys.length = m) := ⟨_, Lib.hid fun _ => rfl⟩
  rw [hn.out ()] at hs
  rw [hn.out (), hm.out ()]
  have h1' := Lib.hid h1
  have h2' := Lib.hid h2
  clear h1 h2
  by_cases hnm : n = m
  · obtain ⟨R, hR⟩ : ∃ R, Hid (∀ _ : Unit, decide (xs = ys) = R) := ⟨_, Lib.hid fun _ => rfl⟩
    rw [hR.out ()]
    subst hnm
    go_enter Tryd.func113, Tryd.ntmps113
    go_wp2_with fail
    go_loopw [13] (fun i wr => ∃ k q : Nat, k ≤ n ∧ i = .int .i64 k ∧ wr = w.drewN q ∧ Hid (∀ _ : Unit, xs.take k = ys.take k)) (fun i _ => n - (intOf i).toNat)
    case atStart => exact ⟨0, 0, by omega, rfl, rfl, Lib.hid fun _ => rfl⟩
    case round =>
      obtain ⟨k, q, hk, rfl, rfl, he⟩ := hrel
      by_cases hlt : k < n
      · have hkx : k < xs.length := by rw [hn.out ()]; exact hlt
        have hky : k < ys.length := by rw [hm.out ()]; exact hlt
        obtain ⟨b1, o1, rfl, _, g1⟩ := h1'.out.load (P := Tryd.prog) encI_length (by decide) Tryd.underlying50 rfl (by kernel_rfl) hkx
        obtain ⟨b2, o2, rfl, _, g2⟩ := h2'.out.load (P := Tryd.prog) encI_length (by decide) Tryd.underlying50 rfl (by kernel_rfl) hky
        obtain ⟨x, hx⟩ : ∃ x, xs[k] = x := ⟨_, rfl⟩
        obtain ⟨y, hy⟩ : ∃ y, ys[k] = y := ⟨_, rfl⟩
        rw [hx] at g1
        rw [hy] at g2
        have q1 : ∀ m, Sem.run Tryd.prog (loadVar 50 ⟨b1, o1 + k * 35, none⟩) ((w.drewN q).drewN m) = .ok (.agg (encI x).toArray) ((w.drewN q).drewN m) := fun m => by rw [World.drewN_drewN]; exact g1 _
        have q2 : ∀ m, Sem.run Tryd.prog (loadVar 50 ⟨b2, o2 + k * 35, none⟩) ((w.drewN q).drewN m) = .ok (.agg (encI y).toArray) ((w.drewN q).drewN m) := fun m => by rw [World.drewN_drewN]; exact g2 _
        clear g1 g2
        have hne := neI x y
        have hgu := fun op a b => guI op a b (encI x).toArray (encI y).toArray
        have hyes : Hid (x = y → ∀ _ : Unit, xs.take (k + 1) = ys.take (k + 1)) := Lib.hid fun h _ => take_step hkx hky (he.out ()) (by rw [hx, hy, h])
        have hno : Hid (¬ x = y → R = false) := Lib.hid fun h => by rw [← hR.out ()]; exact decide_eq_false (ne_at hkx hky (by rw [hx, hy]; exact h))
        clear hkx hky hx hy he
        generalize hwq : w.drewN q = wq at q1 q2 ⊢
        have hwq' := Lib.hid (fun _ : Unit => hwq)
        clear hwq
        have q1' := Lib.hid q1
        have q2' := Lib.hid q2
        clear q1 q2
        by_cases hxy : x = y
        · rw [decide_eq_true hxy] at hne
          have hye := Lib.hid (hyes.out hxy)
          clear hyes hno hxy
          go_wp2_with fail
          refine wp_region_quiet_lit (by kernel_rfl) (by kernel_rfl) ?_
          iterate 3 (quiet_step (fail))
          refine wpQuiet_load_mid rfl 50 _ rfl b1 (o1 + k * 35) rfl _ (by rintro _ ⟨m, rfl⟩; exact q1'.out m) ?_
          iterate 3 (quiet_step (fail))
          refine wpQuiet_load_mid rfl 50 _ rfl b2 (o2 + k * 35) rfl _ (by rintro _ ⟨m, rfl⟩; exact q2'.out m) ?_
          quiet_step (fail)
          refine wpQuiet_nil ?_
          rintro _ ⟨nq, rfl⟩
          go_wp2_with fail
          go_roundw
          case rel => exact ⟨k + 1, q + nq, by omega, by go_num, by rw [← hwq'.out (), World.drewN_drewN], hye⟩
          case measure => simp [intOf]; omega
        · rw [decide_eq_false hxy] at hne
          obtain rfl : R = false := hno.out hxy
          clear hyes hno hxy
          go_wp2_with fail
          refine wp_region_quiet_lit (by kernel_rfl) (by kernel_rfl) ?_
          iterate 3 (quiet_step (fail))
          refine wpQuiet_load_mid rfl 50 _ rfl b1 (o1 + k * 35) rfl _ (by rintro _ ⟨m, rfl⟩; exact q1'.out m) ?_
          iterate 3 (quiet_step (fail))
          refine wpQuiet_load_mid rfl 50 _ rfl b2 (o2 + k * 35) rfl _ (by rintro _ ⟨m, rfl⟩; exact q2'.out m) ?_
          quiet_step (fail)
          refine wpQuiet_nil ?_
          rintro _ ⟨nq, rfl⟩
          go_wp2_with fail
          go_ret
          exact ⟨rfl, q + nq, by rw [← hwq'.out (), World.drewN_drewN]⟩
      · have hR1 : R = true := by rw [← hR.out ()]; exact decide_eq_true (take_full (n := n) (hn.out ()) (hm.out ()) (by rw [← show k = n by omega]; exact he.out ()))
        subst hR1
        go_wp2_with fail
        go_ret
        exact ⟨rfl, q, rfl⟩
  · have hne : decide (xs = ys) = false := decide_eq_false fun h => hnm (by rw [← hn.out (), ← hm.out (), h])
    rw [hne]
    have hnm' : ¬ (n : Int) = (m : Int) := by omega
    go_enter Tryd.func113, Tryd.ntmps113
    go_wp2_with fail
    go_ret
    exact ⟨rfl, 0, rfl⟩


set_option maxRecDepth 20000 in
set_option maxHeartbeats 2000000 in
theorem equalK_any (w : World) (xs ys : List Key32) (A1 A2 : Option Addr) (c1 c2 B1 B2 : Nat) (h1 : Row encK 32 w B1 A1 xs) (h2 : Row encK 32 w B2 A2 ys) (hs : xs.length ≤ 9223372036854775807) :
    Calls Tryd.prog 114 #[.slice A1 xs.length c1, .slice A2 ys.length c2] w fun e w' => e = .returned (.bool (decide (xs = ys))) ∧ ∃ q, w' = w.drewN q := by
  obtain ⟨n, hn⟩ : ∃ n, Hid (∀ _ : Unit, xs.length = n) := ⟨_, Lib.hid fun _ => rfl⟩
  obtain ⟨m, hm⟩ : ∃ m, Hid (∀ _ : Unit, ys.length = m) := ⟨_, Lib.hid fun _ => rfl⟩
  rw [hn.out ()] at hs
  rw [hn.out (), hm.out ()]
  have h1' := Lib.hid h1
  have h2' := Lib.hid h2
  clear h1 h2
  by_cases hnm : n = m
  · obtain ⟨R, hR⟩ : ∃ R, Hid (∀ _ : Unit, decide (xs = ys) = R) := ⟨_, Lib.hid fun _ => rfl⟩
    rw [hR.out ()]
    subst hnm
    go_enter Tryd.func114, Tryd.ntmps114
    go_wp2_with fail
    go_loopw [13] (fun i wr => ∃ k q : Nat, k ≤ n ∧ i = .int .i64 k ∧ wr = w.drewN q ∧ Hid (∀ _ : Unit, xs.take k = ys.take k)) (fun i _ => n - (intOf i).toNat)
    case atStart => exact ⟨0, 0, by omega, rfl, rfl, Lib.hid fun _ => rfl⟩
    case round =>
      obtain ⟨k, q, hk, rfl, rfl, he⟩ := hrel
      by_cases hlt : k < n
      · have hkx : k < xs.length := by rw [hn.out ()]; exact hlt
        have hky : k < ys.length := by rw [hm.out ()]; exact hlt
        obtain ⟨b1, o1, rfl, _, g1⟩ := h1'.out.load (P := Tryd.prog) encK_length (by decide) Tryd.underlying28 rfl (by kernel_rfl) hkx
        obtain ⟨b2, o2, rfl, _, g2⟩ := h2'.out.load (P := Tryd.prog) encK_length (by decide) Tryd.underlying28 rfl (by kernel_rfl) hky
        obtain ⟨x, hx⟩ : ∃ x, xs[k] = x := ⟨_, rfl⟩
        obtain ⟨y, hy⟩ : ∃ y, ys[k] = y := ⟨_, rfl⟩
        rw [hx] at g1
        rw [hy] at g2
        have q1 : ∀ m, Sem.run Tryd.prog (loadVar 28 ⟨b1, o1 + k * 32, none⟩) ((w.drewN q).drewN m) = .ok (.agg (encK x).toArray) ((w.drewN q).drewN m) := fun m => by rw [World.drewN_drewN]; exact g1 _
        have q2 : ∀ m, Sem.run Tryd.prog (loadVar 28 ⟨b2, o2 + k * 32, none⟩) ((w.drewN q).drewN m) = .ok (.agg (encK y).toArray) ((w.drewN q).drewN m) := fun m => by rw [World.drewN_drewN]; exact g2 _
        clear g1 g2
        have hne := neK x y
        have hgu := fun op a b => guK op a b (encK x).toArray (encK y).toArray
        have hyes : Hid (x = y → ∀ _ : Unit, xs.take (k + 1) = ys.take (k + 1)) := Lib.hid fun h _ => take_step hkx hky (he.out ()) (by rw [hx, hy, h])
        have hno : Hid (¬ x = y → R = false) := Lib.hid fun h => by rw [← hR.out ()]; exact decide_eq_false (ne_at hkx hky (by rw [hx, hy]; exact h))
        clear hkx hky hx hy he
        generalize hwq : w.drewN q = wq at q1 q2 ⊢
        have hwq' := Lib.hid (fun _ : Unit => hwq)
        clear hwq
        have q1' := Lib.hid q1
        have q2' := Lib.hid q2
        clear q1 q2
        by_cases hxy : x = y
        · rw [decide_eq_true hxy] at hne
          have hye := Lib.hid (hyes.out hxy)
          clear hyes hno hxy
          go_wp2_with fail
          refine wp_region_quiet_lit (by kernel_rfl) (by kernel_rfl) ?_
          iterate 3 (quiet_step (fail))
          refine wpQuiet_load_mid rfl 28 _ rfl b1 (o1 + k * 32) rfl _ (by rintro _ ⟨m, rfl⟩; exact q1'.out m) ?_
          iterate 3 (quiet_step (fail))
          refine wpQuiet_load_mid rfl 28 _ rfl b2 (o2 + k * 32) rfl _ (by rintro _ ⟨m, rfl⟩; exact q2'.out m) ?_
          quiet_step (fail)
          refine wpQuiet_nil ?_
          rintro _ ⟨nq, rfl⟩
          go_wp2_with fail
          go_roundw
          case rel => exact ⟨k + 1, q + nq, by omega, by go_num, by rw [← hwq'.out (), World.drewN_drewN], hye⟩
          case measure => simp [intOf]; omega
        · rw [decide_eq_false hxy] at hne
          obtain rfl : R = false := hno.out hxy
          clear hyes hno hxy
          go_wp2_with fail
          refine wp_region_quiet_lit (by kernel_rfl) (by kernel_rfl) ?_
          iterate 3 (quiet_step (fail))
          refine wpQuiet_load_mid rfl 28 _ rfl b1 (o1 + k * 32) rfl _ (by rintro _ ⟨m, rfl⟩; exact q1'.out m) ?_
          iterate 3 (quiet_step (fail))
          refine wpQuiet_load_mid rfl 28 _ rfl b2 (o2 + k * 32) rfl _ (by rintro _ ⟨m, rfl⟩; exact q2'.out m) ?_
          quiet_step (fail)
          refine wpQuiet_nil ?_
          rintro _ ⟨nq, rfl⟩
          go_wp2_with fail
          go_ret
          exact ⟨rfl, q + nq, by rw [← hwq'.out (), World.drewN_drewN]⟩
      · have hR1 : R = true := by rw [← hR.out ()]; exact decide_eq_true (take_full (n := n) (hn.out ()) (hm.out ()) (by rw [← show k = n by omega]; exact he.out ()))
        subst hR1
        go_wp2_with fail
        go_ret
        exact ⟨rfl, q, rfl⟩
  · have hne : decide (xs = ys) = false := decide_eq_false fun h => hnm (by rw [← hn.out (), ← hm.out (), h])
    rw [hne]
    have hnm' : ¬ (n : Int) = (m : Int) := by omega
    go_enter Tryd.func114, Tryd.ntmps114
    go_wp2_with fail
    go_ret
    exact ⟨rfl, 0, rfl⟩


set_option maxRecDepth 20000 in
set_option maxHeartbeats 2000000 in
theorem refKeys_any (w : World) (xs ys : List Key32) (A1 A2 : Option Addr) (c1 c2 B1 B2 : Nat) (h1 : Row encK 32 w B1 A1 xs) (h2 : Row encK 32 w B2 A2 ys) (hs : xs.length ≤ 9223372036854775807) :
    Calls Tryd.prog 46 #[.slice A1 xs.length c1, .slice A2 ys.length c2] w fun e w' => e = .returned (.bool (decide (xs = ys))) ∧ ∃ q, w' = w.drewN q := by
  obtain ⟨n, hn⟩ : ∃ n, Hid (∀ _ : Unit, xs.length = n) := ⟨_, Lib.hid fun _ => rfl⟩
  obtain ⟨m, hm⟩ : ∃ m, Hid (∀ _ : Unit, ys.length = m) := ⟨_, Lib.hid fun _ => rfl⟩
  rw [hn.out ()] at hs
  rw [hn.out (), hm.out ()]
  have h1' := Lib.hid h1
  have h2' := Lib.hid h2
  clear h1 h2
  by_cases hnm : n = m
  · obtain ⟨R, hR⟩ : ∃ R, Hid (∀ _ : Unit, decide (xs = ys) = R) := ⟨_, Lib.hid fun _ => rfl⟩
    rw [hR.out ()]
    subst hnm
    go_enter Tryd.func46, Tryd.ntmps46
    go_wp2_with fail
    go_loopw [5] (fun i wr => ∃ k q : Nat, k ≤ n ∧ i = .int .i64 k ∧ wr = w.drewN q ∧ Hid (∀ _ : Unit, xs.take k = ys.take k)) (fun i _ => n - (intOf i).toNat)
    case atStart => exact ⟨0, 0, by omega, rfl, rfl, Lib.hid fun _ => rfl⟩
    case round =>
      obtain ⟨k, q, hk, rfl, rfl, he⟩ := hrel
      by_cases hlt : k < n
      · have hkx : k < xs.length := by rw [hn.out ()]; exact hlt
        have hky : k < ys.length := by rw [hm.out ()]; exact hlt
        obtain ⟨b1, o1, rfl, _, g1⟩ := h1'.out.load (P := Tryd.prog) encK_length (by decide) Tryd.underlying28 rfl (by kernel_rfl) hkx
        obtain ⟨b2, o2, rfl, _, g2⟩ := h2'.out.load (P := Tryd.prog) encK_length (by decide) Tryd.underlying28 rfl (by kernel_rfl) hky
        obtain ⟨x, hx⟩ : ∃ x, xs[k] = x := ⟨_, rfl⟩
        obtain ⟨y, hy⟩ : ∃ y, ys[k] = y := ⟨_, rfl⟩
        rw [hx] at g1
        rw [hy] at g2
        have q1 : ∀ m, Sem.run Tryd.prog (loadVar 28 ⟨b1, o1 + k * 32, none⟩) ((w.drewN q).drewN m) = .ok (.agg (encK x).toArray) ((w.drewN q).drewN m) := fun m => by rw [World.drewN_drewN]; exact g1 _
        have q2 : ∀ m, Sem.run Tryd.prog (loadVar 28 ⟨b2, o2 + k * 32, none⟩) ((w.drewN q).drewN m) = .ok (.agg (encK y).toArray) ((w.drewN q).drewN m) := fun m => by rw [World.drewN_drewN]; exact g2 _
        clear g1 g2
        have hne := neK x y
        have hgu := fun op a b => guK op a b (encK x).toArray (encK y).toArray
        have hyes : Hid (x = y → ∀ _ : Unit, xs.take (k + 1) = ys.take (k + 1)) := Lib.hid fun h _ => take_step hkx hky (he.out ()) (by rw [hx, hy, h])
        have hno : Hid (¬ x = y → R = false) := Lib.hid fun h => by rw [← hR.out ()]; exact decide_eq_false (ne_at hkx hky (by rw [hx, hy]; exact h))
        clear hkx hky hx hy he
        generalize hwq : w.drewN q = wq at q1 q2 ⊢
        have hwq' := Lib.hid (fun _ : Unit => hwq)
        clear hwq
        have q1' := Lib.hid q1
        have q2' := Lib.hid q2
        clear q1 q2
        by_cases hxy : x = y
        · rw [decide_eq_true hxy] at hne
          have hye := Lib.hid (hyes.out hxy)
          clear hyes hno hxy
          go_wp2_with fail
          refine wp_region_quiet_lit (by kernel_rfl) (by kernel_rfl) ?_
          iterate 3 (quiet_step (fail))
          refine wpQuiet_load_mid rfl 28 _ rfl b1 (o1 + k * 32) rfl _ (by rintro _ ⟨m, rfl⟩; exact q1'.out m) ?_
          iterate 3 (quiet_step (fail))
          refine wpQuiet_load_mid rfl 28 _ rfl b2 (o2 + k * 32) rfl _ (by rintro _ ⟨m, rfl⟩; exact q2'.out m) ?_
          quiet_step (fail)
          refine wpQuiet_nil ?_
          rintro _ ⟨nq, rfl⟩
          go_wp2_with fail
          go_roundw
          case rel => exact ⟨k + 1, q + nq, by omega, by go_num, by rw [← hwq'.out (), World.drewN_drewN], hye⟩
          case measure => simp [intOf]; omega
        · rw [decide_eq_false hxy] at hne
          obtain rfl : R = false := hno.out hxy
          clear hyes hno hxy
          go_wp2_with fail
          refine wp_region_quiet_lit (by kernel_rfl) (by kernel_rfl) ?_
          iterate 3 (quiet_step (fail))
          refine wpQuiet_load_mid rfl 28 _ rfl b1 (o1 + k * 32) rfl _ (by rintro _ ⟨m, rfl⟩; exact q1'.out m) ?_
          iterate 3 (quiet_step (fail))
          refine wpQuiet_load_mid rfl 28 _ rfl b2 (o2 + k * 32) rfl _ (by rintro _ ⟨m, rfl⟩; exact q2'.out m) ?_
          quiet_step (fail)
          refine wpQuiet_nil ?_
          rintro _ ⟨nq, rfl⟩
          go_wp2_with fail
          go_ret
          exact ⟨rfl, q + nq, by rw [← hwq'.out (), World.drewN_drewN]⟩
      · have hR1 : R = true := by rw [← hR.out ()]; exact decide_eq_true (take_full (n := n) (hn.out ()) (hm.out ()) (by rw [← show k = n by omega]; exact he.out ()))
        subst hR1
        go_wp2_with fail
        go_ret
        exact ⟨rfl, q, rfl⟩
  · have hne : decide (xs = ys) = false := decide_eq_false fun h => hnm (by rw [← hn.out (), ← hm.out (), h])
    rw [hne]
    have hnm' : ¬ (n : Int) = (m : Int) := by omega
    go_enter Tryd.func46, Tryd.ntmps46
    go_wp2_with fail
    go_ret
    exact ⟨rfl, 0, rfl⟩


set_option maxRecDepth 20000 in
set_option maxHeartbeats 2000000 in
theorem lawKeys_any (w : World) (xs ys : List Key32) (A1 A2 : Option Addr) (c1 c2 B1 B2 : Nat) (h1 : Row encK 32 w B1 A1 xs) (h2 : Row encK 32 w B2 A2 ys) (hs : xs.length ≤ 9223372036854775807) :
    Calls Tryd.prog 27 #[.slice A1 xs.length c1, .slice A2 ys.length c2] w fun e w' => e = .returned (.bool (decide (xs = ys))) ∧ ∃ q, w' = w.drewN q := by
  obtain ⟨n, hn⟩ : ∃ n, Hid (∀ _ : Unit, xs.length = n) := ⟨_, Lib.hid fun _ => rfl⟩
  obtain ⟨m, hm⟩ : ∃ m, Hid (∀ _ : Unit, ys.length = m) := ⟨_, Lib.hid fun _ => rfl⟩
  rw [hn.out ()] at hs
  rw [hn.out (), hm.out ()]
  have h1' := Lib.hid h1
  have h2' := Lib.hid h2
  clear h1 h2
  by_cases hnm : n = m
  · obtain ⟨R, hR⟩ : ∃ R, Hid (∀ _ : Unit, decide (xs = ys) = R) := ⟨_, Lib.hid fun _ => rfl⟩
    rw [hR.out ()]
    subst hnm
    go_enter Tryd.func27, Tryd.ntmps27
    go_wp2_with fail
    go_loopw [5] (fun i wr => ∃ k q : Nat, k ≤ n ∧ i = .int .i64 k ∧ wr = w.drewN q ∧ Hid (∀ _ : Unit, xs.take k = ys.take k)) (fun i _ => n - (intOf i).toNat)
    case atStart => exact ⟨0, 0, by omega, rfl, rfl, Lib.hid fun _ => rfl⟩
    case round =>
      obtain ⟨k, q, hk, rfl, rfl, he⟩ := hrel
      by_cases hlt : k < n
      · have hkx : k < xs.length := by rw [hn.out ()]; exact hlt
        have hky : k < ys.length := by rw [hm.out ()]; exact hlt
        obtain ⟨b1, o1, rfl, _, g1⟩ := h1'.out.load (P := Tryd.prog) encK_length (by decide) Tryd.underlying28 rfl (by kernel_rfl) hkx
        obtain ⟨b2, o2, rfl, _, g2⟩ := h2'.out.load (P := Tryd.prog) encK_length (by decide) Tryd.underlying28 rfl (by kernel_rfl) hky
        obtain ⟨x, hx⟩ : ∃ x, xs[k] = x := ⟨_, rfl⟩
        obtain ⟨y, hy⟩ : ∃ y, ys[k] = y := ⟨_, rfl⟩
        rw [hx] at g1
        rw [hy] at g2
        have q1 : ∀ m, Sem.run Tryd.prog (loadVar 28 ⟨b1, o1 + k * 32, none⟩) ((w.drewN q).drewN m) = .ok (.agg (encK x).toArray) ((w.drewN q).drewN m) := fun m => by rw [World.drewN_drewN]; exact g1 _
        have q2 : ∀ m, Sem.run Tryd.prog (loadVar 28 ⟨b2, o2 + k * 32, none⟩) ((w.drewN q).drewN m) = .ok (.agg (encK y).toArray) ((w.drewN q).drewN m) := fun m => by rw [World.drewN_drewN]; exact g2 _
        clear g1 g2
        have hne := neK x y
        have hgu := fun op a b => guK op a b (encK x).toArray (encK y).toArray
        have hyes : Hid (x = y → ∀ _ : Unit, xs.take (k + 1) = ys.take (k + 1)) := Lib.hid fun h _ => take_step hkx hky (he.out ()) (by rw [hx, hy, h])
        have hno : Hid (¬ x = y → R = false) := Lib.hid fun h => by rw [← hR.out ()]; exact decide_eq_false (ne_at hkx hky (by rw [hx, hy]; exact h))
        clear hkx hky hx hy he
        generalize hwq : w.drewN q = wq at q1 q2 ⊢
        have hwq' := Lib.hid (fun _ : Unit => hwq)
        clear hwq
        have q1' := Lib.hid q1
        have q2' := Lib.hid q2
        clear q1 q2
        by_cases hxy : x = y
        · rw [decide_eq_true hxy] at hne
          have hye := Lib.hid (hyes.out hxy)
          clear hyes hno hxy
          go_wp2_with fail
          refine wp_region_quiet_lit (by kernel_rfl) (by kernel_rfl) ?_
          iterate 3 (quiet_step (fail))
          refine wpQuiet_load_mid rfl 28 _ rfl b1 (o1 + k * 32) rfl _ (by rintro _ ⟨m, rfl⟩; exact q1'.out m) ?_
          iterate 3 (quiet_step (fail))
          refine wpQuiet_load_mid rfl 28 _ rfl b2 (o2 + k * 32) rfl _ (by rintro _ ⟨m, rfl⟩; exact q2'.out m) ?_
          quiet_step (fail)
          refine wpQuiet_nil ?_
          rintro _ ⟨nq, rfl⟩
          go_wp2_with fail
          go_roundw
          case rel => exact ⟨k + 1, q + nq, by omega, by go_num, by rw [← hwq'.out (), World.drewN_drewN], hye⟩
          case measure => simp [intOf]; omega
        · rw [decide_eq_false hxy] at hne
          obtain rfl : R = false := hno.out hxy
          clear hyes hno hxy
          go_wp2_with fail
          refine wp_region_quiet_lit (by kernel_rfl) (by kernel_rfl) ?_
          iterate 3 (quiet_step (fail))
          refine wpQuiet_load_mid rfl 28 _ rfl b1 (o1 + k * 32) rfl _ (by rintro _ ⟨m, rfl⟩; exact q1'.out m) ?_
          iterate 3 (quiet_step (fail))
          refine wpQuiet_load_mid rfl 28 _ rfl b2 (o2 + k * 32) rfl _ (by rintro _ ⟨m, rfl⟩; exact q2'.out m) ?_
          quiet_step (fail)
          refine wpQuiet_nil ?_
          rintro _ ⟨nq, rfl⟩
          go_wp2_with fail
          go_ret
          exact ⟨rfl, q + nq, by rw [← hwq'.out (), World.drewN_drewN]⟩
      · have hR1 : R = true := by rw [← hR.out ()]; exact decide_eq_true (take_full (n := n) (hn.out ()) (hm.out ()) (by rw [← show k = n by omega]; exact he.out ()))
        subst hR1
        go_wp2_with fail
        go_ret
        exact ⟨rfl, q, rfl⟩
  · have hne : decide (xs = ys) = false := decide_eq_false fun h => hnm (by rw [← hn.out (), ← hm.out (), h])
    rw [hne]
    have hnm' : ¬ (n : Int) = (m : Int) := by omega
    go_enter Tryd.func27, Tryd.ntmps27
    go_wp2_with fail
    go_ret
    exact ⟨rfl, 0, rfl⟩


theorem int_ne {x y : Nat} : ((x : Int) != (y : Int)) = !decide (x = y) := by
  by_cases h : x = y
  · subst h; simp
  · simp [h]; omega
set_option maxRecDepth 20000 in
set_option maxHeartbeats 2000000 in
theorem equalB_any (w : World) (xs ys : List Nat) (A1 A2 : Option Addr) (c1 c2 B1 B2 : Nat) (h1 : Byt w B1 A1 xs) (h2 : Byt w B2 A2 ys) (hs : xs.length ≤ 9223372036854775807) :
    Calls Tryd.prog 111 #[.slice A1 xs.length c1, .slice A2 ys.length c2] w fun e w' => e = .returned (.bool (decide (xs = ys))) ∧ ∃ q, w' = w.drewN q := by
  obtain ⟨n, hn⟩ : ∃ n, Hid (∀ _ : Unit, xs.length = n) := ⟨_, Lib.hid fun _ => rfl⟩
  obtain ⟨m, hm⟩ : ∃ m, Hid (∀ _ : Unit, ys.length = m) := ⟨_, Lib.hid fun _ => rfl⟩
  rw [hn.out ()] at hs
  rw [hn.out (), hm.out ()]
  have h1' := Lib.hid h1
  have h2' := Lib.hid h2
  clear h1 h2
  by_cases hnm : n = m
  · obtain ⟨R, hR⟩ : ∃ R, Hid (∀ _ : Unit, decide (xs = ys) = R) := ⟨_, Lib.hid fun _ => rfl⟩
    rw [hR.out ()]
    subst hnm
    go_enter Tryd.func111, Tryd.ntmps111
    go_wp2_with fail
    go_loopw [13] (fun i wr => ∃ k q : Nat, k ≤ n ∧ i = .int .i64 k ∧ wr = w.drewN q ∧ Hid (∀ _ : Unit, xs.take k = ys.take k)) (fun i _ => n - (intOf i).toNat)
    case atStart => exact ⟨0, 0, by omega, rfl, rfl, Lib.hid fun _ => rfl⟩
    case round =>
      obtain ⟨k, q, hk, rfl, rfl, he⟩ := hrel
      by_cases hlt : k < n
      · have hkx : k < xs.length := by rw [hn.out ()]; exact hlt
        have hky : k < ys.length := by rw [hm.out ()]; exact hlt
        obtain ⟨b1, o1, rfl, _, g1⟩ := h1'.out.get hkx
        obtain ⟨b2, o2, rfl, _, g2⟩ := h2'.out.get hky
        obtain ⟨x, hx⟩ : ∃ x, xs[k]?.getD 0 = x := ⟨_, rfl⟩
        obtain ⟨y, hy⟩ : ∃ y, ys[k]?.getD 0 = y := ⟨_, rfl⟩
        have hx2 : xs[k] = x := by rw [← hx, List.getElem?_eq_getElem hkx]; rfl
        have hy2 : ys[k] = y := by rw [← hy, List.getElem?_eq_getElem hky]; rfl
        simp only [hx] at g1
        simp only [hy] at g2
        have q1 : (w.drewN q).cell? ⟨b1, o1 + k, none⟩ = some (.int .u8 (x : Int)) := g1
        have q2 : (w.drewN q).cell? ⟨b2, o2 + k, none⟩ = some (.int .u8 (y : Int)) := g2
        clear g1 g2
        have hyes : Hid (x = y → ∀ _ : Unit, xs.take (k + 1) = ys.take (k + 1)) := Lib.hid fun h _ => take_step hkx hky (he.out ()) (by rw [hx2, hy2, h])
        have hno : Hid (¬ x = y → R = false) := Lib.hid fun h => by rw [← hR.out ()]; exact decide_eq_false (ne_at hkx hky (by rw [hx2, hy2]; exact h))
        clear hkx hky hx hy hx2 hy2 he
        generalize hwq : w.drewN q = wq at q1 q2 ⊢
        have hwq' := Lib.hid (fun _ : Unit => hwq)
        clear hwq
        by_cases hxy : x = y
        · have hye := Lib.hid (hyes.out hxy)
          subst hxy
          clear hyes hno
          go_wp2_with fail
          go_quiet (fail)
          go_wp2_with fail
          go_roundw
          case rel => exact ⟨k + 1, q + nq, by omega, by go_num, by rw [← hwq'.out (), World.drewN_drewN], hye⟩
          case measure => simp [intOf]; omega
        · have hxi : ((x : Int) != (y : Int)) = true := by rw [int_ne]; simp [hxy]
          obtain rfl : R = false := hno.out hxy
          clear hyes hno
          go_wp2_with fail
          go_quiet (fail)
          go_wp2_with fail
          go_ret
          exact ⟨rfl, q + nq, by rw [← hwq'.out (), World.drewN_drewN]⟩
      · have hR1 : R = true := by rw [← hR.out ()]; exact decide_eq_true (take_full (n := n) (hn.out ()) (hm.out ()) (by rw [← show k = n by omega]; exact he.out ()))
        subst hR1
        go_wp2_with fail
        go_ret
        exact ⟨rfl, q, rfl⟩
  · have hne : decide (xs = ys) = false := decide_eq_false fun h => hnm (by rw [← hn.out (), ← hm.out (), h])
    rw [hne]
    have hnm' : ¬ (n : Int) = (m : Int) := by omega
    go_enter Tryd.func111, Tryd.ntmps111
    go_wp2_with fail
    go_ret
    exact ⟨rfl, 0, rfl⟩

end Go.Proofs.YtkjndgapejbgcaaDoor
