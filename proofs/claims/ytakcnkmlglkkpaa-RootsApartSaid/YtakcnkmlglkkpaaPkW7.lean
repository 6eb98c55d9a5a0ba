/- RootsApart, walked: no tables for the first, no for the second. (Printed by tools/genapart.py.) -/
import Derived.Test.YtakcnkmlglkkpaaPkW2
import Derived.Test.YtakcnkmlglkkpaaPkW3

namespace Go.Proofs.Ytakcnkmlglkkpaa
open Go.RowKit
set_option linter.unusedSimpArgs false
set_option linter.unusedVariables false
open Classical

set_option maxRecDepth 100000 in
set_option maxHeartbeats 16000000 in
theorem apart_00 (w : World) (bx b2y : Bool) (lx ly : List RootT) (sx sy : List StepT) (A1 : Option Addr) (n1 c1 : Nat) (A2 : Option Addr) (n2 c2 : Nat) (A3 : Option Addr) (n3 c3 : Nat) (A4 : Option Addr) (n4 c4 : Nat) (l0 m0 : List RootT) (hq1 : n2 ≤ 4096 ∧ n1 ≤ 4096) (hq2 : n4 ≤ 4096 ∧ n3 ≤ 4096) (hlx : lx.length = n1) (hly : ly.length = n3) (hsx0 : sx.length = n2) (hsy0 : sy.length = n4) (hRx : RowR w w.heap.size A1 lx) (hRy : RowR w w.heap.size A3 ly) (hSx0 : RowS w w.heap.size A2 sx) (hSy0 : RowS w w.heap.size A4 sy) (htx : totS lx ≤ 4611686018427387904) (hty : totS ly ≤ 4611686018427387904) (hQx : madeQ bx lx = none) (hQy : madeQ b2y ly = none) :
    Calls Try.prog 9 #[.agg (encX bx A1 n1 c1 A2 n2 c2), .agg (encX b2y A3 n3 c3 A4 n4 c4)] w fun e w' => e = .returned (.bool true) ∧ Below w.heap.size w w' := by
  obtain ⟨wa, hwa⟩ : ∃ wa, w.alloc (.cells (encX bx A1 n1 c1 A2 n2 c2) 27) = wa := ⟨_, rfl⟩
  obtain ⟨w0, hw0⟩ : ∃ w0, wa.alloc (.cells (encX b2y A3 n3 c3 A4 n4 c4) 27) = w0 := ⟨_, rfl⟩
  have sa : wa.heap.size = w.heap.size + 1 := by rw [← hwa]; simp
  have s0 : Hid (w0.heap.size = w.heap.size + 2) := Lib.hid (by rw [← hw0]; simp [sa])
  have hb0 : Hid (Below w.heap.size w w0) := Lib.hid (by rw [← hw0, ← hwa]; exact ((Below.refl _ _).alloc (Nat.le_refl _) _).alloc (by simp) _)
  have hy0 : w0.heap[w.heap.size + 1]? = some (.cells (encX b2y A3 n3 c3 A4 n4 c4) 27 (0, 0)) := by rw [← hw0, ← sa]; exact heap_alloc_new wa _
  have hx0 : w0.heap[w.heap.size]? = some (.cells (encX bx A1 n1 c1 A2 n2 c2) 27 (0, 0)) := by rw [← hw0]; exact (heap_alloc_old _ _ (by omega)).trans (by rw [← hwa]; exact heap_alloc_new w _)
  have hlt : Hid (w.heap.size < w0.heap.size) := Lib.hid (by have := s0.out; omega)
  have hlt1 : Hid (w.heap.size + 1 < w0.heap.size) := Lib.hid (by have := s0.out; omega)
  have hi3 : Hid ((Try.prog.info? 27).map (·.size) = some 3) := Lib.hid (by kernel_rfl)
  have hrx : Hid (∀ W, Below w0.heap.size w0 W → W.rangeAt w.heap.size 0 [Value.bool bx, .slice A1 n1 c1, .slice A2 n2 c2]) := Lib.hid fun W hW => range_below hlt.out (range_blk hx0) hW
  have hry : Hid (∀ W, Below w0.heap.size w0 W → W.rangeAt (w.heap.size + 1) 0 [Value.bool b2y, .slice A3 n3 c3, .slice A4 n4 c4]) := Lib.hid fun W hW => range_below hlt1.out (range_blk hy0) hW
  have hcx : Hid (∀ W, Below w0.heap.size w0 W → W.cell? ⟨w.heap.size, 2, none⟩ = some (.slice A2 n2 c2)) := Lib.hid fun W hW => (hW.cell (p := ⟨w.heap.size, 2, none⟩) hlt.out).trans (scr_c2 hx0)
  have hcy : Hid (∀ W, Below w0.heap.size w0 W → W.cell? ⟨w.heap.size + 1, 2, none⟩ = some (.slice A4 n4 c4)) := Lib.hid fun W hW => (hW.cell (p := ⟨w.heap.size + 1, 2, none⟩) hlt1.out).trans (scr_c2 hy0)
  have hsx := Lib.hid fun W => small_any W bx A1 n1 c1 A2 n2 c2
  have hsy := Lib.hid fun W => small_any W b2y A3 n3 c3 A4 n4 c4
  clear hx0 hy0
  rw [decide_eq_true hq1] at hsx
  rw [decide_eq_true hq2] at hsy
  have hi37 : Hid ((Try.prog.info? 41).map (·.size) = some 37) := Lib.hid (by kernel_rfl)
  have l37 : Hid (∀ s : StepT, (encS s).length = 37) := Lib.hid encS_length
  have hi36 : Hid ((Try.prog.info? 38).map (·.size) = some 36) := Lib.hid (by kernel_rfl)
  have l36 : Hid (∀ x : AnsT, (encA x).length = 36) := Lib.hid encA_length
  have a36 : Hid (∀ x : AnsT, (encA x).toArray.size = 36) := Lib.hid fun k => by simp [encA_length]
  have oneA := Lib.hid encA_all
  have hz := zeroAn
  have hzk := zeroKy
  have hbk := buildKy
  have hrz : (rZ : RootT).1.size ≤ 4611686018427387904 := by show (0 : Nat) ≤ _; omega
  have hroot0 : ∀ W, Calls Try.prog 27 #[.agg (encR rZ).toArray] W fun e w' => e = .returned (.string (rootS rZ)) ∧ Below W.heap.size W w' := fun W => root_any W rZ hrz
  have hroot := Lib.hid hroot0
  obtain ⟨tr, htr⟩ : ∃ tr, Hid (∀ _ : Unit, rootS rZ = tr) := ⟨_, Lib.hid fun _ => rfl⟩
  rw [htr.out ()] at hroot
  have hSx : Hid (RowS w0 w.heap.size A2 sx) := Lib.hid (Rd.below hSx0 hb0.out)
  have hSy : Hid (RowS w0 w.heap.size A4 sy) := Lib.hid (Rd.below hSy0 hb0.out)
  have hlx' := Lib.hid hsx0
  have hly' := Lib.hid hsy0
  have hmdx : ∀ W, Below w0.heap.size w0 W → Calls Try.prog 13 #[.agg (encX bx A1 n1 c1 A2 n2 c2)] W (MadeP W bx lx) := fun W hW => made_any W bx lx A1 n1 c1 A2 n2 c2 hlx hq1.2 (RowR.up (B := w.heap.size) (Rd.below hRx (hb0.out.trans (hW.mono hb0.out.size))) (by have := hb0.out.size; have := hW.size; omega)) htx
  have hmdy : ∀ W, Below w0.heap.size w0 W → Calls Try.prog 13 #[.agg (encX b2y A3 n3 c3 A4 n4 c4)] W (MadeP W b2y ly) := fun W hW => made_any W b2y ly A3 n3 c3 A4 n4 c4 hly hq2.2 (RowR.up (B := w.heap.size) (Rd.below hRy (hb0.out.trans (hW.mono hb0.out.size))) (by have := hb0.out.size; have := hW.size; omega)) hty
  have hmx : Hid (∀ W, Below w0.heap.size w0 W → Calls Try.prog 13 #[.agg (encX bx A1 n1 c1 A2 n2 c2)] W fun e w' => e = .returned (.tuple #[.pointer none, .pointer none, .bool true]) ∧ Below W.heap.size W w') := Lib.hid fun W hW => (hmdx W hW).mono (by
    rintro e w' ⟨h1 | h1, h2⟩
    · obtain ⟨l1, h3, _⟩ := h1
      rw [hQx] at h3
      cases h3
    · exact ⟨h1.2, h2⟩)
  have hmy : Hid (∀ W, Below w0.heap.size w0 W → Calls Try.prog 13 #[.agg (encX b2y A3 n3 c3 A4 n4 c4)] W fun e w' => e = .returned (.tuple #[.pointer none, .pointer none, .bool true]) ∧ Below W.heap.size W w') := Lib.hid fun W hW => (hmdy W hW).mono (by
    rintro e w' ⟨h1 | h1, h2⟩
    · obtain ⟨l1, h3, _⟩ := h1
      rw [hQy] at h3
      cases h3
    · exact ⟨h1.2, h2⟩)
  obtain ⟨N, hN⟩ : ∃ N, Hid (n2 ≤ N ∧ n4 ≤ N ∧ N ≤ 4096 ∧ (N = n2 ∨ N = n4)) := by
    by_cases h : n2 ≤ n4
    · exact ⟨n4, Lib.hid ⟨h, Nat.le_refl _, hq2.1, .inr rfl⟩⟩
    · exact ⟨n2, Lib.hid ⟨Nat.le_refl _, by omega, hq1.1, .inl rfl⟩⟩
  have hN2 := hN.out.1
  have hN4 := hN.out.2.1
  have hNl := hN.out.2.2.1
  clear hq1 hq2 hlx hly hsx0 hsy0 hRx hRy hSx0 hSy0 htx hty hQx hQy hmdx hmdy hrz hroot0
  go_enter Try.func9, Try.ntmps9
  go_wp2_with (first
    | (refine wpList_load_mid rfl 27 _ rfl w.heap.size 0 rfl [Value.bool bx, .slice A1 n1 c1, .slice A2 n2 c2] _ (hrx.out _ ((Below.refl _ _))) Try.underlying27 rfl hi3.out ?_)
    | (go_at_call 12; refine (hsx.out _).mono ?_; rintro e w1 ⟨rfl, hb⟩; have hd1 : Hid (Below w0.heap.size w0 w1) := Lib.hid hb; clear hb hsx)
    | (refine wpList_loadg (by rfl) 27 _ rfl (w.heap.size + 1) 0 rfl [Value.bool b2y, .slice A3 n3 c3, .slice A4 n4 c4] _ (hry.out _ (hd1.out)) Try.underlying27 rfl hi3.out ?_)
    | (go_at_call 12; refine (hsy.out _).mono ?_; rintro e w2 ⟨rfl, hb⟩; have hd2 : Hid (Below w0.heap.size w0 w2) := Lib.hid (hd1.out.trans (hb.mono hd1.out.size)); clear hb hsy)
    | (refine wpList_load_mid rfl 27 _ rfl w.heap.size 0 rfl [Value.bool bx, .slice A1 n1 c1, .slice A2 n2 c2] _ (hrx.out _ (hd2.out)) Try.underlying27 rfl hi3.out ?_)
    | (go_at_call 13
       refine (hmx.out _ hd2.out).mono ?_
       rintro e w3 ⟨rfl, hb⟩
       have hlo3 : Hid (Below w0.heap.size w0 w3) := Lib.hid (hd2.out.trans (hb.mono hd2.out.size))
       clear hb hmx)
    | (refine wpList_load_mid rfl 27 _ rfl (w.heap.size + 1) 0 rfl [Value.bool b2y, .slice A3 n3 c3, .slice A4 n4 c4] _ (hry.out _ (hlo3.out)) Try.underlying27 rfl hi3.out ?_)
    | (go_at_call 13
       refine (hmy.out _ hlo3.out).mono ?_
       rintro e w4 ⟨rfl, hb⟩
       have hlo4 : Hid (Below w0.heap.size w0 w4) := Lib.hid (hlo3.out.trans (hb.mono hlo3.out.size))
       have hF0 : Hid (Below w0.heap.size w0 w4) := Lib.hid hlo4.out
       clear hb))
  go_loopw [11] (fun i wr => ∃ (k : Nat), k ≤ N ∧ i = .int .i64 k ∧ Hid (Below w0.heap.size w0 wr)) (fun i _ => N - (intOf i).toNat)
  case atStart => exact ⟨0, by omega, rfl, hF0⟩
  case round =>
    obtain ⟨k, hk, rfl, hF⟩ := hrel
    by_cases hkx : k < n2
    · by_cases hky : k < n4
      · obtain ⟨x, hx⟩ : ∃ x, sx[k]? = some x := ⟨_, List.getElem?_eq_getElem (by have := hlx'.out; omega)⟩
        obtain ⟨ax, ox, rfl, hbx, hrg⟩ := RowS.range hSx.out hx
        have hrgx : Hid (∀ W, Below w0.heap.size w0 W → W.rangeAt ax (ox + k * 37) (encS x)) := Lib.hid fun W hW => range_below (Nat.lt_trans hbx hlt.out) hrg hW
        have gx : (k : Int) < (n2 : Int) := by omega
        have hgx := Lib.hid (show k < n2 by omega)
        clear hx hbx hrg
        obtain ⟨y, hy⟩ : ∃ y, sy[k]? = some y := ⟨_, List.getElem?_eq_getElem (by have := hly'.out; omega)⟩
        obtain ⟨ay, oy, rfl, hby, hrg⟩ := RowS.range hSy.out hy
        have hrgy : Hid (∀ W, Below w0.heap.size w0 W → W.rangeAt ay (oy + k * 37) (encS y)) := Lib.hid fun W hW => range_below (Nat.lt_trans hby hlt.out) hrg hW
        have gy : (k : Int) < (n4 : Int) := by omega
        have hgy := Lib.hid (show k < n4 by omega)
        clear hy hby hrg
        have g0 : (0 : Int) ≤ (k : Int) := by omega
        have cx0 := hcx.out _ hF.out
        have cy0 := hcy.out _ hF.out
        have hne := neA
        have hgu := guA
        go_wp2_with fail
        clear cx0 cy0
        have hFd : Hid (Below w0.heap.size w0 (World.drew wr)) := Lib.hid (hF.out.trans ((below_drewN (Below.refl _ _) 1).mono hF.out.size))
        have hd : Hid (Below w0.heap.size w0 (World.drew wr)) := Lib.hid hFd.out
        refine wp_region_held (S := fun W => Below w0.heap.size w0 W) (by kernel_rfl) ?_
        change wpAnyH _ _ _ _ _ _ _ _ (World.drew _)
        refine tk (i := 0) (d := 56) (v := .int .i64 (k : Int)) rfl rfl (Or.inl ⟨by rfl, by intro W hW; clear hW; go_simp⟩) hd.out ?_
        simp only [List.setIfInBounds_toArray, List.set_cons_zero, List.set_cons_succ]
        refine tk (i := 1) (d := 57) (v := .pointer (some ⟨w.heap.size, 2, none⟩)) rfl rfl (Or.inl ⟨by rfl, by intro W hW; clear hW; go_simp⟩) hd.out ?_
        simp only [List.setIfInBounds_toArray, List.set_cons_zero, List.set_cons_succ]
        refine tk (i := 2) (d := 58) (v := .slice (some ⟨ax, ox, none⟩) n2 c2) rfl rfl (Or.inl ⟨by rfl, by intro W hW; have cc := hcx.out W hW; clear hW; go_simp⟩) hd.out ?_
        simp only [List.setIfInBounds_toArray, List.set_cons_zero, List.set_cons_succ]
        refine tk (i := 3) (d := 59) (v := .int .i64 (n2 : Int)) rfl rfl (Or.inl ⟨by rfl, by intro W hW; clear hW; go_simp⟩) hd.out ?_
        simp only [List.setIfInBounds_toArray, List.set_cons_zero, List.set_cons_succ]
        refine tk (i := 4) (d := 60) (v := .bool true) rfl rfl (Or.inl ⟨by rfl, by intro W hW; have hh := hgx.out; clear hW; go_simp⟩) hd.out ?_
        simp only [List.setIfInBounds_toArray, List.set_cons_zero, List.set_cons_succ]
        refine tk (i := 5) (d := 61) (v := .bool true) rfl rfl (Or.inl ⟨by rfl, by intro W hW; clear hW; go_simp⟩) hd.out ?_
        simp only [List.setIfInBounds_toArray, List.set_cons_zero, List.set_cons_succ]
        refine tk (i := 6) (d := 62) (v := .pointer none) rfl rfl (Or.inl ⟨by rfl, by intro W hW; clear hW; go_simp⟩) hd.out ?_
        simp only [List.setIfInBounds_toArray, List.set_cons_zero, List.set_cons_succ]
        refine tk (i := 7) (d := 63) (v := .bool false) rfl rfl (Or.inl ⟨by rfl, by intro W hW; clear hW; go_simp⟩) hd.out ?_
        simp only [List.setIfInBounds_toArray, List.set_cons_zero, List.set_cons_succ]
        refine tk (i := 8) (d := 64) (v := .bool false) rfl rfl (Or.inl ⟨by rfl, by intro W hW; clear hW; go_simp⟩) hd.out ?_
        simp only [List.setIfInBounds_toArray, List.set_cons_zero, List.set_cons_succ]
        refine tk (i := 9) (d := 65) (v := .bool false) rfl rfl (Or.inl ⟨by rfl, by intro W hW; clear hW; go_simp⟩) hd.out ?_
        simp only [List.setIfInBounds_toArray, List.set_cons_zero, List.set_cons_succ]
        refine tk (i := 10) (d := 66) (v := undef) rfl rfl (Or.inr ⟨by rfl, rfl⟩) hd.out ?_
        simp only [List.setIfInBounds_toArray, List.set_cons_zero, List.set_cons_succ]
        refine tk (i := 11) (d := 67) (v := undef) rfl rfl (Or.inr ⟨by rfl, rfl⟩) hd.out ?_
        simp only [List.setIfInBounds_toArray, List.set_cons_zero, List.set_cons_succ]
        refine tk (i := 12) (d := 68) (v := undef) rfl rfl (Or.inr ⟨by rfl, rfl⟩) hd.out ?_
        simp only [List.setIfInBounds_toArray, List.set_cons_zero, List.set_cons_succ]
        refine tk (i := 13) (d := 69) (v := undef) rfl rfl (Or.inr ⟨by rfl, rfl⟩) hd.out ?_
        simp only [List.setIfInBounds_toArray, List.set_cons_zero, List.set_cons_succ]
        refine tk (i := 14) (d := 70) (v := undef) rfl rfl (Or.inr ⟨by rfl, rfl⟩) hd.out ?_
        simp only [List.setIfInBounds_toArray, List.set_cons_zero, List.set_cons_succ]
        refine tk (i := 15) (d := 71) (v := undef) rfl rfl (Or.inr ⟨by rfl, rfl⟩) hd.out ?_
        simp only [List.setIfInBounds_toArray, List.set_cons_zero, List.set_cons_succ]
        refine tk (i := 17) (d := 73) (v := undef) rfl rfl (Or.inr ⟨by rfl, rfl⟩) hd.out ?_
        simp only [List.setIfInBounds_toArray, List.set_cons_zero, List.set_cons_succ]
        refine tk (i := 18) (d := 74) (v := undef) rfl rfl (Or.inr ⟨by rfl, rfl⟩) hd.out ?_
        simp only [List.setIfInBounds_toArray, List.set_cons_zero, List.set_cons_succ]
        refine tk (i := 19) (d := 75) (v := undef) rfl rfl (Or.inr ⟨by rfl, rfl⟩) hd.out ?_
        simp only [List.setIfInBounds_toArray, List.set_cons_zero, List.set_cons_succ]
        refine tk (i := 20) (d := 76) (v := undef) rfl rfl (Or.inr ⟨by rfl, rfl⟩) hd.out ?_
        simp only [List.setIfInBounds_toArray, List.set_cons_zero, List.set_cons_succ]
        refine tk (i := 21) (d := 77) (v := undef) rfl rfl (Or.inr ⟨by rfl, rfl⟩) hd.out ?_
        simp only [List.setIfInBounds_toArray, List.set_cons_zero, List.set_cons_succ]
        refine tk (i := 22) (d := 78) (v := undef) rfl rfl (Or.inr ⟨by rfl, rfl⟩) hd.out ?_
        simp only [List.setIfInBounds_toArray, List.set_cons_zero, List.set_cons_succ]
        refine wpAnyH_ready (rs := [16]) (by kernel_rfl) (by simp) ?_
        refine AllReadyH.cons rfl (fun K hK => ?_) AllReadyH.nil
        go_simp
        refine hK.out _ _ hd.out (fun _ => ?_)
        clear hK K
        refine wpAnyH_ready (rs := [23]) (by kernel_rfl) (by simp) ?_
        refine AllReadyH.cons rfl (fun K hK => ?_) AllReadyH.nil
        go_simp
        refine hK.out _ _ hd.out (fun _ => ?_)
        clear hK K
        refine tk (i := 24) (d := 80) (v := undef) rfl rfl (Or.inr ⟨by rfl, rfl⟩) hd.out ?_
        simp only [List.setIfInBounds_toArray, List.set_cons_zero, List.set_cons_succ]
        refine tk (i := 25) (d := 81) (v := .bool false) rfl rfl (Or.inl ⟨by rfl, by intro W hW; clear hW; go_simp⟩) hd.out ?_
        simp only [List.setIfInBounds_toArray, List.set_cons_zero, List.set_cons_succ]
        refine wpAnyH_done (by kernel_rfl) ?_ _
        obtain ⟨wp, hwp⟩ : ∃ wp, World.drew wr = wp := ⟨_, rfl⟩
        rw [hwp] at hFd ⊢
        have hG := hFd
        clear hwp
        go_wp2_with fail
        have hGd : Hid (Below w0.heap.size w0 (World.drew wp)) := Lib.hid (hG.out.trans ((below_drewN (Below.refl _ _) 1).mono hG.out.size))
        have hd : Hid (Below w0.heap.size w0 (World.drew wp)) := Lib.hid hGd.out
        refine wp_region_held (S := fun W => Below w0.heap.size w0 W) (by kernel_rfl) ?_
        change wpAnyH _ _ _ _ _ _ _ _ (World.drew _)
        refine tk (i := 0) (d := 82) (v := .int .i64 (k : Int)) rfl rfl (Or.inl ⟨by rfl, by intro W hW; clear hW; go_simp⟩) hd.out ?_
        simp only [List.setIfInBounds_toArray, List.set_cons_zero, List.set_cons_succ]
        refine tk (i := 1) (d := 83) (v := .pointer (some ⟨w.heap.size + 1, 2, none⟩)) rfl rfl (Or.inl ⟨by rfl, by intro W hW; clear hW; go_simp⟩) hd.out ?_
        simp only [List.setIfInBounds_toArray, List.set_cons_zero, List.set_cons_succ]
        refine tk (i := 2) (d := 84) (v := .slice (some ⟨ay, oy, none⟩) n4 c4) rfl rfl (Or.inl ⟨by rfl, by intro W hW; have cc := hcy.out W hW; clear hW; go_simp⟩) hd.out ?_
        simp only [List.setIfInBounds_toArray, List.set_cons_zero, List.set_cons_succ]
        refine tk (i := 3) (d := 85) (v := .int .i64 (n4 : Int)) rfl rfl (Or.inl ⟨by rfl, by intro W hW; clear hW; go_simp⟩) hd.out ?_
        simp only [List.setIfInBounds_toArray, List.set_cons_zero, List.set_cons_succ]
        refine tk (i := 4) (d := 86) (v := .bool true) rfl rfl (Or.inl ⟨by rfl, by intro W hW; have hh := hgy.out; clear hW; go_simp⟩) hd.out ?_
        simp only [List.setIfInBounds_toArray, List.set_cons_zero, List.set_cons_succ]
        refine tk (i := 5) (d := 87) (v := .bool true) rfl rfl (Or.inl ⟨by rfl, by intro W hW; clear hW; go_simp⟩) hd.out ?_
        simp only [List.setIfInBounds_toArray, List.set_cons_zero, List.set_cons_succ]
        refine tk (i := 6) (d := 88) (v := .pointer none) rfl rfl (Or.inl ⟨by rfl, by intro W hW; clear hW; go_simp⟩) hd.out ?_
        simp only [List.setIfInBounds_toArray, List.set_cons_zero, List.set_cons_succ]
        refine tk (i := 7) (d := 89) (v := .bool false) rfl rfl (Or.inl ⟨by rfl, by intro W hW; clear hW; go_simp⟩) hd.out ?_
        simp only [List.setIfInBounds_toArray, List.set_cons_zero, List.set_cons_succ]
        refine tk (i := 8) (d := 90) (v := .bool false) rfl rfl (Or.inl ⟨by rfl, by intro W hW; clear hW; go_simp⟩) hd.out ?_
        simp only [List.setIfInBounds_toArray, List.set_cons_zero, List.set_cons_succ]
        refine tk (i := 9) (d := 91) (v := .bool false) rfl rfl (Or.inl ⟨by rfl, by intro W hW; clear hW; go_simp⟩) hd.out ?_
        simp only [List.setIfInBounds_toArray, List.set_cons_zero, List.set_cons_succ]
        refine tk (i := 10) (d := 92) (v := undef) rfl rfl (Or.inr ⟨by rfl, rfl⟩) hd.out ?_
        simp only [List.setIfInBounds_toArray, List.set_cons_zero, List.set_cons_succ]
        refine tk (i := 11) (d := 93) (v := undef) rfl rfl (Or.inr ⟨by rfl, rfl⟩) hd.out ?_
        simp only [List.setIfInBounds_toArray, List.set_cons_zero, List.set_cons_succ]
        refine tk (i := 12) (d := 94) (v := undef) rfl rfl (Or.inr ⟨by rfl, rfl⟩) hd.out ?_
        simp only [List.setIfInBounds_toArray, List.set_cons_zero, List.set_cons_succ]
        refine tk (i := 13) (d := 95) (v := undef) rfl rfl (Or.inr ⟨by rfl, rfl⟩) hd.out ?_
        simp only [List.setIfInBounds_toArray, List.set_cons_zero, List.set_cons_succ]
        refine tk (i := 14) (d := 96) (v := undef) rfl rfl (Or.inr ⟨by rfl, rfl⟩) hd.out ?_
        simp only [List.setIfInBounds_toArray, List.set_cons_zero, List.set_cons_succ]
        refine tk (i := 15) (d := 97) (v := undef) rfl rfl (Or.inr ⟨by rfl, rfl⟩) hd.out ?_
        simp only [List.setIfInBounds_toArray, List.set_cons_zero, List.set_cons_succ]
        refine tk (i := 17) (d := 99) (v := undef) rfl rfl (Or.inr ⟨by rfl, rfl⟩) hd.out ?_
        simp only [List.setIfInBounds_toArray, List.set_cons_zero, List.set_cons_succ]
        refine tk (i := 18) (d := 100) (v := undef) rfl rfl (Or.inr ⟨by rfl, rfl⟩) hd.out ?_
        simp only [List.setIfInBounds_toArray, List.set_cons_zero, List.set_cons_succ]
        refine tk (i := 19) (d := 101) (v := undef) rfl rfl (Or.inr ⟨by rfl, rfl⟩) hd.out ?_
        simp only [List.setIfInBounds_toArray, List.set_cons_zero, List.set_cons_succ]
        refine tk (i := 20) (d := 102) (v := undef) rfl rfl (Or.inr ⟨by rfl, rfl⟩) hd.out ?_
        simp only [List.setIfInBounds_toArray, List.set_cons_zero, List.set_cons_succ]
        refine tk (i := 21) (d := 103) (v := undef) rfl rfl (Or.inr ⟨by rfl, rfl⟩) hd.out ?_
        simp only [List.setIfInBounds_toArray, List.set_cons_zero, List.set_cons_succ]
        refine tk (i := 22) (d := 104) (v := undef) rfl rfl (Or.inr ⟨by rfl, rfl⟩) hd.out ?_
        simp only [List.setIfInBounds_toArray, List.set_cons_zero, List.set_cons_succ]
        refine wpAnyH_ready (rs := [16]) (by kernel_rfl) (by simp) ?_
        refine AllReadyH.cons rfl (fun K hK => ?_) AllReadyH.nil
        go_simp
        refine hK.out _ _ hd.out (fun _ => ?_)
        clear hK K
        refine wpAnyH_ready (rs := [23]) (by kernel_rfl) (by simp) ?_
        refine AllReadyH.cons rfl (fun K hK => ?_) AllReadyH.nil
        go_simp
        refine hK.out _ _ hd.out (fun _ => ?_)
        clear hK K
        refine tk (i := 24) (d := 106) (v := undef) rfl rfl (Or.inr ⟨by rfl, rfl⟩) hd.out ?_
        simp only [List.setIfInBounds_toArray, List.set_cons_zero, List.set_cons_succ]
        refine tk (i := 25) (d := 107) (v := .bool false) rfl rfl (Or.inl ⟨by rfl, by intro W hW; clear hW; go_simp⟩) hd.out ?_
        simp only [List.setIfInBounds_toArray, List.set_cons_zero, List.set_cons_succ]
        refine wpAnyH_done (by kernel_rfl) ?_ _
        have hE := hGd
        clear hne hgu
        go_wp2_with fail
        go_roundw
        case rel => exact ⟨k + 1, by omega, by go_num, hE⟩
        case measure => simp [intOf]; omega
      · obtain ⟨x, hx⟩ : ∃ x, sx[k]? = some x := ⟨_, List.getElem?_eq_getElem (by have := hlx'.out; omega)⟩
        obtain ⟨ax, ox, rfl, hbx, hrg⟩ := RowS.range hSx.out hx
        have hrgx : Hid (∀ W, Below w0.heap.size w0 W → W.rangeAt ax (ox + k * 37) (encS x)) := Lib.hid fun W hW => range_below (Nat.lt_trans hbx hlt.out) hrg hW
        have gx : (k : Int) < (n2 : Int) := by omega
        have hgx := Lib.hid (show k < n2 by omega)
        clear hx hbx hrg
        have gy : ¬ ((k : Int) < (n4 : Int)) := by omega
        have hgy := Lib.hid (show n4 ≤ k by omega)
        have g0 : (0 : Int) ≤ (k : Int) := by omega
        have cx0 := hcx.out _ hF.out
        have cy0 := hcy.out _ hF.out
        have hne := neA
        have hgu := guA
        go_wp2_with fail
        clear cx0 cy0
        have hFd : Hid (Below w0.heap.size w0 (World.drew wr)) := Lib.hid (hF.out.trans ((below_drewN (Below.refl _ _) 1).mono hF.out.size))
        have hd : Hid (Below w0.heap.size w0 (World.drew wr)) := Lib.hid hFd.out
        refine wp_region_held (S := fun W => Below w0.heap.size w0 W) (by kernel_rfl) ?_
        change wpAnyH _ _ _ _ _ _ _ _ (World.drew _)
        refine tk (i := 0) (d := 56) (v := .int .i64 (k : Int)) rfl rfl (Or.inl ⟨by rfl, by intro W hW; clear hW; go_simp⟩) hd.out ?_
        simp only [List.setIfInBounds_toArray, List.set_cons_zero, List.set_cons_succ]
        refine tk (i := 1) (d := 57) (v := .pointer (some ⟨w.heap.size, 2, none⟩)) rfl rfl (Or.inl ⟨by rfl, by intro W hW; clear hW; go_simp⟩) hd.out ?_
        simp only [List.setIfInBounds_toArray, List.set_cons_zero, List.set_cons_succ]
        refine tk (i := 2) (d := 58) (v := .slice (some ⟨ax, ox, none⟩) n2 c2) rfl rfl (Or.inl ⟨by rfl, by intro W hW; have cc := hcx.out W hW; clear hW; go_simp⟩) hd.out ?_
        simp only [List.setIfInBounds_toArray, List.set_cons_zero, List.set_cons_succ]
        refine tk (i := 3) (d := 59) (v := .int .i64 (n2 : Int)) rfl rfl (Or.inl ⟨by rfl, by intro W hW; clear hW; go_simp⟩) hd.out ?_
        simp only [List.setIfInBounds_toArray, List.set_cons_zero, List.set_cons_succ]
        refine tk (i := 4) (d := 60) (v := .bool true) rfl rfl (Or.inl ⟨by rfl, by intro W hW; have hh := hgx.out; clear hW; go_simp⟩) hd.out ?_
        simp only [List.setIfInBounds_toArray, List.set_cons_zero, List.set_cons_succ]
        refine tk (i := 5) (d := 61) (v := .bool true) rfl rfl (Or.inl ⟨by rfl, by intro W hW; clear hW; go_simp⟩) hd.out ?_
        simp only [List.setIfInBounds_toArray, List.set_cons_zero, List.set_cons_succ]
        refine tk (i := 6) (d := 62) (v := .pointer none) rfl rfl (Or.inl ⟨by rfl, by intro W hW; clear hW; go_simp⟩) hd.out ?_
        simp only [List.setIfInBounds_toArray, List.set_cons_zero, List.set_cons_succ]
        refine tk (i := 7) (d := 63) (v := .bool false) rfl rfl (Or.inl ⟨by rfl, by intro W hW; clear hW; go_simp⟩) hd.out ?_
        simp only [List.setIfInBounds_toArray, List.set_cons_zero, List.set_cons_succ]
        refine tk (i := 8) (d := 64) (v := .bool false) rfl rfl (Or.inl ⟨by rfl, by intro W hW; clear hW; go_simp⟩) hd.out ?_
        simp only [List.setIfInBounds_toArray, List.set_cons_zero, List.set_cons_succ]
        refine tk (i := 9) (d := 65) (v := .bool false) rfl rfl (Or.inl ⟨by rfl, by intro W hW; clear hW; go_simp⟩) hd.out ?_
        simp only [List.setIfInBounds_toArray, List.set_cons_zero, List.set_cons_succ]
        refine tk (i := 10) (d := 66) (v := undef) rfl rfl (Or.inr ⟨by rfl, rfl⟩) hd.out ?_
        simp only [List.setIfInBounds_toArray, List.set_cons_zero, List.set_cons_succ]
        refine tk (i := 11) (d := 67) (v := undef) rfl rfl (Or.inr ⟨by rfl, rfl⟩) hd.out ?_
        simp only [List.setIfInBounds_toArray, List.set_cons_zero, List.set_cons_succ]
        refine tk (i := 12) (d := 68) (v := undef) rfl rfl (Or.inr ⟨by rfl, rfl⟩) hd.out ?_
        simp only [List.setIfInBounds_toArray, List.set_cons_zero, List.set_cons_succ]
        refine tk (i := 13) (d := 69) (v := undef) rfl rfl (Or.inr ⟨by rfl, rfl⟩) hd.out ?_
        simp only [List.setIfInBounds_toArray, List.set_cons_zero, List.set_cons_succ]
        refine tk (i := 14) (d := 70) (v := undef) rfl rfl (Or.inr ⟨by rfl, rfl⟩) hd.out ?_
        simp only [List.setIfInBounds_toArray, List.set_cons_zero, List.set_cons_succ]
        refine tk (i := 15) (d := 71) (v := undef) rfl rfl (Or.inr ⟨by rfl, rfl⟩) hd.out ?_
        simp only [List.setIfInBounds_toArray, List.set_cons_zero, List.set_cons_succ]
        refine tk (i := 17) (d := 73) (v := undef) rfl rfl (Or.inr ⟨by rfl, rfl⟩) hd.out ?_
        simp only [List.setIfInBounds_toArray, List.set_cons_zero, List.set_cons_succ]
        refine tk (i := 18) (d := 74) (v := undef) rfl rfl (Or.inr ⟨by rfl, rfl⟩) hd.out ?_
        simp only [List.setIfInBounds_toArray, List.set_cons_zero, List.set_cons_succ]
        refine tk (i := 19) (d := 75) (v := undef) rfl rfl (Or.inr ⟨by rfl, rfl⟩) hd.out ?_
        simp only [List.setIfInBounds_toArray, List.set_cons_zero, List.set_cons_succ]
        refine tk (i := 20) (d := 76) (v := undef) rfl rfl (Or.inr ⟨by rfl, rfl⟩) hd.out ?_
        simp only [List.setIfInBounds_toArray, List.set_cons_zero, List.set_cons_succ]
        refine tk (i := 21) (d := 77) (v := undef) rfl rfl (Or.inr ⟨by rfl, rfl⟩) hd.out ?_
        simp only [List.setIfInBounds_toArray, List.set_cons_zero, List.set_cons_succ]
        refine tk (i := 22) (d := 78) (v := undef) rfl rfl (Or.inr ⟨by rfl, rfl⟩) hd.out ?_
        simp only [List.setIfInBounds_toArray, List.set_cons_zero, List.set_cons_succ]
        refine wpAnyH_ready (rs := [16]) (by kernel_rfl) (by simp) ?_
        refine AllReadyH.cons rfl (fun K hK => ?_) AllReadyH.nil
        go_simp
        refine hK.out _ _ hd.out (fun _ => ?_)
        clear hK K
        refine wpAnyH_ready (rs := [23]) (by kernel_rfl) (by simp) ?_
        refine AllReadyH.cons rfl (fun K hK => ?_) AllReadyH.nil
        go_simp
        refine hK.out _ _ hd.out (fun _ => ?_)
        clear hK K
        refine tk (i := 24) (d := 80) (v := undef) rfl rfl (Or.inr ⟨by rfl, rfl⟩) hd.out ?_
        simp only [List.setIfInBounds_toArray, List.set_cons_zero, List.set_cons_succ]
        refine tk (i := 25) (d := 81) (v := .bool false) rfl rfl (Or.inl ⟨by rfl, by intro W hW; clear hW; go_simp⟩) hd.out ?_
        simp only [List.setIfInBounds_toArray, List.set_cons_zero, List.set_cons_succ]
        refine wpAnyH_done (by kernel_rfl) ?_ _
        obtain ⟨wp, hwp⟩ : ∃ wp, World.drew wr = wp := ⟨_, rfl⟩
        rw [hwp] at hFd ⊢
        have hG := hFd
        clear hwp
        go_wp2_with fail
        have hGd : Hid (Below w0.heap.size w0 (World.drew wp)) := Lib.hid (hG.out.trans ((below_drewN (Below.refl _ _) 1).mono hG.out.size))
        have hd : Hid (Below w0.heap.size w0 (World.drew wp)) := Lib.hid hGd.out
        refine wp_region_held (S := fun W => Below w0.heap.size w0 W) (by kernel_rfl) ?_
        change wpAnyH _ _ _ _ _ _ _ _ (World.drew _)
        refine tk (i := 0) (d := 82) (v := .int .i64 (k : Int)) rfl rfl (Or.inl ⟨by rfl, by intro W hW; clear hW; go_simp⟩) hd.out ?_
        simp only [List.setIfInBounds_toArray, List.set_cons_zero, List.set_cons_succ]
        refine tk (i := 1) (d := 83) (v := .pointer (some ⟨w.heap.size + 1, 2, none⟩)) rfl rfl (Or.inl ⟨by rfl, by intro W hW; clear hW; go_simp⟩) hd.out ?_
        simp only [List.setIfInBounds_toArray, List.set_cons_zero, List.set_cons_succ]
        refine tk (i := 2) (d := 84) (v := .slice A4 n4 c4) rfl rfl (Or.inl ⟨by rfl, by intro W hW; have cc := hcy.out W hW; clear hW; go_simp⟩) hd.out ?_
        simp only [List.setIfInBounds_toArray, List.set_cons_zero, List.set_cons_succ]
        refine tk (i := 3) (d := 85) (v := .int .i64 (n4 : Int)) rfl rfl (Or.inl ⟨by rfl, by intro W hW; clear hW; go_simp⟩) hd.out ?_
        simp only [List.setIfInBounds_toArray, List.set_cons_zero, List.set_cons_succ]
        refine tk (i := 4) (d := 86) (v := .bool false) rfl rfl (Or.inl ⟨by rfl, by intro W hW; have hh := hgy.out; clear hW; go_simp⟩) hd.out ?_
        simp only [List.setIfInBounds_toArray, List.set_cons_zero, List.set_cons_succ]
        refine tk (i := 5) (d := 87) (v := .bool false) rfl rfl (Or.inl ⟨by rfl, by intro W hW; clear hW; go_simp⟩) hd.out ?_
        simp only [List.setIfInBounds_toArray, List.set_cons_zero, List.set_cons_succ]
        refine tk (i := 6) (d := 88) (v := undef) rfl rfl (Or.inr ⟨by rfl, rfl⟩) hd.out ?_
        simp only [List.setIfInBounds_toArray, List.set_cons_zero, List.set_cons_succ]
        refine tk (i := 7) (d := 89) (v := undef) rfl rfl (Or.inr ⟨by rfl, rfl⟩) hd.out ?_
        simp only [List.setIfInBounds_toArray, List.set_cons_zero, List.set_cons_succ]
        refine tk (i := 8) (d := 90) (v := .bool false) rfl rfl (Or.inl ⟨by rfl, by intro W hW; clear hW; go_simp⟩) hd.out ?_
        simp only [List.setIfInBounds_toArray, List.set_cons_zero, List.set_cons_succ]
        refine tk (i := 9) (d := 91) (v := .bool false) rfl rfl (Or.inl ⟨by rfl, by intro W hW; clear hW; go_simp⟩) hd.out ?_
        simp only [List.setIfInBounds_toArray, List.set_cons_zero, List.set_cons_succ]
        refine tk (i := 10) (d := 92) (v := undef) rfl rfl (Or.inr ⟨by rfl, rfl⟩) hd.out ?_
        simp only [List.setIfInBounds_toArray, List.set_cons_zero, List.set_cons_succ]
        refine tk (i := 11) (d := 93) (v := undef) rfl rfl (Or.inr ⟨by rfl, rfl⟩) hd.out ?_
        simp only [List.setIfInBounds_toArray, List.set_cons_zero, List.set_cons_succ]
        refine tk (i := 12) (d := 94) (v := undef) rfl rfl (Or.inr ⟨by rfl, rfl⟩) hd.out ?_
        simp only [List.setIfInBounds_toArray, List.set_cons_zero, List.set_cons_succ]
        refine tk (i := 13) (d := 95) (v := undef) rfl rfl (Or.inr ⟨by rfl, rfl⟩) hd.out ?_
        simp only [List.setIfInBounds_toArray, List.set_cons_zero, List.set_cons_succ]
        refine tk (i := 14) (d := 96) (v := undef) rfl rfl (Or.inr ⟨by rfl, rfl⟩) hd.out ?_
        simp only [List.setIfInBounds_toArray, List.set_cons_zero, List.set_cons_succ]
        refine tk (i := 15) (d := 97) (v := undef) rfl rfl (Or.inr ⟨by rfl, rfl⟩) hd.out ?_
        simp only [List.setIfInBounds_toArray, List.set_cons_zero, List.set_cons_succ]
        refine tk (i := 17) (d := 99) (v := undef) rfl rfl (Or.inr ⟨by rfl, rfl⟩) hd.out ?_
        simp only [List.setIfInBounds_toArray, List.set_cons_zero, List.set_cons_succ]
        refine tk (i := 18) (d := 100) (v := undef) rfl rfl (Or.inr ⟨by rfl, rfl⟩) hd.out ?_
        simp only [List.setIfInBounds_toArray, List.set_cons_zero, List.set_cons_succ]
        refine tk (i := 19) (d := 101) (v := undef) rfl rfl (Or.inr ⟨by rfl, rfl⟩) hd.out ?_
        simp only [List.setIfInBounds_toArray, List.set_cons_zero, List.set_cons_succ]
        refine tk (i := 20) (d := 102) (v := undef) rfl rfl (Or.inr ⟨by rfl, rfl⟩) hd.out ?_
        simp only [List.setIfInBounds_toArray, List.set_cons_zero, List.set_cons_succ]
        refine tk (i := 21) (d := 103) (v := undef) rfl rfl (Or.inr ⟨by rfl, rfl⟩) hd.out ?_
        simp only [List.setIfInBounds_toArray, List.set_cons_zero, List.set_cons_succ]
        refine tk (i := 22) (d := 104) (v := undef) rfl rfl (Or.inr ⟨by rfl, rfl⟩) hd.out ?_
        simp only [List.setIfInBounds_toArray, List.set_cons_zero, List.set_cons_succ]
        refine wpAnyH_ready (rs := [16]) (by kernel_rfl) (by simp) ?_
        refine AllReadyH.cons rfl (fun K hK => ?_) AllReadyH.nil
        go_simp
        refine hK.out _ _ hd.out (fun _ => ?_)
        clear hK K
        refine wpAnyH_ready (rs := [23]) (by kernel_rfl) (by simp) ?_
        refine AllReadyH.cons rfl (fun K hK => ?_) AllReadyH.nil
        go_simp
        refine hK.out _ _ hd.out (fun _ => ?_)
        clear hK K
        refine tk (i := 24) (d := 106) (v := undef) rfl rfl (Or.inr ⟨by rfl, rfl⟩) hd.out ?_
        simp only [List.setIfInBounds_toArray, List.set_cons_zero, List.set_cons_succ]
        refine tk (i := 25) (d := 107) (v := .bool false) rfl rfl (Or.inl ⟨by rfl, by intro W hW; clear hW; go_simp⟩) hd.out ?_
        simp only [List.setIfInBounds_toArray, List.set_cons_zero, List.set_cons_succ]
        refine wpAnyH_done (by kernel_rfl) ?_ _
        have hE := hGd
        clear hne hgu
        go_wp2_with fail
        go_roundw
        case rel => exact ⟨k + 1, by omega, by go_num, hE⟩
        case measure => simp [intOf]; omega
    · by_cases hky : k < n4
      · have gx : ¬ ((k : Int) < (n2 : Int)) := by omega
        have hgx := Lib.hid (show n2 ≤ k by omega)
        obtain ⟨y, hy⟩ : ∃ y, sy[k]? = some y := ⟨_, List.getElem?_eq_getElem (by have := hly'.out; omega)⟩
        obtain ⟨ay, oy, rfl, hby, hrg⟩ := RowS.range hSy.out hy
        have hrgy : Hid (∀ W, Below w0.heap.size w0 W → W.rangeAt ay (oy + k * 37) (encS y)) := Lib.hid fun W hW => range_below (Nat.lt_trans hby hlt.out) hrg hW
        have gy : (k : Int) < (n4 : Int) := by omega
        have hgy := Lib.hid (show k < n4 by omega)
        clear hy hby hrg
        have g0 : (0 : Int) ≤ (k : Int) := by omega
        have cx0 := hcx.out _ hF.out
        have cy0 := hcy.out _ hF.out
        have hne := neA
        have hgu := guA
        go_wp2_with fail
        clear cx0 cy0
        have hFd : Hid (Below w0.heap.size w0 (World.drew wr)) := Lib.hid (hF.out.trans ((below_drewN (Below.refl _ _) 1).mono hF.out.size))
        have hd : Hid (Below w0.heap.size w0 (World.drew wr)) := Lib.hid hFd.out
        refine wp_region_held (S := fun W => Below w0.heap.size w0 W) (by kernel_rfl) ?_
        change wpAnyH _ _ _ _ _ _ _ _ (World.drew _)
        refine tk (i := 0) (d := 56) (v := .int .i64 (k : Int)) rfl rfl (Or.inl ⟨by rfl, by intro W hW; clear hW; go_simp⟩) hd.out ?_
        simp only [List.setIfInBounds_toArray, List.set_cons_zero, List.set_cons_succ]
        refine tk (i := 1) (d := 57) (v := .pointer (some ⟨w.heap.size, 2, none⟩)) rfl rfl (Or.inl ⟨by rfl, by intro W hW; clear hW; go_simp⟩) hd.out ?_
        simp only [List.setIfInBounds_toArray, List.set_cons_zero, List.set_cons_succ]
        refine tk (i := 2) (d := 58) (v := .slice A2 n2 c2) rfl rfl (Or.inl ⟨by rfl, by intro W hW; have cc := hcx.out W hW; clear hW; go_simp⟩) hd.out ?_
        simp only [List.setIfInBounds_toArray, List.set_cons_zero, List.set_cons_succ]
        refine tk (i := 3) (d := 59) (v := .int .i64 (n2 : Int)) rfl rfl (Or.inl ⟨by rfl, by intro W hW; clear hW; go_simp⟩) hd.out ?_
        simp only [List.setIfInBounds_toArray, List.set_cons_zero, List.set_cons_succ]
        refine tk (i := 4) (d := 60) (v := .bool false) rfl rfl (Or.inl ⟨by rfl, by intro W hW; have hh := hgx.out; clear hW; go_simp⟩) hd.out ?_
        simp only [List.setIfInBounds_toArray, List.set_cons_zero, List.set_cons_succ]
        refine tk (i := 5) (d := 61) (v := .bool false) rfl rfl (Or.inl ⟨by rfl, by intro W hW; clear hW; go_simp⟩) hd.out ?_
        simp only [List.setIfInBounds_toArray, List.set_cons_zero, List.set_cons_succ]
        refine tk (i := 6) (d := 62) (v := undef) rfl rfl (Or.inr ⟨by rfl, rfl⟩) hd.out ?_
        simp only [List.setIfInBounds_toArray, List.set_cons_zero, List.set_cons_succ]
        refine tk (i := 7) (d := 63) (v := undef) rfl rfl (Or.inr ⟨by rfl, rfl⟩) hd.out ?_
        simp only [List.setIfInBounds_toArray, List.set_cons_zero, List.set_cons_succ]
        refine tk (i := 8) (d := 64) (v := .bool false) rfl rfl (Or.inl ⟨by rfl, by intro W hW; clear hW; go_simp⟩) hd.out ?_
        simp only [List.setIfInBounds_toArray, List.set_cons_zero, List.set_cons_succ]
        refine tk (i := 9) (d := 65) (v := .bool false) rfl rfl (Or.inl ⟨by rfl, by intro W hW; clear hW; go_simp⟩) hd.out ?_
        simp only [List.setIfInBounds_toArray, List.set_cons_zero, List.set_cons_succ]
        refine tk (i := 10) (d := 66) (v := undef) rfl rfl (Or.inr ⟨by rfl, rfl⟩) hd.out ?_
        simp only [List.setIfInBounds_toArray, List.set_cons_zero, List.set_cons_succ]
        refine tk (i := 11) (d := 67) (v := undef) rfl rfl (Or.inr ⟨by rfl, rfl⟩) hd.out ?_
        simp only [List.setIfInBounds_toArray, List.set_cons_zero, List.set_cons_succ]
        refine tk (i := 12) (d := 68) (v := undef) rfl rfl (Or.inr ⟨by rfl, rfl⟩) hd.out ?_
        simp only [List.setIfInBounds_toArray, List.set_cons_zero, List.set_cons_succ]
        refine tk (i := 13) (d := 69) (v := undef) rfl rfl (Or.inr ⟨by rfl, rfl⟩) hd.out ?_
        simp only [List.setIfInBounds_toArray, List.set_cons_zero, List.set_cons_succ]
        refine tk (i := 14) (d := 70) (v := undef) rfl rfl (Or.inr ⟨by rfl, rfl⟩) hd.out ?_
        simp only [List.setIfInBounds_toArray, List.set_cons_zero, List.set_cons_succ]
        refine tk (i := 15) (d := 71) (v := undef) rfl rfl (Or.inr ⟨by rfl, rfl⟩) hd.out ?_
        simp only [List.setIfInBounds_toArray, List.set_cons_zero, List.set_cons_succ]
        refine tk (i := 17) (d := 73) (v := undef) rfl rfl (Or.inr ⟨by rfl, rfl⟩) hd.out ?_
        simp only [List.setIfInBounds_toArray, List.set_cons_zero, List.set_cons_succ]
        refine tk (i := 18) (d := 74) (v := undef) rfl rfl (Or.inr ⟨by rfl, rfl⟩) hd.out ?_
        simp only [List.setIfInBounds_toArray, List.set_cons_zero, List.set_cons_succ]
        refine tk (i := 19) (d := 75) (v := undef) rfl rfl (Or.inr ⟨by rfl, rfl⟩) hd.out ?_
        simp only [List.setIfInBounds_toArray, List.set_cons_zero, List.set_cons_succ]
        refine tk (i := 20) (d := 76) (v := undef) rfl rfl (Or.inr ⟨by rfl, rfl⟩) hd.out ?_
        simp only [List.setIfInBounds_toArray, List.set_cons_zero, List.set_cons_succ]
        refine tk (i := 21) (d := 77) (v := undef) rfl rfl (Or.inr ⟨by rfl, rfl⟩) hd.out ?_
        simp only [List.setIfInBounds_toArray, List.set_cons_zero, List.set_cons_succ]
        refine tk (i := 22) (d := 78) (v := undef) rfl rfl (Or.inr ⟨by rfl, rfl⟩) hd.out ?_
        simp only [List.setIfInBounds_toArray, List.set_cons_zero, List.set_cons_succ]
        refine wpAnyH_ready (rs := [16]) (by kernel_rfl) (by simp) ?_
        refine AllReadyH.cons rfl (fun K hK => ?_) AllReadyH.nil
        go_simp
        refine hK.out _ _ hd.out (fun _ => ?_)
        clear hK K
        refine wpAnyH_ready (rs := [23]) (by kernel_rfl) (by simp) ?_
        refine AllReadyH.cons rfl (fun K hK => ?_) AllReadyH.nil
        go_simp
        refine hK.out _ _ hd.out (fun _ => ?_)
        clear hK K
        refine tk (i := 24) (d := 80) (v := undef) rfl rfl (Or.inr ⟨by rfl, rfl⟩) hd.out ?_
        simp only [List.setIfInBounds_toArray, List.set_cons_zero, List.set_cons_succ]
        refine tk (i := 25) (d := 81) (v := .bool false) rfl rfl (Or.inl ⟨by rfl, by intro W hW; clear hW; go_simp⟩) hd.out ?_
        simp only [List.setIfInBounds_toArray, List.set_cons_zero, List.set_cons_succ]
        refine wpAnyH_done (by kernel_rfl) ?_ _
        obtain ⟨wp, hwp⟩ : ∃ wp, World.drew wr = wp := ⟨_, rfl⟩
        rw [hwp] at hFd ⊢
        have hG := hFd
        clear hwp
        go_wp2_with fail
        have hGd : Hid (Below w0.heap.size w0 (World.drew wp)) := Lib.hid (hG.out.trans ((below_drewN (Below.refl _ _) 1).mono hG.out.size))
        have hd : Hid (Below w0.heap.size w0 (World.drew wp)) := Lib.hid hGd.out
        refine wp_region_held (S := fun W => Below w0.heap.size w0 W) (by kernel_rfl) ?_
        change wpAnyH _ _ _ _ _ _ _ _ (World.drew _)
        refine tk (i := 0) (d := 82) (v := .int .i64 (k : Int)) rfl rfl (Or.inl ⟨by rfl, by intro W hW; clear hW; go_simp⟩) hd.out ?_
        simp only [List.setIfInBounds_toArray, List.set_cons_zero, List.set_cons_succ]
        refine tk (i := 1) (d := 83) (v := .pointer (some ⟨w.heap.size + 1, 2, none⟩)) rfl rfl (Or.inl ⟨by rfl, by intro W hW; clear hW; go_simp⟩) hd.out ?_
        simp only [List.setIfInBounds_toArray, List.set_cons_zero, List.set_cons_succ]
        refine tk (i := 2) (d := 84) (v := .slice (some ⟨ay, oy, none⟩) n4 c4) rfl rfl (Or.inl ⟨by rfl, by intro W hW; have cc := hcy.out W hW; clear hW; go_simp⟩) hd.out ?_
        simp only [List.setIfInBounds_toArray, List.set_cons_zero, List.set_cons_succ]
        refine tk (i := 3) (d := 85) (v := .int .i64 (n4 : Int)) rfl rfl (Or.inl ⟨by rfl, by intro W hW; clear hW; go_simp⟩) hd.out ?_
        simp only [List.setIfInBounds_toArray, List.set_cons_zero, List.set_cons_succ]
        refine tk (i := 4) (d := 86) (v := .bool true) rfl rfl (Or.inl ⟨by rfl, by intro W hW; have hh := hgy.out; clear hW; go_simp⟩) hd.out ?_
        simp only [List.setIfInBounds_toArray, List.set_cons_zero, List.set_cons_succ]
        refine tk (i := 5) (d := 87) (v := .bool true) rfl rfl (Or.inl ⟨by rfl, by intro W hW; clear hW; go_simp⟩) hd.out ?_
        simp only [List.setIfInBounds_toArray, List.set_cons_zero, List.set_cons_succ]
        refine tk (i := 6) (d := 88) (v := .pointer none) rfl rfl (Or.inl ⟨by rfl, by intro W hW; clear hW; go_simp⟩) hd.out ?_
        simp only [List.setIfInBounds_toArray, List.set_cons_zero, List.set_cons_succ]
        refine tk (i := 7) (d := 89) (v := .bool false) rfl rfl (Or.inl ⟨by rfl, by intro W hW; clear hW; go_simp⟩) hd.out ?_
        simp only [List.setIfInBounds_toArray, List.set_cons_zero, List.set_cons_succ]
        refine tk (i := 8) (d := 90) (v := .bool false) rfl rfl (Or.inl ⟨by rfl, by intro W hW; clear hW; go_simp⟩) hd.out ?_
        simp only [List.setIfInBounds_toArray, List.set_cons_zero, List.set_cons_succ]
        refine tk (i := 9) (d := 91) (v := .bool false) rfl rfl (Or.inl ⟨by rfl, by intro W hW; clear hW; go_simp⟩) hd.out ?_
        simp only [List.setIfInBounds_toArray, List.set_cons_zero, List.set_cons_succ]
        refine tk (i := 10) (d := 92) (v := undef) rfl rfl (Or.inr ⟨by rfl, rfl⟩) hd.out ?_
        simp only [List.setIfInBounds_toArray, List.set_cons_zero, List.set_cons_succ]
        refine tk (i := 11) (d := 93) (v := undef) rfl rfl (Or.inr ⟨by rfl, rfl⟩) hd.out ?_
        simp only [List.setIfInBounds_toArray, List.set_cons_zero, List.set_cons_succ]
        refine tk (i := 12) (d := 94) (v := undef) rfl rfl (Or.inr ⟨by rfl, rfl⟩) hd.out ?_
        simp only [List.setIfInBounds_toArray, List.set_cons_zero, List.set_cons_succ]
        refine tk (i := 13) (d := 95) (v := undef) rfl rfl (Or.inr ⟨by rfl, rfl⟩) hd.out ?_
        simp only [List.setIfInBounds_toArray, List.set_cons_zero, List.set_cons_succ]
        refine tk (i := 14) (d := 96) (v := undef) rfl rfl (Or.inr ⟨by rfl, rfl⟩) hd.out ?_
        simp only [List.setIfInBounds_toArray, List.set_cons_zero, List.set_cons_succ]
        refine tk (i := 15) (d := 97) (v := undef) rfl rfl (Or.inr ⟨by rfl, rfl⟩) hd.out ?_
        simp only [List.setIfInBounds_toArray, List.set_cons_zero, List.set_cons_succ]
        refine tk (i := 17) (d := 99) (v := undef) rfl rfl (Or.inr ⟨by rfl, rfl⟩) hd.out ?_
        simp only [List.setIfInBounds_toArray, List.set_cons_zero, List.set_cons_succ]
        refine tk (i := 18) (d := 100) (v := undef) rfl rfl (Or.inr ⟨by rfl, rfl⟩) hd.out ?_
        simp only [List.setIfInBounds_toArray, List.set_cons_zero, List.set_cons_succ]
        refine tk (i := 19) (d := 101) (v := undef) rfl rfl (Or.inr ⟨by rfl, rfl⟩) hd.out ?_
        simp only [List.setIfInBounds_toArray, List.set_cons_zero, List.set_cons_succ]
        refine tk (i := 20) (d := 102) (v := undef) rfl rfl (Or.inr ⟨by rfl, rfl⟩) hd.out ?_
        simp only [List.setIfInBounds_toArray, List.set_cons_zero, List.set_cons_succ]
        refine tk (i := 21) (d := 103) (v := undef) rfl rfl (Or.inr ⟨by rfl, rfl⟩) hd.out ?_
        simp only [List.setIfInBounds_toArray, List.set_cons_zero, List.set_cons_succ]
        refine tk (i := 22) (d := 104) (v := undef) rfl rfl (Or.inr ⟨by rfl, rfl⟩) hd.out ?_
        simp only [List.setIfInBounds_toArray, List.set_cons_zero, List.set_cons_succ]
        refine wpAnyH_ready (rs := [16]) (by kernel_rfl) (by simp) ?_
        refine AllReadyH.cons rfl (fun K hK => ?_) AllReadyH.nil
        go_simp
        refine hK.out _ _ hd.out (fun _ => ?_)
        clear hK K
        refine wpAnyH_ready (rs := [23]) (by kernel_rfl) (by simp) ?_
        refine AllReadyH.cons rfl (fun K hK => ?_) AllReadyH.nil
        go_simp
        refine hK.out _ _ hd.out (fun _ => ?_)
        clear hK K
        refine tk (i := 24) (d := 106) (v := undef) rfl rfl (Or.inr ⟨by rfl, rfl⟩) hd.out ?_
        simp only [List.setIfInBounds_toArray, List.set_cons_zero, List.set_cons_succ]
        refine tk (i := 25) (d := 107) (v := .bool false) rfl rfl (Or.inl ⟨by rfl, by intro W hW; clear hW; go_simp⟩) hd.out ?_
        simp only [List.setIfInBounds_toArray, List.set_cons_zero, List.set_cons_succ]
        refine wpAnyH_done (by kernel_rfl) ?_ _
        have hE := hGd
        clear hne hgu
        go_wp2_with fail
        go_roundw
        case rel => exact ⟨k + 1, by omega, by go_num, hE⟩
        case measure => simp [intOf]; omega
      · have gx : ¬ ((k : Int) < (n2 : Int)) := by omega
        have gy : ¬ ((k : Int) < (n4 : Int)) := by omega
        have cx0 := hcx.out _ hF.out
        have cy0 := hcy.out _ hF.out
        go_wp2_with (first
          | (refine wpList_bl rfl 68 _ rfl #[] (by rfl) _ (fun W => buildRs W) ?_))
        obtain ⟨wz, hwz⟩ : ∃ wz, wr.alloc (.cells #[.slice none 0 0] 68) = wz := ⟨_, rfl⟩
        obtain ⟨Z, hZ⟩ : ∃ Z, wr.heap.size = Z := ⟨_, rfl⟩
        have hlw : Hid (Below w0.heap.size w0 wr) := Lib.hid hF.out
        have hlz0 : Hid (Below w0.heap.size w0 wz) := Lib.hid (by rw [← hwz]; exact hlw.out.alloc hlw.out.size _)
        have hzn : Hid (Zip wz (.pointer none)) := Lib.hid (zip_nil wz)
        have hzz : Hid (Zip wz (.pointer (some ⟨Z, 0, none⟩))) := Lib.hid (by
          have h1 : wz.heap[Z]? = some (.cells #[.slice none 0 0] 68 (0, 0)) := by rw [← hwz, ← hZ]; exact heap_alloc_new wr _
          exact zip_zero (Array.getElem?_eq_some_iff.1 h1).1 (by simp [World.cell?, h1]))
        rw [hwz, hZ]
        clear hwz hZ
        go_loopw [14] (fun i wr => ∃ k : Nat, k ≤ n2 ∧ i = .int .i64 k ∧ Hid (Below wz.heap.size wz wr)) (fun i _ => n2 - (intOf i).toNat)
        case atStart => exact ⟨0, by omega, rfl, Lib.hid (Below.refl _ _)⟩
        case round =>
          obtain ⟨k, hk, rfl, hBz⟩ := hrel
          have hloz : Hid (Below w0.heap.size w0 wr) := Lib.hid (hlz0.out.trans (hBz.out.mono hlz0.out.size))
          have cx0 := hcx.out _ hloz.out
          by_cases hkn : k < n2
          · obtain ⟨x, hx⟩ : ∃ x, sx[k]? = some x := ⟨_, List.getElem?_eq_getElem (by have := hlx'.out; omega)⟩
            obtain ⟨ax, ox, rfl, hbx, hrg⟩ := RowS.range hSx.out hx
            have hrgx : Hid (∀ W, Below w0.heap.size w0 W → W.rangeAt ax (ox + k * 37) (encS x)) := Lib.hid fun W hW => range_below (Nat.lt_trans hbx hlt.out) hrg hW
            have haxl : Hid (ax < wr.heap.size) := Lib.hid (Nat.lt_of_lt_of_le (Nat.lt_trans hbx hlt.out) hloz.out.size)
            have gx : (k : Int) < (n2 : Int) := by omega
            have g0 : (0 : Int) ≤ (k : Int) := by omega
            obtain ⟨K, hK⟩ : ∃ K, x.kind = K := ⟨_, rfl⟩
            have hxk := Lib.hid hK
            have dK : wr.cell? ⟨ax, ox + k * 37, none⟩ = some (.int .i64 K) := by
              have := hrgx.out wr hloz.out 0 (.int .i64 x.kind) rfl
              rw [hK] at this
              simpa using this
            clear hx hbx hrg hK
            by_cases hk1 : K = 1
            · subst hk1
              go_wp2_with (first
                | (refine wpList_bl rfl 38 _ rfl #[(0, .int .i64 1)] (by rw [List.map_toArray]; rfl) _ (fun W => buildAE W) ?_)
                | (refine wpList_store_row rfl 38 _ _ rfl wr.heap.size (encA ⟨1, kZ, 0, false, ⟨#[]⟩⟩).toArray rfl rfl 38 _ (heap_alloc_new wr _) (by rw [a36.out]; exact hi36.out) (by rw [a36.out, a36.out]) (oneA.out _) ?_
                   obtain ⟨wq, hwq⟩ : ∃ wq, (wr.alloc (.cells (encA zA).toArray 38)).setRow wr.heap.size (encA ⟨1, kZ, 0, false, ⟨#[]⟩⟩).toArray = wq := ⟨_, rfl⟩
                   obtain ⟨T, hT⟩ : ∃ T, wr.heap.size = T := ⟨_, rfl⟩
                   have hbq : Hid (Below wr.heap.size wr wq) := Lib.hid (by rw [← hwq]; exact setRow_bel ((Below.refl _ _).alloc (Nat.le_refl _) _) (Nat.le_refl _) _)
                   have hTq : Hid (wq.heap[T]? = some (.cells (encA ⟨1, kZ, 0, false, ⟨#[]⟩⟩).toArray 38 (0, 0))) := Lib.hid (by rw [← hwq, ← hT]; exact setRow_heap _ _ _ _ _ _ (heap_alloc_new wr _))
                   have hTl : Hid (wr.heap.size ≤ T) := Lib.hid (by rw [hT]; exact Nat.le_refl _)
                   have cxq := hcx.out _ (hloz.out.trans (hbq.out.mono hloz.out.size))
                   have dKq : wq.cell? ⟨ax, ox + k * 37, none⟩ = some (.int .i64 1) := (hbq.out.cell (p := ⟨ax, ox + k * 37, none⟩) haxl.out).trans dK
                   rw [hwq, hT]
                   clear hwq hT))
              have hzq : Hid (∀ _ : Unit, zipQ x = ⟨1, kZ, 0, false, ⟨#[]⟩⟩) := Lib.hid fun _ => by unfold zipQ; rw [if_pos (by have := hxk.out; omega)]
              obtain ⟨wt, hwt⟩ : ∃ wt, wq = wt := ⟨_, rfl⟩
              have hbt : Hid (Below wr.heap.size wr wt) := Lib.hid (by rw [← hwt]; exact hbq.out)
              obtain ⟨aw, haw⟩ : ∃ aw, Hid (∀ _ : Unit, (⟨1, kZ, 0, false, ⟨#[]⟩⟩ : AnsT) = aw) := ⟨_, Lib.hid fun _ => rfl⟩
              have hTt : Hid (wt.heap[T]? = some (.cells (encA aw).toArray 38 (0, 0))) := Lib.hid (by rw [← hwt, ← haw.out ()]; exact hTq.out)
              rw [haw.out ()] at hzq
              rw [hwt]
              clear cxq dKq hwt
              have hlot := Lib.hid (hloz.out.trans (hbt.out.mono hloz.out.size))
              have hbz : Hid (Below wz.heap.size wz wt) := Lib.hid (hBz.out.trans (hbt.out.mono hBz.out.size))
              have hrgt : Hid (∀ W, Below wt.heap.size wt W → W.rangeAt ax (ox + k * 37) (encS x)) := Lib.hid fun W hW => hrgx.out W (hlot.out.trans (hW.mono hlot.out.size))
              have hcxt : Hid (∀ W, Below wt.heap.size wt W → W.cell? ⟨w.heap.size, 2, none⟩ = some (.slice (some ⟨ax, ox, none⟩) n2 c2)) := Lib.hid fun W hW => hcx.out W (hlot.out.trans (hW.mono hlot.out.size))
              have hTw : Hid (∀ W, Below wt.heap.size wt W → W.rangeAt T 0 (encA aw)) := Lib.hid fun W hW => range_below (Array.getElem?_eq_some_iff.1 hTt.out).1 (range_blk hTt.out) hW
              have hA1 : Hid (∀ W, Below wt.heap.size wt W → Calls Try.prog 14 #[.pointer none, .agg (encS x).toArray] W fun e w' => e = .returned (.agg (encA aw).toArray) ∧ Below W.heap.size W w') := Lib.hid fun W hW => by
                have := asked_zip W (hzn.out.below (hbz.out.trans (hW.mono hbz.out.size))) x
                unfold ZipP at this
                rwa [hzq.out ()] at this
              have hA2 : Hid (∀ W, Below wt.heap.size wt W → Calls Try.prog 14 #[.pointer (some ⟨Z, 0, none⟩), .agg (encS x).toArray] W fun e w' => e = .returned (.agg (encA aw).toArray) ∧ Below W.heap.size W w') := Lib.hid fun W hW => by
                have := asked_zip W (hzz.out.below (hbz.out.trans (hW.mono hbz.out.size))) x
                unfold ZipP at this
                rwa [hzq.out ()] at this
              have hne := neA
              have hgu := guA
              have hd : Hid (Below wt.heap.size wt (World.drew wt)) := Lib.hid (below_drewN (Below.refl _ _) 1)
              refine wp_region_held (S := fun W => Below wt.heap.size wt W) (by kernel_rfl) ?_
              change wpAnyH _ _ _ _ _ _ _ _ (World.drew _)
              refine tk (i := 0) (d := 136) (v := .pointer none) rfl rfl (Or.inl ⟨by rfl, by intro W hW; clear hW; go_simp⟩) hd.out ?_
              simp only [List.setIfInBounds_toArray, List.set_cons_zero, List.set_cons_succ]
              refine tk (i := 1) (d := 137) (v := .pointer (some ⟨w.heap.size, 2, none⟩)) rfl rfl (Or.inl ⟨by rfl, by intro W hW; clear hW; go_simp⟩) hd.out ?_
              simp only [List.setIfInBounds_toArray, List.set_cons_zero, List.set_cons_succ]
              refine tk (i := 2) (d := 138) (v := .slice (some ⟨ax, ox, none⟩) n2 c2) rfl rfl (Or.inl ⟨by rfl, by intro W hW; have cc := hcxt.out W hW; clear hW; go_simp⟩) hd.out ?_
              simp only [List.setIfInBounds_toArray, List.set_cons_zero, List.set_cons_succ]
              refine tk (i := 3) (d := 139) (v := .int .i64 (k : Int)) rfl rfl (Or.inl ⟨by rfl, by intro W hW; clear hW; go_simp⟩) hd.out ?_
              simp only [List.setIfInBounds_toArray, List.set_cons_zero, List.set_cons_succ]
              refine tk (i := 4) (d := 140) (v := .pointer (some ⟨ax, ox + k * 37, none⟩)) rfl rfl (Or.inl ⟨by rfl, by intro W hW; clear hW; go_simp⟩) hd.out ?_
              simp only [List.setIfInBounds_toArray, List.set_cons_zero, List.set_cons_succ]
              refine tk (i := 5) (d := 141) rfl rfl (yieldsIf_load_mid (by rfl) 41 _ rfl ax (ox + k * 37) rfl (encS x) _ hrgt.out Try.underlying41 rfl (by rw [l37.out]; exact hi37.out)) hd.out ?_
              simp only [List.setIfInBounds_toArray, List.set_cons_zero, List.set_cons_succ]
              refine tk (i := 7) (d := 143) rfl rfl (yieldsIf_load_mid (by rfl) 38 _ rfl T 0 rfl (encA aw) _ hTw.out Try.underlying38 rfl (by rw [l36.out]; exact hi36.out)) hd.out ?_
              simp only [List.setIfInBounds_toArray, List.set_cons_zero, List.set_cons_succ]
              refine wpAnyH_ready (rs := [6]) (by kernel_rfl) (by simp) ?_
              refine AllReadyH.cons rfl (fun K hK => ?_) AllReadyH.nil
              go_simp
              go_wp2_with (go_at_call 14; refine (hA1.out _ hd.out).mono ?_; rintro e v1 ⟨rfl, b1⟩; skip)
              have hd1 : Hid (Below wt.heap.size wt v1) := Lib.hid (hd.out.trans (b1.mono hd.out.size))
              clear b1
              refine hK.out _ _ hd1.out (fun _ => ?_)
              clear hK K
              refine tk (i := 8) (d := 144) (v := .bool false) rfl rfl (Or.inl ⟨by rfl, by intro W hW; clear hW; go_simp⟩) hd1.out ?_
              simp only [List.setIfInBounds_toArray, List.set_cons_zero, List.set_cons_succ]
              refine tk (i := 9) (d := 145) (v := .bool false) rfl rfl (Or.inl ⟨by rfl, by intro W hW; clear hW; go_simp⟩) hd1.out ?_
              simp only [List.setIfInBounds_toArray, List.set_cons_zero, List.set_cons_succ]
              refine tk (i := 10) (d := 146) (v := .pointer (some ⟨Z, 0, none⟩)) rfl rfl (Or.inl ⟨by rfl, by intro W hW; clear hW; go_simp⟩) hd1.out ?_
              simp only [List.setIfInBounds_toArray, List.set_cons_zero, List.set_cons_succ]
              refine tk (i := 11) (d := 147) (v := .pointer (some ⟨w.heap.size, 2, none⟩)) rfl rfl (Or.inl ⟨by rfl, by intro W hW; clear hW; go_simp⟩) hd1.out ?_
              simp only [List.setIfInBounds_toArray, List.set_cons_zero, List.set_cons_succ]
              refine tk (i := 12) (d := 148) (v := .slice (some ⟨ax, ox, none⟩) n2 c2) rfl rfl (Or.inl ⟨by rfl, by intro W hW; have cc := hcxt.out W hW; clear hW; go_simp⟩) hd1.out ?_
              simp only [List.setIfInBounds_toArray, List.set_cons_zero, List.set_cons_succ]
              refine tk (i := 13) (d := 149) (v := .int .i64 (k : Int)) rfl rfl (Or.inl ⟨by rfl, by intro W hW; clear hW; go_simp⟩) hd1.out ?_
              simp only [List.setIfInBounds_toArray, List.set_cons_zero, List.set_cons_succ]
              refine tk (i := 14) (d := 150) (v := .pointer (some ⟨ax, ox + k * 37, none⟩)) rfl rfl (Or.inl ⟨by rfl, by intro W hW; clear hW; go_simp⟩) hd1.out ?_
              simp only [List.setIfInBounds_toArray, List.set_cons_zero, List.set_cons_succ]
              refine tk (i := 15) (d := 151) rfl rfl (yieldsIf_load_mid (by rfl) 41 _ rfl ax (ox + k * 37) rfl (encS x) _ hrgt.out Try.underlying41 rfl (by rw [l37.out]; exact hi37.out)) hd1.out ?_
              simp only [List.setIfInBounds_toArray, List.set_cons_zero, List.set_cons_succ]
              refine tk (i := 17) (d := 153) rfl rfl (yieldsIf_load_mid (by rfl) 38 _ rfl T 0 rfl (encA aw) _ hTw.out Try.underlying38 rfl (by rw [l36.out]; exact hi36.out)) hd1.out ?_
              simp only [List.setIfInBounds_toArray, List.set_cons_zero, List.set_cons_succ]
              refine wpAnyH_ready (rs := [16]) (by kernel_rfl) (by simp) ?_
              refine AllReadyH.cons rfl (fun K hK => ?_) AllReadyH.nil
              go_simp
              go_wp2_with (go_at_call 14; refine (hA2.out _ hd1.out).mono ?_; rintro e v2 ⟨rfl, b2⟩; skip)
              have hd2 : Hid (Below wt.heap.size wt v2) := Lib.hid (hd1.out.trans (b2.mono hd1.out.size))
              clear b2
              refine hK.out _ _ hd2.out (fun _ => ?_)
              clear hK K
              refine tk (i := 18) (d := 154) (v := .bool false) rfl rfl (Or.inl ⟨by rfl, by intro W hW; clear hW; go_simp⟩) hd2.out ?_
              simp only [List.setIfInBounds_toArray, List.set_cons_zero, List.set_cons_succ]
              refine tk (i := 19) (d := 155) (v := .bool false) rfl rfl (Or.inl ⟨by rfl, by intro W hW; clear hW; go_simp⟩) hd2.out ?_
              simp only [List.setIfInBounds_toArray, List.set_cons_zero, List.set_cons_succ]
              refine wpAnyH_done (by kernel_rfl) ?_ _
              have hend := hd2
              clear hne hgu
              go_wp2_with fail
              go_roundw
              case rel => exact ⟨k + 1, by omega, by go_num, Lib.hid (hbz.out.trans (hend.out.mono hbz.out.size))⟩
              case measure => simp [intOf]; omega
            · by_cases hk2 : K = 2
              · subst hk2
                have q1 : ((2 : Int) == 1) = false := by decide
                clear hk1
                go_wp2_with (first
                  | (refine wpList_bl rfl 38 _ rfl #[(0, .int .i64 1)] (by rw [List.map_toArray]; rfl) _ (fun W => buildAE W) ?_)
                  | (refine wpList_store_row rfl 38 _ _ rfl wr.heap.size (encA ⟨1, kZ, 0, false, ⟨#[]⟩⟩).toArray rfl rfl 38 _ (heap_alloc_new wr _) (by rw [a36.out]; exact hi36.out) (by rw [a36.out, a36.out]) (oneA.out _) ?_
                     obtain ⟨wq, hwq⟩ : ∃ wq, (wr.alloc (.cells (encA zA).toArray 38)).setRow wr.heap.size (encA ⟨1, kZ, 0, false, ⟨#[]⟩⟩).toArray = wq := ⟨_, rfl⟩
                     obtain ⟨T, hT⟩ : ∃ T, wr.heap.size = T := ⟨_, rfl⟩
                     have hbq : Hid (Below wr.heap.size wr wq) := Lib.hid (by rw [← hwq]; exact setRow_bel ((Below.refl _ _).alloc (Nat.le_refl _) _) (Nat.le_refl _) _)
                     have hTq : Hid (wq.heap[T]? = some (.cells (encA ⟨1, kZ, 0, false, ⟨#[]⟩⟩).toArray 38 (0, 0))) := Lib.hid (by rw [← hwq, ← hT]; exact setRow_heap _ _ _ _ _ _ (heap_alloc_new wr _))
                     have hTl : Hid (wr.heap.size ≤ T) := Lib.hid (by rw [hT]; exact Nat.le_refl _)
                     have cxq := hcx.out _ (hloz.out.trans (hbq.out.mono hloz.out.size))
                     have dKq : wq.cell? ⟨ax, ox + k * 37, none⟩ = some (.int .i64 2) := (hbq.out.cell (p := ⟨ax, ox + k * 37, none⟩) haxl.out).trans dK
                     rw [hwq, hT]
                     clear hwq hT))
                have hzq : Hid (∀ _ : Unit, zipQ x = ⟨1, kZ, 0, false, ⟨#[]⟩⟩) := Lib.hid fun _ => by unfold zipQ; rw [if_pos (by have := hxk.out; omega)]
                obtain ⟨wt, hwt⟩ : ∃ wt, wq = wt := ⟨_, rfl⟩
                have hbt : Hid (Below wr.heap.size wr wt) := Lib.hid (by rw [← hwt]; exact hbq.out)
                obtain ⟨aw, haw⟩ : ∃ aw, Hid (∀ _ : Unit, (⟨1, kZ, 0, false, ⟨#[]⟩⟩ : AnsT) = aw) := ⟨_, Lib.hid fun _ => rfl⟩
                have hTt : Hid (wt.heap[T]? = some (.cells (encA aw).toArray 38 (0, 0))) := Lib.hid (by rw [← hwt, ← haw.out ()]; exact hTq.out)
                rw [haw.out ()] at hzq
                rw [hwt]
                clear cxq dKq hwt
                have hlot := Lib.hid (hloz.out.trans (hbt.out.mono hloz.out.size))
                have hbz : Hid (Below wz.heap.size wz wt) := Lib.hid (hBz.out.trans (hbt.out.mono hBz.out.size))
                have hrgt : Hid (∀ W, Below wt.heap.size wt W → W.rangeAt ax (ox + k * 37) (encS x)) := Lib.hid fun W hW => hrgx.out W (hlot.out.trans (hW.mono hlot.out.size))
                have hcxt : Hid (∀ W, Below wt.heap.size wt W → W.cell? ⟨w.heap.size, 2, none⟩ = some (.slice (some ⟨ax, ox, none⟩) n2 c2)) := Lib.hid fun W hW => hcx.out W (hlot.out.trans (hW.mono hlot.out.size))
                have hTw : Hid (∀ W, Below wt.heap.size wt W → W.rangeAt T 0 (encA aw)) := Lib.hid fun W hW => range_below (Array.getElem?_eq_some_iff.1 hTt.out).1 (range_blk hTt.out) hW
                have hA1 : Hid (∀ W, Below wt.heap.size wt W → Calls Try.prog 14 #[.pointer none, .agg (encS x).toArray] W fun e w' => e = .returned (.agg (encA aw).toArray) ∧ Below W.heap.size W w') := Lib.hid fun W hW => by
                  have := asked_zip W (hzn.out.below (hbz.out.trans (hW.mono hbz.out.size))) x
                  unfold ZipP at this
                  rwa [hzq.out ()] at this
                have hA2 : Hid (∀ W, Below wt.heap.size wt W → Calls Try.prog 14 #[.pointer (some ⟨Z, 0, none⟩), .agg (encS x).toArray] W fun e w' => e = .returned (.agg (encA aw).toArray) ∧ Below W.heap.size W w') := Lib.hid fun W hW => by
                  have := asked_zip W (hzz.out.below (hbz.out.trans (hW.mono hbz.out.size))) x
                  unfold ZipP at this
                  rwa [hzq.out ()] at this
                have hne := neA
                have hgu := guA
                have hd : Hid (Below wt.heap.size wt (World.drew wt)) := Lib.hid (below_drewN (Below.refl _ _) 1)
                refine wp_region_held (S := fun W => Below wt.heap.size wt W) (by kernel_rfl) ?_
                change wpAnyH _ _ _ _ _ _ _ _ (World.drew _)
                refine tk (i := 0) (d := 136) (v := .pointer none) rfl rfl (Or.inl ⟨by rfl, by intro W hW; clear hW; go_simp⟩) hd.out ?_
                simp only [List.setIfInBounds_toArray, List.set_cons_zero, List.set_cons_succ]
                refine tk (i := 1) (d := 137) (v := .pointer (some ⟨w.heap.size, 2, none⟩)) rfl rfl (Or.inl ⟨by rfl, by intro W hW; clear hW; go_simp⟩) hd.out ?_
                simp only [List.setIfInBounds_toArray, List.set_cons_zero, List.set_cons_succ]
                refine tk (i := 2) (d := 138) (v := .slice (some ⟨ax, ox, none⟩) n2 c2) rfl rfl (Or.inl ⟨by rfl, by intro W hW; have cc := hcxt.out W hW; clear hW; go_simp⟩) hd.out ?_
                simp only [List.setIfInBounds_toArray, List.set_cons_zero, List.set_cons_succ]
                refine tk (i := 3) (d := 139) (v := .int .i64 (k : Int)) rfl rfl (Or.inl ⟨by rfl, by intro W hW; clear hW; go_simp⟩) hd.out ?_
                simp only [List.setIfInBounds_toArray, List.set_cons_zero, List.set_cons_succ]
                refine tk (i := 4) (d := 140) (v := .pointer (some ⟨ax, ox + k * 37, none⟩)) rfl rfl (Or.inl ⟨by rfl, by intro W hW; clear hW; go_simp⟩) hd.out ?_
                simp only [List.setIfInBounds_toArray, List.set_cons_zero, List.set_cons_succ]
                refine tk (i := 5) (d := 141) rfl rfl (yieldsIf_load_mid (by rfl) 41 _ rfl ax (ox + k * 37) rfl (encS x) _ hrgt.out Try.underlying41 rfl (by rw [l37.out]; exact hi37.out)) hd.out ?_
                simp only [List.setIfInBounds_toArray, List.set_cons_zero, List.set_cons_succ]
                refine tk (i := 7) (d := 143) rfl rfl (yieldsIf_load_mid (by rfl) 38 _ rfl T 0 rfl (encA aw) _ hTw.out Try.underlying38 rfl (by rw [l36.out]; exact hi36.out)) hd.out ?_
                simp only [List.setIfInBounds_toArray, List.set_cons_zero, List.set_cons_succ]
                refine wpAnyH_ready (rs := [6]) (by kernel_rfl) (by simp) ?_
                refine AllReadyH.cons rfl (fun K hK => ?_) AllReadyH.nil
                go_simp
                go_wp2_with (go_at_call 14; refine (hA1.out _ hd.out).mono ?_; rintro e v1 ⟨rfl, b1⟩; skip)
                have hd1 : Hid (Below wt.heap.size wt v1) := Lib.hid (hd.out.trans (b1.mono hd.out.size))
                clear b1
                refine hK.out _ _ hd1.out (fun _ => ?_)
                clear hK K
                refine tk (i := 8) (d := 144) (v := .bool false) rfl rfl (Or.inl ⟨by rfl, by intro W hW; clear hW; go_simp⟩) hd1.out ?_
                simp only [List.setIfInBounds_toArray, List.set_cons_zero, List.set_cons_succ]
                refine tk (i := 9) (d := 145) (v := .bool false) rfl rfl (Or.inl ⟨by rfl, by intro W hW; clear hW; go_simp⟩) hd1.out ?_
                simp only [List.setIfInBounds_toArray, List.set_cons_zero, List.set_cons_succ]
                refine tk (i := 10) (d := 146) (v := .pointer (some ⟨Z, 0, none⟩)) rfl rfl (Or.inl ⟨by rfl, by intro W hW; clear hW; go_simp⟩) hd1.out ?_
                simp only [List.setIfInBounds_toArray, List.set_cons_zero, List.set_cons_succ]
                refine tk (i := 11) (d := 147) (v := .pointer (some ⟨w.heap.size, 2, none⟩)) rfl rfl (Or.inl ⟨by rfl, by intro W hW; clear hW; go_simp⟩) hd1.out ?_
                simp only [List.setIfInBounds_toArray, List.set_cons_zero, List.set_cons_succ]
                refine tk (i := 12) (d := 148) (v := .slice (some ⟨ax, ox, none⟩) n2 c2) rfl rfl (Or.inl ⟨by rfl, by intro W hW; have cc := hcxt.out W hW; clear hW; go_simp⟩) hd1.out ?_
                simp only [List.setIfInBounds_toArray, List.set_cons_zero, List.set_cons_succ]
                refine tk (i := 13) (d := 149) (v := .int .i64 (k : Int)) rfl rfl (Or.inl ⟨by rfl, by intro W hW; clear hW; go_simp⟩) hd1.out ?_
                simp only [List.setIfInBounds_toArray, List.set_cons_zero, List.set_cons_succ]
                refine tk (i := 14) (d := 150) (v := .pointer (some ⟨ax, ox + k * 37, none⟩)) rfl rfl (Or.inl ⟨by rfl, by intro W hW; clear hW; go_simp⟩) hd1.out ?_
                simp only [List.setIfInBounds_toArray, List.set_cons_zero, List.set_cons_succ]
                refine tk (i := 15) (d := 151) rfl rfl (yieldsIf_load_mid (by rfl) 41 _ rfl ax (ox + k * 37) rfl (encS x) _ hrgt.out Try.underlying41 rfl (by rw [l37.out]; exact hi37.out)) hd1.out ?_
                simp only [List.setIfInBounds_toArray, List.set_cons_zero, List.set_cons_succ]
                refine tk (i := 17) (d := 153) rfl rfl (yieldsIf_load_mid (by rfl) 38 _ rfl T 0 rfl (encA aw) _ hTw.out Try.underlying38 rfl (by rw [l36.out]; exact hi36.out)) hd1.out ?_
                simp only [List.setIfInBounds_toArray, List.set_cons_zero, List.set_cons_succ]
                refine wpAnyH_ready (rs := [16]) (by kernel_rfl) (by simp) ?_
                refine AllReadyH.cons rfl (fun K hK => ?_) AllReadyH.nil
                go_simp
                go_wp2_with (go_at_call 14; refine (hA2.out _ hd1.out).mono ?_; rintro e v2 ⟨rfl, b2⟩; skip)
                have hd2 : Hid (Below wt.heap.size wt v2) := Lib.hid (hd1.out.trans (b2.mono hd1.out.size))
                clear b2
                refine hK.out _ _ hd2.out (fun _ => ?_)
                clear hK K
                refine tk (i := 18) (d := 154) (v := .bool false) rfl rfl (Or.inl ⟨by rfl, by intro W hW; clear hW; go_simp⟩) hd2.out ?_
                simp only [List.setIfInBounds_toArray, List.set_cons_zero, List.set_cons_succ]
                refine tk (i := 19) (d := 155) (v := .bool false) rfl rfl (Or.inl ⟨by rfl, by intro W hW; clear hW; go_simp⟩) hd2.out ?_
                simp only [List.setIfInBounds_toArray, List.set_cons_zero, List.set_cons_succ]
                refine wpAnyH_done (by kernel_rfl) ?_ _
                have hend := hd2
                clear hne hgu
                go_wp2_with fail
                go_roundw
                case rel => exact ⟨k + 1, by omega, by go_num, Lib.hid (hbz.out.trans (hend.out.mono hbz.out.size))⟩
                case measure => simp [intOf]; omega
              · by_cases hk3 : K = 3
                · subst hk3
                  have q1 : ((3 : Int) == 1) = false := by decide
                  have q2 : ((3 : Int) == 2) = false := by decide
                  clear hk1 hk2
                  go_wp2_with (first
                    | (refine wpList_bl rfl 38 _ rfl #[(0, .int .i64 1)] (by rw [List.map_toArray]; rfl) _ (fun W => buildAE W) ?_)
                    | (refine wpList_store_row rfl 38 _ _ rfl wr.heap.size (encA ⟨1, kZ, 0, false, ⟨#[]⟩⟩).toArray rfl rfl 38 _ (heap_alloc_new wr _) (by rw [a36.out]; exact hi36.out) (by rw [a36.out, a36.out]) (oneA.out _) ?_
                       obtain ⟨wq, hwq⟩ : ∃ wq, (wr.alloc (.cells (encA zA).toArray 38)).setRow wr.heap.size (encA ⟨1, kZ, 0, false, ⟨#[]⟩⟩).toArray = wq := ⟨_, rfl⟩
                       obtain ⟨T, hT⟩ : ∃ T, wr.heap.size = T := ⟨_, rfl⟩
                       have hbq : Hid (Below wr.heap.size wr wq) := Lib.hid (by rw [← hwq]; exact setRow_bel ((Below.refl _ _).alloc (Nat.le_refl _) _) (Nat.le_refl _) _)
                       have hTq : Hid (wq.heap[T]? = some (.cells (encA ⟨1, kZ, 0, false, ⟨#[]⟩⟩).toArray 38 (0, 0))) := Lib.hid (by rw [← hwq, ← hT]; exact setRow_heap _ _ _ _ _ _ (heap_alloc_new wr _))
                       have hTl : Hid (wr.heap.size ≤ T) := Lib.hid (by rw [hT]; exact Nat.le_refl _)
                       have cxq := hcx.out _ (hloz.out.trans (hbq.out.mono hloz.out.size))
                       have dKq : wq.cell? ⟨ax, ox + k * 37, none⟩ = some (.int .i64 3) := (hbq.out.cell (p := ⟨ax, ox + k * 37, none⟩) haxl.out).trans dK
                       rw [hwq, hT]
                       clear hwq hT))
                  have hzq : Hid (∀ _ : Unit, zipQ x = ⟨1, kZ, 0, false, ⟨#[]⟩⟩) := Lib.hid fun _ => by unfold zipQ; rw [if_pos (by have := hxk.out; omega)]
                  obtain ⟨wt, hwt⟩ : ∃ wt, wq = wt := ⟨_, rfl⟩
                  have hbt : Hid (Below wr.heap.size wr wt) := Lib.hid (by rw [← hwt]; exact hbq.out)
                  obtain ⟨aw, haw⟩ : ∃ aw, Hid (∀ _ : Unit, (⟨1, kZ, 0, false, ⟨#[]⟩⟩ : AnsT) = aw) := ⟨_, Lib.hid fun _ => rfl⟩
                  have hTt : Hid (wt.heap[T]? = some (.cells (encA aw).toArray 38 (0, 0))) := Lib.hid (by rw [← hwt, ← haw.out ()]; exact hTq.out)
                  rw [haw.out ()] at hzq
                  rw [hwt]
                  clear cxq dKq hwt
                  have hlot := Lib.hid (hloz.out.trans (hbt.out.mono hloz.out.size))
                  have hbz : Hid (Below wz.heap.size wz wt) := Lib.hid (hBz.out.trans (hbt.out.mono hBz.out.size))
                  have hrgt : Hid (∀ W, Below wt.heap.size wt W → W.rangeAt ax (ox + k * 37) (encS x)) := Lib.hid fun W hW => hrgx.out W (hlot.out.trans (hW.mono hlot.out.size))
                  have hcxt : Hid (∀ W, Below wt.heap.size wt W → W.cell? ⟨w.heap.size, 2, none⟩ = some (.slice (some ⟨ax, ox, none⟩) n2 c2)) := Lib.hid fun W hW => hcx.out W (hlot.out.trans (hW.mono hlot.out.size))
                  have hTw : Hid (∀ W, Below wt.heap.size wt W → W.rangeAt T 0 (encA aw)) := Lib.hid fun W hW => range_below (Array.getElem?_eq_some_iff.1 hTt.out).1 (range_blk hTt.out) hW
                  have hA1 : Hid (∀ W, Below wt.heap.size wt W → Calls Try.prog 14 #[.pointer none, .agg (encS x).toArray] W fun e w' => e = .returned (.agg (encA aw).toArray) ∧ Below W.heap.size W w') := Lib.hid fun W hW => by
                    have := asked_zip W (hzn.out.below (hbz.out.trans (hW.mono hbz.out.size))) x
                    unfold ZipP at this
                    rwa [hzq.out ()] at this
                  have hA2 : Hid (∀ W, Below wt.heap.size wt W → Calls Try.prog 14 #[.pointer (some ⟨Z, 0, none⟩), .agg (encS x).toArray] W fun e w' => e = .returned (.agg (encA aw).toArray) ∧ Below W.heap.size W w') := Lib.hid fun W hW => by
                    have := asked_zip W (hzz.out.below (hbz.out.trans (hW.mono hbz.out.size))) x
                    unfold ZipP at this
                    rwa [hzq.out ()] at this
                  have hne := neA
                  have hgu := guA
                  have hd : Hid (Below wt.heap.size wt (World.drew wt)) := Lib.hid (below_drewN (Below.refl _ _) 1)
                  refine wp_region_held (S := fun W => Below wt.heap.size wt W) (by kernel_rfl) ?_
                  change wpAnyH _ _ _ _ _ _ _ _ (World.drew _)
                  refine tk (i := 0) (d := 136) (v := .pointer none) rfl rfl (Or.inl ⟨by rfl, by intro W hW; clear hW; go_simp⟩) hd.out ?_
                  simp only [List.setIfInBounds_toArray, List.set_cons_zero, List.set_cons_succ]
                  refine tk (i := 1) (d := 137) (v := .pointer (some ⟨w.heap.size, 2, none⟩)) rfl rfl (Or.inl ⟨by rfl, by intro W hW; clear hW; go_simp⟩) hd.out ?_
                  simp only [List.setIfInBounds_toArray, List.set_cons_zero, List.set_cons_succ]
                  refine tk (i := 2) (d := 138) (v := .slice (some ⟨ax, ox, none⟩) n2 c2) rfl rfl (Or.inl ⟨by rfl, by intro W hW; have cc := hcxt.out W hW; clear hW; go_simp⟩) hd.out ?_
                  simp only [List.setIfInBounds_toArray, List.set_cons_zero, List.set_cons_succ]
                  refine tk (i := 3) (d := 139) (v := .int .i64 (k : Int)) rfl rfl (Or.inl ⟨by rfl, by intro W hW; clear hW; go_simp⟩) hd.out ?_
                  simp only [List.setIfInBounds_toArray, List.set_cons_zero, List.set_cons_succ]
                  refine tk (i := 4) (d := 140) (v := .pointer (some ⟨ax, ox + k * 37, none⟩)) rfl rfl (Or.inl ⟨by rfl, by intro W hW; clear hW; go_simp⟩) hd.out ?_
                  simp only [List.setIfInBounds_toArray, List.set_cons_zero, List.set_cons_succ]
                  refine tk (i := 5) (d := 141) rfl rfl (yieldsIf_load_mid (by rfl) 41 _ rfl ax (ox + k * 37) rfl (encS x) _ hrgt.out Try.underlying41 rfl (by rw [l37.out]; exact hi37.out)) hd.out ?_
                  simp only [List.setIfInBounds_toArray, List.set_cons_zero, List.set_cons_succ]
                  refine tk (i := 7) (d := 143) rfl rfl (yieldsIf_load_mid (by rfl) 38 _ rfl T 0 rfl (encA aw) _ hTw.out Try.underlying38 rfl (by rw [l36.out]; exact hi36.out)) hd.out ?_
                  simp only [List.setIfInBounds_toArray, List.set_cons_zero, List.set_cons_succ]
                  refine wpAnyH_ready (rs := [6]) (by kernel_rfl) (by simp) ?_
                  refine AllReadyH.cons rfl (fun K hK => ?_) AllReadyH.nil
                  go_simp
                  go_wp2_with (go_at_call 14; refine (hA1.out _ hd.out).mono ?_; rintro e v1 ⟨rfl, b1⟩; skip)
                  have hd1 : Hid (Below wt.heap.size wt v1) := Lib.hid (hd.out.trans (b1.mono hd.out.size))
                  clear b1
                  refine hK.out _ _ hd1.out (fun _ => ?_)
                  clear hK K
                  refine tk (i := 8) (d := 144) (v := .bool false) rfl rfl (Or.inl ⟨by rfl, by intro W hW; clear hW; go_simp⟩) hd1.out ?_
                  simp only [List.setIfInBounds_toArray, List.set_cons_zero, List.set_cons_succ]
                  refine tk (i := 9) (d := 145) (v := .bool false) rfl rfl (Or.inl ⟨by rfl, by intro W hW; clear hW; go_simp⟩) hd1.out ?_
                  simp only [List.setIfInBounds_toArray, List.set_cons_zero, List.set_cons_succ]
                  refine tk (i := 10) (d := 146) (v := .pointer (some ⟨Z, 0, none⟩)) rfl rfl (Or.inl ⟨by rfl, by intro W hW; clear hW; go_simp⟩) hd1.out ?_
                  simp only [List.setIfInBounds_toArray, List.set_cons_zero, List.set_cons_succ]
                  refine tk (i := 11) (d := 147) (v := .pointer (some ⟨w.heap.size, 2, none⟩)) rfl rfl (Or.inl ⟨by rfl, by intro W hW; clear hW; go_simp⟩) hd1.out ?_
                  simp only [List.setIfInBounds_toArray, List.set_cons_zero, List.set_cons_succ]
                  refine tk (i := 12) (d := 148) (v := .slice (some ⟨ax, ox, none⟩) n2 c2) rfl rfl (Or.inl ⟨by rfl, by intro W hW; have cc := hcxt.out W hW; clear hW; go_simp⟩) hd1.out ?_
                  simp only [List.setIfInBounds_toArray, List.set_cons_zero, List.set_cons_succ]
                  refine tk (i := 13) (d := 149) (v := .int .i64 (k : Int)) rfl rfl (Or.inl ⟨by rfl, by intro W hW; clear hW; go_simp⟩) hd1.out ?_
                  simp only [List.setIfInBounds_toArray, List.set_cons_zero, List.set_cons_succ]
                  refine tk (i := 14) (d := 150) (v := .pointer (some ⟨ax, ox + k * 37, none⟩)) rfl rfl (Or.inl ⟨by rfl, by intro W hW; clear hW; go_simp⟩) hd1.out ?_
                  simp only [List.setIfInBounds_toArray, List.set_cons_zero, List.set_cons_succ]
                  refine tk (i := 15) (d := 151) rfl rfl (yieldsIf_load_mid (by rfl) 41 _ rfl ax (ox + k * 37) rfl (encS x) _ hrgt.out Try.underlying41 rfl (by rw [l37.out]; exact hi37.out)) hd1.out ?_
                  simp only [List.setIfInBounds_toArray, List.set_cons_zero, List.set_cons_succ]
                  refine tk (i := 17) (d := 153) rfl rfl (yieldsIf_load_mid (by rfl) 38 _ rfl T 0 rfl (encA aw) _ hTw.out Try.underlying38 rfl (by rw [l36.out]; exact hi36.out)) hd1.out ?_
                  simp only [List.setIfInBounds_toArray, List.set_cons_zero, List.set_cons_succ]
                  refine wpAnyH_ready (rs := [16]) (by kernel_rfl) (by simp) ?_
                  refine AllReadyH.cons rfl (fun K hK => ?_) AllReadyH.nil
                  go_simp
                  go_wp2_with (go_at_call 14; refine (hA2.out _ hd1.out).mono ?_; rintro e v2 ⟨rfl, b2⟩; skip)
                  have hd2 : Hid (Below wt.heap.size wt v2) := Lib.hid (hd1.out.trans (b2.mono hd1.out.size))
                  clear b2
                  refine hK.out _ _ hd2.out (fun _ => ?_)
                  clear hK K
                  refine tk (i := 18) (d := 154) (v := .bool false) rfl rfl (Or.inl ⟨by rfl, by intro W hW; clear hW; go_simp⟩) hd2.out ?_
                  simp only [List.setIfInBounds_toArray, List.set_cons_zero, List.set_cons_succ]
                  refine tk (i := 19) (d := 155) (v := .bool false) rfl rfl (Or.inl ⟨by rfl, by intro W hW; clear hW; go_simp⟩) hd2.out ?_
                  simp only [List.setIfInBounds_toArray, List.set_cons_zero, List.set_cons_succ]
                  refine wpAnyH_done (by kernel_rfl) ?_ _
                  have hend := hd2
                  clear hne hgu
                  go_wp2_with fail
                  go_roundw
                  case rel => exact ⟨k + 1, by omega, by go_num, Lib.hid (hbz.out.trans (hend.out.mono hbz.out.size))⟩
                  case measure => simp [intOf]; omega
                · by_cases hk8 : K = 8
                  · subst hk8
                    have q1 : ((8 : Int) == 1) = false := by decide
                    have q2 : ((8 : Int) == 2) = false := by decide
                    have q3 : ((8 : Int) == 3) = false := by decide
                    clear hk1 hk2 hk3
                    go_wp2_with (first
                      | (refine wpList_bl rfl 38 _ rfl #[(0, .int .i64 1)] (by rw [List.map_toArray]; rfl) _ (fun W => buildAE W) ?_)
                      | (refine wpList_store_row rfl 38 _ _ rfl wr.heap.size (encA ⟨1, kZ, 0, false, ⟨#[]⟩⟩).toArray rfl rfl 38 _ (heap_alloc_new wr _) (by rw [a36.out]; exact hi36.out) (by rw [a36.out, a36.out]) (oneA.out _) ?_
                         obtain ⟨wq, hwq⟩ : ∃ wq, (wr.alloc (.cells (encA zA).toArray 38)).setRow wr.heap.size (encA ⟨1, kZ, 0, false, ⟨#[]⟩⟩).toArray = wq := ⟨_, rfl⟩
                         obtain ⟨T, hT⟩ : ∃ T, wr.heap.size = T := ⟨_, rfl⟩
                         have hbq : Hid (Below wr.heap.size wr wq) := Lib.hid (by rw [← hwq]; exact setRow_bel ((Below.refl _ _).alloc (Nat.le_refl _) _) (Nat.le_refl _) _)
                         have hTq : Hid (wq.heap[T]? = some (.cells (encA ⟨1, kZ, 0, false, ⟨#[]⟩⟩).toArray 38 (0, 0))) := Lib.hid (by rw [← hwq, ← hT]; exact setRow_heap _ _ _ _ _ _ (heap_alloc_new wr _))
                         have hTl : Hid (wr.heap.size ≤ T) := Lib.hid (by rw [hT]; exact Nat.le_refl _)
                         have cxq := hcx.out _ (hloz.out.trans (hbq.out.mono hloz.out.size))
                         have dKq : wq.cell? ⟨ax, ox + k * 37, none⟩ = some (.int .i64 8) := (hbq.out.cell (p := ⟨ax, ox + k * 37, none⟩) haxl.out).trans dK
                         rw [hwq, hT]
                         clear hwq hT))
                    have hzq : Hid (∀ _ : Unit, zipQ x = ⟨1, kZ, 0, false, ⟨#[]⟩⟩) := Lib.hid fun _ => by unfold zipQ; rw [if_pos (by have := hxk.out; omega)]
                    obtain ⟨wt, hwt⟩ : ∃ wt, wq = wt := ⟨_, rfl⟩
                    have hbt : Hid (Below wr.heap.size wr wt) := Lib.hid (by rw [← hwt]; exact hbq.out)
                    obtain ⟨aw, haw⟩ : ∃ aw, Hid (∀ _ : Unit, (⟨1, kZ, 0, false, ⟨#[]⟩⟩ : AnsT) = aw) := ⟨_, Lib.hid fun _ => rfl⟩
                    have hTt : Hid (wt.heap[T]? = some (.cells (encA aw).toArray 38 (0, 0))) := Lib.hid (by rw [← hwt, ← haw.out ()]; exact hTq.out)
                    rw [haw.out ()] at hzq
                    rw [hwt]
                    clear cxq dKq hwt
                    have hlot := Lib.hid (hloz.out.trans (hbt.out.mono hloz.out.size))
                    have hbz : Hid (Below wz.heap.size wz wt) := Lib.hid (hBz.out.trans (hbt.out.mono hBz.out.size))
                    have hrgt : Hid (∀ W, Below wt.heap.size wt W → W.rangeAt ax (ox + k * 37) (encS x)) := Lib.hid fun W hW => hrgx.out W (hlot.out.trans (hW.mono hlot.out.size))
                    have hcxt : Hid (∀ W, Below wt.heap.size wt W → W.cell? ⟨w.heap.size, 2, none⟩ = some (.slice (some ⟨ax, ox, none⟩) n2 c2)) := Lib.hid fun W hW => hcx.out W (hlot.out.trans (hW.mono hlot.out.size))
                    have hTw : Hid (∀ W, Below wt.heap.size wt W → W.rangeAt T 0 (encA aw)) := Lib.hid fun W hW => range_below (Array.getElem?_eq_some_iff.1 hTt.out).1 (range_blk hTt.out) hW
                    have hA1 : Hid (∀ W, Below wt.heap.size wt W → Calls Try.prog 14 #[.pointer none, .agg (encS x).toArray] W fun e w' => e = .returned (.agg (encA aw).toArray) ∧ Below W.heap.size W w') := Lib.hid fun W hW => by
                      have := asked_zip W (hzn.out.below (hbz.out.trans (hW.mono hbz.out.size))) x
                      unfold ZipP at this
                      rwa [hzq.out ()] at this
                    have hA2 : Hid (∀ W, Below wt.heap.size wt W → Calls Try.prog 14 #[.pointer (some ⟨Z, 0, none⟩), .agg (encS x).toArray] W fun e w' => e = .returned (.agg (encA aw).toArray) ∧ Below W.heap.size W w') := Lib.hid fun W hW => by
                      have := asked_zip W (hzz.out.below (hbz.out.trans (hW.mono hbz.out.size))) x
                      unfold ZipP at this
                      rwa [hzq.out ()] at this
                    have hne := neA
                    have hgu := guA
                    have hd : Hid (Below wt.heap.size wt (World.drew wt)) := Lib.hid (below_drewN (Below.refl _ _) 1)
                    refine wp_region_held (S := fun W => Below wt.heap.size wt W) (by kernel_rfl) ?_
                    change wpAnyH _ _ _ _ _ _ _ _ (World.drew _)
                    refine tk (i := 0) (d := 136) (v := .pointer none) rfl rfl (Or.inl ⟨by rfl, by intro W hW; clear hW; go_simp⟩) hd.out ?_
                    simp only [List.setIfInBounds_toArray, List.set_cons_zero, List.set_cons_succ]
                    refine tk (i := 1) (d := 137) (v := .pointer (some ⟨w.heap.size, 2, none⟩)) rfl rfl (Or.inl ⟨by rfl, by intro W hW; clear hW; go_simp⟩) hd.out ?_
                    simp only [List.setIfInBounds_toArray, List.set_cons_zero, List.set_cons_succ]
                    refine tk (i := 2) (d := 138) (v := .slice (some ⟨ax, ox, none⟩) n2 c2) rfl rfl (Or.inl ⟨by rfl, by intro W hW; have cc := hcxt.out W hW; clear hW; go_simp⟩) hd.out ?_
                    simp only [List.setIfInBounds_toArray, List.set_cons_zero, List.set_cons_succ]
                    refine tk (i := 3) (d := 139) (v := .int .i64 (k : Int)) rfl rfl (Or.inl ⟨by rfl, by intro W hW; clear hW; go_simp⟩) hd.out ?_
                    simp only [List.setIfInBounds_toArray, List.set_cons_zero, List.set_cons_succ]
                    refine tk (i := 4) (d := 140) (v := .pointer (some ⟨ax, ox + k * 37, none⟩)) rfl rfl (Or.inl ⟨by rfl, by intro W hW; clear hW; go_simp⟩) hd.out ?_
                    simp only [List.setIfInBounds_toArray, List.set_cons_zero, List.set_cons_succ]
                    refine tk (i := 5) (d := 141) rfl rfl (yieldsIf_load_mid (by rfl) 41 _ rfl ax (ox + k * 37) rfl (encS x) _ hrgt.out Try.underlying41 rfl (by rw [l37.out]; exact hi37.out)) hd.out ?_
                    simp only [List.setIfInBounds_toArray, List.set_cons_zero, List.set_cons_succ]
                    refine tk (i := 7) (d := 143) rfl rfl (yieldsIf_load_mid (by rfl) 38 _ rfl T 0 rfl (encA aw) _ hTw.out Try.underlying38 rfl (by rw [l36.out]; exact hi36.out)) hd.out ?_
                    simp only [List.setIfInBounds_toArray, List.set_cons_zero, List.set_cons_succ]
                    refine wpAnyH_ready (rs := [6]) (by kernel_rfl) (by simp) ?_
                    refine AllReadyH.cons rfl (fun K hK => ?_) AllReadyH.nil
                    go_simp
                    go_wp2_with (go_at_call 14; refine (hA1.out _ hd.out).mono ?_; rintro e v1 ⟨rfl, b1⟩; skip)
                    have hd1 : Hid (Below wt.heap.size wt v1) := Lib.hid (hd.out.trans (b1.mono hd.out.size))
                    clear b1
                    refine hK.out _ _ hd1.out (fun _ => ?_)
                    clear hK K
                    refine tk (i := 8) (d := 144) (v := .bool false) rfl rfl (Or.inl ⟨by rfl, by intro W hW; clear hW; go_simp⟩) hd1.out ?_
                    simp only [List.setIfInBounds_toArray, List.set_cons_zero, List.set_cons_succ]
                    refine tk (i := 9) (d := 145) (v := .bool false) rfl rfl (Or.inl ⟨by rfl, by intro W hW; clear hW; go_simp⟩) hd1.out ?_
                    simp only [List.setIfInBounds_toArray, List.set_cons_zero, List.set_cons_succ]
                    refine tk (i := 10) (d := 146) (v := .pointer (some ⟨Z, 0, none⟩)) rfl rfl (Or.inl ⟨by rfl, by intro W hW; clear hW; go_simp⟩) hd1.out ?_
                    simp only [List.setIfInBounds_toArray, List.set_cons_zero, List.set_cons_succ]
                    refine tk (i := 11) (d := 147) (v := .pointer (some ⟨w.heap.size, 2, none⟩)) rfl rfl (Or.inl ⟨by rfl, by intro W hW; clear hW; go_simp⟩) hd1.out ?_
                    simp only [List.setIfInBounds_toArray, List.set_cons_zero, List.set_cons_succ]
                    refine tk (i := 12) (d := 148) (v := .slice (some ⟨ax, ox, none⟩) n2 c2) rfl rfl (Or.inl ⟨by rfl, by intro W hW; have cc := hcxt.out W hW; clear hW; go_simp⟩) hd1.out ?_
                    simp only [List.setIfInBounds_toArray, List.set_cons_zero, List.set_cons_succ]
                    refine tk (i := 13) (d := 149) (v := .int .i64 (k : Int)) rfl rfl (Or.inl ⟨by rfl, by intro W hW; clear hW; go_simp⟩) hd1.out ?_
                    simp only [List.setIfInBounds_toArray, List.set_cons_zero, List.set_cons_succ]
                    refine tk (i := 14) (d := 150) (v := .pointer (some ⟨ax, ox + k * 37, none⟩)) rfl rfl (Or.inl ⟨by rfl, by intro W hW; clear hW; go_simp⟩) hd1.out ?_
                    simp only [List.setIfInBounds_toArray, List.set_cons_zero, List.set_cons_succ]
                    refine tk (i := 15) (d := 151) rfl rfl (yieldsIf_load_mid (by rfl) 41 _ rfl ax (ox + k * 37) rfl (encS x) _ hrgt.out Try.underlying41 rfl (by rw [l37.out]; exact hi37.out)) hd1.out ?_
                    simp only [List.setIfInBounds_toArray, List.set_cons_zero, List.set_cons_succ]
                    refine tk (i := 17) (d := 153) rfl rfl (yieldsIf_load_mid (by rfl) 38 _ rfl T 0 rfl (encA aw) _ hTw.out Try.underlying38 rfl (by rw [l36.out]; exact hi36.out)) hd1.out ?_
                    simp only [List.setIfInBounds_toArray, List.set_cons_zero, List.set_cons_succ]
                    refine wpAnyH_ready (rs := [16]) (by kernel_rfl) (by simp) ?_
                    refine AllReadyH.cons rfl (fun K hK => ?_) AllReadyH.nil
                    go_simp
                    go_wp2_with (go_at_call 14; refine (hA2.out _ hd1.out).mono ?_; rintro e v2 ⟨rfl, b2⟩; skip)
                    have hd2 : Hid (Below wt.heap.size wt v2) := Lib.hid (hd1.out.trans (b2.mono hd1.out.size))
                    clear b2
                    refine hK.out _ _ hd2.out (fun _ => ?_)
                    clear hK K
                    refine tk (i := 18) (d := 154) (v := .bool false) rfl rfl (Or.inl ⟨by rfl, by intro W hW; clear hW; go_simp⟩) hd2.out ?_
                    simp only [List.setIfInBounds_toArray, List.set_cons_zero, List.set_cons_succ]
                    refine tk (i := 19) (d := 155) (v := .bool false) rfl rfl (Or.inl ⟨by rfl, by intro W hW; clear hW; go_simp⟩) hd2.out ?_
                    simp only [List.setIfInBounds_toArray, List.set_cons_zero, List.set_cons_succ]
                    refine wpAnyH_done (by kernel_rfl) ?_ _
                    have hend := hd2
                    clear hne hgu
                    go_wp2_with fail
                    go_roundw
                    case rel => exact ⟨k + 1, by omega, by go_num, Lib.hid (hbz.out.trans (hend.out.mono hbz.out.size))⟩
                    case measure => simp [intOf]; omega
                  · by_cases hk9 : K = 9
                    · subst hk9
                      have q1 : ((9 : Int) == 1) = false := by decide
                      have q2 : ((9 : Int) == 2) = false := by decide
                      have q3 : ((9 : Int) == 3) = false := by decide
                      have q8 : ((9 : Int) == 8) = false := by decide
                      clear hk1 hk2 hk3 hk8
                      go_wp2_with (first
                        | (refine wpList_bl rfl 38 _ rfl #[(0, .int .i64 1)] (by rw [List.map_toArray]; rfl) _ (fun W => buildAE W) ?_)
                        | (refine wpList_store_row rfl 38 _ _ rfl wr.heap.size (encA ⟨1, kZ, 0, false, ⟨#[]⟩⟩).toArray rfl rfl 38 _ (heap_alloc_new wr _) (by rw [a36.out]; exact hi36.out) (by rw [a36.out, a36.out]) (oneA.out _) ?_
                           obtain ⟨wq, hwq⟩ : ∃ wq, (wr.alloc (.cells (encA zA).toArray 38)).setRow wr.heap.size (encA ⟨1, kZ, 0, false, ⟨#[]⟩⟩).toArray = wq := ⟨_, rfl⟩
                           obtain ⟨T, hT⟩ : ∃ T, wr.heap.size = T := ⟨_, rfl⟩
                           have hbq : Hid (Below wr.heap.size wr wq) := Lib.hid (by rw [← hwq]; exact setRow_bel ((Below.refl _ _).alloc (Nat.le_refl _) _) (Nat.le_refl _) _)
                           have hTq : Hid (wq.heap[T]? = some (.cells (encA ⟨1, kZ, 0, false, ⟨#[]⟩⟩).toArray 38 (0, 0))) := Lib.hid (by rw [← hwq, ← hT]; exact setRow_heap _ _ _ _ _ _ (heap_alloc_new wr _))
                           have hTl : Hid (wr.heap.size ≤ T) := Lib.hid (by rw [hT]; exact Nat.le_refl _)
                           have cxq := hcx.out _ (hloz.out.trans (hbq.out.mono hloz.out.size))
                           have dKq : wq.cell? ⟨ax, ox + k * 37, none⟩ = some (.int .i64 9) := (hbq.out.cell (p := ⟨ax, ox + k * 37, none⟩) haxl.out).trans dK
                           rw [hwq, hT]
                           clear hwq hT))
                      have hzq : Hid (∀ _ : Unit, zipQ x = ⟨1, kZ, 0, false, ⟨#[]⟩⟩) := Lib.hid fun _ => by unfold zipQ; rw [if_pos (by have := hxk.out; omega)]
                      obtain ⟨wt, hwt⟩ : ∃ wt, wq = wt := ⟨_, rfl⟩
                      have hbt : Hid (Below wr.heap.size wr wt) := Lib.hid (by rw [← hwt]; exact hbq.out)
                      obtain ⟨aw, haw⟩ : ∃ aw, Hid (∀ _ : Unit, (⟨1, kZ, 0, false, ⟨#[]⟩⟩ : AnsT) = aw) := ⟨_, Lib.hid fun _ => rfl⟩
                      have hTt : Hid (wt.heap[T]? = some (.cells (encA aw).toArray 38 (0, 0))) := Lib.hid (by rw [← hwt, ← haw.out ()]; exact hTq.out)
                      rw [haw.out ()] at hzq
                      rw [hwt]
                      clear cxq dKq hwt
                      have hlot := Lib.hid (hloz.out.trans (hbt.out.mono hloz.out.size))
                      have hbz : Hid (Below wz.heap.size wz wt) := Lib.hid (hBz.out.trans (hbt.out.mono hBz.out.size))
                      have hrgt : Hid (∀ W, Below wt.heap.size wt W → W.rangeAt ax (ox + k * 37) (encS x)) := Lib.hid fun W hW => hrgx.out W (hlot.out.trans (hW.mono hlot.out.size))
                      have hcxt : Hid (∀ W, Below wt.heap.size wt W → W.cell? ⟨w.heap.size, 2, none⟩ = some (.slice (some ⟨ax, ox, none⟩) n2 c2)) := Lib.hid fun W hW => hcx.out W (hlot.out.trans (hW.mono hlot.out.size))
                      have hTw : Hid (∀ W, Below wt.heap.size wt W → W.rangeAt T 0 (encA aw)) := Lib.hid fun W hW => range_below (Array.getElem?_eq_some_iff.1 hTt.out).1 (range_blk hTt.out) hW
                      have hA1 : Hid (∀ W, Below wt.heap.size wt W → Calls Try.prog 14 #[.pointer none, .agg (encS x).toArray] W fun e w' => e = .returned (.agg (encA aw).toArray) ∧ Below W.heap.size W w') := Lib.hid fun W hW => by
                        have := asked_zip W (hzn.out.below (hbz.out.trans (hW.mono hbz.out.size))) x
                        unfold ZipP at this
                        rwa [hzq.out ()] at this
                      have hA2 : Hid (∀ W, Below wt.heap.size wt W → Calls Try.prog 14 #[.pointer (some ⟨Z, 0, none⟩), .agg (encS x).toArray] W fun e w' => e = .returned (.agg (encA aw).toArray) ∧ Below W.heap.size W w') := Lib.hid fun W hW => by
                        have := asked_zip W (hzz.out.below (hbz.out.trans (hW.mono hbz.out.size))) x
                        unfold ZipP at this
                        rwa [hzq.out ()] at this
                      have hne := neA
                      have hgu := guA
                      have hd : Hid (Below wt.heap.size wt (World.drew wt)) := Lib.hid (below_drewN (Below.refl _ _) 1)
                      refine wp_region_held (S := fun W => Below wt.heap.size wt W) (by kernel_rfl) ?_
                      change wpAnyH _ _ _ _ _ _ _ _ (World.drew _)
                      refine tk (i := 0) (d := 136) (v := .pointer none) rfl rfl (Or.inl ⟨by rfl, by intro W hW; clear hW; go_simp⟩) hd.out ?_
                      simp only [List.setIfInBounds_toArray, List.set_cons_zero, List.set_cons_succ]
                      refine tk (i := 1) (d := 137) (v := .pointer (some ⟨w.heap.size, 2, none⟩)) rfl rfl (Or.inl ⟨by rfl, by intro W hW; clear hW; go_simp⟩) hd.out ?_
                      simp only [List.setIfInBounds_toArray, List.set_cons_zero, List.set_cons_succ]
                      refine tk (i := 2) (d := 138) (v := .slice (some ⟨ax, ox, none⟩) n2 c2) rfl rfl (Or.inl ⟨by rfl, by intro W hW; have cc := hcxt.out W hW; clear hW; go_simp⟩) hd.out ?_
                      simp only [List.setIfInBounds_toArray, List.set_cons_zero, List.set_cons_succ]
                      refine tk (i := 3) (d := 139) (v := .int .i64 (k : Int)) rfl rfl (Or.inl ⟨by rfl, by intro W hW; clear hW; go_simp⟩) hd.out ?_
                      simp only [List.setIfInBounds_toArray, List.set_cons_zero, List.set_cons_succ]
                      refine tk (i := 4) (d := 140) (v := .pointer (some ⟨ax, ox + k * 37, none⟩)) rfl rfl (Or.inl ⟨by rfl, by intro W hW; clear hW; go_simp⟩) hd.out ?_
                      simp only [List.setIfInBounds_toArray, List.set_cons_zero, List.set_cons_succ]
                      refine tk (i := 5) (d := 141) rfl rfl (yieldsIf_load_mid (by rfl) 41 _ rfl ax (ox + k * 37) rfl (encS x) _ hrgt.out Try.underlying41 rfl (by rw [l37.out]; exact hi37.out)) hd.out ?_
                      simp only [List.setIfInBounds_toArray, List.set_cons_zero, List.set_cons_succ]
                      refine tk (i := 7) (d := 143) rfl rfl (yieldsIf_load_mid (by rfl) 38 _ rfl T 0 rfl (encA aw) _ hTw.out Try.underlying38 rfl (by rw [l36.out]; exact hi36.out)) hd.out ?_
                      simp only [List.setIfInBounds_toArray, List.set_cons_zero, List.set_cons_succ]
                      refine wpAnyH_ready (rs := [6]) (by kernel_rfl) (by simp) ?_
                      refine AllReadyH.cons rfl (fun K hK => ?_) AllReadyH.nil
                      go_simp
                      go_wp2_with (go_at_call 14; refine (hA1.out _ hd.out).mono ?_; rintro e v1 ⟨rfl, b1⟩; skip)
                      have hd1 : Hid (Below wt.heap.size wt v1) := Lib.hid (hd.out.trans (b1.mono hd.out.size))
                      clear b1
                      refine hK.out _ _ hd1.out (fun _ => ?_)
                      clear hK K
                      refine tk (i := 8) (d := 144) (v := .bool false) rfl rfl (Or.inl ⟨by rfl, by intro W hW; clear hW; go_simp⟩) hd1.out ?_
                      simp only [List.setIfInBounds_toArray, List.set_cons_zero, List.set_cons_succ]
                      refine tk (i := 9) (d := 145) (v := .bool false) rfl rfl (Or.inl ⟨by rfl, by intro W hW; clear hW; go_simp⟩) hd1.out ?_
                      simp only [List.setIfInBounds_toArray, List.set_cons_zero, List.set_cons_succ]
                      refine tk (i := 10) (d := 146) (v := .pointer (some ⟨Z, 0, none⟩)) rfl rfl (Or.inl ⟨by rfl, by intro W hW; clear hW; go_simp⟩) hd1.out ?_
                      simp only [List.setIfInBounds_toArray, List.set_cons_zero, List.set_cons_succ]
                      refine tk (i := 11) (d := 147) (v := .pointer (some ⟨w.heap.size, 2, none⟩)) rfl rfl (Or.inl ⟨by rfl, by intro W hW; clear hW; go_simp⟩) hd1.out ?_
                      simp only [List.setIfInBounds_toArray, List.set_cons_zero, List.set_cons_succ]
                      refine tk (i := 12) (d := 148) (v := .slice (some ⟨ax, ox, none⟩) n2 c2) rfl rfl (Or.inl ⟨by rfl, by intro W hW; have cc := hcxt.out W hW; clear hW; go_simp⟩) hd1.out ?_
                      simp only [List.setIfInBounds_toArray, List.set_cons_zero, List.set_cons_succ]
                      refine tk (i := 13) (d := 149) (v := .int .i64 (k : Int)) rfl rfl (Or.inl ⟨by rfl, by intro W hW; clear hW; go_simp⟩) hd1.out ?_
                      simp only [List.setIfInBounds_toArray, List.set_cons_zero, List.set_cons_succ]
                      refine tk (i := 14) (d := 150) (v := .pointer (some ⟨ax, ox + k * 37, none⟩)) rfl rfl (Or.inl ⟨by rfl, by intro W hW; clear hW; go_simp⟩) hd1.out ?_
                      simp only [List.setIfInBounds_toArray, List.set_cons_zero, List.set_cons_succ]
                      refine tk (i := 15) (d := 151) rfl rfl (yieldsIf_load_mid (by rfl) 41 _ rfl ax (ox + k * 37) rfl (encS x) _ hrgt.out Try.underlying41 rfl (by rw [l37.out]; exact hi37.out)) hd1.out ?_
                      simp only [List.setIfInBounds_toArray, List.set_cons_zero, List.set_cons_succ]
                      refine tk (i := 17) (d := 153) rfl rfl (yieldsIf_load_mid (by rfl) 38 _ rfl T 0 rfl (encA aw) _ hTw.out Try.underlying38 rfl (by rw [l36.out]; exact hi36.out)) hd1.out ?_
                      simp only [List.setIfInBounds_toArray, List.set_cons_zero, List.set_cons_succ]
                      refine wpAnyH_ready (rs := [16]) (by kernel_rfl) (by simp) ?_
                      refine AllReadyH.cons rfl (fun K hK => ?_) AllReadyH.nil
                      go_simp
                      go_wp2_with (go_at_call 14; refine (hA2.out _ hd1.out).mono ?_; rintro e v2 ⟨rfl, b2⟩; skip)
                      have hd2 : Hid (Below wt.heap.size wt v2) := Lib.hid (hd1.out.trans (b2.mono hd1.out.size))
                      clear b2
                      refine hK.out _ _ hd2.out (fun _ => ?_)
                      clear hK K
                      refine tk (i := 18) (d := 154) (v := .bool false) rfl rfl (Or.inl ⟨by rfl, by intro W hW; clear hW; go_simp⟩) hd2.out ?_
                      simp only [List.setIfInBounds_toArray, List.set_cons_zero, List.set_cons_succ]
                      refine tk (i := 19) (d := 155) (v := .bool false) rfl rfl (Or.inl ⟨by rfl, by intro W hW; clear hW; go_simp⟩) hd2.out ?_
                      simp only [List.setIfInBounds_toArray, List.set_cons_zero, List.set_cons_succ]
                      refine wpAnyH_done (by kernel_rfl) ?_ _
                      have hend := hd2
                      clear hne hgu
                      go_wp2_with fail
                      go_roundw
                      case rel => exact ⟨k + 1, by omega, by go_num, Lib.hid (hbz.out.trans (hend.out.mono hbz.out.size))⟩
                      case measure => simp [intOf]; omega
                    · by_cases hk4 : K = 4
                      · subst hk4
                        have q1 : ((4 : Int) == 1) = false := by decide
                        have q2 : ((4 : Int) == 2) = false := by decide
                        have q3 : ((4 : Int) == 3) = false := by decide
                        have q8 : ((4 : Int) == 8) = false := by decide
                        have q9 : ((4 : Int) == 9) = false := by decide
                        clear hk1 hk2 hk3 hk8 hk9
                        go_wp2_with (first
                          | (refine wpList_bl rfl 38 _ rfl #[(0, .int .i64 1)] (by rw [List.map_toArray]; rfl) _ (fun W => buildAE W) ?_)
                          | (refine wpList_store_row rfl 38 _ _ rfl wr.heap.size (encA ⟨1, kZ, 0, false, ⟨#[]⟩⟩).toArray rfl rfl 38 _ (heap_alloc_new wr _) (by rw [a36.out]; exact hi36.out) (by rw [a36.out, a36.out]) (oneA.out _) ?_
                             obtain ⟨wq, hwq⟩ : ∃ wq, (wr.alloc (.cells (encA zA).toArray 38)).setRow wr.heap.size (encA ⟨1, kZ, 0, false, ⟨#[]⟩⟩).toArray = wq := ⟨_, rfl⟩
                             obtain ⟨T, hT⟩ : ∃ T, wr.heap.size = T := ⟨_, rfl⟩
                             have hbq : Hid (Below wr.heap.size wr wq) := Lib.hid (by rw [← hwq]; exact setRow_bel ((Below.refl _ _).alloc (Nat.le_refl _) _) (Nat.le_refl _) _)
                             have hTq : Hid (wq.heap[T]? = some (.cells (encA ⟨1, kZ, 0, false, ⟨#[]⟩⟩).toArray 38 (0, 0))) := Lib.hid (by rw [← hwq, ← hT]; exact setRow_heap _ _ _ _ _ _ (heap_alloc_new wr _))
                             have hTl : Hid (wr.heap.size ≤ T) := Lib.hid (by rw [hT]; exact Nat.le_refl _)
                             have cxq := hcx.out _ (hloz.out.trans (hbq.out.mono hloz.out.size))
                             have dKq : wq.cell? ⟨ax, ox + k * 37, none⟩ = some (.int .i64 4) := (hbq.out.cell (p := ⟨ax, ox + k * 37, none⟩) haxl.out).trans dK
                             rw [hwq, hT]
                             clear hwq hT)
                          | (refine wpList_bl rfl 61 _ rfl #[] (by rfl) _ (fun W => buildRz W) ?_)
                          | (go_at_call 27
                             refine (hroot.out _).mono ?_
                             rintro e w4 ⟨rfl, hb⟩
                             have hb4 := Lib.hid hb
                             have hT4 : Hid (w4.heap[T]? = some (.cells (encA ⟨1, kZ, 0, false, ⟨#[]⟩⟩).toArray 38 (0, 0))) := Lib.hid ((hb.block T (Array.getElem?_eq_some_iff.1 hTq.out).1).trans hTq.out)
                             clear hb)
                          | (refine wpList_bl rfl 38 _ rfl #[(4, .string tr)] (by rw [List.map_toArray]; rfl) _ (fun W => buildA4 tr W) ?_)
                          | (refine wpList_store_row rfl 38 _ _ rfl T (encA ⟨0, kZ, 0, false, tr⟩).toArray rfl rfl 38 _ hT4.out (by rw [a36.out]; exact hi36.out) (by rw [a36.out, a36.out]) (oneA.out _) ?_))
                        have hzq : Hid (∀ _ : Unit, zipQ x = ⟨0, kZ, 0, false, tr⟩) := Lib.hid fun _ => by unfold zipQ; rw [if_neg (by have := hxk.out; omega), if_pos (by have := hxk.out; omega), htr.out ()]
                        obtain ⟨wt, hwt⟩ : ∃ wt, w4.setRow T (encA ⟨0, kZ, 0, false, tr⟩).toArray = wt := ⟨_, rfl⟩
                        have hbt : Hid (Below wr.heap.size wr wt) := Lib.hid (by rw [← hwt]; exact setRow_bel (hbq.out.trans (hb4.out.mono hbq.out.size)) hTl.out _)
                        obtain ⟨aw, haw⟩ : ∃ aw, Hid (∀ _ : Unit, (⟨0, kZ, 0, false, tr⟩ : AnsT) = aw) := ⟨_, Lib.hid fun _ => rfl⟩
                        have hTt : Hid (wt.heap[T]? = some (.cells (encA aw).toArray 38 (0, 0))) := Lib.hid (by rw [← hwt, ← haw.out ()]; exact setRow_heap _ _ _ _ _ _ hT4.out)
                        rw [haw.out ()] at hzq
                        rw [hwt]
                        clear cxq dKq hwt
                        have hlot := Lib.hid (hloz.out.trans (hbt.out.mono hloz.out.size))
                        have hbz : Hid (Below wz.heap.size wz wt) := Lib.hid (hBz.out.trans (hbt.out.mono hBz.out.size))
                        have hrgt : Hid (∀ W, Below wt.heap.size wt W → W.rangeAt ax (ox + k * 37) (encS x)) := Lib.hid fun W hW => hrgx.out W (hlot.out.trans (hW.mono hlot.out.size))
                        have hcxt : Hid (∀ W, Below wt.heap.size wt W → W.cell? ⟨w.heap.size, 2, none⟩ = some (.slice (some ⟨ax, ox, none⟩) n2 c2)) := Lib.hid fun W hW => hcx.out W (hlot.out.trans (hW.mono hlot.out.size))
                        have hTw : Hid (∀ W, Below wt.heap.size wt W → W.rangeAt T 0 (encA aw)) := Lib.hid fun W hW => range_below (Array.getElem?_eq_some_iff.1 hTt.out).1 (range_blk hTt.out) hW
                        have hA1 : Hid (∀ W, Below wt.heap.size wt W → Calls Try.prog 14 #[.pointer none, .agg (encS x).toArray] W fun e w' => e = .returned (.agg (encA aw).toArray) ∧ Below W.heap.size W w') := Lib.hid fun W hW => by
                          have := asked_zip W (hzn.out.below (hbz.out.trans (hW.mono hbz.out.size))) x
                          unfold ZipP at this
                          rwa [hzq.out ()] at this
                        have hA2 : Hid (∀ W, Below wt.heap.size wt W → Calls Try.prog 14 #[.pointer (some ⟨Z, 0, none⟩), .agg (encS x).toArray] W fun e w' => e = .returned (.agg (encA aw).toArray) ∧ Below W.heap.size W w') := Lib.hid fun W hW => by
                          have := asked_zip W (hzz.out.below (hbz.out.trans (hW.mono hbz.out.size))) x
                          unfold ZipP at this
                          rwa [hzq.out ()] at this
                        have hne := neA
                        have hgu := guA
                        have hd : Hid (Below wt.heap.size wt (World.drew wt)) := Lib.hid (below_drewN (Below.refl _ _) 1)
                        refine wp_region_held (S := fun W => Below wt.heap.size wt W) (by kernel_rfl) ?_
                        change wpAnyH _ _ _ _ _ _ _ _ (World.drew _)
                        refine tk (i := 0) (d := 136) (v := .pointer none) rfl rfl (Or.inl ⟨by rfl, by intro W hW; clear hW; go_simp⟩) hd.out ?_
                        simp only [List.setIfInBounds_toArray, List.set_cons_zero, List.set_cons_succ]
                        refine tk (i := 1) (d := 137) (v := .pointer (some ⟨w.heap.size, 2, none⟩)) rfl rfl (Or.inl ⟨by rfl, by intro W hW; clear hW; go_simp⟩) hd.out ?_
                        simp only [List.setIfInBounds_toArray, List.set_cons_zero, List.set_cons_succ]
                        refine tk (i := 2) (d := 138) (v := .slice (some ⟨ax, ox, none⟩) n2 c2) rfl rfl (Or.inl ⟨by rfl, by intro W hW; have cc := hcxt.out W hW; clear hW; go_simp⟩) hd.out ?_
                        simp only [List.setIfInBounds_toArray, List.set_cons_zero, List.set_cons_succ]
                        refine tk (i := 3) (d := 139) (v := .int .i64 (k : Int)) rfl rfl (Or.inl ⟨by rfl, by intro W hW; clear hW; go_simp⟩) hd.out ?_
                        simp only [List.setIfInBounds_toArray, List.set_cons_zero, List.set_cons_succ]
                        refine tk (i := 4) (d := 140) (v := .pointer (some ⟨ax, ox + k * 37, none⟩)) rfl rfl (Or.inl ⟨by rfl, by intro W hW; clear hW; go_simp⟩) hd.out ?_
                        simp only [List.setIfInBounds_toArray, List.set_cons_zero, List.set_cons_succ]
                        refine tk (i := 5) (d := 141) rfl rfl (yieldsIf_load_mid (by rfl) 41 _ rfl ax (ox + k * 37) rfl (encS x) _ hrgt.out Try.underlying41 rfl (by rw [l37.out]; exact hi37.out)) hd.out ?_
                        simp only [List.setIfInBounds_toArray, List.set_cons_zero, List.set_cons_succ]
                        refine tk (i := 7) (d := 143) rfl rfl (yieldsIf_load_mid (by rfl) 38 _ rfl T 0 rfl (encA aw) _ hTw.out Try.underlying38 rfl (by rw [l36.out]; exact hi36.out)) hd.out ?_
                        simp only [List.setIfInBounds_toArray, List.set_cons_zero, List.set_cons_succ]
                        refine wpAnyH_ready (rs := [6]) (by kernel_rfl) (by simp) ?_
                        refine AllReadyH.cons rfl (fun K hK => ?_) AllReadyH.nil
                        go_simp
                        go_wp2_with (go_at_call 14; refine (hA1.out _ hd.out).mono ?_; rintro e v1 ⟨rfl, b1⟩; skip)
                        have hd1 : Hid (Below wt.heap.size wt v1) := Lib.hid (hd.out.trans (b1.mono hd.out.size))
                        clear b1
                        refine hK.out _ _ hd1.out (fun _ => ?_)
                        clear hK K
                        refine tk (i := 8) (d := 144) (v := .bool false) rfl rfl (Or.inl ⟨by rfl, by intro W hW; clear hW; go_simp⟩) hd1.out ?_
                        simp only [List.setIfInBounds_toArray, List.set_cons_zero, List.set_cons_succ]
                        refine tk (i := 9) (d := 145) (v := .bool false) rfl rfl (Or.inl ⟨by rfl, by intro W hW; clear hW; go_simp⟩) hd1.out ?_
                        simp only [List.setIfInBounds_toArray, List.set_cons_zero, List.set_cons_succ]
                        refine tk (i := 10) (d := 146) (v := .pointer (some ⟨Z, 0, none⟩)) rfl rfl (Or.inl ⟨by rfl, by intro W hW; clear hW; go_simp⟩) hd1.out ?_
                        simp only [List.setIfInBounds_toArray, List.set_cons_zero, List.set_cons_succ]
                        refine tk (i := 11) (d := 147) (v := .pointer (some ⟨w.heap.size, 2, none⟩)) rfl rfl (Or.inl ⟨by rfl, by intro W hW; clear hW; go_simp⟩) hd1.out ?_
                        simp only [List.setIfInBounds_toArray, List.set_cons_zero, List.set_cons_succ]
                        refine tk (i := 12) (d := 148) (v := .slice (some ⟨ax, ox, none⟩) n2 c2) rfl rfl (Or.inl ⟨by rfl, by intro W hW; have cc := hcxt.out W hW; clear hW; go_simp⟩) hd1.out ?_
                        simp only [List.setIfInBounds_toArray, List.set_cons_zero, List.set_cons_succ]
                        refine tk (i := 13) (d := 149) (v := .int .i64 (k : Int)) rfl rfl (Or.inl ⟨by rfl, by intro W hW; clear hW; go_simp⟩) hd1.out ?_
                        simp only [List.setIfInBounds_toArray, List.set_cons_zero, List.set_cons_succ]
                        refine tk (i := 14) (d := 150) (v := .pointer (some ⟨ax, ox + k * 37, none⟩)) rfl rfl (Or.inl ⟨by rfl, by intro W hW; clear hW; go_simp⟩) hd1.out ?_
                        simp only [List.setIfInBounds_toArray, List.set_cons_zero, List.set_cons_succ]
                        refine tk (i := 15) (d := 151) rfl rfl (yieldsIf_load_mid (by rfl) 41 _ rfl ax (ox + k * 37) rfl (encS x) _ hrgt.out Try.underlying41 rfl (by rw [l37.out]; exact hi37.out)) hd1.out ?_
                        simp only [List.setIfInBounds_toArray, List.set_cons_zero, List.set_cons_succ]
                        refine tk (i := 17) (d := 153) rfl rfl (yieldsIf_load_mid (by rfl) 38 _ rfl T 0 rfl (encA aw) _ hTw.out Try.underlying38 rfl (by rw [l36.out]; exact hi36.out)) hd1.out ?_
                        simp only [List.setIfInBounds_toArray, List.set_cons_zero, List.set_cons_succ]
                        refine wpAnyH_ready (rs := [16]) (by kernel_rfl) (by simp) ?_
                        refine AllReadyH.cons rfl (fun K hK => ?_) AllReadyH.nil
                        go_simp
                        go_wp2_with (go_at_call 14; refine (hA2.out _ hd1.out).mono ?_; rintro e v2 ⟨rfl, b2⟩; skip)
                        have hd2 : Hid (Below wt.heap.size wt v2) := Lib.hid (hd1.out.trans (b2.mono hd1.out.size))
                        clear b2
                        refine hK.out _ _ hd2.out (fun _ => ?_)
                        clear hK K
                        refine tk (i := 18) (d := 154) (v := .bool false) rfl rfl (Or.inl ⟨by rfl, by intro W hW; clear hW; go_simp⟩) hd2.out ?_
                        simp only [List.setIfInBounds_toArray, List.set_cons_zero, List.set_cons_succ]
                        refine tk (i := 19) (d := 155) (v := .bool false) rfl rfl (Or.inl ⟨by rfl, by intro W hW; clear hW; go_simp⟩) hd2.out ?_
                        simp only [List.setIfInBounds_toArray, List.set_cons_zero, List.set_cons_succ]
                        refine wpAnyH_done (by kernel_rfl) ?_ _
                        have hend := hd2
                        clear hne hgu
                        go_wp2_with fail
                        go_roundw
                        case rel => exact ⟨k + 1, by omega, by go_num, Lib.hid (hbz.out.trans (hend.out.mono hbz.out.size))⟩
                        case measure => simp [intOf]; omega
                      · have hno := Lib.hid (show ¬ (K = 1 ∨ K = 2 ∨ K = 3 ∨ K = 8 ∨ K = 9) ∧ K ≠ 4 by omega)
                        have q1 : (K == 1) = false := by simpa using hk1
                        have q2 : (K == 2) = false := by simpa using hk2
                        have q3 : (K == 3) = false := by simpa using hk3
                        have q8 : (K == 8) = false := by simpa using hk8
                        have q9 : (K == 9) = false := by simpa using hk9
                        have q4 : (K == 4) = false := by simpa using hk4
                        clear hk1 hk2 hk3 hk8 hk9 hk4
                        go_wp2_with (first
                          | (refine wpList_bl rfl 38 _ rfl #[(0, .int .i64 1)] (by rw [List.map_toArray]; rfl) _ (fun W => buildAE W) ?_)
                          | (refine wpList_store_row rfl 38 _ _ rfl wr.heap.size (encA ⟨1, kZ, 0, false, ⟨#[]⟩⟩).toArray rfl rfl 38 _ (heap_alloc_new wr _) (by rw [a36.out]; exact hi36.out) (by rw [a36.out, a36.out]) (oneA.out _) ?_
                             obtain ⟨wq, hwq⟩ : ∃ wq, (wr.alloc (.cells (encA zA).toArray 38)).setRow wr.heap.size (encA ⟨1, kZ, 0, false, ⟨#[]⟩⟩).toArray = wq := ⟨_, rfl⟩
                             obtain ⟨T, hT⟩ : ∃ T, wr.heap.size = T := ⟨_, rfl⟩
                             have hbq : Hid (Below wr.heap.size wr wq) := Lib.hid (by rw [← hwq]; exact setRow_bel ((Below.refl _ _).alloc (Nat.le_refl _) _) (Nat.le_refl _) _)
                             have hTq : Hid (wq.heap[T]? = some (.cells (encA ⟨1, kZ, 0, false, ⟨#[]⟩⟩).toArray 38 (0, 0))) := Lib.hid (by rw [← hwq, ← hT]; exact setRow_heap _ _ _ _ _ _ (heap_alloc_new wr _))
                             have hTl : Hid (wr.heap.size ≤ T) := Lib.hid (by rw [hT]; exact Nat.le_refl _)
                             have cxq := hcx.out _ (hloz.out.trans (hbq.out.mono hloz.out.size))
                             have dKq : wq.cell? ⟨ax, ox + k * 37, none⟩ = some (.int .i64 (K : Int)) := (hbq.out.cell (p := ⟨ax, ox + k * 37, none⟩) haxl.out).trans dK
                             rw [hwq, hT]
                             clear hwq hT)
                          | (refine wpList_bl rfl 38 _ rfl #[] (by rfl) _ (fun W => buildA0 W) ?_)
                          | (refine wpList_store_row rfl 38 _ _ rfl T (encA zA).toArray rfl rfl 38 _ hTq.out (by rw [a36.out]; exact hi36.out) (by rw [a36.out, a36.out]) (oneA.out _) ?_))
                        have hzq : Hid (∀ _ : Unit, zipQ x = zA) := Lib.hid fun _ => by unfold zipQ; rw [if_neg (by have := hxk.out; have := hno.out; omega), if_neg (by have := hxk.out; have := hno.out; omega)]
                        obtain ⟨wt, hwt⟩ : ∃ wt, wq.setRow T (encA zA).toArray = wt := ⟨_, rfl⟩
                        have hbt : Hid (Below wr.heap.size wr wt) := Lib.hid (by rw [← hwt]; exact setRow_bel hbq.out hTl.out _)
                        obtain ⟨aw, haw⟩ : ∃ aw, Hid (∀ _ : Unit, zA = aw) := ⟨_, Lib.hid fun _ => rfl⟩
                        have hTt : Hid (wt.heap[T]? = some (.cells (encA aw).toArray 38 (0, 0))) := Lib.hid (by rw [← hwt, ← haw.out ()]; exact setRow_heap _ _ _ _ _ _ hTq.out)
                        rw [haw.out ()] at hzq
                        rw [hwt]
                        clear cxq dKq hwt
                        have hlot := Lib.hid (hloz.out.trans (hbt.out.mono hloz.out.size))
                        have hbz : Hid (Below wz.heap.size wz wt) := Lib.hid (hBz.out.trans (hbt.out.mono hBz.out.size))
                        have hrgt : Hid (∀ W, Below wt.heap.size wt W → W.rangeAt ax (ox + k * 37) (encS x)) := Lib.hid fun W hW => hrgx.out W (hlot.out.trans (hW.mono hlot.out.size))
                        have hcxt : Hid (∀ W, Below wt.heap.size wt W → W.cell? ⟨w.heap.size, 2, none⟩ = some (.slice (some ⟨ax, ox, none⟩) n2 c2)) := Lib.hid fun W hW => hcx.out W (hlot.out.trans (hW.mono hlot.out.size))
                        have hTw : Hid (∀ W, Below wt.heap.size wt W → W.rangeAt T 0 (encA aw)) := Lib.hid fun W hW => range_below (Array.getElem?_eq_some_iff.1 hTt.out).1 (range_blk hTt.out) hW
                        have hA1 : Hid (∀ W, Below wt.heap.size wt W → Calls Try.prog 14 #[.pointer none, .agg (encS x).toArray] W fun e w' => e = .returned (.agg (encA aw).toArray) ∧ Below W.heap.size W w') := Lib.hid fun W hW => by
                          have := asked_zip W (hzn.out.below (hbz.out.trans (hW.mono hbz.out.size))) x
                          unfold ZipP at this
                          rwa [hzq.out ()] at this
                        have hA2 : Hid (∀ W, Below wt.heap.size wt W → Calls Try.prog 14 #[.pointer (some ⟨Z, 0, none⟩), .agg (encS x).toArray] W fun e w' => e = .returned (.agg (encA aw).toArray) ∧ Below W.heap.size W w') := Lib.hid fun W hW => by
                          have := asked_zip W (hzz.out.below (hbz.out.trans (hW.mono hbz.out.size))) x
                          unfold ZipP at this
                          rwa [hzq.out ()] at this
                        have hne := neA
                        have hgu := guA
                        have hd : Hid (Below wt.heap.size wt (World.drew wt)) := Lib.hid (below_drewN (Below.refl _ _) 1)
                        refine wp_region_held (S := fun W => Below wt.heap.size wt W) (by kernel_rfl) ?_
                        change wpAnyH _ _ _ _ _ _ _ _ (World.drew _)
                        refine tk (i := 0) (d := 136) (v := .pointer none) rfl rfl (Or.inl ⟨by rfl, by intro W hW; clear hW; go_simp⟩) hd.out ?_
                        simp only [List.setIfInBounds_toArray, List.set_cons_zero, List.set_cons_succ]
                        refine tk (i := 1) (d := 137) (v := .pointer (some ⟨w.heap.size, 2, none⟩)) rfl rfl (Or.inl ⟨by rfl, by intro W hW; clear hW; go_simp⟩) hd.out ?_
                        simp only [List.setIfInBounds_toArray, List.set_cons_zero, List.set_cons_succ]
                        refine tk (i := 2) (d := 138) (v := .slice (some ⟨ax, ox, none⟩) n2 c2) rfl rfl (Or.inl ⟨by rfl, by intro W hW; have cc := hcxt.out W hW; clear hW; go_simp⟩) hd.out ?_
                        simp only [List.setIfInBounds_toArray, List.set_cons_zero, List.set_cons_succ]
                        refine tk (i := 3) (d := 139) (v := .int .i64 (k : Int)) rfl rfl (Or.inl ⟨by rfl, by intro W hW; clear hW; go_simp⟩) hd.out ?_
                        simp only [List.setIfInBounds_toArray, List.set_cons_zero, List.set_cons_succ]
                        refine tk (i := 4) (d := 140) (v := .pointer (some ⟨ax, ox + k * 37, none⟩)) rfl rfl (Or.inl ⟨by rfl, by intro W hW; clear hW; go_simp⟩) hd.out ?_
                        simp only [List.setIfInBounds_toArray, List.set_cons_zero, List.set_cons_succ]
                        refine tk (i := 5) (d := 141) rfl rfl (yieldsIf_load_mid (by rfl) 41 _ rfl ax (ox + k * 37) rfl (encS x) _ hrgt.out Try.underlying41 rfl (by rw [l37.out]; exact hi37.out)) hd.out ?_
                        simp only [List.setIfInBounds_toArray, List.set_cons_zero, List.set_cons_succ]
                        refine tk (i := 7) (d := 143) rfl rfl (yieldsIf_load_mid (by rfl) 38 _ rfl T 0 rfl (encA aw) _ hTw.out Try.underlying38 rfl (by rw [l36.out]; exact hi36.out)) hd.out ?_
                        simp only [List.setIfInBounds_toArray, List.set_cons_zero, List.set_cons_succ]
                        refine wpAnyH_ready (rs := [6]) (by kernel_rfl) (by simp) ?_
                        refine AllReadyH.cons rfl (fun K hK => ?_) AllReadyH.nil
                        go_simp
                        go_wp2_with (go_at_call 14; refine (hA1.out _ hd.out).mono ?_; rintro e v1 ⟨rfl, b1⟩; skip)
                        have hd1 : Hid (Below wt.heap.size wt v1) := Lib.hid (hd.out.trans (b1.mono hd.out.size))
                        clear b1
                        refine hK.out _ _ hd1.out (fun _ => ?_)
                        clear hK K
                        refine tk (i := 8) (d := 144) (v := .bool false) rfl rfl (Or.inl ⟨by rfl, by intro W hW; clear hW; go_simp⟩) hd1.out ?_
                        simp only [List.setIfInBounds_toArray, List.set_cons_zero, List.set_cons_succ]
                        refine tk (i := 9) (d := 145) (v := .bool false) rfl rfl (Or.inl ⟨by rfl, by intro W hW; clear hW; go_simp⟩) hd1.out ?_
                        simp only [List.setIfInBounds_toArray, List.set_cons_zero, List.set_cons_succ]
                        refine tk (i := 10) (d := 146) (v := .pointer (some ⟨Z, 0, none⟩)) rfl rfl (Or.inl ⟨by rfl, by intro W hW; clear hW; go_simp⟩) hd1.out ?_
                        simp only [List.setIfInBounds_toArray, List.set_cons_zero, List.set_cons_succ]
                        refine tk (i := 11) (d := 147) (v := .pointer (some ⟨w.heap.size, 2, none⟩)) rfl rfl (Or.inl ⟨by rfl, by intro W hW; clear hW; go_simp⟩) hd1.out ?_
                        simp only [List.setIfInBounds_toArray, List.set_cons_zero, List.set_cons_succ]
                        refine tk (i := 12) (d := 148) (v := .slice (some ⟨ax, ox, none⟩) n2 c2) rfl rfl (Or.inl ⟨by rfl, by intro W hW; have cc := hcxt.out W hW; clear hW; go_simp⟩) hd1.out ?_
                        simp only [List.setIfInBounds_toArray, List.set_cons_zero, List.set_cons_succ]
                        refine tk (i := 13) (d := 149) (v := .int .i64 (k : Int)) rfl rfl (Or.inl ⟨by rfl, by intro W hW; clear hW; go_simp⟩) hd1.out ?_
                        simp only [List.setIfInBounds_toArray, List.set_cons_zero, List.set_cons_succ]
                        refine tk (i := 14) (d := 150) (v := .pointer (some ⟨ax, ox + k * 37, none⟩)) rfl rfl (Or.inl ⟨by rfl, by intro W hW; clear hW; go_simp⟩) hd1.out ?_
                        simp only [List.setIfInBounds_toArray, List.set_cons_zero, List.set_cons_succ]
                        refine tk (i := 15) (d := 151) rfl rfl (yieldsIf_load_mid (by rfl) 41 _ rfl ax (ox + k * 37) rfl (encS x) _ hrgt.out Try.underlying41 rfl (by rw [l37.out]; exact hi37.out)) hd1.out ?_
                        simp only [List.setIfInBounds_toArray, List.set_cons_zero, List.set_cons_succ]
                        refine tk (i := 17) (d := 153) rfl rfl (yieldsIf_load_mid (by rfl) 38 _ rfl T 0 rfl (encA aw) _ hTw.out Try.underlying38 rfl (by rw [l36.out]; exact hi36.out)) hd1.out ?_
                        simp only [List.setIfInBounds_toArray, List.set_cons_zero, List.set_cons_succ]
                        refine wpAnyH_ready (rs := [16]) (by kernel_rfl) (by simp) ?_
                        refine AllReadyH.cons rfl (fun K hK => ?_) AllReadyH.nil
                        go_simp
                        go_wp2_with (go_at_call 14; refine (hA2.out _ hd1.out).mono ?_; rintro e v2 ⟨rfl, b2⟩; skip)
                        have hd2 : Hid (Below wt.heap.size wt v2) := Lib.hid (hd1.out.trans (b2.mono hd1.out.size))
                        clear b2
                        refine hK.out _ _ hd2.out (fun _ => ?_)
                        clear hK K
                        refine tk (i := 18) (d := 154) (v := .bool false) rfl rfl (Or.inl ⟨by rfl, by intro W hW; clear hW; go_simp⟩) hd2.out ?_
                        simp only [List.setIfInBounds_toArray, List.set_cons_zero, List.set_cons_succ]
                        refine tk (i := 19) (d := 155) (v := .bool false) rfl rfl (Or.inl ⟨by rfl, by intro W hW; clear hW; go_simp⟩) hd2.out ?_
                        simp only [List.setIfInBounds_toArray, List.set_cons_zero, List.set_cons_succ]
                        refine wpAnyH_done (by kernel_rfl) ?_ _
                        have hend := hd2
                        clear hne hgu
                        go_wp2_with fail
                        go_roundw
                        case rel => exact ⟨k + 1, by omega, by go_num, Lib.hid (hbz.out.trans (hend.out.mono hbz.out.size))⟩
                        case measure => simp [intOf]; omega
          · have gx : ¬ ((k : Int) < (n2 : Int)) := by omega
            have hS1 : Hid (∀ W, Below wz.heap.size wz W → Calls Try.prog 20 #[.pointer none, .string aS, .agg (encKy kZ).toArray] W fun e w' => e = .returned (.int .i64 1) ∧ Below W.heap.size W w') := Lib.hid fun W hW => set_zip (hzn.out.below hW) aS kZ
            have hD1 : Hid (∀ W, Below wz.heap.size wz W → Calls Try.prog 28 #[.pointer (some ⟨Z, 0, none⟩), .string aS] W fun e w' => e = .returned (.int .i64 1) ∧ Below W.heap.size W w') := Lib.hid fun W hW => drop_zip (hzz.out.below hW) aS
            go_wp2_with (first
              | (go_at_call 20
                 refine (hS1.out _ hBz.out).mono ?_
                 rintro e we ⟨rfl, hb⟩
                 have hBe := Lib.hid (hBz.out.trans (hb.mono hBz.out.size))
                 clear hb)
              | (go_at_call 28
                 refine (hD1.out _ hBe.out).mono ?_
                 rintro e wf ⟨rfl, hb⟩
                 have hBf := Lib.hid (hBe.out.trans (hb.mono hBe.out.size))
                 clear hb))
            go_ret
            exact ⟨rfl, hb0.out.trans ((hlz0.out.trans (hBf.out.mono hlz0.out.size)).mono hb0.out.size)⟩
end Go.Proofs.Ytakcnkmlglkkpaa
