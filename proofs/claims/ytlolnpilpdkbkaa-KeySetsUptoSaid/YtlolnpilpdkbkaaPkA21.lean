/- The document's set: Next. (Printed by tools/gensx.py.) The document's begins. -/
import Derived.Test.YtlolnpilpdkbkaaPkA20

namespace Go.Proofs.Ytlolnpilpdkbkaa
open Go.RowKit Go.Maps
set_option linter.unusedSimpArgs false
set_option linter.unusedVariables false

theorem find_at {p : List Nat → Bool} : ∀ {ks : List (List Nat)} {i : Nat} {y : List Nat}, ks[i]? = some y → (∀ j z, j < i → ks[j]? = some z → p z = false) → p y = true → ks.find? p = some y
  | [], i, y, h, _, _ => by simp at h
  | z :: r, 0, y, h, _, hp => by
    simp at h
    subst h
    simp [hp]
  | z :: r, i + 1, y, h, hn, hp => by
    have h0 := hn 0 z (by omega) rfl
    rw [List.find?_cons, h0]
    exact find_at (by simpa using h) (fun j z' hj hz => hn (j + 1) z' (by omega) (by simpa using hz)) hp
theorem find_no {p : List Nat → Bool} {ks : List (List Nat)} (h : ∀ (j : Nat) z, ks[j]? = some z → p z = false) : ks.find? p = none :=
  List.find?_eq_none.2 fun x hx => by
    obtain ⟨j, hj⟩ := List.mem_iff_getElem?.1 hx
    simp [h j x hj]
structure RX (w0 : World) (q : Nat) (A : Option Addr) (N c g : Nat) (x : List Nat) (W : World) : Prop where
  rh : RH w0 q A N c g x W
  res : W.heap[g + 1]? = some (.cells (u8s (zeros 32)).toArray 25 (0, 0))
theorem RX.keep {w0 W W' : World} {q N c g : Nat} {A : Option Addr} {x : List Nat} (h : RX w0 q A N c g x W) (hb : Below W.heap.size W W') : RX w0 q A N c g x W' :=
  ⟨h.rh.keep hb, (hb.block _ (Array.getElem?_eq_some_iff.1 h.res).1).trans h.res⟩
set_option maxRecDepth 100000 in
set_option maxHeartbeats 2000000 in
theorem rNext_any (w : World) (q c : Nat) (A : Option Addr) (ks : List (List Nat)) (h : RSet w q A c ks) (hk : ∀ y ∈ ks, IsK y) (hL : ks.length < 140737488355328) (x : List Nat) (hx : IsK x) (any : Bool) :
    Calls Try.prog 41 #[.pointer (some ⟨q, 0, none⟩), .agg (u8s x).toArray, .bool any] w (NextK w ks any x) := by
  have hzk := zeroKy
  have hbl0 := zeroKf
  have hR0 := RH.start h x
  have hown := Lib.hid h.2
  have hi32 : Hid ((Try.prog.info? 25).map (·.size) = some 32) := Lib.hid (by kernel_rfl)
  have hxs : Hid ((u8s x).toArray.size = 32) := Lib.hid (by simp [u8s, hx.1])
  have hzs : Hid ((u8s (zeros 32)).toArray.size = 32) := Lib.hid (by simp [u8s, zeros])
  obtain ⟨N, hN⟩ : ∃ N, ks.length = N := ⟨_, rfl⟩
  obtain ⟨g, hg⟩ : ∃ g, w.heap.size = g := ⟨_, rfl⟩
  obtain ⟨w1, hw1⟩ : ∃ w1, (w.alloc (.cells (u8s x).toArray 25)).alloc (.cells (u8s (zeros 32)).toArray 25) = w1 := ⟨_, rfl⟩
  rw [hN] at hL hR0
  have hR1 : Hid (RX w q A N c g x w1) := Lib.hid (by
    rw [← hw1, ← hg]
    refine ⟨hR0.keep ((Below.refl _ _).alloc (Nat.le_refl _) _), ?_⟩
    have := heap_alloc_new (w.alloc (.cells (u8s x).toArray 25)) (.cells (u8s (zeros 32)).toArray 25)
    simpa using this)
  have hN' := Lib.hid hN
  have hks := Lib.hid hk
  have hx' := Lib.hid hx
  obtain ⟨fd, hfd⟩ : ∃ fd, ks.find? (passK any x) = fd := ⟨_, rfl⟩
  have hfd' := Lib.hid hfd
  unfold NextK
  rw [hfd]
  clear h hk hN hx hR0 hfd
  go_enter Try.func41, Try.ntmps41
  go_wp2_with fail
  clear hw1
  go_loopw [8] (fun iv wr => ∃ i : Nat, i ≤ N ∧ iv = .int .i64 (i : Int) ∧ Hid (∀ j z, j < i → ks[j]? = some z → passK any x z = false) ∧ Hid (RX w q A N c g x wr)) (fun iv _ => N - (intOf iv).toNat)
  case atStart => exact ⟨0, by omega, rfl, Lib.hid (fun j z hj => by omega), hR1⟩
  case round =>
    clear hR1
    obtain ⟨i, hi, rfl, hno, hR⟩ := hrel
    have c0 := hR.out.rh.cel
    by_cases hlt : i < N
    · obtain ⟨y, hy⟩ : ∃ y, ks[i]? = some y := ⟨_, List.getElem?_eq_getElem (by rw [hN'.out]; exact hlt)⟩
      have hyk : IsK y := hks.out y (List.mem_of_getElem? hy)
      obtain ⟨b, off, rfl, hbl, hrg⟩ := ownK_at hown.out (fun z hz => (hks.out z hz).1) hy
      have hrk : Hid (∀ W, Below w.heap.size w W → W.rangeAt b (off + i * 32) (u8s y)) := Lib.hid fun W hW => rangeAt_below hW hbl hrg
      have hy32 : Hid ((u8s y).length = 32) := Lib.hid (by simp [u8s, hyk.1])
      have hys : Hid ((u8s y).toArray.size = 32) := Lib.hid (by simp [u8s, hyk.1])
      have hd : Hid (RX w q (some ⟨b, off, none⟩) N c g x wr.drew) := Lib.hid (hR.out.keep (below_drewN (Below.refl _ _) 1))
      have hpos : Hid (passK any x y = true → fd = some y) := Lib.hid fun hp => by rw [← hfd'.out]; exact find_at hy hno.out hp
      have hneg : Hid (passK any x y = false → ∀ j z, j < i + 1 → ks[j]? = some z → passK any x z = false) := Lib.hid fun hp j z hj hz => by
        rcases Nat.lt_or_ge j i with h | h
        · exact hno.out j z h hz
        · rw [show j = i by omega, hy] at hz
          cases hz
          exact hp
      have hCm : Hid (∀ W, Calls Try.prog 58 #[.agg (u8s y).toArray, .agg (u8s x).toArray] W fun e w' => e = .returned (.int .i64 (cmpK y x)) ∧ Below W.heap.size W w') := Lib.hid fun W => refCompare_any W y x hyk.1 hx'.out.1 hyk.2 hx'.out.2
      clear hy hyk hbl hrg hno
      cases any
      · obtain ⟨cv, hcv⟩ : ∃ cv, cmpK y x = cv := ⟨_, rfl⟩
        rw [hcv] at hCm
        by_cases hc : 0 < cv
        · have hres : Hid (fd = some y) := Lib.hid (hpos.out (by simp [passK, hcv, hc]))
          clear hpos hneg hcv
          go_wp2_with fail
          refine wp_region_held (S := RX w q (some ⟨b, off, none⟩) N c g x) (by kernel_rfl) ?_
          change wpAnyH _ _ _ _ _ _ _ _ (World.drew _)
          refine tk (i := 0) (d := 18) (v := (.bool false)) rfl rfl (Or.inl ⟨by rfl, by intro W hW; clear hW; go_simp⟩) hd.out ?_
          simp only [List.setIfInBounds_toArray, List.set_cons_zero, List.set_cons_succ]
          refine tk (i := 1) (d := 19) (v := (.bool false)) rfl rfl (Or.inl ⟨by rfl, by intro W hW; clear hW; go_simp⟩) hd.out ?_
          simp only [List.setIfInBounds_toArray, List.set_cons_zero, List.set_cons_succ]
          refine tk (i := 2) (d := 20) (v := (.pointer (some ⟨q, 0, none⟩))) rfl rfl (Or.inl ⟨by rfl, by intro W hW; clear hW; go_simp⟩) hd.out ?_
          simp only [List.setIfInBounds_toArray, List.set_cons_zero, List.set_cons_succ]
          refine tk (i := 3) (d := 21) (v := (.pointer (some ⟨q, 0, none⟩))) rfl rfl (Or.inl ⟨by rfl, by intro W hW; clear hW; go_simp⟩) hd.out ?_
          simp only [List.setIfInBounds_toArray, List.set_cons_zero, List.set_cons_succ]
          refine tk (i := 4) (d := 22) (v := (.pointer (some ⟨q, 0, none⟩))) rfl rfl (Or.inl ⟨by rfl, by intro W hW; clear hW; go_simp⟩) hd.out ?_
          simp only [List.setIfInBounds_toArray, List.set_cons_zero, List.set_cons_succ]
          refine tk (i := 5) (d := 23) (v := (.slice (some ⟨b, off, none⟩) N c)) rfl rfl (Or.inl ⟨by rfl, by intro W hW; have c0 := hW.rh.cel; clear hW; go_simp⟩) hd.out ?_
          simp only [List.setIfInBounds_toArray, List.set_cons_zero, List.set_cons_succ]
          refine tk (i := 6) (d := 24) (v := (.int .i64 (i : Int))) rfl rfl (Or.inl ⟨by rfl, by intro W hW; clear hW; go_simp⟩) hd.out ?_
          simp only [List.setIfInBounds_toArray, List.set_cons_zero, List.set_cons_succ]
          refine tk (i := 7) (d := 25) (v := (.pointer (some ⟨b, off + i * 32, none⟩))) rfl rfl (Or.inl ⟨by rfl, by intro W hW; clear hW; go_simp⟩) hd.out ?_
          simp only [List.setIfInBounds_toArray, List.set_cons_zero, List.set_cons_succ]
          refine tk (i := 8) (d := 26) (v := (.agg (u8s y).toArray)) rfl rfl (yieldsIf_load_mid (by rfl) 25 _ rfl b (off + i * 32) rfl (u8s y) _ (fun W hW => hrk.out W hW.rh.bel) Try.underlying25 rfl (by rw [hy32.out]; exact hi32.out)) hd.out ?_
          simp only [List.setIfInBounds_toArray, List.set_cons_zero, List.set_cons_succ]
          refine tk (i := 9) (d := 27) (v := (.agg (u8s x).toArray)) rfl rfl (yieldsIf_load_row (by rfl) 25 _ rfl g rfl 25 (u8s x).toArray (0, 0) _ (fun W hW => hW.rh.key) Try.underlying25 rfl (by rw [hxs.out]; exact hi32.out)) hd.out ?_
          simp only [List.setIfInBounds_toArray, List.set_cons_zero, List.set_cons_succ]
          refine wpAnyH_ready (rs := [10]) (by kernel_rfl) (by simp) ?_
          refine AllReadyH.cons rfl (fun K hK => ?_) AllReadyH.nil
          go_simp
          refine (hCm.out _).mono ?_
          rintro e v1 ⟨rfl, q1⟩
          have hd1 : Hid (RX w q (some ⟨b, off, none⟩) N c g x v1) := Lib.hid (hd.out.keep q1)
          clear q1
          refine hK.out _ _ hd1.out (fun _ => ?_)
          clear hK K
          refine tk (i := 11) (d := 29) (v := (.bool true)) rfl rfl (Or.inl ⟨by rfl, by intro W hW; clear hW; go_simp⟩) hd1.out ?_
          simp only [List.setIfInBounds_toArray, List.set_cons_zero, List.set_cons_succ]
          refine tk (i := 12) (d := 30) (v := (.bool true)) rfl rfl (Or.inl ⟨by rfl, by intro W hW; clear hW; go_simp⟩) hd1.out ?_
          simp only [List.setIfInBounds_toArray, List.set_cons_zero, List.set_cons_succ]
          refine wpAnyH_done (by kernel_rfl) ?_ _
          have hdz := hd1
          have c0 := hdz.out.rh.cel
          go_wp2_with (first
            | (refine wpList_load_mid rfl 25 _ rfl b (off + i * 32) rfl (u8s y) _ (hrk.out _ hdz.out.rh.bel) Try.underlying25 rfl (by rw [hy32.out]; exact hi32.out) ?_)
            | (refine wpList_store_row rfl 25 _ _ rfl (g + 1) (u8s y).toArray rfl rfl 25 _ hdz.out.res (by rw [hys.out]; exact hi32.out) (by rw [hys.out, hzs.out]) (all_oneCell_toArray u8s_one) ?_))
          refine bodyPost_ret (res_row_tmp rfl _ _ (g + 1) 25 _ (0, 0) _ (.bool true) rfl rfl (setRow_heap _ (g + 1) _ (u8s y).toArray 25 _ hdz.out.res) Try.underlying25 rfl (by rw [hys.out]; exact hi32.out)) rfl ?_
          rw [hres.out]
          exact ⟨rfl, setRow_below hdz.out.rh.bel (by omega) _⟩
        · have hno2 := Lib.hid (hneg.out (by simp [passK, hcv]; omega))
          have hc : decide (0 < cv) = false := by simpa using hc
          clear hpos hneg hcv
          go_wp2_with fail
          refine wp_region_held (S := RX w q (some ⟨b, off, none⟩) N c g x) (by kernel_rfl) ?_
          change wpAnyH _ _ _ _ _ _ _ _ (World.drew _)
          refine tk (i := 0) (d := 18) (v := (.bool false)) rfl rfl (Or.inl ⟨by rfl, by intro W hW; clear hW; go_simp⟩) hd.out ?_
          simp only [List.setIfInBounds_toArray, List.set_cons_zero, List.set_cons_succ]
          refine tk (i := 1) (d := 19) (v := (.bool false)) rfl rfl (Or.inl ⟨by rfl, by intro W hW; clear hW; go_simp⟩) hd.out ?_
          simp only [List.setIfInBounds_toArray, List.set_cons_zero, List.set_cons_succ]
          refine tk (i := 2) (d := 20) (v := (.pointer (some ⟨q, 0, none⟩))) rfl rfl (Or.inl ⟨by rfl, by intro W hW; clear hW; go_simp⟩) hd.out ?_
          simp only [List.setIfInBounds_toArray, List.set_cons_zero, List.set_cons_succ]
          refine tk (i := 3) (d := 21) (v := (.pointer (some ⟨q, 0, none⟩))) rfl rfl (Or.inl ⟨by rfl, by intro W hW; clear hW; go_simp⟩) hd.out ?_
          simp only [List.setIfInBounds_toArray, List.set_cons_zero, List.set_cons_succ]
          refine tk (i := 4) (d := 22) (v := (.pointer (some ⟨q, 0, none⟩))) rfl rfl (Or.inl ⟨by rfl, by intro W hW; clear hW; go_simp⟩) hd.out ?_
          simp only [List.setIfInBounds_toArray, List.set_cons_zero, List.set_cons_succ]
          refine tk (i := 5) (d := 23) (v := (.slice (some ⟨b, off, none⟩) N c)) rfl rfl (Or.inl ⟨by rfl, by intro W hW; have c0 := hW.rh.cel; clear hW; go_simp⟩) hd.out ?_
          simp only [List.setIfInBounds_toArray, List.set_cons_zero, List.set_cons_succ]
          refine tk (i := 6) (d := 24) (v := (.int .i64 (i : Int))) rfl rfl (Or.inl ⟨by rfl, by intro W hW; clear hW; go_simp⟩) hd.out ?_
          simp only [List.setIfInBounds_toArray, List.set_cons_zero, List.set_cons_succ]
          refine tk (i := 7) (d := 25) (v := (.pointer (some ⟨b, off + i * 32, none⟩))) rfl rfl (Or.inl ⟨by rfl, by intro W hW; clear hW; go_simp⟩) hd.out ?_
          simp only [List.setIfInBounds_toArray, List.set_cons_zero, List.set_cons_succ]
          refine tk (i := 8) (d := 26) (v := (.agg (u8s y).toArray)) rfl rfl (yieldsIf_load_mid (by rfl) 25 _ rfl b (off + i * 32) rfl (u8s y) _ (fun W hW => hrk.out W hW.rh.bel) Try.underlying25 rfl (by rw [hy32.out]; exact hi32.out)) hd.out ?_
          simp only [List.setIfInBounds_toArray, List.set_cons_zero, List.set_cons_succ]
          refine tk (i := 9) (d := 27) (v := (.agg (u8s x).toArray)) rfl rfl (yieldsIf_load_row (by rfl) 25 _ rfl g rfl 25 (u8s x).toArray (0, 0) _ (fun W hW => hW.rh.key) Try.underlying25 rfl (by rw [hxs.out]; exact hi32.out)) hd.out ?_
          simp only [List.setIfInBounds_toArray, List.set_cons_zero, List.set_cons_succ]
          refine wpAnyH_ready (rs := [10]) (by kernel_rfl) (by simp) ?_
          refine AllReadyH.cons rfl (fun K hK => ?_) AllReadyH.nil
          go_simp
          refine (hCm.out _).mono ?_
          rintro e v1 ⟨rfl, q1⟩
          have hd1 : Hid (RX w q (some ⟨b, off, none⟩) N c g x v1) := Lib.hid (hd.out.keep q1)
          clear q1
          refine hK.out _ _ hd1.out (fun _ => ?_)
          clear hK K
          refine tk (i := 11) (d := 29) (v := (.bool false)) rfl rfl (Or.inl ⟨by rfl, by intro W hW; clear hW; go_simp⟩) hd1.out ?_
          simp only [List.setIfInBounds_toArray, List.set_cons_zero, List.set_cons_succ]
          refine tk (i := 12) (d := 30) (v := (.bool false)) rfl rfl (Or.inl ⟨by rfl, by intro W hW; clear hW; go_simp⟩) hd1.out ?_
          simp only [List.setIfInBounds_toArray, List.set_cons_zero, List.set_cons_succ]
          refine wpAnyH_done (by kernel_rfl) ?_ _
          have hdz := hd1
          have c0 := hdz.out.rh.cel
          go_wp2_with fail
          go_roundw
          case rel => exact ⟨i + 1, by omega, by go_num, hno2, hdz⟩
          case measure => simp [intOf]; omega
      · have hres : Hid (fd = some y) := Lib.hid (hpos.out rfl)
        clear hpos hneg hCm
        go_wp2_with fail
        refine wp_region_held (S := RX w q (some ⟨b, off, none⟩) N c g x) (by kernel_rfl) ?_
        change wpAnyH _ _ _ _ _ _ _ _ (World.drew _)
        refine tk (i := 0) (d := 18) (v := (.bool true)) rfl rfl (Or.inl ⟨by rfl, by intro W hW; clear hW; go_simp⟩) hd.out ?_
        simp only [List.setIfInBounds_toArray, List.set_cons_zero, List.set_cons_succ]
        refine tk (i := 1) (d := 19) (v := (.bool true)) rfl rfl (Or.inl ⟨by rfl, by intro W hW; clear hW; go_simp⟩) hd.out ?_
        simp only [List.setIfInBounds_toArray, List.set_cons_zero, List.set_cons_succ]
        refine tk (i := 2) (d := 20) (v := undef) rfl rfl (Or.inr ⟨by rfl, by rfl⟩) hd.out ?_
        simp only [List.setIfInBounds_toArray, List.set_cons_zero, List.set_cons_succ]
        refine tk (i := 3) (d := 21) (v := undef) rfl rfl (Or.inr ⟨by rfl, by rfl⟩) hd.out ?_
        simp only [List.setIfInBounds_toArray, List.set_cons_zero, List.set_cons_succ]
        refine tk (i := 4) (d := 22) (v := undef) rfl rfl (Or.inr ⟨by rfl, by rfl⟩) hd.out ?_
        simp only [List.setIfInBounds_toArray, List.set_cons_zero, List.set_cons_succ]
        refine tk (i := 5) (d := 23) (v := undef) rfl rfl (Or.inr ⟨by rfl, by rfl⟩) hd.out ?_
        simp only [List.setIfInBounds_toArray, List.set_cons_zero, List.set_cons_succ]
        refine tk (i := 6) (d := 24) (v := undef) rfl rfl (Or.inr ⟨by rfl, by rfl⟩) hd.out ?_
        simp only [List.setIfInBounds_toArray, List.set_cons_zero, List.set_cons_succ]
        refine tk (i := 7) (d := 25) (v := undef) rfl rfl (Or.inr ⟨by rfl, by rfl⟩) hd.out ?_
        simp only [List.setIfInBounds_toArray, List.set_cons_zero, List.set_cons_succ]
        refine tk (i := 8) (d := 26) (v := undef) rfl rfl (Or.inr ⟨by rfl, by rfl⟩) hd.out ?_
        simp only [List.setIfInBounds_toArray, List.set_cons_zero, List.set_cons_succ]
        refine tk (i := 9) (d := 27) (v := undef) rfl rfl (Or.inr ⟨by rfl, by rfl⟩) hd.out ?_
        simp only [List.setIfInBounds_toArray, List.set_cons_zero, List.set_cons_succ]
        refine wpAnyH_ready (rs := [10]) (by kernel_rfl) (by simp) ?_
        refine AllReadyH.cons rfl (fun K hK => ?_) AllReadyH.nil
        go_simp
        refine hK.out _ _ hd.out (fun _ => ?_)
        clear hK K
        refine tk (i := 11) (d := 29) (v := undef) rfl rfl (Or.inr ⟨by rfl, by rfl⟩) hd.out ?_
        simp only [List.setIfInBounds_toArray, List.set_cons_zero, List.set_cons_succ]
        refine tk (i := 12) (d := 30) (v := (.bool true)) rfl rfl (Or.inl ⟨by rfl, by intro W hW; clear hW; go_simp⟩) hd.out ?_
        simp only [List.setIfInBounds_toArray, List.set_cons_zero, List.set_cons_succ]
        refine wpAnyH_done (by kernel_rfl) ?_ _
        have hdz := hd
        have c0 := hdz.out.rh.cel
        go_wp2_with (first
          | (refine wpList_load_mid rfl 25 _ rfl b (off + i * 32) rfl (u8s y) _ (hrk.out _ hdz.out.rh.bel) Try.underlying25 rfl (by rw [hy32.out]; exact hi32.out) ?_)
          | (refine wpList_store_row rfl 25 _ _ rfl (g + 1) (u8s y).toArray rfl rfl 25 _ hdz.out.res (by rw [hys.out]; exact hi32.out) (by rw [hys.out, hzs.out]) (all_oneCell_toArray u8s_one) ?_))
        refine bodyPost_ret (res_row_tmp rfl _ _ (g + 1) 25 _ (0, 0) _ (.bool true) rfl rfl (setRow_heap _ (g + 1) _ (u8s y).toArray 25 _ hdz.out.res) Try.underlying25 rfl (by rw [hys.out]; exact hi32.out)) rfl ?_
        rw [hres.out]
        exact ⟨rfl, setRow_below hdz.out.rh.bel (by omega) _⟩
    · have hres : Hid (fd = none) := Lib.hid (by
        rw [← hfd'.out]
        exact find_no fun j z hj => hno.out j z (by have := (List.getElem?_eq_some_iff.1 hj).1; rw [hN'.out] at this; omega) hj)
      clear hno
      go_wp2_with (first
        | (refine wpList_blF rfl 25 _ rfl #[] (by rfl) _ (fun W => hbl0 W) ?_)
        | (refine wpList_store_row rfl 25 _ _ rfl (g + 1) (u8s (zeros 32)).toArray rfl rfl 25 _ hR.out.res (by rw [hzs.out]; exact hi32.out) rfl (all_oneCell_toArray u8s_one) ?_))
      refine bodyPost_ret (res_row_tmp rfl _ _ (g + 1) 25 _ (0, 0) _ (.bool false) rfl rfl (setRow_heap _ (g + 1) _ (u8s (zeros 32)).toArray 25 _ hR.out.res) Try.underlying25 rfl (by rw [hzs.out]; exact hi32.out)) rfl ?_
      rw [hres.out]
      exact ⟨rfl, setRow_below hR.out.rh.bel (by omega) _⟩
end Go.Proofs.Ytlolnpilpdkbkaa

namespace Go.Proofs.Ytlolnpilpdkbkaa
open Go.RowKit Go.Maps
set_option linter.unusedSimpArgs false
set_option linter.unusedVariables false

set_option maxRecDepth 100000 in
set_option maxHeartbeats 1000000 in
theorem begins_any (w : World) (p : ByteArray) (hp : p.size ≤ 4611686018427387904) (x : List Nat) (hx : IsK x) :
    Calls Try.prog 60 #[.agg (u8s x).toArray, .string p] w fun e w' => e = .returned (.bool (begK p.data.toList x)) ∧ Below w.heap.size w w' := by
  have hi32 : Hid ((Try.prog.info? 25).map (·.size) = some 32) := Lib.hid (by kernel_rfl)
  have hxs : Hid ((u8s x).toArray.size = 32) := Lib.hid (by simp [u8s, hx.1])
  obtain ⟨w1, hw1⟩ : ∃ w1, w.alloc (.cells (u8s x).toArray 25) = w1 := ⟨_, rfl⟩
  have hB1 : Hid (Below w.heap.size w w1) := Lib.hid (by rw [← hw1]; exact (Below.refl _ _).alloc (Nat.le_refl _) _)
  obtain ⟨g, hg⟩ : ∃ g, w.heap.size = g := ⟨_, rfl⟩
  have hk1 : Hid (w1.heap[g]? = some (.cells (u8s x).toArray 25 (0, 0))) := Lib.hid (by rw [← hw1, ← hg]; exact heap_alloc_new w _)
  obtain ⟨hs, hhs⟩ : ∃ hs : ByteArray, (⟨(hexL x).toArray⟩ : ByteArray) = hs := ⟨_, rfl⟩
  have hHx : Hid (Calls Try.prog 61 #[.agg (u8s x).toArray] w1 fun e w' => e = .returned (.string hs) ∧ Below w1.heap.size w1 w') := Lib.hid (by
    rw [← hhs]
    exact refHex_any x w1 hx.1 hx.2)
  have hsz : hs.size = 64 := by rw [← hhs, Lib.size_eq]; simp [hexL_length, hx.1]
  have hraw := Lib.hasPrefix_of_take hs.data.toList p.data.toList
  obtain ⟨B, hB⟩ : ∃ B, begK p.data.toList x = B := ⟨_, rfl⟩
  have hB2 : Lib.hasPrefix hs.data.toList p.data.toList = B := by rw [← hB, ← hhs]; rfl
  rw [hB2, ← Lib.size_eq, ← Lib.size_eq, hsz] at hraw
  rw [hB]
  have hB' := Lib.hid hB1
  clear hB hB2 hx hhs
  by_cases hle : p.size ≤ 64
  · rw [decide_eq_true hle, Bool.true_and] at hraw
    have hle' : (p.size : Int) ≤ 64 := by omega
    have hph : p.size ≤ hs.size := by omega
    have he : (hs.extract 0 p.size).data.toList = hs.data.toList.take p.size := by simp
    cases B
    · have hne : ((hs.extract 0 p.size).toList == p.toList) = false := by
        rw [Lib.toList_data, Lib.toList_data, he]
        exact hraw
      clear hraw he hle
      go_enter Try.func60, Try.ntmps60
      go_wp2_with (first
        | (refine wpList_load_row rfl 25 _ rfl g rfl 25 (u8s x).toArray (0, 0) _ hk1.out Try.underlying25 rfl (by rw [hxs.out]; exact hi32.out) ?_)
        | (go_at_call 61; refine hHx.out.mono ?_; rintro e w5 ⟨rfl, h5⟩; have h5' := Lib.hid h5; clear h5 hHx))
      go_ret
      exact ⟨rfl, hB1.out.trans (h5'.out.mono hB1.out.size)⟩
    · have hxe : hs.extract 0 p.size = p := ByteArray.ext (Array.toList_inj.1 (by rw [he]; simpa using hraw))
      clear hraw he hle
      go_enter Try.func60, Try.ntmps60
      go_wp2_with (first
        | (refine wpList_load_row rfl 25 _ rfl g rfl 25 (u8s x).toArray (0, 0) _ hk1.out Try.underlying25 rfl (by rw [hxs.out]; exact hi32.out) ?_)
        | (go_at_call 61; refine hHx.out.mono ?_; rintro e w5 ⟨rfl, h5⟩; have h5' := Lib.hid h5; clear h5 hHx))
      go_ret
      exact ⟨rfl, hB1.out.trans (h5'.out.mono hB1.out.size)⟩
  · rw [decide_eq_false hle, Bool.false_and] at hraw
    subst hraw
    have hle' : decide ((p.size : Int) ≤ 64) = false := by simp; omega
    clear hle
    go_enter Try.func60, Try.ntmps60
    go_wp2_with (first
      | (refine wpList_load_row rfl 25 _ rfl g rfl 25 (u8s x).toArray (0, 0) _ hk1.out Try.underlying25 rfl (by rw [hxs.out]; exact hi32.out) ?_)
      | (go_at_call 61; refine hHx.out.mono ?_; rintro e w5 ⟨rfl, h5⟩; have h5' := Lib.hid h5; clear h5 hHx))
    go_ret
    exact ⟨rfl, hB1.out.trans (h5'.out.mono hB1.out.size)⟩
end Go.Proofs.Ytlolnpilpdkbkaa
