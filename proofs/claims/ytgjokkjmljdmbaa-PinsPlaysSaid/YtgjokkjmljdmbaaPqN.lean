/- The document's Pins: Next. (Printed by tools/genpq.py.) -/
import Derived.Test.YtgjokkjmljdmbaaPqH
import Derived.Test.YtgjokkjmljdmbaaPnL
import Derived.Test.YtgjokkjmljdmbaaPnN
namespace Go.Proofs.Ytgjokkjmljdmbaa
open Go.RowKit Go.Maps
set_option linter.unusedSimpArgs false
set_option linter.unusedVariables false

theorem find_atQ {p : List Nat → Bool} : ∀ {ks : List (List Nat)} {i : Nat} {y : List Nat}, ks[i]? = some y → (∀ j z, j < i → ks[j]? = some z → p z = false) → p y = true → ks.find? p = some y
  | [], i, y, h, _, _ => by simp at h
  | z :: r, 0, y, h, _, hp => by
    simp at h
    subst h
    simp [hp]
  | z :: r, i + 1, y, h, hn, hp => by
    have h0 := hn 0 z (by omega) rfl
    rw [List.find?_cons, h0]
    exact find_atQ (by simpa using h) (fun j z' hj hz => hn (j + 1) z' (by omega) (by simpa using hz)) hp
theorem find_noQ {p : List Nat → Bool} {ks : List (List Nat)} (h : ∀ (j : Nat) z, ks[j]? = some z → p z = false) : ks.find? p = none :=
  List.find?_eq_none.2 fun x hx => by
    obtain ⟨j, hj⟩ := List.mem_iff_getElem?.1 hx
    simp [h j x hj]
theorem zeroQy (w : World) : (zeroValue 29).run Try.prog w = .ok (.agg (u8s (zeros 32)).toArray) w := zeroKy w
structure RY (w0 : World) (q k : Nat) (A : Option Addr) (N c g : Nat) (x : List Nat) (W : World) : Prop where
  rh : RQ w0 q k A N c g x W
  res : W.heap[g + 1]? = some (.cells (u8s (zeros 32)).toArray 29 (0, 0))
theorem RY.keep {w0 W W' : World} {q k N c g : Nat} {A : Option Addr} {x : List Nat} (h : RY w0 q k A N c g x W) (hb : Below W.heap.size W W') : RY w0 q k A N c g x W' :=
  ⟨h.rh.keep hb, (hb.block _ (Array.getElem?_eq_some_iff.1 h.res).1).trans h.res⟩
def RNextQ (w : World) (fd : Option (List Nat)) (e : Ending) (w' : World) : Prop :=
  e = .returned (.tuple #[.agg (u8s (fd.getD (zeros 32))).toArray, .bool fd.isSome]) ∧ Below w.heap.size w w'
set_option maxRecDepth 100000 in
set_option maxHeartbeats 2000000 in
theorem rNext_no (w : World) (q : Nat) (f : Nat → RSes) (h : RefAt w q f) (s : Int) (hs : opR f s = false) (x : List Nat) (any : Bool) :
    Calls Try.prog 40 #[.pointer (some ⟨q, 0, none⟩), .int .i64 s, .agg (u8s x).toArray, .bool any] w (RNextQ w none) := by
  have hzk := zeroQy
  have hbl0 := zeroKN
  have hi32 : Hid ((Try.prog.info? 29).map (·.size) = some 32) := Lib.hid (by kernel_rfl)
  have hzs : Hid ((u8s (zeros 32)).toArray.size = 32) := Lib.hid (by simp [u8s, zeros])
  obtain ⟨g, hg⟩ : ∃ g, w.heap.size = g := ⟨_, rfl⟩
  obtain ⟨w1, hw1⟩ : ∃ w1, (w.alloc (.cells (u8s x).toArray 29)).alloc (.cells (u8s (zeros 32)).toArray 29) = w1 := ⟨_, rfl⟩
  have hb1 : Hid (Below w.heap.size w w1) := Lib.hid (by rw [← hw1]; exact ((Below.refl _ _).alloc (Nat.le_refl _) _).alloc (by simp) _)
  have hres1 : Hid (w1.heap[g + 1]? = some (.cells (u8s (zeros 32)).toArray 29 (0, 0))) := Lib.hid (by
    rw [← hw1, ← hg]
    have := heap_alloc_new (w.alloc (.cells (u8s x).toArray 29)) (.cells (u8s (zeros 32)).toArray 29)
    simpa using this)
  have ho := rIsOpen_any w1 q f (h.below hb1.out (Nat.le_refl _)) s
  rw [hs] at ho
  have ho' := Lib.hid ho
  unfold RNextQ
  clear h ho hs
  go_enter Try.func40, Try.ntmps40
  go_wp2_with (first
    | (go_at_call 37; (first | rw [hw1] | skip); refine ho'.out.mono ?_; rintro e w5 ⟨rfl, h5⟩; have h6 := h5.symm; clear h5; subst h6; clear ho')
    | (refine wpList_blN rfl 29 _ rfl #[] (by rfl) _ (fun W => hbl0 W) ?_)
    | (refine wpList_store_row rfl 29 _ _ rfl (g + 1) (u8s (zeros 32)).toArray rfl rfl 29 _ hres1.out (by rw [hzs.out]; exact hi32.out) rfl (all_oneCell_toArray u8s_one) ?_))
  refine bodyPost_ret (res_row_tmp rfl _ _ (g + 1) 29 _ (0, 0) _ (.bool false) rfl rfl (setRow_heap _ (g + 1) _ (u8s (zeros 32)).toArray 29 _ hres1.out) Try.underlying29 rfl (by rw [hzs.out]; exact hi32.out)) rfl ?_
  exact ⟨rfl, setRow_below hb1.out (by omega) _⟩
set_option maxRecDepth 100000 in
set_option maxHeartbeats 2000000 in
theorem rNext_ok (w : World) (q : Nat) (f : Nat → RSes) (h : RefAt w q f) (k : Nat) (hk : k < 16) (hs : (f k).op = true) (hL : (f k).ks.length < 140737488355328) (x : List Nat) (hx : IsK x) (any : Bool) :
    Calls Try.prog 40 #[.pointer (some ⟨q, 0, none⟩), .int .i64 (k : Int), .agg (u8s x).toArray, .bool any] w (RNextQ w ((f k).ks.find? (passK any x))) := by
  have hzk := zeroQy
  have hbl0 := zeroKN
  obtain ⟨g, hg⟩ : ∃ g, w.heap.size = g := ⟨_, rfl⟩
  obtain ⟨w1, hw1⟩ : ∃ w1, (w.alloc (.cells (u8s x).toArray 29)).alloc (.cells (u8s (zeros 32)).toArray 29) = w1 := ⟨_, rfl⟩
  have hb1 : Hid (Below w.heap.size w w1) := Lib.hid (by rw [← hw1]; exact ((Below.refl _ _).alloc (Nat.le_refl _) _).alloc (by simp) _)
  have h1 := h.below hb1.out (Nat.le_refl _)
  have ho := rIsOpen_any w1 q f h1 k
  rw [opR_nat f hk, hs] at ho
  have ho' := Lib.hid ho
  have hown := Lib.hid (h.row k hk)
  have hR1 : Hid (RY w q k (f k).A (f k).ks.length (f k).c g x w1) := Lib.hid ⟨⟨hb1.out, h1.cks hk, by
    rw [← hw1, ← hg]
    exact (heap_alloc_old _ _ (by simp)).trans (heap_alloc_new w _), h.lt⟩, by
    rw [← hw1, ← hg]
    have := heap_alloc_new (w.alloc (.cells (u8s x).toArray 29)) (.cells (u8s (zeros 32)).toArray 29)
    simpa using this⟩
  have hks := Lib.hid (h.rise k hk).ok
  have hk0 : (0 : Int) ≤ (k : Int) := by omega
  have hk1 : (k : Int) < 16 := by omega
  have hi32 : Hid ((Try.prog.info? 29).map (·.size) = some 32) := Lib.hid (by kernel_rfl)
  have hxs : Hid ((u8s x).toArray.size = 32) := Lib.hid (by simp [u8s, hx.1])
  have hzs : Hid ((u8s (zeros 32)).toArray.size = 32) := Lib.hid (by simp [u8s, zeros])
  have hx' := Lib.hid hx
  clear h h1 ho hs hx
  generalize (f k).ks = ks at hR1 hown hks hL ⊢
  generalize (f k).A = A at hR1 hown
  generalize (f k).c = c at hR1 hown
  obtain ⟨N, hN⟩ : ∃ N, ks.length = N := ⟨_, rfl⟩
  rw [hN] at hL hR1
  have hN' := Lib.hid hN
  obtain ⟨fd, hfd⟩ : ∃ fd, ks.find? (passK any x) = fd := ⟨_, rfl⟩
  have hfd' := Lib.hid hfd
  unfold RNextQ
  rw [hfd]
  clear hN hfd hb1
  go_enter Try.func40, Try.ntmps40
  go_wp2_with (go_at_call 37; (first | rw [hw1] | skip); refine ho'.out.mono ?_; rintro e w5 ⟨rfl, h5⟩; have h6 := h5.symm; clear h5; subst h6; clear ho')
  clear hw1
  go_loopw [10] (fun iv wr => ∃ i : Nat, i ≤ N ∧ iv = .int .i64 (i : Int) ∧ Hid (∀ j z, j < i → ks[j]? = some z → passK any x z = false) ∧ Hid (RY w q k A N c g x wr)) (fun iv _ => N - (intOf iv).toNat)
  case atStart => exact ⟨0, by omega, rfl, Lib.hid (fun j z hj => by omega), hR1⟩
  case round =>
    clear hR1
    obtain ⟨i, hi, rfl, hno, hR⟩ := hrel
    have c0 := hR.out.rh.cel
    by_cases hlt : i < N
    · obtain ⟨y, hy⟩ : ∃ y, ks[i]? = some y := ⟨_, List.getElem?_eq_getElem (by rw [hN'.out]; exact hlt)⟩
      have hyk : IsK y := hks.out y (List.mem_of_getElem? hy)
      obtain ⟨b, off, rfl, hbl, hrg⟩ := ownK_at hown.out (fun z hz => (hks.out z hz).1) hy
      have hrk : Hid (∀ W, Below w.heap.size w W → W.rangeAt b (off + i * 32) (u8s y)) := Lib.hid fun W hW => rangeAt_belowQ hW hbl hrg
      have hy32 : Hid ((u8s y).length = 32) := Lib.hid (by simp [u8s, hyk.1])
      have hys : Hid ((u8s y).toArray.size = 32) := Lib.hid (by simp [u8s, hyk.1])
      have hd : Hid (RY w q k (some ⟨b, off, none⟩) N c g x wr.drew) := Lib.hid (hR.out.keep (below_drewN (Below.refl _ _) 1))
      have hpos : Hid (passK any x y = true → fd = some y) := Lib.hid fun hp => by rw [← hfd'.out]; exact find_atQ hy hno.out hp
      have hneg : Hid (passK any x y = false → ∀ j z, j < i + 1 → ks[j]? = some z → passK any x z = false) := Lib.hid fun hp j z hj hz => by
        rcases Nat.lt_or_ge j i with h | h
        · exact hno.out j z h hz
        · rw [show j = i by omega, hy] at hz
          cases hz
          exact hp
      have hCm : Hid (∀ W, Calls Try.prog 9 #[.agg (u8s x).toArray, .agg (u8s y).toArray] W fun e w' => e = .returned (.bool (decide (cmpK x y < 0))) ∧ Below W.heap.size W w') := Lib.hid fun W => refLess_any W x y hx'.out hyk
      have hsw := cmpK_swap x y
      clear hy hyk hbl hrg hno
      cases any
      · by_cases hc : cmpK x y < 0
        · have hres : Hid (fd = some y) := Lib.hid (hpos.out (by simp [passK]; omega))
          rw [decide_eq_true hc] at hCm
          clear hpos hneg hc hsw
          go_wp2_with fail
          refine wp_region_held (S := RY w q k (some ⟨b, off, none⟩) N c g x) (by kernel_rfl) ?_
          change wpAnyH _ _ _ _ _ _ _ _ (World.drew _)
          refine tk (i := 0) (d := 25) (v := (.bool false)) rfl rfl (Or.inl ⟨by rfl, by intro W hW; clear hW; go_simp⟩) hd.out ?_
          simp only [List.setIfInBounds_toArray, List.set_cons_zero, List.set_cons_succ]
          refine tk (i := 1) (d := 26) (v := (.bool false)) rfl rfl (Or.inl ⟨by rfl, by intro W hW; clear hW; go_simp⟩) hd.out ?_
          simp only [List.setIfInBounds_toArray, List.set_cons_zero, List.set_cons_succ]
          refine tk (i := 2) (d := 27) (v := (.agg (u8s x).toArray)) rfl rfl (yieldsIf_load_row (by rfl) 29 _ rfl g rfl 29 (u8s x).toArray (0, 0) _ (fun W hW => hW.rh.key) Try.underlying29 rfl (by rw [hxs.out]; exact hi32.out)) hd.out ?_
          simp only [List.setIfInBounds_toArray, List.set_cons_zero, List.set_cons_succ]
          refine tk (i := 3) (d := 28) (v := (.pointer (some ⟨q, 0, none⟩))) rfl rfl (Or.inl ⟨by rfl, by intro W hW; clear hW; go_simp⟩) hd.out ?_
          simp only [List.setIfInBounds_toArray, List.set_cons_zero, List.set_cons_succ]
          refine tk (i := 4) (d := 29) (v := (.int .i64 (k : Int))) rfl rfl (Or.inl ⟨by rfl, by intro W hW; clear hW; go_simp⟩) hd.out ?_
          simp only [List.setIfInBounds_toArray, List.set_cons_zero, List.set_cons_succ]
          refine tk (i := 5) (d := 30) (v := (.pointer (some ⟨q, 0, none⟩))) rfl rfl (Or.inl ⟨by rfl, by intro W hW; clear hW; go_simp⟩) hd.out ?_
          simp only [List.setIfInBounds_toArray, List.set_cons_zero, List.set_cons_succ]
          refine tk (i := 6) (d := 31) (v := (.pointer (some ⟨q, 32, none⟩))) rfl rfl (Or.inl ⟨by rfl, by intro W hW; clear hW; go_simp⟩) hd.out ?_
          simp only [List.setIfInBounds_toArray, List.set_cons_zero, List.set_cons_succ]
          refine tk (i := 7) (d := 32) (v := (.pointer (some ⟨q, 32 + k, none⟩))) rfl rfl (Or.inl ⟨by rfl, by intro W hW; clear hW; go_simp⟩) hd.out ?_
          simp only [List.setIfInBounds_toArray, List.set_cons_zero, List.set_cons_succ]
          refine tk (i := 8) (d := 33) (v := (.slice (some ⟨b, off, none⟩) N c)) rfl rfl (Or.inl ⟨by rfl, by intro W hW; have c0 := hW.rh.cel; clear hW; go_simp⟩) hd.out ?_
          simp only [List.setIfInBounds_toArray, List.set_cons_zero, List.set_cons_succ]
          refine tk (i := 9) (d := 34) (v := (.int .i64 (i : Int))) rfl rfl (Or.inl ⟨by rfl, by intro W hW; clear hW; go_simp⟩) hd.out ?_
          simp only [List.setIfInBounds_toArray, List.set_cons_zero, List.set_cons_succ]
          refine tk (i := 10) (d := 35) (v := (.pointer (some ⟨b, off + i * 32, none⟩))) rfl rfl (Or.inl ⟨by rfl, by intro W hW; clear hW; go_simp⟩) hd.out ?_
          simp only [List.setIfInBounds_toArray, List.set_cons_zero, List.set_cons_succ]
          refine tk (i := 11) (d := 36) (v := (.agg (u8s y).toArray)) rfl rfl (yieldsIf_load_mid (by rfl) 29 _ rfl b (off + i * 32) rfl (u8s y) _ (fun W hW => hrk.out W hW.rh.bel) Try.underlying29 rfl (by rw [hy32.out]; exact hi32.out)) hd.out ?_
          simp only [List.setIfInBounds_toArray, List.set_cons_zero, List.set_cons_succ]
          refine wpAnyH_ready (rs := [12]) (by kernel_rfl) (by simp) ?_
          refine AllReadyH.cons rfl (fun K hK => ?_) AllReadyH.nil
          go_simp
          refine (hCm.out _).mono ?_
          rintro e v1 ⟨rfl, q1⟩
          have hd1 : Hid (RY w q k (some ⟨b, off, none⟩) N c g x v1) := Lib.hid (hd.out.keep q1)
          clear q1
          refine hK.out _ _ hd1.out (fun _ => ?_)
          clear hK K
          refine tk (i := 13) (d := 38) (v := (.bool true)) rfl rfl (Or.inl ⟨by rfl, by intro W hW; clear hW; go_simp⟩) hd1.out ?_
          simp only [List.setIfInBounds_toArray, List.set_cons_zero, List.set_cons_succ]
          refine wpAnyH_done (by kernel_rfl) ?_ _
          have hdz := hd1
          have c0 := hdz.out.rh.cel
          go_wp2_with (first
            | (refine wpList_load_mid rfl 29 _ rfl b (off + i * 32) rfl (u8s y) _ (hrk.out _ hdz.out.rh.bel) Try.underlying29 rfl (by rw [hy32.out]; exact hi32.out) ?_)
            | (refine wpList_store_row rfl 29 _ _ rfl (g + 1) (u8s y).toArray rfl rfl 29 _ hdz.out.res (by rw [hys.out]; exact hi32.out) (by rw [hys.out, hzs.out]) (all_oneCell_toArray u8s_one) ?_))
          refine bodyPost_ret (res_row_tmp rfl _ _ (g + 1) 29 _ (0, 0) _ (.bool true) rfl rfl (setRow_heap _ (g + 1) _ (u8s y).toArray 29 _ hdz.out.res) Try.underlying29 rfl (by rw [hys.out]; exact hi32.out)) rfl ?_
          rw [hres.out]
          exact ⟨rfl, setRow_below hdz.out.rh.bel (by omega) _⟩
        · have hno2 := Lib.hid (hneg.out (by simp [passK]; omega))
          rw [decide_eq_false hc] at hCm
          clear hpos hneg hc hsw
          go_wp2_with fail
          refine wp_region_held (S := RY w q k (some ⟨b, off, none⟩) N c g x) (by kernel_rfl) ?_
          change wpAnyH _ _ _ _ _ _ _ _ (World.drew _)
          refine tk (i := 0) (d := 25) (v := (.bool false)) rfl rfl (Or.inl ⟨by rfl, by intro W hW; clear hW; go_simp⟩) hd.out ?_
          simp only [List.setIfInBounds_toArray, List.set_cons_zero, List.set_cons_succ]
          refine tk (i := 1) (d := 26) (v := (.bool false)) rfl rfl (Or.inl ⟨by rfl, by intro W hW; clear hW; go_simp⟩) hd.out ?_
          simp only [List.setIfInBounds_toArray, List.set_cons_zero, List.set_cons_succ]
          refine tk (i := 2) (d := 27) (v := (.agg (u8s x).toArray)) rfl rfl (yieldsIf_load_row (by rfl) 29 _ rfl g rfl 29 (u8s x).toArray (0, 0) _ (fun W hW => hW.rh.key) Try.underlying29 rfl (by rw [hxs.out]; exact hi32.out)) hd.out ?_
          simp only [List.setIfInBounds_toArray, List.set_cons_zero, List.set_cons_succ]
          refine tk (i := 3) (d := 28) (v := (.pointer (some ⟨q, 0, none⟩))) rfl rfl (Or.inl ⟨by rfl, by intro W hW; clear hW; go_simp⟩) hd.out ?_
          simp only [List.setIfInBounds_toArray, List.set_cons_zero, List.set_cons_succ]
          refine tk (i := 4) (d := 29) (v := (.int .i64 (k : Int))) rfl rfl (Or.inl ⟨by rfl, by intro W hW; clear hW; go_simp⟩) hd.out ?_
          simp only [List.setIfInBounds_toArray, List.set_cons_zero, List.set_cons_succ]
          refine tk (i := 5) (d := 30) (v := (.pointer (some ⟨q, 0, none⟩))) rfl rfl (Or.inl ⟨by rfl, by intro W hW; clear hW; go_simp⟩) hd.out ?_
          simp only [List.setIfInBounds_toArray, List.set_cons_zero, List.set_cons_succ]
          refine tk (i := 6) (d := 31) (v := (.pointer (some ⟨q, 32, none⟩))) rfl rfl (Or.inl ⟨by rfl, by intro W hW; clear hW; go_simp⟩) hd.out ?_
          simp only [List.setIfInBounds_toArray, List.set_cons_zero, List.set_cons_succ]
          refine tk (i := 7) (d := 32) (v := (.pointer (some ⟨q, 32 + k, none⟩))) rfl rfl (Or.inl ⟨by rfl, by intro W hW; clear hW; go_simp⟩) hd.out ?_
          simp only [List.setIfInBounds_toArray, List.set_cons_zero, List.set_cons_succ]
          refine tk (i := 8) (d := 33) (v := (.slice (some ⟨b, off, none⟩) N c)) rfl rfl (Or.inl ⟨by rfl, by intro W hW; have c0 := hW.rh.cel; clear hW; go_simp⟩) hd.out ?_
          simp only [List.setIfInBounds_toArray, List.set_cons_zero, List.set_cons_succ]
          refine tk (i := 9) (d := 34) (v := (.int .i64 (i : Int))) rfl rfl (Or.inl ⟨by rfl, by intro W hW; clear hW; go_simp⟩) hd.out ?_
          simp only [List.setIfInBounds_toArray, List.set_cons_zero, List.set_cons_succ]
          refine tk (i := 10) (d := 35) (v := (.pointer (some ⟨b, off + i * 32, none⟩))) rfl rfl (Or.inl ⟨by rfl, by intro W hW; clear hW; go_simp⟩) hd.out ?_
          simp only [List.setIfInBounds_toArray, List.set_cons_zero, List.set_cons_succ]
          refine tk (i := 11) (d := 36) (v := (.agg (u8s y).toArray)) rfl rfl (yieldsIf_load_mid (by rfl) 29 _ rfl b (off + i * 32) rfl (u8s y) _ (fun W hW => hrk.out W hW.rh.bel) Try.underlying29 rfl (by rw [hy32.out]; exact hi32.out)) hd.out ?_
          simp only [List.setIfInBounds_toArray, List.set_cons_zero, List.set_cons_succ]
          refine wpAnyH_ready (rs := [12]) (by kernel_rfl) (by simp) ?_
          refine AllReadyH.cons rfl (fun K hK => ?_) AllReadyH.nil
          go_simp
          refine (hCm.out _).mono ?_
          rintro e v1 ⟨rfl, q1⟩
          have hd1 : Hid (RY w q k (some ⟨b, off, none⟩) N c g x v1) := Lib.hid (hd.out.keep q1)
          clear q1
          refine hK.out _ _ hd1.out (fun _ => ?_)
          clear hK K
          refine tk (i := 13) (d := 38) (v := (.bool false)) rfl rfl (Or.inl ⟨by rfl, by intro W hW; clear hW; go_simp⟩) hd1.out ?_
          simp only [List.setIfInBounds_toArray, List.set_cons_zero, List.set_cons_succ]
          refine wpAnyH_done (by kernel_rfl) ?_ _
          have hdz := hd1
          have c0 := hdz.out.rh.cel
          go_wp2_with fail
          go_roundw
          case rel => exact ⟨i + 1, by omega, by go_num, hno2, hdz⟩
          case measure => simp [intOf]; omega
      · have hres : Hid (fd = some y) := Lib.hid (hpos.out rfl)
        clear hpos hneg hCm hsw
        go_wp2_with fail
        refine wp_region_held (S := RY w q k (some ⟨b, off, none⟩) N c g x) (by kernel_rfl) ?_
        change wpAnyH _ _ _ _ _ _ _ _ (World.drew _)
        refine tk (i := 0) (d := 25) (v := (.bool true)) rfl rfl (Or.inl ⟨by rfl, by intro W hW; clear hW; go_simp⟩) hd.out ?_
        simp only [List.setIfInBounds_toArray, List.set_cons_zero, List.set_cons_succ]
        refine tk (i := 1) (d := 26) (v := (.bool true)) rfl rfl (Or.inl ⟨by rfl, by intro W hW; clear hW; go_simp⟩) hd.out ?_
        simp only [List.setIfInBounds_toArray, List.set_cons_zero, List.set_cons_succ]
        refine tk (i := 2) (d := 27) (v := undef) rfl rfl (Or.inr ⟨by rfl, by rfl⟩) hd.out ?_
        simp only [List.setIfInBounds_toArray, List.set_cons_zero, List.set_cons_succ]
        refine tk (i := 3) (d := 28) (v := undef) rfl rfl (Or.inr ⟨by rfl, by rfl⟩) hd.out ?_
        simp only [List.setIfInBounds_toArray, List.set_cons_zero, List.set_cons_succ]
        refine tk (i := 4) (d := 29) (v := undef) rfl rfl (Or.inr ⟨by rfl, by rfl⟩) hd.out ?_
        simp only [List.setIfInBounds_toArray, List.set_cons_zero, List.set_cons_succ]
        refine tk (i := 5) (d := 30) (v := undef) rfl rfl (Or.inr ⟨by rfl, by rfl⟩) hd.out ?_
        simp only [List.setIfInBounds_toArray, List.set_cons_zero, List.set_cons_succ]
        refine tk (i := 6) (d := 31) (v := undef) rfl rfl (Or.inr ⟨by rfl, by rfl⟩) hd.out ?_
        simp only [List.setIfInBounds_toArray, List.set_cons_zero, List.set_cons_succ]
        refine tk (i := 7) (d := 32) (v := undef) rfl rfl (Or.inr ⟨by rfl, by rfl⟩) hd.out ?_
        simp only [List.setIfInBounds_toArray, List.set_cons_zero, List.set_cons_succ]
        refine tk (i := 8) (d := 33) (v := undef) rfl rfl (Or.inr ⟨by rfl, by rfl⟩) hd.out ?_
        simp only [List.setIfInBounds_toArray, List.set_cons_zero, List.set_cons_succ]
        refine tk (i := 9) (d := 34) (v := undef) rfl rfl (Or.inr ⟨by rfl, by rfl⟩) hd.out ?_
        simp only [List.setIfInBounds_toArray, List.set_cons_zero, List.set_cons_succ]
        refine tk (i := 10) (d := 35) (v := undef) rfl rfl (Or.inr ⟨by rfl, by rfl⟩) hd.out ?_
        simp only [List.setIfInBounds_toArray, List.set_cons_zero, List.set_cons_succ]
        refine tk (i := 11) (d := 36) (v := undef) rfl rfl (Or.inr ⟨by rfl, by rfl⟩) hd.out ?_
        simp only [List.setIfInBounds_toArray, List.set_cons_zero, List.set_cons_succ]
        refine wpAnyH_ready (rs := [12]) (by kernel_rfl) (by simp) ?_
        refine AllReadyH.cons rfl (fun K hK => ?_) AllReadyH.nil
        go_simp
        refine hK.out _ _ hd.out (fun _ => ?_)
        clear hK K
        refine tk (i := 13) (d := 38) (v := (.bool true)) rfl rfl (Or.inl ⟨by rfl, by intro W hW; clear hW; go_simp⟩) hd.out ?_
        simp only [List.setIfInBounds_toArray, List.set_cons_zero, List.set_cons_succ]
        refine wpAnyH_done (by kernel_rfl) ?_ _
        have hdz := hd
        have c0 := hdz.out.rh.cel
        go_wp2_with (first
          | (refine wpList_load_mid rfl 29 _ rfl b (off + i * 32) rfl (u8s y) _ (hrk.out _ hdz.out.rh.bel) Try.underlying29 rfl (by rw [hy32.out]; exact hi32.out) ?_)
          | (refine wpList_store_row rfl 29 _ _ rfl (g + 1) (u8s y).toArray rfl rfl 29 _ hdz.out.res (by rw [hys.out]; exact hi32.out) (by rw [hys.out, hzs.out]) (all_oneCell_toArray u8s_one) ?_))
        refine bodyPost_ret (res_row_tmp rfl _ _ (g + 1) 29 _ (0, 0) _ (.bool true) rfl rfl (setRow_heap _ (g + 1) _ (u8s y).toArray 29 _ hdz.out.res) Try.underlying29 rfl (by rw [hys.out]; exact hi32.out)) rfl ?_
        rw [hres.out]
        exact ⟨rfl, setRow_below hdz.out.rh.bel (by omega) _⟩
    · have hres : Hid (fd = none) := Lib.hid (by
        rw [← hfd'.out]
        exact find_noQ fun j z hj => hno.out j z (by have := (List.getElem?_eq_some_iff.1 hj).1; rw [hN'.out] at this; omega) hj)
      clear hno
      go_wp2_with (first
        | (refine wpList_blN rfl 29 _ rfl #[] (by rfl) _ (fun W => hbl0 W) ?_)
        | (refine wpList_store_row rfl 29 _ _ rfl (g + 1) (u8s (zeros 32)).toArray rfl rfl 29 _ hR.out.res (by rw [hzs.out]; exact hi32.out) rfl (all_oneCell_toArray u8s_one) ?_))
      refine bodyPost_ret (res_row_tmp rfl _ _ (g + 1) 29 _ (0, 0) _ (.bool false) rfl rfl (setRow_heap _ (g + 1) _ (u8s (zeros 32)).toArray 29 _ hR.out.res) Try.underlying29 rfl (by rw [hzs.out]; exact hi32.out)) rfl ?_
      rw [hres.out]
      exact ⟨rfl, setRow_below hR.out.rh.bel (by omega) _⟩
end Go.Proofs.Ytgjokkjmljdmbaa
