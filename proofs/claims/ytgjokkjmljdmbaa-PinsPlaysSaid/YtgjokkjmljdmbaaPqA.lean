/- The document's Pins: Pin. (Printed by tools/genpq.py.) -/
import Derived.Test.YtgjokkjmljdmbaaPqH
import Derived.Test.YtgjokkjmljdmbaaPnL
namespace Go.Proofs.Ytgjokkjmljdmbaa
open Go.RowKit Go.Maps
set_option linter.unusedSimpArgs false
set_option linter.unusedVariables false

/-- The list that Add builds, and whether the key is in it. -/
def stepJ (x : List Nat) (s : List (List Nat) × Bool) (y : List Nat) : List (List Nat) × Bool := if s.2 = false ∧ cmpK x y < 0 then (s.1 ++ [x] ++ [y], true) else (s.1 ++ [y], s.2)
def addJ (x : List Nat) (ys : List (List Nat)) (s : List (List Nat) × Bool) : List (List Nat) × Bool := ys.foldl (stepJ x) s
theorem addJ_snoc (x y : List Nat) (ys : List (List Nat)) (s : List (List Nat) × Bool) : addJ x (ys ++ [y]) s = stepJ x (addJ x ys s) y := by simp [addJ]
theorem addJ_true (x : List Nat) : ∀ (ys l : List (List Nat)), addJ x ys (l, true) = (l ++ ys, true)
  | [], l => by simp [addJ]
  | y :: r, l => by
    have := addJ_true x r (l ++ [y])
    unfold addJ at this ⊢
    rw [List.foldl_cons, show stepJ x (l, true) y = (l ++ [y], true) by simp [stepJ], this]
    simp
theorem addJ_fin {x : List Nat} : ∀ (ys l : List (List Nat)), x ∉ ys → (if (addJ x ys (l, false)).2 then (addJ x ys (l, false)).1 else (addJ x ys (l, false)).1 ++ [x]) = l ++ insK x ys
  | [], l, _ => by simp [addJ, insK]
  | y :: r, l, h => by
    by_cases hc : cmpK x y < 0
    · have : addJ x (y :: r) (l, false) = (l ++ [x] ++ [y] ++ r, true) := by
        have h2 := addJ_true x r (l ++ [x] ++ [y])
        unfold addJ at h2 ⊢
        rw [List.foldl_cons, show stepJ x (l, false) y = (l ++ [x] ++ [y], true) by simp [stepJ, hc], h2]
      rw [this]
      simp [insK, hc]
    · have : addJ x (y :: r) (l, false) = addJ x r (l ++ [y], false) := by
        unfold addJ
        rw [List.foldl_cons, show stepJ x (l, false) y = (l ++ [y], false) by simp [stepJ, hc]]
      rw [this, addJ_fin r _ (fun hm => h (by simp [hm]))]
      have hne : x ≠ y := fun e => h (by simp [e])
      simp [insK, hc, hne]
theorem addJ_len (x : List Nat) : ∀ (ys : List (List Nat)) (s : List (List Nat) × Bool), (addJ x ys s).1.length ≤ s.1.length + ys.length + 1
  | [], s => by simp [addJ]
  | y :: r, (l, true) => by
    rw [addJ_true]
    simp <;> omega
  | y :: r, (l, false) => by
    by_cases hc : cmpK x y < 0
    · have : addJ x (y :: r) (l, false) = (l ++ [x] ++ [y] ++ r, true) := by
        have h2 := addJ_true x r (l ++ [x] ++ [y])
        unfold addJ at h2 ⊢
        rw [List.foldl_cons, show stepJ x (l, false) y = (l ++ [x] ++ [y], true) by simp [stepJ, hc], h2]
      rw [this]
      simp <;> omega
    · have : addJ x (y :: r) (l, false) = addJ x r (l ++ [y], false) := by
        unfold addJ
        rw [List.foldl_cons, show stepJ x (l, false) y = (l ++ [y], false) by simp [stepJ, hc]]
      rw [this]
      have := addJ_len x r (l ++ [y], false)
      simp at this ⊢
      omega
def RPinQ (w : World) (q : Nat) (f : Nat → RSes) (k : Nat) (x : List Nat) (e : Ending) (w' : World) : Prop :=
  e = .returned (.int .i64 0) ∧ (∃ A c, RefAt w' q (updR f k { f k with ks := insK x (f k).ks, A := A, c := c })) ∧ Upd (AtQ q) w w'
set_option maxRecDepth 100000 in
theorem rPin_no (w : World) (q : Nat) (f : Nat → RSes) (h : RefAt w q f) (s : Int) (hs : opR f s = false) (x : List Nat) :
    Calls Try.prog 26 #[.pointer (some ⟨q, 0, none⟩), .int .i64 s, .agg (u8s x).toArray] w fun e w' => e = .returned (.int .i64 140) ∧ Below w.heap.size w w' := by
  obtain ⟨w1, hw1⟩ : ∃ w1, w.alloc (.cells (u8s x).toArray 29) = w1 := ⟨_, rfl⟩
  have hb1 : Hid (Below w.heap.size w w1) := Lib.hid (by rw [← hw1]; exact (Below.refl _ _).alloc (Nat.le_refl _) _)
  have ho := rIsOpen_any w1 q f (h.below hb1.out (Nat.le_refl _)) s
  rw [hs] at ho
  have ho' := Lib.hid ho
  clear h ho hs
  go_enter Try.func26, Try.ntmps26
  go_wp2_with (go_at_call 37; (first | rw [hw1] | skip); refine ho'.out.mono ?_; rintro e w5 ⟨rfl, h5⟩; have h6 := h5.symm; clear h5; subst h6; clear ho')
  go_ret
  exact ⟨rfl, hb1.out⟩
set_option maxRecDepth 100000 in
set_option maxHeartbeats 4000000 in
theorem rPin_ok (w : World) (q : Nat) (f : Nat → RSes) (h : RefAt w q f) (k : Nat) (hk : k < 16) (hs : (f k).op = true) (hL : (f k).ks.length ≤ 4398046511104) (x : List Nat) (hx : IsK x) :
    Calls Try.prog 26 #[.pointer (some ⟨q, 0, none⟩), .int .i64 (k : Int), .agg (u8s x).toArray] w (RPinQ w q f k x) := by
  obtain ⟨w1, hw1⟩ : ∃ w1, w.alloc (.cells (u8s x).toArray 29) = w1 := ⟨_, rfl⟩
  obtain ⟨g, hg⟩ : ∃ g, w.heap.size = g := ⟨_, rfl⟩
  have hB1 : Hid (Below w.heap.size w w1) := Lib.hid (by rw [← hw1]; exact (Below.refl _ _).alloc (Nat.le_refl _) _)
  have h1 := h.below hB1.out (Nat.le_refl _)
  have ho := rIsOpen_any w1 q f h1 k
  rw [opR_nat f hk, hs] at ho
  have ho' := Lib.hid ho
  have hown := Lib.hid (h.row k hk)
  have hH := Lib.hid (rHas_ok w1 q f h1 k hk hs (by omega) x hx)
  have hR0 : Hid (RQ w q k (f k).A (f k).ks.length (f k).c g x w1) := Lib.hid ⟨hB1.out, h1.cks hk, by rw [← hw1, ← hg]; exact heap_alloc_new w _, h.lt⟩
  have hr := h.rise k hk
  have hset' := Lib.hid h
  have hk' := Lib.hid hk
  have hk0 : (0 : Int) ≤ (k : Int) := by omega
  have hk1 : (k : Int) < 16 := by omega
  have hqg : Hid (q < w.heap.size ∧ w.heap.size ≤ g ∧ g < w1.heap.size) := Lib.hid ⟨h.lt, by omega, by rw [← hw1, ← hg]; simp⟩
  have hi32 : Hid ((Try.prog.info? 29).map (·.size) = some 32) := Lib.hid (by kernel_rfl)
  have hxs : Hid ((u8s x).toArray.size = 32) := Lib.hid (by simp [u8s, hx.1])
  obtain ⟨Q, hQ⟩ : ∃ Q, RPinQ w q f k x = Q := ⟨_, rfl⟩
  rw [hQ]
  have hQ' := Lib.hid hQ
  have hbX : Hid _ := Lib.hid (builtK x hx.1)
  have honX : Hid (∀ u ∈ (u8s x).toArray.toList, u.oneCell' = true) := Lib.hid (fun u hu => u8s_one u (by simpa using hu))
  have hx' := Lib.hid hx
  obtain ⟨ks, hks⟩ : ∃ ks, (f k).ks = ks := ⟨_, rfl⟩
  have hks' := Lib.hid hks
  have hA0 : Hid ((f k).ks = ks → ks ∈ [ks]) := Lib.hid (fun _ => by simp)
  rw [hks] at hown hH hR0 hr hL
  obtain ⟨A, hA⟩ : ∃ A, (f k).A = A := ⟨_, rfl⟩
  obtain ⟨c, hc⟩ : ∃ c, (f k).c = c := ⟨_, rfl⟩
  rw [hA, hc] at hown hR0
  have hA' := Lib.hid hA
  have hc' := Lib.hid hc
  obtain ⟨N, hN⟩ : ∃ N, ks.length = N := ⟨_, rfl⟩
  have hN' := Lib.hid hN
  have hr' := Lib.hid hr
  rw [hN] at hR0 hL
  have hR1 := hR0
  clear h h1 ho hA0 hA hc hN
  by_cases hm : x ∈ ks
  · rw [decide_eq_true hm] at hH
    have hfin : Hid (∀ w5, Below w1.heap.size w1 w5 → Q (.returned (.int .i64 0)) w5) := Lib.hid fun w5 h5 => by
      rw [← hQ'.out]
      refine ⟨rfl, ⟨A, c, ?_⟩, (Upd.of_below hB1.out).trans (Upd.of_below h5)⟩
      have e : updR f k { f k with ks := insK x (f k).ks, A := A, c := c } = f := by
        funext j
        by_cases e : j = k
        · subst e
          rw [updR_same, hks'.out, insK_of_mem hr'.out hm, ← hks'.out, ← hA'.out, ← hc'.out]
        · rw [updR_other f _ e]
      rw [e]
      exact (hset'.out.below hB1.out (Nat.le_refl _)).below h5 (Nat.le_refl _)
    clear hx hQ hm hs hk hr hks
    go_enter Try.func26, Try.ntmps26
    go_wp2_with (first
      | (go_at_call 37; (first | rw [hw1] | skip); refine ho'.out.mono ?_; rintro e w5 ⟨rfl, h5⟩; have h6 := h5.symm; clear h5; subst h6; clear ho')
      | (refine wpList_load_row rfl 29 _ rfl g rfl 29 (u8s x).toArray (0, 0) _ hR1.out.key Try.underlying29 rfl (by rw [hxs.out]; exact hi32.out) ?_)
      | (go_at_call 38; refine hH.out.mono ?_; rintro e w5 ⟨rfl, b5⟩; have hf := Lib.hid (hfin.out w5 b5); clear b5 hH))
    exact hf.out
  rw [decide_eq_false hm] at hH
  have hm' := Lib.hid hm
  clear hx hQ hm hs hk hr hks
  go_enter Try.func26, Try.ntmps26
  go_wp2_with (first
    | (go_at_call 37; (first | rw [hw1] | skip); refine ho'.out.mono ?_; rintro e w5 ⟨rfl, h5⟩; have h6 := h5.symm; clear h5; subst h6; clear ho')
    | (refine wpList_load_row rfl 29 _ rfl g rfl 29 (u8s x).toArray (0, 0) _ hR1.out.key Try.underlying29 rfl (by rw [hxs.out]; exact hi32.out) ?_)
    | (go_at_call 38; refine hH.out.mono ?_; rintro e w5 ⟨rfl, b5⟩; have hR5 := Lib.hid (hR1.out.keep b5); have hb5 := Lib.hid b5; clear b5 hH))
  clear hw1
  obtain ⟨lo, hlo0⟩ : ∃ lo, w5.heap.size = lo := ⟨_, rfl⟩
  have hlo : Hid (lo ≤ w5.heap.size) := Lib.hid (by omega)
  have hqg : Hid ((q < lo ∧ w.heap.size ≤ lo) ∧ g < lo) := Lib.hid (by
    have h1 := hqg.out
    have h2 := hb5.out.size
    omega)
  have hlo0' := Lib.hid hlo0
  clear hlo0 hR0
  go_loopw [7, 8, 9] (fun lv dv iv wr => ∃ (i K c5 : Nat) (A5 : Option Addr) (d : Bool) (pre : List (List Nat)), i ≤ N ∧ K ≤ i + d.toNat ∧ lv = .slice A5 K c5 ∧ dv = .bool d ∧ iv = .int .i64 (i : Int) ∧ Hid (addJ x (ks.take i) ([], false) = (pre, d)) ∧ Hid (RQ w q k A N c g x wr) ∧ Hid (lo ≤ wr.heap.size) ∧ Hid (Own wr lo 29 32 A5 K c5 (rowsK pre))) (fun _ _ iv _ => N - (intOf iv).toNat)
  case atStart => exact ⟨0, 0, 0, none, false, [], by omega, by simp, rfl, rfl, rfl, Lib.hid rfl, hR5, hlo, Lib.hid (Own.nil _ _ _ _)⟩
  case round =>
    clear hR5 hlo
    obtain ⟨i, K, c5, A5, d, pre, hi, hK, rfl, rfl, rfl, hF, hR, hlo, hO⟩ := hrel
    have c0 := hR.out.cel
    have hK1 : K ≤ i + 1 := by cases d <;> simp at hK <;> omega
    by_cases hlt : i < N
    · obtain ⟨y, hy⟩ : ∃ y, ks[i]? = some y := ⟨_, List.getElem?_eq_getElem (by rw [hN'.out]; exact hlt)⟩
      have hym := List.mem_of_getElem? hy
      have hyk : IsK y := hr'.out.ok y hym
      obtain ⟨b, off, rfl, hbl, hrg⟩ := ownK_at hown.out (fun z hz => (hr'.out.ok z hz).1) hy
      have hrk : Hid (∀ W, Below w.heap.size w W → W.rangeAt b (off + i * 32) (u8s y)) := Lib.hid fun W hW => rangeAt_belowQ hW hbl hrg
      have hy32 : Hid ((u8s y).length = 32) := Lib.hid (by simp [u8s, hyk.1])
      have hys : Hid ((u8s y).toArray.size = 32) := Lib.hid (by simp [u8s, hyk.1])
      have hbY : Hid _ := Lib.hid (builtK y hyk.1)
      have honY : Hid (∀ u ∈ (u8s y).toArray.toList, u.oneCell' = true) := Lib.hid (fun u hu => u8s_one u (by simpa using hu))
      have hd : Hid (RQ w q k (some ⟨b, off, none⟩) N c g x wr.drew) := Lib.hid (hR.out.keep (below_drewN (Below.refl _ _) 1))
      have hOd : Hid (Own wr.drew lo 29 32 A5 K c5 (rowsK pre)) := Lib.hid (hO.out.below (below_drewN (Below.refl _ _) 1) (fun k hk => (hO.out.lt k hk).2))
      have hFs : Hid (addJ x (ks.take (i + 1)) ([], false) = stepJ x (pre, d) y) := Lib.hid (by rw [List.take_add_one, hy, Option.toList_some, addJ_snoc, hF.out])
      have hCm : Hid (∀ W, Calls Try.prog 9 #[.agg (u8s x).toArray, .agg (u8s y).toArray] W fun e w' => e = .returned (.bool (decide (cmpK x y < 0))) ∧ Below W.heap.size W w') := Lib.hid fun W => refLess_any W x y hx'.out hyk
      have hxy : x ≠ y := fun e => hm'.out (e ▸ hym)
      have hc0 : cmpK x y ≠ 0 := fun e => hxy (cmpK_eq hx'.out hyk e)
      clear hF hR hO hy hym hbl hrg hxy
      have hO := hOd
      clear hOd
      cases d <;> simp only [Bool.toNat_false, Bool.toNat_true, Nat.add_zero] at hK
      · by_cases hc : cmpK x y < 0
        · have hFx : Hid (addJ x (ks.take (i + 1)) ([], false) = (pre ++ [x] ++ [y], true)) := Lib.hid (by rw [hFs.out]; simp [stepJ, hc])
          rw [decide_eq_true hc] at hCm
          clear hFs hyk hc0 hc
          go_wp2_with fail
          refine wp_region_held (S := RQ w q k (some ⟨b, off, none⟩) N c g x) (by kernel_rfl) ?_
          change wpAnyH _ _ _ _ _ _ _ _ (World.drew _)
          refine tk (i := 0) (d := 29) (v := (.bool false)) rfl rfl (Or.inl ⟨by rfl, by intro W hW; clear hW; go_simp⟩) hd.out ?_
          simp only [List.setIfInBounds_toArray, List.set_cons_zero, List.set_cons_succ]
          refine tk (i := 1) (d := 30) (v := (.bool true)) rfl rfl (Or.inl ⟨by rfl, by intro W hW; clear hW; go_simp⟩) hd.out ?_
          simp only [List.setIfInBounds_toArray, List.set_cons_zero, List.set_cons_succ]
          refine tk (i := 2) (d := 31) (v := (.bool true)) rfl rfl (Or.inl ⟨by rfl, by intro W hW; clear hW; go_simp⟩) hd.out ?_
          simp only [List.setIfInBounds_toArray, List.set_cons_zero, List.set_cons_succ]
          refine tk (i := 3) (d := 32) (v := (.agg (u8s x).toArray)) rfl rfl (yieldsIf_load_row (by rfl) 29 _ rfl g rfl 29 (u8s x).toArray (0, 0) _ (fun W hW => hW.key) Try.underlying29 rfl (by rw [hxs.out]; exact hi32.out)) hd.out ?_
          simp only [List.setIfInBounds_toArray, List.set_cons_zero, List.set_cons_succ]
          refine tk (i := 4) (d := 33) (v := (.pointer (some ⟨q, 0, none⟩))) rfl rfl (Or.inl ⟨by rfl, by intro W hW; clear hW; go_simp⟩) hd.out ?_
          simp only [List.setIfInBounds_toArray, List.set_cons_zero, List.set_cons_succ]
          refine tk (i := 5) (d := 34) (v := (.int .i64 (k : Int))) rfl rfl (Or.inl ⟨by rfl, by intro W hW; clear hW; go_simp⟩) hd.out ?_
          simp only [List.setIfInBounds_toArray, List.set_cons_zero, List.set_cons_succ]
          refine tk (i := 6) (d := 35) (v := (.pointer (some ⟨q, 0, none⟩))) rfl rfl (Or.inl ⟨by rfl, by intro W hW; clear hW; go_simp⟩) hd.out ?_
          simp only [List.setIfInBounds_toArray, List.set_cons_zero, List.set_cons_succ]
          refine tk (i := 7) (d := 36) (v := (.pointer (some ⟨q, 32, none⟩))) rfl rfl (Or.inl ⟨by rfl, by intro W hW; clear hW; go_simp⟩) hd.out ?_
          simp only [List.setIfInBounds_toArray, List.set_cons_zero, List.set_cons_succ]
          refine tk (i := 8) (d := 37) (v := (.pointer (some ⟨q, 32 + k, none⟩))) rfl rfl (Or.inl ⟨by rfl, by intro W hW; clear hW; go_simp⟩) hd.out ?_
          simp only [List.setIfInBounds_toArray, List.set_cons_zero, List.set_cons_succ]
          refine tk (i := 9) (d := 38) (v := (.slice (some ⟨b, off, none⟩) N c)) rfl rfl (Or.inl ⟨by rfl, by intro W hW; have c0 := hW.cel; clear hW; go_simp⟩) hd.out ?_
          simp only [List.setIfInBounds_toArray, List.set_cons_zero, List.set_cons_succ]
          refine tk (i := 10) (d := 39) (v := (.int .i64 (i : Int))) rfl rfl (Or.inl ⟨by rfl, by intro W hW; clear hW; go_simp⟩) hd.out ?_
          simp only [List.setIfInBounds_toArray, List.set_cons_zero, List.set_cons_succ]
          refine tk (i := 11) (d := 40) (v := (.pointer (some ⟨b, off + i * 32, none⟩))) rfl rfl (Or.inl ⟨by rfl, by intro W hW; clear hW; go_simp⟩) hd.out ?_
          simp only [List.setIfInBounds_toArray, List.set_cons_zero, List.set_cons_succ]
          refine tk (i := 12) (d := 41) (v := (.agg (u8s y).toArray)) rfl rfl (yieldsIf_load_mid (by rfl) 29 _ rfl b (off + i * 32) rfl (u8s y) _ (fun W hW => hrk.out W hW.bel) Try.underlying29 rfl (by rw [hy32.out]; exact hi32.out)) hd.out ?_
          simp only [List.setIfInBounds_toArray, List.set_cons_zero, List.set_cons_succ]
          refine wpAnyH_ready (rs := [13]) (by kernel_rfl) (by simp) ?_
          refine AllReadyH.cons rfl (fun K hK => ?_) AllReadyH.nil
          go_simp
          refine (hCm.out _).mono ?_
          rintro e v1 ⟨rfl, q1⟩
          have hd1 : Hid (RQ w q k (some ⟨b, off, none⟩) N c g x v1) := Lib.hid (hd.out.keep q1)
          have hO1 := Lib.hid (hO.out.below q1 (fun k hk => (hO.out.lt k hk).2))
          have hl1 := Lib.hid (Nat.le_trans hlo.out q1.size)
          clear q1
          refine hK.out _ _ hd1.out (fun _ => ?_)
          clear hK K
          refine tk (i := 14) (d := 43) (v := (.bool true)) rfl rfl (Or.inl ⟨by rfl, by intro W hW; clear hW; go_simp⟩) hd1.out ?_
          simp only [List.setIfInBounds_toArray, List.set_cons_zero, List.set_cons_succ]
          refine wpAnyH_done (by kernel_rfl) ?_ _
          have hdz := hd1
          have hOz := hO1.out
          have c0 := hdz.out.cel
          have hlz := hl1
          go_wp2_with (first
            | (refine wpList_load_row rfl 29 _ rfl g rfl 29 (u8s x).toArray (0, 0) _ hdz.out.key Try.underlying29 rfl (by rw [hxs.out]; exact hi32.out) ?_)
            | (refine Great.wpList_buildSliceTo rfl 32 29 1 _ rfl _ rfl _ rfl Try.underlying32 (u8s x).toArray (by rw [List.map_toArray]; exact hbX.out) ?_)
            | (at_builtin; refine wpList_app1 elK _ (u8s x).toArray hxs.out rfl _ _ rfl rfl hOz rfl honX.out (by unfold maxLen; omega) (by omega) hlz.out (K + 1) rfl (rowsK (pre ++ [x])) (by simp [rowsK]) ?_
               intro A6 c6 w6 o6 at6 b6
               have o6' := Lib.hid o6
               have hd6 := Lib.hid (hdz.out.app b6 hqg.out.1 hqg.out.2)
               have c0 := hd6.out.cel
               have hl6 := Lib.hid (Nat.le_trans hlz.out at6.grown.size)
               clear o6 at6 b6 hdz hOz)
            | (refine wpList_load_mid rfl 29 _ rfl b (off + i * 32) rfl (u8s y) _ (hrk.out _ hd6.out.bel) Try.underlying29 rfl (by rw [hy32.out]; exact hi32.out) ?_)
            | (refine Great.wpList_buildSliceTo rfl 32 29 1 _ rfl _ rfl _ rfl Try.underlying32 (u8s y).toArray (by rw [List.map_toArray]; exact hbY.out) ?_)
            | (at_builtin; refine wpList_app1 elK _ (u8s y).toArray hys.out rfl _ _ rfl rfl o6'.out rfl honY.out (by unfold maxLen; omega) (by omega) hl6.out (K + 2) rfl (rowsK (pre ++ [x] ++ [y])) (by simp [rowsK]) ?_
               intro A7 c7 w7 o7 at7 b7
               have o7' := Lib.hid o7
               have hd7 := Lib.hid (hd6.out.app b7 hqg.out.1 hqg.out.2)
               have hl7 := Lib.hid (Nat.le_trans hl6.out at7.grown.size)
               clear o7 at7 b7))
          go_roundw
          case rel => exact ⟨i + 1, K + 2, c7, A7, true, pre ++ [x] ++ [y], by omega, by simp; omega, rfl, rfl, by go_num, hFx, hd7, hl7, o7'⟩
          case measure => simp [intOf]; omega
        · have hFx : Hid (addJ x (ks.take (i + 1)) ([], false) = (pre ++ [y], false)) := Lib.hid (by rw [hFs.out]; simp [stepJ, hc])
          rw [decide_eq_false hc] at hCm
          clear hFs hyk hc0 hc
          go_wp2_with fail
          refine wp_region_held (S := RQ w q k (some ⟨b, off, none⟩) N c g x) (by kernel_rfl) ?_
          change wpAnyH _ _ _ _ _ _ _ _ (World.drew _)
          refine tk (i := 0) (d := 29) (v := (.bool false)) rfl rfl (Or.inl ⟨by rfl, by intro W hW; clear hW; go_simp⟩) hd.out ?_
          simp only [List.setIfInBounds_toArray, List.set_cons_zero, List.set_cons_succ]
          refine tk (i := 1) (d := 30) (v := (.bool true)) rfl rfl (Or.inl ⟨by rfl, by intro W hW; clear hW; go_simp⟩) hd.out ?_
          simp only [List.setIfInBounds_toArray, List.set_cons_zero, List.set_cons_succ]
          refine tk (i := 2) (d := 31) (v := (.bool true)) rfl rfl (Or.inl ⟨by rfl, by intro W hW; clear hW; go_simp⟩) hd.out ?_
          simp only [List.setIfInBounds_toArray, List.set_cons_zero, List.set_cons_succ]
          refine tk (i := 3) (d := 32) (v := (.agg (u8s x).toArray)) rfl rfl (yieldsIf_load_row (by rfl) 29 _ rfl g rfl 29 (u8s x).toArray (0, 0) _ (fun W hW => hW.key) Try.underlying29 rfl (by rw [hxs.out]; exact hi32.out)) hd.out ?_
          simp only [List.setIfInBounds_toArray, List.set_cons_zero, List.set_cons_succ]
          refine tk (i := 4) (d := 33) (v := (.pointer (some ⟨q, 0, none⟩))) rfl rfl (Or.inl ⟨by rfl, by intro W hW; clear hW; go_simp⟩) hd.out ?_
          simp only [List.setIfInBounds_toArray, List.set_cons_zero, List.set_cons_succ]
          refine tk (i := 5) (d := 34) (v := (.int .i64 (k : Int))) rfl rfl (Or.inl ⟨by rfl, by intro W hW; clear hW; go_simp⟩) hd.out ?_
          simp only [List.setIfInBounds_toArray, List.set_cons_zero, List.set_cons_succ]
          refine tk (i := 6) (d := 35) (v := (.pointer (some ⟨q, 0, none⟩))) rfl rfl (Or.inl ⟨by rfl, by intro W hW; clear hW; go_simp⟩) hd.out ?_
          simp only [List.setIfInBounds_toArray, List.set_cons_zero, List.set_cons_succ]
          refine tk (i := 7) (d := 36) (v := (.pointer (some ⟨q, 32, none⟩))) rfl rfl (Or.inl ⟨by rfl, by intro W hW; clear hW; go_simp⟩) hd.out ?_
          simp only [List.setIfInBounds_toArray, List.set_cons_zero, List.set_cons_succ]
          refine tk (i := 8) (d := 37) (v := (.pointer (some ⟨q, 32 + k, none⟩))) rfl rfl (Or.inl ⟨by rfl, by intro W hW; clear hW; go_simp⟩) hd.out ?_
          simp only [List.setIfInBounds_toArray, List.set_cons_zero, List.set_cons_succ]
          refine tk (i := 9) (d := 38) (v := (.slice (some ⟨b, off, none⟩) N c)) rfl rfl (Or.inl ⟨by rfl, by intro W hW; have c0 := hW.cel; clear hW; go_simp⟩) hd.out ?_
          simp only [List.setIfInBounds_toArray, List.set_cons_zero, List.set_cons_succ]
          refine tk (i := 10) (d := 39) (v := (.int .i64 (i : Int))) rfl rfl (Or.inl ⟨by rfl, by intro W hW; clear hW; go_simp⟩) hd.out ?_
          simp only [List.setIfInBounds_toArray, List.set_cons_zero, List.set_cons_succ]
          refine tk (i := 11) (d := 40) (v := (.pointer (some ⟨b, off + i * 32, none⟩))) rfl rfl (Or.inl ⟨by rfl, by intro W hW; clear hW; go_simp⟩) hd.out ?_
          simp only [List.setIfInBounds_toArray, List.set_cons_zero, List.set_cons_succ]
          refine tk (i := 12) (d := 41) (v := (.agg (u8s y).toArray)) rfl rfl (yieldsIf_load_mid (by rfl) 29 _ rfl b (off + i * 32) rfl (u8s y) _ (fun W hW => hrk.out W hW.bel) Try.underlying29 rfl (by rw [hy32.out]; exact hi32.out)) hd.out ?_
          simp only [List.setIfInBounds_toArray, List.set_cons_zero, List.set_cons_succ]
          refine wpAnyH_ready (rs := [13]) (by kernel_rfl) (by simp) ?_
          refine AllReadyH.cons rfl (fun K hK => ?_) AllReadyH.nil
          go_simp
          refine (hCm.out _).mono ?_
          rintro e v1 ⟨rfl, q1⟩
          have hd1 : Hid (RQ w q k (some ⟨b, off, none⟩) N c g x v1) := Lib.hid (hd.out.keep q1)
          have hO1 := Lib.hid (hO.out.below q1 (fun k hk => (hO.out.lt k hk).2))
          have hl1 := Lib.hid (Nat.le_trans hlo.out q1.size)
          clear q1
          refine hK.out _ _ hd1.out (fun _ => ?_)
          clear hK K
          refine tk (i := 14) (d := 43) (v := (.bool false)) rfl rfl (Or.inl ⟨by rfl, by intro W hW; clear hW; go_simp⟩) hd1.out ?_
          simp only [List.setIfInBounds_toArray, List.set_cons_zero, List.set_cons_succ]
          refine wpAnyH_done (by kernel_rfl) ?_ _
          have hdz := hd1
          have hOz := hO1.out
          have c0 := hdz.out.cel
          have hlz := hl1
          go_wp2_with (first
            | (refine wpList_load_mid rfl 29 _ rfl b (off + i * 32) rfl (u8s y) _ (hrk.out _ hdz.out.bel) Try.underlying29 rfl (by rw [hy32.out]; exact hi32.out) ?_)
            | (refine Great.wpList_buildSliceTo rfl 32 29 1 _ rfl _ rfl _ rfl Try.underlying32 (u8s y).toArray (by rw [List.map_toArray]; exact hbY.out) ?_)
            | (at_builtin; refine wpList_app1 elK _ (u8s y).toArray hys.out rfl _ _ rfl rfl hOz rfl honY.out (by unfold maxLen; omega) (by omega) hlz.out (K + 1) rfl (rowsK (pre ++ [y])) (by simp [rowsK]) ?_
               intro A7 c7 w7 o7 at7 b7
               have o7' := Lib.hid o7
               have hd7 := Lib.hid (hdz.out.app b7 hqg.out.1 hqg.out.2)
               have hl7 := Lib.hid (Nat.le_trans hlz.out at7.grown.size)
               clear o7 at7 b7))
          go_roundw
          case rel => exact ⟨i + 1, K + 1, c7, A7, false, pre ++ [y], by omega, by simp; omega, rfl, rfl, by go_num, hFx, hd7, hl7, o7'⟩
          case measure => simp [intOf]; omega
      · have hFx : Hid (addJ x (ks.take (i + 1)) ([], false) = (pre ++ [y], true)) := Lib.hid (by rw [hFs.out]; simp [stepJ])
        clear hFs hyk hc0 hCm
        go_wp2_with fail
        refine wp_region_held (S := RQ w q k (some ⟨b, off, none⟩) N c g x) (by kernel_rfl) ?_
        change wpAnyH _ _ _ _ _ _ _ _ (World.drew _)
        refine tk (i := 0) (d := 29) (v := (.bool true)) rfl rfl (Or.inl ⟨by rfl, by intro W hW; clear hW; go_simp⟩) hd.out ?_
        simp only [List.setIfInBounds_toArray, List.set_cons_zero, List.set_cons_succ]
        refine tk (i := 1) (d := 30) (v := (.bool false)) rfl rfl (Or.inl ⟨by rfl, by intro W hW; clear hW; go_simp⟩) hd.out ?_
        simp only [List.setIfInBounds_toArray, List.set_cons_zero, List.set_cons_succ]
        refine tk (i := 2) (d := 31) (v := (.bool false)) rfl rfl (Or.inl ⟨by rfl, by intro W hW; clear hW; go_simp⟩) hd.out ?_
        simp only [List.setIfInBounds_toArray, List.set_cons_zero, List.set_cons_succ]
        refine tk (i := 3) (d := 32) (v := undef) rfl rfl (Or.inr ⟨by rfl, by rfl⟩) hd.out ?_
        simp only [List.setIfInBounds_toArray, List.set_cons_zero, List.set_cons_succ]
        refine tk (i := 4) (d := 33) (v := undef) rfl rfl (Or.inr ⟨by rfl, by rfl⟩) hd.out ?_
        simp only [List.setIfInBounds_toArray, List.set_cons_zero, List.set_cons_succ]
        refine tk (i := 5) (d := 34) (v := undef) rfl rfl (Or.inr ⟨by rfl, by rfl⟩) hd.out ?_
        simp only [List.setIfInBounds_toArray, List.set_cons_zero, List.set_cons_succ]
        refine tk (i := 6) (d := 35) (v := undef) rfl rfl (Or.inr ⟨by rfl, by rfl⟩) hd.out ?_
        simp only [List.setIfInBounds_toArray, List.set_cons_zero, List.set_cons_succ]
        refine tk (i := 7) (d := 36) (v := undef) rfl rfl (Or.inr ⟨by rfl, by rfl⟩) hd.out ?_
        simp only [List.setIfInBounds_toArray, List.set_cons_zero, List.set_cons_succ]
        refine tk (i := 8) (d := 37) (v := undef) rfl rfl (Or.inr ⟨by rfl, by rfl⟩) hd.out ?_
        simp only [List.setIfInBounds_toArray, List.set_cons_zero, List.set_cons_succ]
        refine tk (i := 9) (d := 38) (v := undef) rfl rfl (Or.inr ⟨by rfl, by rfl⟩) hd.out ?_
        simp only [List.setIfInBounds_toArray, List.set_cons_zero, List.set_cons_succ]
        refine tk (i := 10) (d := 39) (v := undef) rfl rfl (Or.inr ⟨by rfl, by rfl⟩) hd.out ?_
        simp only [List.setIfInBounds_toArray, List.set_cons_zero, List.set_cons_succ]
        refine tk (i := 11) (d := 40) (v := undef) rfl rfl (Or.inr ⟨by rfl, by rfl⟩) hd.out ?_
        simp only [List.setIfInBounds_toArray, List.set_cons_zero, List.set_cons_succ]
        refine tk (i := 12) (d := 41) (v := undef) rfl rfl (Or.inr ⟨by rfl, by rfl⟩) hd.out ?_
        simp only [List.setIfInBounds_toArray, List.set_cons_zero, List.set_cons_succ]
        refine wpAnyH_ready (rs := [13]) (by kernel_rfl) (by simp) ?_
        refine AllReadyH.cons rfl (fun K hK => ?_) AllReadyH.nil
        go_simp
        refine hK.out _ _ hd.out (fun _ => ?_)
        clear hK K
        refine tk (i := 14) (d := 43) (v := (.bool false)) rfl rfl (Or.inl ⟨by rfl, by intro W hW; clear hW; go_simp⟩) hd.out ?_
        simp only [List.setIfInBounds_toArray, List.set_cons_zero, List.set_cons_succ]
        refine wpAnyH_done (by kernel_rfl) ?_ _
        have hdz := hd
        have hOz := hO.out
        have c0 := hdz.out.cel
        have hlz := hlo
        go_wp2_with (first
          | (refine wpList_load_mid rfl 29 _ rfl b (off + i * 32) rfl (u8s y) _ (hrk.out _ hdz.out.bel) Try.underlying29 rfl (by rw [hy32.out]; exact hi32.out) ?_)
          | (refine Great.wpList_buildSliceTo rfl 32 29 1 _ rfl _ rfl _ rfl Try.underlying32 (u8s y).toArray (by rw [List.map_toArray]; exact hbY.out) ?_)
          | (at_builtin; refine wpList_app1 elK _ (u8s y).toArray hys.out rfl _ _ rfl rfl hOz rfl honY.out (by unfold maxLen; omega) (by omega) hlz.out (K + 1) rfl (rowsK (pre ++ [y])) (by simp [rowsK]) ?_
             intro A7 c7 w7 o7 at7 b7
             have o7' := Lib.hid o7
             have hd7 := Lib.hid (hdz.out.app b7 hqg.out.1 hqg.out.2)
             have hl7 := Lib.hid (Nat.le_trans hlz.out at7.grown.size)
             clear o7 at7 b7))
        go_roundw
        case rel => exact ⟨i + 1, K + 1, c7, A7, true, pre ++ [y], by omega, by simp; omega, rfl, rfl, by go_num, hFx, hd7, hl7, o7'⟩
        case measure => simp [intOf]; omega
    · have f0 : wr.frozen? ⟨q, 32 + k, none⟩ = false := (hset'.out.below hR.out.bel (Nat.le_refl _)).frozen _
      have hpre : Hid (addJ x ks ([], false) = (pre, d)) := Lib.hid (by have := hF.out; rwa [List.take_of_length_le (by rw [hN'.out]; omega)] at this)
      have hfinl : Hid (∀ (W : World) (A9 : Option Addr) (c9 K9 : Nat) (l : List (List Nat)), l = insK x ks → Own W lo 29 32 A9 K9 c9 (rowsK l) → W.cell? ⟨q, 32 + k, none⟩ = some (.slice A N c) → RQ w q k A N c g x W → lo ≤ W.heap.size → Q (.returned (.int .i64 0)) (W.setCell ⟨q, 32 + k, none⟩ (.slice A9 K9 c9))) := Lib.hid (by
        intro W A9 c9 K9 l hl ho hc9 hR9 hl9
        rw [← hQ'.out]
        have hrl := hr'.out.ins hx'.out
        have hlen : K9 = (insK x ks).length := by
          rw [← hl]
          exact (ownK_len ho (fun z hz => (hrl.ok z (hl ▸ hz)).1)).symm
        have hRf := hset'.out.below hR9.bel (Nat.le_refl _)
        rw [hlen, hl] at ho
        refine ⟨rfl, ⟨A9, c9, ?_⟩, (Upd.of_below hR9.bel).trans (Upd.set (F := AtQ q) W (p := ⟨q, 32 + k, none⟩) rfl _)⟩
        have := hRf.setKs hk'.out ho hrl
        rw [← hlen] at this
        rw [hks'.out]
        exact this)
      have hins : Hid (∀ pre', (if d then pre else pre ++ [x]) = pre' → pre' = insK x ks) := Lib.hid fun pre' hp => by
        have := addJ_fin ks [] hm'.out
        rw [hpre.out] at this
        simpa [← hp] using this
      clear hpre hF
      cases d
      · go_wp2_with (first
          | (refine wpList_load_row rfl 29 _ rfl g rfl 29 (u8s x).toArray (0, 0) _ hR.out.key Try.underlying29 rfl (by rw [hxs.out]; exact hi32.out) ?_)
          | (refine Great.wpList_buildSliceTo rfl 32 29 1 _ rfl _ rfl _ rfl Try.underlying32 (u8s x).toArray (by rw [List.map_toArray]; exact hbX.out) ?_)
          | (at_builtin; refine wpList_app1 elK _ (u8s x).toArray hxs.out rfl _ _ rfl rfl hO.out rfl honX.out (by unfold maxLen; omega) (by omega) hlo.out (K + 1) rfl (rowsK (pre ++ [x])) (by simp [rowsK]) ?_
             intro A6 c6 w6 o6 at6 b6
             have o6' := Lib.hid o6
             have hd6 := Lib.hid (hR.out.app b6 hqg.out.1 hqg.out.2)
             have c0 := hd6.out.cel
             have f0 : w6.frozen? ⟨q, 32 + k, none⟩ = false := (hset'.out.below hd6.out.bel (Nat.le_refl _)).frozen _
             have hl6 := Lib.hid (Nat.le_trans hlo.out at6.grown.size)
             clear o6 at6 b6))
        have hf := Lib.hid (hfinl.out w6 A6 c6 (K + 1) (pre ++ [x]) (hins.out _ (by simp)) o6'.out c0 hd6.out hl6.out)
        exact hf.out
      · go_wp2_with fail
        have hf := Lib.hid (hfinl.out wr A5 c5 K pre (hins.out _ (by simp)) hO.out c0 hR.out hlo.out)
        exact hf.out
end Go.Proofs.Ytgjokkjmljdmbaa
