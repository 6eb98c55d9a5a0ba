/- The document's set: Add. (Printed by tools/gensr.py.) -/
import Derived.Test.YtlolnpilpdkbkaaPkA17

namespace Go.Proofs.Ytlolnpilpdkbkaa
open Go.RowKit Go.Maps
set_option linter.unusedSimpArgs false
set_option linter.unusedVariables false

/-- The list that Add builds, and whether the key is in it. -/
def stepA (x : List Nat) (s : List (List Nat) × Bool) (y : List Nat) : List (List Nat) × Bool := if s.2 = false ∧ cmpK x y < 0 then (s.1 ++ [x] ++ [y], true) else (s.1 ++ [y], s.2)
def addF (x : List Nat) (ys : List (List Nat)) (s : List (List Nat) × Bool) : List (List Nat) × Bool := ys.foldl (stepA x) s
theorem addF_snoc (x y : List Nat) (ys : List (List Nat)) (s : List (List Nat) × Bool) : addF x (ys ++ [y]) s = stepA x (addF x ys s) y := by simp [addF]
theorem addF_true (x : List Nat) : ∀ (ys l : List (List Nat)), addF x ys (l, true) = (l ++ ys, true)
  | [], l => by simp [addF]
  | y :: r, l => by
    have := addF_true x r (l ++ [y])
    unfold addF at this ⊢
    rw [List.foldl_cons, show stepA x (l, true) y = (l ++ [y], true) by simp [stepA], this]
    simp
theorem addF_fin {x : List Nat} : ∀ (ys l : List (List Nat)), x ∉ ys → (if (addF x ys (l, false)).2 then (addF x ys (l, false)).1 else (addF x ys (l, false)).1 ++ [x]) = l ++ insK x ys
  | [], l, _ => by simp [addF, insK]
  | y :: r, l, h => by
    by_cases hc : cmpK x y < 0
    · have : addF x (y :: r) (l, false) = (l ++ [x] ++ [y] ++ r, true) := by
        have h2 := addF_true x r (l ++ [x] ++ [y])
        unfold addF at h2 ⊢
        rw [List.foldl_cons, show stepA x (l, false) y = (l ++ [x] ++ [y], true) by simp [stepA, hc], h2]
      rw [this]
      simp [insK, hc]
    · have : addF x (y :: r) (l, false) = addF x r (l ++ [y], false) := by
        unfold addF
        rw [List.foldl_cons, show stepA x (l, false) y = (l ++ [y], false) by simp [stepA, hc]]
      rw [this, addF_fin r _ (fun hm => h (by simp [hm]))]
      have hne : x ≠ y := fun e => h (by simp [e])
      simp [insK, hc, hne]
theorem addF_len (x : List Nat) : ∀ (ys : List (List Nat)) (s : List (List Nat) × Bool), (addF x ys s).1.length ≤ s.1.length + ys.length + 1
  | [], s => by simp [addF]
  | y :: r, (l, true) => by
    rw [addF_true]
    simp <;> omega
  | y :: r, (l, false) => by
    by_cases hc : cmpK x y < 0
    · have : addF x (y :: r) (l, false) = (l ++ [x] ++ [y] ++ r, true) := by
        have h2 := addF_true x r (l ++ [x] ++ [y])
        unfold addF at h2 ⊢
        rw [List.foldl_cons, show stepA x (l, false) y = (l ++ [x] ++ [y], true) by simp [stepA, hc], h2]
      rw [this]
      simp <;> omega
    · have : addF x (y :: r) (l, false) = addF x r (l ++ [y], false) := by
        unfold addF
        rw [List.foldl_cons, show stepA x (l, false) y = (l ++ [y], false) by simp [stepA, hc]]
      rw [this]
      have := addF_len x r (l ++ [y], false)
      simp at this ⊢
      omega
theorem RH.app {w0 W W' : World} {q N c g lo : Nat} {A : Option Addr} {x : List Nat} (h : RH w0 q A N c g x W) (hb : Below lo W W') (h1 : q < lo ∧ w0.heap.size ≤ lo) (h2 : g < lo) : RH w0 q A N c g x W' :=
  ⟨h.bel.trans (hb.mono h1.2), (hb.block _ h1.1).trans h.set, (hb.block _ h2).trans h.key⟩
def RAddP (w : World) (q : Nat) (ks : List (List Nat)) (x : List Nat) (e : Ending) (w' : World) : Prop :=
  e = .returned (.bool (!decide (x ∈ ks))) ∧ (∃ A c, RSet w' q A c (insK x ks)) ∧ Upd (fun k => k = q) w w'
set_option maxRecDepth 100000 in
set_option maxHeartbeats 4000000 in
theorem rAdd_any (w : World) (q c : Nat) (A : Option Addr) (ks : List (List Nat)) (h : RSet w q A c ks) (hr : Rise32 ks) (hL : ks.length ≤ 4194304) (x : List Nat) (hx : IsK x) :
    Calls Try.prog 38 #[.pointer (some ⟨q, 0, none⟩), .agg (u8s x).toArray] w (RAddP w q ks x) := by
  have hR0 := Lib.hid (RH.start h x)
  have hown := Lib.hid h.2
  have hi32 : Hid ((Try.prog.info? 25).map (·.size) = some 32) := Lib.hid (by kernel_rfl)
  have hxs : Hid ((u8s x).toArray.size = 32) := Lib.hid (by simp [u8s, hx.1])
  obtain ⟨w1, hw1⟩ : ∃ w1, w.alloc (.cells (u8s x).toArray 25) = w1 := ⟨_, rfl⟩
  have hB1 : Hid (Below w.heap.size w w1) := Lib.hid (by rw [← hw1]; exact (Below.refl _ _).alloc (Nat.le_refl _) _)
  have hH := Lib.hid (rHas_any w1 q c A ks (h.below hB1.out) hr.ok (by omega) x hx)
  obtain ⟨N, hN⟩ : ∃ N, ks.length = N := ⟨_, rfl⟩
  obtain ⟨g, hg⟩ : ∃ g, w.heap.size = g := ⟨_, rfl⟩
  have hqg : Hid (q < w.heap.size ∧ w.heap.size ≤ g ∧ g < w1.heap.size) := Lib.hid ⟨h.lts.1, by omega, by rw [← hw1, ← hg]; simp⟩
  have hN' := Lib.hid hN
  have hr' := Lib.hid hr
  have hx' := Lib.hid hx
  have hset' := Lib.hid h
  rw [hw1, hN] at hR0
  rw [hN] at hL
  have hR1 : Hid (RH w q A N c g x w1) := Lib.hid (hg ▸ hR0.out)
  obtain ⟨Q, hQ⟩ : ∃ Q, RAddP w q ks x = Q := ⟨_, rfl⟩
  rw [hQ]
  have hQ' := Lib.hid hQ
  have hbX : Hid _ := Lib.hid (builtK x hx.1)
  have honX : Hid (∀ u ∈ (u8s x).toArray.toList, u.oneCell' = true) := Lib.hid (fun u hu => u8s_one u (by simpa using hu))
  by_cases hm : x ∈ ks
  · rw [decide_eq_true hm] at hH
    have hfin : Hid (∀ w5, Below w1.heap.size w1 w5 → Q (.returned (.bool false)) w5) := Lib.hid fun w5 h5 => by
      rw [← hQ'.out]
      refine ⟨by rw [decide_eq_true hm]; rfl, ⟨A, c, ?_⟩, (Upd.of_below hB1.out).trans (Upd.of_below h5)⟩
      rw [insK_of_mem hr'.out hm]
      exact (hset'.out.below hB1.out).below h5
    clear h hr hx hQ hm
    go_enter Try.func38, Try.ntmps38
    go_wp2_with (first
      | (refine wpList_load_row rfl 25 _ rfl g rfl 25 (u8s x).toArray (0, 0) _ hR1.out.key Try.underlying25 rfl (by rw [hxs.out]; exact hi32.out) ?_)
      | (go_at_call 40; refine hH.out.mono ?_; rintro e w5 ⟨rfl, b5⟩; have hf := Lib.hid (hfin.out w5 b5); clear b5 hH))
    exact hf.out
  rw [decide_eq_false hm] at hH
  have hm' := Lib.hid hm
  clear h hr hx hQ hm
  go_enter Try.func38, Try.ntmps38
  go_wp2_with (first
    | (refine wpList_load_row rfl 25 _ rfl g rfl 25 (u8s x).toArray (0, 0) _ hR1.out.key Try.underlying25 rfl (by rw [hxs.out]; exact hi32.out) ?_)
    | (go_at_call 40; refine hH.out.mono ?_; rintro e w5 ⟨rfl, b5⟩; have hR5 := Lib.hid (hR1.out.keep b5); have hb5 := Lib.hid b5; clear b5 hH))
  clear hw1
  obtain ⟨lo, hlo0⟩ : ∃ lo, w5.heap.size = lo := ⟨_, rfl⟩
  have hlo : Hid (lo ≤ w5.heap.size) := Lib.hid (by omega)
  have hqg : Hid ((q < lo ∧ w.heap.size ≤ lo) ∧ g < lo) := Lib.hid (by
    have h1 := hqg.out
    have h2 := hb5.out.size
    omega)
  have hlo0' := Lib.hid hlo0
  clear hlo0 hR0
  go_loopw [5, 6, 7] (fun lv dv iv wr => ∃ (i K c5 : Nat) (A5 : Option Addr) (d : Bool) (pre : List (List Nat)), i ≤ N ∧ K ≤ i + d.toNat ∧ lv = .slice A5 K c5 ∧ dv = .bool d ∧ iv = .int .i64 (i : Int) ∧ Hid (addF x (ks.take i) ([], false) = (pre, d)) ∧ Hid (RH w q A N c g x wr) ∧ Hid (lo ≤ wr.heap.size) ∧ Hid (Own wr lo 25 32 A5 K c5 (rowsK pre))) (fun _ _ iv _ => N - (intOf iv).toNat)
  case atStart => exact ⟨0, 0, 0, none, false, [], by omega, by simp, rfl, rfl, rfl, Lib.hid rfl, hR5, hlo, Lib.hid (Own.nil _ _ _ _)⟩
  case round =>
    clear hR5 hlo
    obtain ⟨i, K, c5, A5, d, pre, hi, hK, rfl, rfl, rfl, hF, hR, hlo, hO⟩ := hrel
    have c0 := hR.out.cel
    have hK1 : K ≤ i + 1 := by cases d <;> simp at hK <;> omega
    by_cases hlt : i < N
    · obtain ⟨y, hy⟩ : ∃ y, ks[i]? = some y := ⟨_, List.getElem?_eq_getElem (by rw [hN'.out]; exact hlt)⟩
      have hym := List.mem_of_getElem? hy
      have hyk : IsK y := hr'.out.ok y hym
      obtain ⟨b, off, rfl, hbl, hrg⟩ := ownK_at hown.out (fun z hz => (hr'.out.ok z hz).1) hy
      have hrk : Hid (∀ W, Below w.heap.size w W → W.rangeAt b (off + i * 32) (u8s y)) := Lib.hid fun W hW => rangeAt_below hW hbl hrg
      have hy32 : Hid ((u8s y).length = 32) := Lib.hid (by simp [u8s, hyk.1])
      have hys : Hid ((u8s y).toArray.size = 32) := Lib.hid (by simp [u8s, hyk.1])
      have hbY : Hid _ := Lib.hid (builtK y hyk.1)
      have honY : Hid (∀ u ∈ (u8s y).toArray.toList, u.oneCell' = true) := Lib.hid (fun u hu => u8s_one u (by simpa using hu))
      have hd : Hid (RH w q (some ⟨b, off, none⟩) N c g x wr.drew) := Lib.hid (hR.out.keep (below_drewN (Below.refl _ _) 1))
      have hOd : Hid (Own wr.drew lo 25 32 A5 K c5 (rowsK pre)) := Lib.hid (hO.out.below (below_drewN (Below.refl _ _) 1) (fun k hk => (hO.out.lt k hk).2))
      have hFs : Hid (addF x (ks.take (i + 1)) ([], false) = stepA x (pre, d) y) := Lib.hid (by rw [List.take_add_one, hy, Option.toList_some, addF_snoc, hF.out])
      have hCm : Hid (∀ W, Calls Try.prog 58 #[.agg (u8s x).toArray, .agg (u8s y).toArray] W fun e w' => e = .returned (.int .i64 (cmpK x y)) ∧ Below W.heap.size W w') := Lib.hid fun W => refCompare_any W x y hx'.out.1 hyk.1 hx'.out.2 hyk.2
      have hxy : x ≠ y := fun e => hm'.out (e ▸ hym)
      have hc0 : cmpK x y ≠ 0 := fun e => hxy (cmpK_eq hx'.out hyk e)
      clear hF hR hO hy hym hbl hrg hxy
      have hO := hOd
      clear hOd
      cases d <;> simp only [Bool.toNat_false, Bool.toNat_true, Nat.add_zero] at hK
      · by_cases hc : cmpK x y < 0
        · have hFx : Hid (addF x (ks.take (i + 1)) ([], false) = (pre ++ [x] ++ [y], true)) := Lib.hid (by rw [hFs.out]; simp [stepA, hc])
          rw [cmpK_neg hc] at hCm
          clear hFs hyk hc0 hc
          go_wp2_with fail
          refine wp_region_held (S := RH w q (some ⟨b, off, none⟩) N c g x) (by kernel_rfl) ?_
          change wpAnyH _ _ _ _ _ _ _ _ (World.drew _)
          refine tk (i := 0) (d := 20) (v := (.bool false)) rfl rfl (Or.inl ⟨by rfl, by intro W hW; clear hW; go_simp⟩) hd.out ?_
          simp only [List.setIfInBounds_toArray, List.set_cons_zero, List.set_cons_succ]
          refine tk (i := 1) (d := 21) (v := (.bool true)) rfl rfl (Or.inl ⟨by rfl, by intro W hW; clear hW; go_simp⟩) hd.out ?_
          simp only [List.setIfInBounds_toArray, List.set_cons_zero, List.set_cons_succ]
          refine tk (i := 2) (d := 22) (v := (.bool true)) rfl rfl (Or.inl ⟨by rfl, by intro W hW; clear hW; go_simp⟩) hd.out ?_
          simp only [List.setIfInBounds_toArray, List.set_cons_zero, List.set_cons_succ]
          refine tk (i := 3) (d := 23) (v := (.agg (u8s x).toArray)) rfl rfl (yieldsIf_load_row (by rfl) 25 _ rfl g rfl 25 (u8s x).toArray (0, 0) _ (fun W hW => hW.key) Try.underlying25 rfl (by rw [hxs.out]; exact hi32.out)) hd.out ?_
          simp only [List.setIfInBounds_toArray, List.set_cons_zero, List.set_cons_succ]
          refine tk (i := 4) (d := 24) (v := (.pointer (some ⟨q, 0, none⟩))) rfl rfl (Or.inl ⟨by rfl, by intro W hW; clear hW; go_simp⟩) hd.out ?_
          simp only [List.setIfInBounds_toArray, List.set_cons_zero, List.set_cons_succ]
          refine tk (i := 5) (d := 25) (v := (.pointer (some ⟨q, 0, none⟩))) rfl rfl (Or.inl ⟨by rfl, by intro W hW; clear hW; go_simp⟩) hd.out ?_
          simp only [List.setIfInBounds_toArray, List.set_cons_zero, List.set_cons_succ]
          refine tk (i := 6) (d := 26) (v := (.pointer (some ⟨q, 0, none⟩))) rfl rfl (Or.inl ⟨by rfl, by intro W hW; clear hW; go_simp⟩) hd.out ?_
          simp only [List.setIfInBounds_toArray, List.set_cons_zero, List.set_cons_succ]
          refine tk (i := 7) (d := 27) (v := (.slice (some ⟨b, off, none⟩) N c)) rfl rfl (Or.inl ⟨by rfl, by intro W hW; have c0 := hW.cel; clear hW; go_simp⟩) hd.out ?_
          simp only [List.setIfInBounds_toArray, List.set_cons_zero, List.set_cons_succ]
          refine tk (i := 8) (d := 28) (v := (.int .i64 (i : Int))) rfl rfl (Or.inl ⟨by rfl, by intro W hW; clear hW; go_simp⟩) hd.out ?_
          simp only [List.setIfInBounds_toArray, List.set_cons_zero, List.set_cons_succ]
          refine tk (i := 9) (d := 29) (v := (.pointer (some ⟨b, off + i * 32, none⟩))) rfl rfl (Or.inl ⟨by rfl, by intro W hW; clear hW; go_simp⟩) hd.out ?_
          simp only [List.setIfInBounds_toArray, List.set_cons_zero, List.set_cons_succ]
          refine tk (i := 10) (d := 30) (v := (.agg (u8s y).toArray)) rfl rfl (yieldsIf_load_mid (by rfl) 25 _ rfl b (off + i * 32) rfl (u8s y) _ (fun W hW => hrk.out W hW.bel) Try.underlying25 rfl (by rw [hy32.out]; exact hi32.out)) hd.out ?_
          simp only [List.setIfInBounds_toArray, List.set_cons_zero, List.set_cons_succ]
          refine wpAnyH_ready (rs := [11]) (by kernel_rfl) (by simp) ?_
          refine AllReadyH.cons rfl (fun K hK => ?_) AllReadyH.nil
          go_simp
          refine (hCm.out _).mono ?_
          rintro e v1 ⟨rfl, q1⟩
          have hd1 : Hid (RH w q (some ⟨b, off, none⟩) N c g x v1) := Lib.hid (hd.out.keep q1)
          have hO1 := Lib.hid (hO.out.below q1 (fun k hk => (hO.out.lt k hk).2))
          have hl1 := Lib.hid (Nat.le_trans hlo.out q1.size)
          clear q1
          refine hK.out _ _ hd1.out (fun _ => ?_)
          clear hK K
          refine tk (i := 12) (d := 32) (v := (.bool true)) rfl rfl (Or.inl ⟨by rfl, by intro W hW; clear hW; go_simp⟩) hd1.out ?_
          simp only [List.setIfInBounds_toArray, List.set_cons_zero, List.set_cons_succ]
          refine tk (i := 13) (d := 33) (v := (.bool true)) rfl rfl (Or.inl ⟨by rfl, by intro W hW; clear hW; go_simp⟩) hd1.out ?_
          simp only [List.setIfInBounds_toArray, List.set_cons_zero, List.set_cons_succ]
          refine wpAnyH_done (by kernel_rfl) ?_ _
          have hdz := hd1
          have hOz := hO1.out
          have c0 := hdz.out.cel
          have hlz := hl1
          go_wp2_with (first
            | (refine wpList_load_row rfl 25 _ rfl g rfl 25 (u8s x).toArray (0, 0) _ hdz.out.key Try.underlying25 rfl (by rw [hxs.out]; exact hi32.out) ?_)
            | (refine Great.wpList_buildSliceTo rfl 34 25 1 _ rfl _ rfl _ rfl Try.underlying34 (u8s x).toArray (by rw [List.map_toArray]; exact hbX.out) ?_)
            | (at_builtin; refine wpList_app1 elK _ (u8s x).toArray hxs.out rfl _ _ rfl rfl hOz rfl honX.out (by unfold maxLen; omega) (by omega) hlz.out (K + 1) rfl (rowsK (pre ++ [x])) (by simp [rowsK]) ?_
               intro A6 c6 w6 o6 at6 b6
               have o6' := Lib.hid o6
               have hd6 := Lib.hid (hdz.out.app b6 hqg.out.1 hqg.out.2)
               have c0 := hd6.out.cel
               have hl6 := Lib.hid (Nat.le_trans hlz.out at6.grown.size)
               clear o6 at6 b6 hdz hOz)
            | (refine wpList_load_mid rfl 25 _ rfl b (off + i * 32) rfl (u8s y) _ (hrk.out _ hd6.out.bel) Try.underlying25 rfl (by rw [hy32.out]; exact hi32.out) ?_)
            | (refine Great.wpList_buildSliceTo rfl 34 25 1 _ rfl _ rfl _ rfl Try.underlying34 (u8s y).toArray (by rw [List.map_toArray]; exact hbY.out) ?_)
            | (at_builtin; refine wpList_app1 elK _ (u8s y).toArray hys.out rfl _ _ rfl rfl o6'.out rfl honY.out (by unfold maxLen; omega) (by omega) hl6.out (K + 2) rfl (rowsK (pre ++ [x] ++ [y])) (by simp [rowsK]) ?_
               intro A7 c7 w7 o7 at7 b7
               have o7' := Lib.hid o7
               have hd7 := Lib.hid (hd6.out.app b7 hqg.out.1 hqg.out.2)
               have hl7 := Lib.hid (Nat.le_trans hl6.out at7.grown.size)
               clear o7 at7 b7))
          go_roundw
          case rel => exact ⟨i + 1, K + 2, c7, A7, true, pre ++ [x] ++ [y], by omega, by simp; omega, rfl, rfl, by go_num, hFx, hd7, hl7, o7'⟩
          case measure => simp [intOf]; omega
        · have hFx : Hid (addF x (ks.take (i + 1)) ([], false) = (pre ++ [y], false)) := Lib.hid (by rw [hFs.out]; simp [stepA, hc])
          rw [show cmpK x y = 1 by have := cmp_pm (b8 x) (b8 y); unfold cmpK at hc hc0 ⊢; omega] at hCm
          clear hFs hyk hc0 hc
          go_wp2_with fail
          refine wp_region_held (S := RH w q (some ⟨b, off, none⟩) N c g x) (by kernel_rfl) ?_
          change wpAnyH _ _ _ _ _ _ _ _ (World.drew _)
          refine tk (i := 0) (d := 20) (v := (.bool false)) rfl rfl (Or.inl ⟨by rfl, by intro W hW; clear hW; go_simp⟩) hd.out ?_
          simp only [List.setIfInBounds_toArray, List.set_cons_zero, List.set_cons_succ]
          refine tk (i := 1) (d := 21) (v := (.bool true)) rfl rfl (Or.inl ⟨by rfl, by intro W hW; clear hW; go_simp⟩) hd.out ?_
          simp only [List.setIfInBounds_toArray, List.set_cons_zero, List.set_cons_succ]
          refine tk (i := 2) (d := 22) (v := (.bool true)) rfl rfl (Or.inl ⟨by rfl, by intro W hW; clear hW; go_simp⟩) hd.out ?_
          simp only [List.setIfInBounds_toArray, List.set_cons_zero, List.set_cons_succ]
          refine tk (i := 3) (d := 23) (v := (.agg (u8s x).toArray)) rfl rfl (yieldsIf_load_row (by rfl) 25 _ rfl g rfl 25 (u8s x).toArray (0, 0) _ (fun W hW => hW.key) Try.underlying25 rfl (by rw [hxs.out]; exact hi32.out)) hd.out ?_
          simp only [List.setIfInBounds_toArray, List.set_cons_zero, List.set_cons_succ]
          refine tk (i := 4) (d := 24) (v := (.pointer (some ⟨q, 0, none⟩))) rfl rfl (Or.inl ⟨by rfl, by intro W hW; clear hW; go_simp⟩) hd.out ?_
          simp only [List.setIfInBounds_toArray, List.set_cons_zero, List.set_cons_succ]
          refine tk (i := 5) (d := 25) (v := (.pointer (some ⟨q, 0, none⟩))) rfl rfl (Or.inl ⟨by rfl, by intro W hW; clear hW; go_simp⟩) hd.out ?_
          simp only [List.setIfInBounds_toArray, List.set_cons_zero, List.set_cons_succ]
          refine tk (i := 6) (d := 26) (v := (.pointer (some ⟨q, 0, none⟩))) rfl rfl (Or.inl ⟨by rfl, by intro W hW; clear hW; go_simp⟩) hd.out ?_
          simp only [List.setIfInBounds_toArray, List.set_cons_zero, List.set_cons_succ]
          refine tk (i := 7) (d := 27) (v := (.slice (some ⟨b, off, none⟩) N c)) rfl rfl (Or.inl ⟨by rfl, by intro W hW; have c0 := hW.cel; clear hW; go_simp⟩) hd.out ?_
          simp only [List.setIfInBounds_toArray, List.set_cons_zero, List.set_cons_succ]
          refine tk (i := 8) (d := 28) (v := (.int .i64 (i : Int))) rfl rfl (Or.inl ⟨by rfl, by intro W hW; clear hW; go_simp⟩) hd.out ?_
          simp only [List.setIfInBounds_toArray, List.set_cons_zero, List.set_cons_succ]
          refine tk (i := 9) (d := 29) (v := (.pointer (some ⟨b, off + i * 32, none⟩))) rfl rfl (Or.inl ⟨by rfl, by intro W hW; clear hW; go_simp⟩) hd.out ?_
          simp only [List.setIfInBounds_toArray, List.set_cons_zero, List.set_cons_succ]
          refine tk (i := 10) (d := 30) (v := (.agg (u8s y).toArray)) rfl rfl (yieldsIf_load_mid (by rfl) 25 _ rfl b (off + i * 32) rfl (u8s y) _ (fun W hW => hrk.out W hW.bel) Try.underlying25 rfl (by rw [hy32.out]; exact hi32.out)) hd.out ?_
          simp only [List.setIfInBounds_toArray, List.set_cons_zero, List.set_cons_succ]
          refine wpAnyH_ready (rs := [11]) (by kernel_rfl) (by simp) ?_
          refine AllReadyH.cons rfl (fun K hK => ?_) AllReadyH.nil
          go_simp
          refine (hCm.out _).mono ?_
          rintro e v1 ⟨rfl, q1⟩
          have hd1 : Hid (RH w q (some ⟨b, off, none⟩) N c g x v1) := Lib.hid (hd.out.keep q1)
          have hO1 := Lib.hid (hO.out.below q1 (fun k hk => (hO.out.lt k hk).2))
          have hl1 := Lib.hid (Nat.le_trans hlo.out q1.size)
          clear q1
          refine hK.out _ _ hd1.out (fun _ => ?_)
          clear hK K
          refine tk (i := 12) (d := 32) (v := (.bool false)) rfl rfl (Or.inl ⟨by rfl, by intro W hW; clear hW; go_simp⟩) hd1.out ?_
          simp only [List.setIfInBounds_toArray, List.set_cons_zero, List.set_cons_succ]
          refine tk (i := 13) (d := 33) (v := (.bool false)) rfl rfl (Or.inl ⟨by rfl, by intro W hW; clear hW; go_simp⟩) hd1.out ?_
          simp only [List.setIfInBounds_toArray, List.set_cons_zero, List.set_cons_succ]
          refine wpAnyH_done (by kernel_rfl) ?_ _
          have hdz := hd1
          have hOz := hO1.out
          have c0 := hdz.out.cel
          have hlz := hl1
          go_wp2_with (first
            | (refine wpList_load_mid rfl 25 _ rfl b (off + i * 32) rfl (u8s y) _ (hrk.out _ hdz.out.bel) Try.underlying25 rfl (by rw [hy32.out]; exact hi32.out) ?_)
            | (refine Great.wpList_buildSliceTo rfl 34 25 1 _ rfl _ rfl _ rfl Try.underlying34 (u8s y).toArray (by rw [List.map_toArray]; exact hbY.out) ?_)
            | (at_builtin; refine wpList_app1 elK _ (u8s y).toArray hys.out rfl _ _ rfl rfl hOz rfl honY.out (by unfold maxLen; omega) (by omega) hlz.out (K + 1) rfl (rowsK (pre ++ [y])) (by simp [rowsK]) ?_
               intro A7 c7 w7 o7 at7 b7
               have o7' := Lib.hid o7
               have hd7 := Lib.hid (hdz.out.app b7 hqg.out.1 hqg.out.2)
               have hl7 := Lib.hid (Nat.le_trans hlz.out at7.grown.size)
               clear o7 at7 b7))
          go_roundw
          case rel => exact ⟨i + 1, K + 1, c7, A7, false, pre ++ [y], by omega, by simp; omega, rfl, rfl, by go_num, hFx, hd7, hl7, o7'⟩
          case measure => simp [intOf]; omega
      · have hFx : Hid (addF x (ks.take (i + 1)) ([], false) = (pre ++ [y], true)) := Lib.hid (by rw [hFs.out]; simp [stepA])
        clear hFs hyk hc0 hCm
        go_wp2_with fail
        refine wp_region_held (S := RH w q (some ⟨b, off, none⟩) N c g x) (by kernel_rfl) ?_
        change wpAnyH _ _ _ _ _ _ _ _ (World.drew _)
        refine tk (i := 0) (d := 20) (v := (.bool true)) rfl rfl (Or.inl ⟨by rfl, by intro W hW; clear hW; go_simp⟩) hd.out ?_
        simp only [List.setIfInBounds_toArray, List.set_cons_zero, List.set_cons_succ]
        refine tk (i := 1) (d := 21) (v := (.bool false)) rfl rfl (Or.inl ⟨by rfl, by intro W hW; clear hW; go_simp⟩) hd.out ?_
        simp only [List.setIfInBounds_toArray, List.set_cons_zero, List.set_cons_succ]
        refine tk (i := 2) (d := 22) (v := (.bool false)) rfl rfl (Or.inl ⟨by rfl, by intro W hW; clear hW; go_simp⟩) hd.out ?_
        simp only [List.setIfInBounds_toArray, List.set_cons_zero, List.set_cons_succ]
        refine tk (i := 3) (d := 23) (v := undef) rfl rfl (Or.inr ⟨by rfl, by rfl⟩) hd.out ?_
        simp only [List.setIfInBounds_toArray, List.set_cons_zero, List.set_cons_succ]
        refine tk (i := 4) (d := 24) (v := undef) rfl rfl (Or.inr ⟨by rfl, by rfl⟩) hd.out ?_
        simp only [List.setIfInBounds_toArray, List.set_cons_zero, List.set_cons_succ]
        refine tk (i := 5) (d := 25) (v := undef) rfl rfl (Or.inr ⟨by rfl, by rfl⟩) hd.out ?_
        simp only [List.setIfInBounds_toArray, List.set_cons_zero, List.set_cons_succ]
        refine tk (i := 6) (d := 26) (v := undef) rfl rfl (Or.inr ⟨by rfl, by rfl⟩) hd.out ?_
        simp only [List.setIfInBounds_toArray, List.set_cons_zero, List.set_cons_succ]
        refine tk (i := 7) (d := 27) (v := undef) rfl rfl (Or.inr ⟨by rfl, by rfl⟩) hd.out ?_
        simp only [List.setIfInBounds_toArray, List.set_cons_zero, List.set_cons_succ]
        refine tk (i := 8) (d := 28) (v := undef) rfl rfl (Or.inr ⟨by rfl, by rfl⟩) hd.out ?_
        simp only [List.setIfInBounds_toArray, List.set_cons_zero, List.set_cons_succ]
        refine tk (i := 9) (d := 29) (v := undef) rfl rfl (Or.inr ⟨by rfl, by rfl⟩) hd.out ?_
        simp only [List.setIfInBounds_toArray, List.set_cons_zero, List.set_cons_succ]
        refine tk (i := 10) (d := 30) (v := undef) rfl rfl (Or.inr ⟨by rfl, by rfl⟩) hd.out ?_
        simp only [List.setIfInBounds_toArray, List.set_cons_zero, List.set_cons_succ]
        refine wpAnyH_ready (rs := [11]) (by kernel_rfl) (by simp) ?_
        refine AllReadyH.cons rfl (fun K hK => ?_) AllReadyH.nil
        go_simp
        refine hK.out _ _ hd.out (fun _ => ?_)
        clear hK K
        refine tk (i := 12) (d := 32) (v := undef) rfl rfl (Or.inr ⟨by rfl, by rfl⟩) hd.out ?_
        simp only [List.setIfInBounds_toArray, List.set_cons_zero, List.set_cons_succ]
        refine tk (i := 13) (d := 33) (v := (.bool false)) rfl rfl (Or.inl ⟨by rfl, by intro W hW; clear hW; go_simp⟩) hd.out ?_
        simp only [List.setIfInBounds_toArray, List.set_cons_zero, List.set_cons_succ]
        refine wpAnyH_done (by kernel_rfl) ?_ _
        have hdz := hd
        have hOz := hO.out
        have c0 := hdz.out.cel
        have hlz := hlo
        go_wp2_with (first
          | (refine wpList_load_mid rfl 25 _ rfl b (off + i * 32) rfl (u8s y) _ (hrk.out _ hdz.out.bel) Try.underlying25 rfl (by rw [hy32.out]; exact hi32.out) ?_)
          | (refine Great.wpList_buildSliceTo rfl 34 25 1 _ rfl _ rfl _ rfl Try.underlying34 (u8s y).toArray (by rw [List.map_toArray]; exact hbY.out) ?_)
          | (at_builtin; refine wpList_app1 elK _ (u8s y).toArray hys.out rfl _ _ rfl rfl hOz rfl honY.out (by unfold maxLen; omega) (by omega) hlz.out (K + 1) rfl (rowsK (pre ++ [y])) (by simp [rowsK]) ?_
             intro A7 c7 w7 o7 at7 b7
             have o7' := Lib.hid o7
             have hd7 := Lib.hid (hdz.out.app b7 hqg.out.1 hqg.out.2)
             have hl7 := Lib.hid (Nat.le_trans hlz.out at7.grown.size)
             clear o7 at7 b7))
        go_roundw
        case rel => exact ⟨i + 1, K + 1, c7, A7, true, pre ++ [y], by omega, by simp; omega, rfl, rfl, by go_num, hFx, hd7, hl7, o7'⟩
        case measure => simp [intOf]; omega
    · have f0 : wr.frozen? ⟨q, 0, none⟩ = false := frozen_of_row _ _ _ _ _ hR.out.set
      have hpre : Hid (addF x ks ([], false) = (pre, d)) := Lib.hid (by have := hF.out; rwa [List.take_of_length_le (by rw [hN'.out]; omega)] at this)
      have hfinl : Hid (∀ (W : World) (A9 : Option Addr) (c9 K9 : Nat) (l : List (List Nat)), l = insK x ks → Own W lo 25 32 A9 K9 c9 (rowsK l) → W.cell? ⟨q, 0, none⟩ = some (.slice A N c) → RH w q A N c g x W → lo ≤ W.heap.size → Q (.returned (.bool true)) (W.setCell ⟨q, 0, none⟩ (.slice A9 K9 c9))) := Lib.hid (by
        intro W A9 c9 K9 l hl ho hc9 hR9 hl9
        rw [← hQ'.out]
        have hrl := hr'.out.ins hx'.out
        have hlen : K9 = (insK x ks).length := by
          rw [← hl]
          exact (ownK_len ho (fun z hz => (hrl.ok z (hl ▸ hz)).1)).symm
        refine ⟨by rw [decide_eq_false hm'.out]; rfl, ⟨A9, c9, ?_, ?_⟩, ?_⟩
        · rw [← hlen]
          have := heap_setCell_same W q 0 _ _ (.slice A9 K9 c9) hR9.set
          simpa using this
        · rw [← hlen, ← hl]
          exact (ho.setFar (p := ⟨q, 0, none⟩) hqg.out.1.1 _).base (Nat.zero_le _)
        · exact (Upd.of_below hR9.bel).trans (Upd.set (F := fun k => k = q) W (p := ⟨q, 0, none⟩) rfl _))
      have hins : Hid (∀ pre', (if d then pre else pre ++ [x]) = pre' → pre' = insK x ks) := Lib.hid fun pre' hp => by
        have := addF_fin ks [] hm'.out
        rw [hpre.out] at this
        simpa [← hp] using this
      clear hpre hF
      cases d
      · go_wp2_with (first
          | (refine wpList_load_row rfl 25 _ rfl g rfl 25 (u8s x).toArray (0, 0) _ hR.out.key Try.underlying25 rfl (by rw [hxs.out]; exact hi32.out) ?_)
          | (refine Great.wpList_buildSliceTo rfl 34 25 1 _ rfl _ rfl _ rfl Try.underlying34 (u8s x).toArray (by rw [List.map_toArray]; exact hbX.out) ?_)
          | (at_builtin; refine wpList_app1 elK _ (u8s x).toArray hxs.out rfl _ _ rfl rfl hO.out rfl honX.out (by unfold maxLen; omega) (by omega) hlo.out (K + 1) rfl (rowsK (pre ++ [x])) (by simp [rowsK]) ?_
             intro A6 c6 w6 o6 at6 b6
             have o6' := Lib.hid o6
             have hd6 := Lib.hid (hR.out.app b6 hqg.out.1 hqg.out.2)
             have c0 := hd6.out.cel
             have f0 : w6.frozen? ⟨q, 0, none⟩ = false := frozen_of_row _ _ _ _ _ hd6.out.set
             have hl6 := Lib.hid (Nat.le_trans hlo.out at6.grown.size)
             clear o6 at6 b6))
        have hf := Lib.hid (hfinl.out w6 A6 c6 (K + 1) (pre ++ [x]) (hins.out _ (by simp)) o6'.out c0 hd6.out hl6.out)
        exact hf.out
      · go_wp2_with fail
        have hf := Lib.hid (hfinl.out wr A5 c5 K pre (hins.out _ (by simp)) hO.out c0 hR.out hlo.out)
        exact hf.out
end Go.Proofs.Ytlolnpilpdkbkaa
